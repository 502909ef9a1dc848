/-
  PROVED: 'laws.FnExactRunRow' answers true at every input, and leaves all it was handed as it was. No condition.
-/
import Derived.Test.YtagchccdnpofaaaRunR
namespace Go.Proofs.Ytagchccdnpofaaa
open Go.Sx
set_option maxRecDepth 100000

theorem fnExactRunRow_check : allTrueI 1000 ⟨[], [], [], [], []⟩ (resT (cfN 12 (argGoA 0 0 runArg) (cxA runArg))) = true := by kernel_rfl

theorem fnExactRunRow_law : LawIsA runU (resT (cfN 12 (argGoA 0 0 runArg) (cxA runArg))) := law_of_A fnExactRunRow_check

theorem fnExactRunRow_lifted (os : Os) (started : os.Started) (H : Type) (enc : TypeId × Value → H) :
    ReturnsInHanded {} Try.checked os 12 .any (Rows.fnExactRunRowSpec.pre6 enc Try.prog Try.f12 Rows.fnExactRunRowRow.domain false) (Rows.fnExactRunRowSpec.post enc Try.prog Try.f12 false true false false) :=
  row_lawA (C := Try.checked) (U := runU) (cf := cfN) (f := 12) («as» := runArg) Try.own Try.laidOut started (by kernel_rfl) Try.names cfN_ok Try.func12 rfl rfl (by kernel_rfl) (by kernel_rfl) rfl
    (fun ds h => by match ds, h with | [_, _, _], _ => rfl)
    (ChangeSpec.witness6 (enc := enc) (C := Try.checked) false ⟨#[], #[.agg #[.slice none 0 0, .float .f32 0], .float .f32 0, .int .i64 0], []⟩ 8 (by kernel_rfl) (by kernel_rfl) (by kernel_rfl) (by kernel_rfl))
    (by kernel_rfl) (by kernel_rfl) (by kernel_rfl) (by kernel_rfl) fnExactRunRow_law

theorem fnExactRunRow_holds : Rows.FnExactRunRowSaid :=
  OpenClaim.holds_of_wide 12 Try.f12 rfl rfl rfl rfl rfl rfl rfl ⟨rfl, rfl, rfl, rfl, rfl⟩ rfl rfl rfl rfl rfl (by kernel_rfl) Try.func12 (by kernel_rfl)
    (of_decide_eq_true (by kernel_rfl)) (by unfold Func.isWrapper; first | (rw [if_pos (by decide +kernel)]; kernel_rfl) | (rw [if_neg (by decide +kernel)]; exact ⟨rfl, rfl⟩))
    (fun os started H enc _ => fnExactRunRow_lifted os started H enc)

end Go.Proofs.Ytagchccdnpofaaa
