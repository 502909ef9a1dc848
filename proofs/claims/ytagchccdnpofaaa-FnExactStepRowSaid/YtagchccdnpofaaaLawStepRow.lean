/-
  PROVED: 'laws.FnExactStepRow' answers true at every input, and leaves all it was handed as it was. No condition.
-/
import Derived.Test.YtagchccdnpofaaaRowsS
namespace Go.Proofs.Ytagchccdnpofaaa
open Go.Sx
set_option maxRecDepth 100000

theorem fnExactStepRow_check : allTrueI 1000 ⟨[], [], [], [], []⟩ (resT (cfR 11 (argGoA 0 0 rowArg) (cxA rowArg))) = true := by kernel_rfl

theorem fnExactStepRow_law : LawIsA ballU (resT (cfR 11 (argGoA 0 0 rowArg) (cxA rowArg))) := law_of_A fnExactStepRow_check

theorem fnExactStepRow_lifted (os : Os) (started : os.Started) (H : Type) (enc : TypeId × Value → H) :
    ReturnsInHanded {} Try.checked os 11 .any (Rows.fnExactStepRowSpec.pre6 enc Try.prog Try.f11 Rows.fnExactStepRowRow.domain false) (Rows.fnExactStepRowSpec.post enc Try.prog Try.f11 false true false false) :=
  row_lawA (C := Try.checked) (U := ballU) (cf := cfR) (f := 11) («as» := rowArg) Try.own Try.laidOut started (by kernel_rfl) Try.names cfR_ok Try.func11 rfl rfl (by kernel_rfl) (by kernel_rfl) rfl
    (fun ds h => by match ds, h with | [_], _ => rfl)
    (ChangeSpec.witness6 (enc := enc) (C := Try.checked) false ⟨#[], #[.agg #[.slice none 0 0, .float .f32 0]], []⟩ 8 (by kernel_rfl) (by kernel_rfl) (by kernel_rfl) (by kernel_rfl))
    (by kernel_rfl) (by kernel_rfl) (by kernel_rfl) (by kernel_rfl) fnExactStepRow_law

theorem fnExactStepRow_holds : Rows.FnExactStepRowSaid :=
  OpenClaim.holds_of_wide 11 Try.f11 rfl rfl rfl rfl rfl rfl rfl ⟨rfl, rfl, rfl, rfl, rfl⟩ rfl rfl rfl rfl rfl (by kernel_rfl) Try.func11 (by kernel_rfl)
    (of_decide_eq_true (by kernel_rfl)) (by unfold Func.isWrapper; first | (rw [if_pos (by decide +kernel)]; kernel_rfl) | (rw [if_neg (by decide +kernel)]; exact ⟨rfl, rfl⟩))
    (fun os started H enc _ => fnExactStepRow_lifted os started H enc)

end Go.Proofs.Ytagchccdnpofaaa
