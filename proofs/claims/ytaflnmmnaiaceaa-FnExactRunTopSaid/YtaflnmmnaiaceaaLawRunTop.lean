/-
  PROVED: 'laws.FnExactRunTop' answers true at every input, and leaves all it was handed as it was. No condition.
-/
import Derived.Test.YtaflnmmnaiaceaaRunW
namespace Go.Proofs.Ytaflnmmnaiaceaa
open Go.Sx
set_option maxRecDepth 100000

theorem fnExactRunTop_check : allTrueI 1000 ⟨[], [], [], [], []⟩ (resT (cfR 4 (argGoA 0 0 runAs) (cxA runAs))) = true := by kernel_rfl

theorem fnExactRunTop_law : LawIsA runU (resT (cfR 4 (argGoA 0 0 runAs) (cxA runAs))) := law_of_A fnExactRunTop_check

theorem fnExactRunTop_lifted (os : Os) (started : os.Started) (H : Type) (enc : TypeId × Value → H) :
    ReturnsInHanded {} Try.checked os 4 .any (Rows.fnExactRunTopSpec.pre6 enc Try.prog Try.f4 Rows.fnExactRunTopRow.domain false) (Rows.fnExactRunTopSpec.post enc Try.prog Try.f4 false true false false) :=
  row_lawA (C := Try.checked) (U := runU) (cf := cfR) (f := 4) («as» := runAs) Try.own Try.laidOut started (by kernel_rfl) Try.names cfR_ok Try.func4 rfl rfl (by kernel_rfl) (by kernel_rfl) rfl
    (fun ds h => by match ds, h with | [_, _, _, _], _ => rfl)
    (ChangeSpec.witness6 (enc := enc) (C := Try.checked) false ⟨#[], #[.agg #[.float .f32 0, .float .f32 0, .float .f32 0, .float .f32 0, .float .f32 0, .float .f32 0, .float .f32 0, .float .f32 0, .float .f32 0, .float .f32 0], .agg #[.float .f32 0, .float .f32 0, .float .f32 0], .float .f32 0, .int .i64 0], []⟩ 8 (by kernel_rfl) (by kernel_rfl) (by kernel_rfl) (by kernel_rfl))
    (by kernel_rfl) (by kernel_rfl) (by kernel_rfl) (by kernel_rfl) fnExactRunTop_law

theorem fnExactRunTop_holds : Rows.FnExactRunTopSaid :=
  OpenClaim.holds_of_wide 4 Try.f4 rfl rfl rfl rfl rfl rfl rfl ⟨rfl, rfl, rfl, rfl, rfl⟩ rfl rfl rfl rfl rfl (by kernel_rfl) Try.func4 (by kernel_rfl)
    (of_decide_eq_true (by kernel_rfl)) (by unfold Func.isWrapper; first | (rw [if_pos (by decide +kernel)]; kernel_rfl) | (rw [if_neg (by decide +kernel)]; exact ⟨rfl, rfl⟩))
    (fun os started H enc _ => fnExactRunTop_lifted os started H enc)

end Go.Proofs.Ytaflnmmnaiaceaa
