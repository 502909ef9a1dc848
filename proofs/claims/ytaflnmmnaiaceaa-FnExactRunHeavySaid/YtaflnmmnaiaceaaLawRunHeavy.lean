/-
  PROVED: 'laws.FnExactRunHeavy' answers true at every input, and leaves all it was handed as it was. No condition.
-/
import Derived.Test.YtaflnmmnaiaceaaRunWh
namespace Go.Proofs.Ytaflnmmnaiaceaa
open Go.Sx
set_option maxRecDepth 100000

theorem fnExactRunHeavy_check : allTrueI 1000 ⟨[], [], [], [], []⟩ (resT (cfR 5 (argGoA 0 0 runAs) (cxA runAs))) = true := by kernel_rfl

theorem fnExactRunHeavy_law : LawIsA runU (resT (cfR 5 (argGoA 0 0 runAs) (cxA runAs))) := law_of_A fnExactRunHeavy_check

theorem fnExactRunHeavy_lifted (os : Os) (started : os.Started) (H : Type) (enc : TypeId × Value → H) :
    ReturnsInHanded {} Try.checked os 5 .any (Rows.fnExactRunHeavySpec.pre6 enc Try.prog Try.f5 Rows.fnExactRunHeavyRow.domain false) (Rows.fnExactRunHeavySpec.post enc Try.prog Try.f5 false true false false) :=
  row_lawA (C := Try.checked) (U := runU) (cf := cfR) (f := 5) («as» := runAs) Try.own Try.laidOut started (by kernel_rfl) Try.names cfR_ok Try.func5 rfl rfl (by kernel_rfl) (by kernel_rfl) rfl
    (fun ds h => by match ds, h with | [_, _, _, _, _], _ => rfl)
    (ChangeSpec.witness6 (enc := enc) (C := Try.checked) false ⟨#[], #[.agg #[.float .f32 0, .float .f32 0, .float .f32 0, .float .f32 0, .float .f32 0, .float .f32 0, .float .f32 0, .float .f32 0, .float .f32 0, .float .f32 0], .float .f32 0, .float .f32 0, .float .f32 0, .int .i64 0], []⟩ 8 (by kernel_rfl) (by kernel_rfl) (by kernel_rfl) (by kernel_rfl))
    (by kernel_rfl) (by kernel_rfl) (by kernel_rfl) (by kernel_rfl) fnExactRunHeavy_law

theorem fnExactRunHeavy_holds : Rows.FnExactRunHeavySaid :=
  OpenClaim.holds_of_wide 5 Try.f5 rfl rfl rfl rfl rfl rfl rfl ⟨rfl, rfl, rfl, rfl, rfl⟩ rfl rfl rfl rfl rfl (by kernel_rfl) Try.func5 (by kernel_rfl)
    (of_decide_eq_true (by kernel_rfl)) (by unfold Func.isWrapper; first | (rw [if_pos (by decide +kernel)]; kernel_rfl) | (rw [if_neg (by decide +kernel)]; exact ⟨rfl, rfl⟩))
    (fun os started H enc _ => fnExactRunHeavy_lifted os started H enc)

end Go.Proofs.Ytaflnmmnaiaceaa
