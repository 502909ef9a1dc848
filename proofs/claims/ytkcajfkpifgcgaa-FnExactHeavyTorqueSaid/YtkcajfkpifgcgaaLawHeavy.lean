/-
  PROVED: 'laws.FnExactHeavyTorque' answers true at every input, and leaves all it was handed as it was. No condition.
-/
import Derived.Test.YtkcajfkpifgcgaaMore
namespace Go.Proofs.Ytkcajfkpifgcgaa
open Go.Sx

theorem fnExactHeavyTorque_lifted (os : Os) (started : os.Started) (H : Type) (enc : TypeId × Value → H) :
    ReturnsInHanded {} Try.checked os 8 .any (Rows.fnExactHeavyTorqueSpec.pre6 enc Try.prog Try.f8 Rows.fnExactHeavyTorqueRow.domain false) (Rows.fnExactHeavyTorqueSpec.post enc Try.prog Try.f8 false true false false) :=
  row_true (C := Try.checked) Try.own Try.laidOut started (by kernel_rfl) Try.names cf2_ok Try.func8 rfl rfl (by kernel_rfl) (by kernel_rfl) rfl
    (fun ds h => by match ds, h with | [_, _, _], _ => rfl)
    (ChangeSpec.witness6 (enc := enc) (C := Try.checked) false ⟨#[], #[.agg #[.float .f32 0, .float .f32 0, .float .f32 0, .float .f32 0, .float .f32 0, .float .f32 0, .float .f32 0, .float .f32 0, .float .f32 0, .float .f32 0], .float .f32 0, .float .f32 0], []⟩ 8 (by kernel_rfl) (by kernel_rfl) (by kernel_rfl) (by kernel_rfl))
    (ps := [V10, .one (.f .f32), .one (.f .f32)]) (by kernel_rfl) (by kernel_rfl)

theorem fnExactHeavyTorque_holds : Rows.FnExactHeavyTorqueSaid :=
  OpenClaim.holds_of_wide 8 Try.f8 rfl rfl rfl rfl rfl rfl rfl ⟨rfl, rfl, rfl, rfl, rfl⟩ rfl rfl rfl rfl rfl (by kernel_rfl) Try.func8 (by kernel_rfl)
    (of_decide_eq_true (by kernel_rfl)) (by unfold Func.isWrapper; first | (rw [if_pos (by decide +kernel)]; kernel_rfl) | (rw [if_neg (by decide +kernel)]; exact ⟨rfl, rfl⟩))
    (fun os started H enc _ => fnExactHeavyTorque_lifted os started H enc)

end Go.Proofs.Ytkcajfkpifgcgaa
