/-
  PROVED: 'laws.FnExactAxisOfTop' answers true at every input, and leaves all it was handed as it was. No condition.
-/
import Derived.Test.YtkcajfkpifgcgaaMore
namespace Go.Proofs.Ytkcajfkpifgcgaa
open Go.Sx

theorem fnExactAxisOfTop_lifted (os : Os) (started : os.Started) (H : Type) (enc : TypeId × Value → H) :
    ReturnsInHanded {} Try.checked os 7 .any (Rows.fnExactAxisOfTopSpec.pre6 enc Try.prog Try.f7 Rows.fnExactAxisOfTopRow.domain false) (Rows.fnExactAxisOfTopSpec.post enc Try.prog Try.f7 false true false false) :=
  row_true (C := Try.checked) Try.own Try.laidOut started (by kernel_rfl) Try.names cf2_ok Try.func7 rfl rfl (by kernel_rfl) (by kernel_rfl) rfl
    (fun ds h => by match ds, h with | [_], _ => rfl)
    (ChangeSpec.witness6 (enc := enc) (C := Try.checked) false ⟨#[], #[.agg #[.float .f32 0, .float .f32 0, .float .f32 0, .float .f32 0, .float .f32 0, .float .f32 0, .float .f32 0, .float .f32 0, .float .f32 0, .float .f32 0]], []⟩ 8 (by kernel_rfl) (by kernel_rfl) (by kernel_rfl) (by kernel_rfl))
    (ps := [V10]) (by kernel_rfl) (by kernel_rfl)

theorem fnExactAxisOfTop_holds : Rows.FnExactAxisOfTopSaid :=
  OpenClaim.holds_of_wide 7 Try.f7 rfl rfl rfl rfl rfl rfl rfl ⟨rfl, rfl, rfl, rfl, rfl⟩ rfl rfl rfl rfl rfl (by kernel_rfl) Try.func7 (by kernel_rfl)
    (of_decide_eq_true (by kernel_rfl)) (by unfold Func.isWrapper; first | (rw [if_pos (by decide +kernel)]; kernel_rfl) | (rw [if_neg (by decide +kernel)]; exact ⟨rfl, rfl⟩))
    (fun os started H enc _ => fnExactAxisOfTop_lifted os started H enc)

end Go.Proofs.Ytkcajfkpifgcgaa
