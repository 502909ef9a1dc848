/-
  PROVED: 'laws.FnExactTurnVector' answers true at every input, and leaves all it was handed as it was. No condition.
-/
import Derived.Test.YtkcajfkpifgcgaaBase
namespace Go.Proofs.Ytkcajfkpifgcgaa
open Go.Sx

theorem turn_lifted (os : Os) (started : os.Started) (H : Type) (enc : TypeId × Value → H) :
    ReturnsInHanded {} Try.checked os 3 .any (Rows.fnExactTurnVectorSpec.pre6 enc Try.prog Try.f3 Rows.fnExactTurnVectorRow.domain false) (Rows.fnExactTurnVectorSpec.post enc Try.prog Try.f3 false true false false) :=
  row_true (C := Try.checked) Try.own Try.laidOut started (by kernel_rfl) Try.names cf1_ok Try.func3 rfl rfl (by kernel_rfl) (by kernel_rfl) rfl
    (fun ds h => by match ds, h with | [_, _], _ => rfl)
    (ChangeSpec.witness6 (enc := enc) (C := Try.checked) false ⟨#[], #[.agg #[.float .f32 0, .float .f32 0, .float .f32 0, .float .f32 0], .agg #[.float .f32 0, .float .f32 0, .float .f32 0]], []⟩ 8 (by kernel_rfl) (by kernel_rfl) (by kernel_rfl) (by kernel_rfl))
    (ps := [.ag [.f .f32, .f .f32, .f .f32, .f .f32], .ag [.f .f32, .f .f32, .f .f32]]) (by kernel_rfl) (by kernel_rfl)

theorem turn_holds : Rows.FnExactTurnVectorSaid :=
  OpenClaim.holds_of_wide 3 Try.f3 rfl rfl rfl rfl rfl rfl rfl ⟨rfl, rfl, rfl, rfl, rfl⟩ rfl rfl rfl rfl rfl (by kernel_rfl) Try.func3 (by kernel_rfl)
    (of_decide_eq_true (by kernel_rfl)) (by unfold Func.isWrapper; first | (rw [if_pos (by decide +kernel)]; kernel_rfl) | (rw [if_neg (by decide +kernel)]; exact ⟨rfl, rfl⟩))
    (fun os started H enc _ => turn_lifted os started H enc)

end Go.Proofs.Ytkcajfkpifgcgaa
