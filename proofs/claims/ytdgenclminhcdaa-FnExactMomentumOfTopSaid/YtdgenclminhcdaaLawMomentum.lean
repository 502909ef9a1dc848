/-
  PROVED: 'laws.FnExactMomentumOfTop' answers true at every input, and leaves all it was handed as it was. No condition.
-/
import Derived.Test.YtdgenclminhcdaaTops
namespace Go.Proofs.Ytdgenclminhcdaa
open Go.Sx
set_option maxRecDepth 100000

theorem fnExactMomentumOfTop_lifted (os : Os) (started : os.Started) (H : Type) (enc : TypeId × Value → H) :
    ReturnsInHanded {} Try.checked os 3 .any (Rows.fnExactMomentumOfTopSpec.pre6 enc Try.prog Try.f3 Rows.fnExactMomentumOfTopRow.domain false) (Rows.fnExactMomentumOfTopSpec.post enc Try.prog Try.f3 false true false false) :=
  row_law (C := Try.checked) Try.own Try.laidOut started (by kernel_rfl) Try.names cf2_ok Try.func3 rfl rfl (by kernel_rfl) (by kernel_rfl) rfl
    (fun ds h => by match ds, h with | [_], _ => rfl)
    (ChangeSpec.witness6 (enc := enc) (C := Try.checked) false ⟨#[], #[.agg #[.float .f32 0, .float .f32 0, .float .f32 0, .float .f32 0, .float .f32 0, .float .f32 0, .float .f32 0, .float .f32 0, .float .f32 0, .float .f32 0]], []⟩ 8 (by kernel_rfl) (by kernel_rfl) (by kernel_rfl) (by kernel_rfl))
    (ps := [V10]) (by kernel_rfl) (law_of_F (by kernel_rfl))

theorem fnExactMomentumOfTop_holds : Rows.FnExactMomentumOfTopSaid :=
  OpenClaim.holds_of_wide 3 Try.f3 rfl rfl rfl rfl rfl rfl rfl ⟨rfl, rfl, rfl, rfl, rfl⟩ rfl rfl rfl rfl rfl (by kernel_rfl) Try.func3 (by kernel_rfl)
    (of_decide_eq_true (by kernel_rfl)) (by unfold Func.isWrapper; first | (rw [if_pos (by decide +kernel)]; kernel_rfl) | (rw [if_neg (by decide +kernel)]; exact ⟨rfl, rfl⟩))
    (fun os started H enc _ => fnExactMomentumOfTop_lifted os started H enc)

end Go.Proofs.Ytdgenclminhcdaa
