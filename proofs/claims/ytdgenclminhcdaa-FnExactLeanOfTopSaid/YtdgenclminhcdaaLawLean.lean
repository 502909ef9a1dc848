/-
  PROVED: 'laws.FnExactLeanOfTop' answers true at every input, and leaves all it was handed as it was. No condition.
-/
import Derived.Test.YtdgenclminhcdaaTops
namespace Go.Proofs.Ytdgenclminhcdaa
open Go.Sx
set_option maxRecDepth 100000

theorem fnExactLeanOfTop_check : allTrueI 1000 ⟨[], ptWf 0 [V10], [], [], []⟩ (resT (cf2 8 (ptGo 0 [V10]) cx0)) = true := by kernel_rfl

theorem fnExactLeanOfTop_law : LawIs seatU (resT (cf2 8 (ptGo 0 [V10]) cx0)) [V10] := @law_of_I seatU (resT (cf2 8 (ptGo 0 [V10]) cx0)) [V10] (by kernel_rfl) fnExactLeanOfTop_check

theorem fnExactLeanOfTop_lifted (os : Os) (started : os.Started) (H : Type) (enc : TypeId × Value → H) :
    ReturnsInHanded {} Try.checked os 8 .any (Rows.fnExactLeanOfTopSpec.pre6 enc Try.prog Try.f8 Rows.fnExactLeanOfTopRow.domain false) (Rows.fnExactLeanOfTopSpec.post enc Try.prog Try.f8 false true false false) :=
  row_lawI (C := Try.checked) (U := seatU) (cf := cf2) (f := 8) Try.own Try.laidOut started (by kernel_rfl) Try.names cf2_ok Try.func8 rfl rfl (by kernel_rfl) (by kernel_rfl) rfl
    (fun ds h => by match ds, h with | [_], _ => rfl)
    (ChangeSpec.witness6 (enc := enc) (C := Try.checked) false ⟨#[], #[.agg #[.float .f32 0, .float .f32 0, .float .f32 0, .float .f32 0, .float .f32 0, .float .f32 0, .float .f32 0, .float .f32 0, .float .f32 0, .float .f32 0]], []⟩ 8 (by kernel_rfl) (by kernel_rfl) (by kernel_rfl) (by kernel_rfl))
    (ps := [V10]) (by kernel_rfl) (by kernel_rfl) fnExactLeanOfTop_law

theorem fnExactLeanOfTop_holds : Rows.FnExactLeanOfTopSaid :=
  OpenClaim.holds_of_wide 8 Try.f8 rfl rfl rfl rfl rfl rfl rfl ⟨rfl, rfl, rfl, rfl, rfl⟩ rfl rfl rfl rfl rfl (by kernel_rfl) Try.func8 (by kernel_rfl)
    (of_decide_eq_true (by kernel_rfl)) (by unfold Func.isWrapper; first | (rw [if_pos (by decide +kernel)]; kernel_rfl) | (rw [if_neg (by decide +kernel)]; exact ⟨rfl, rfl⟩))
    (fun os started H enc _ => fnExactLeanOfTop_lifted os started H enc)

end Go.Proofs.Ytdgenclminhcdaa
