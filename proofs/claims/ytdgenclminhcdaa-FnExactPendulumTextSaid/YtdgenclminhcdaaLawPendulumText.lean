/-
  PROVED: 'laws.FnExactPendulumText' answers true at every input, and leaves all it was handed as it was. No condition.
-/
import Derived.Test.YtdgenclminhcdaaTexts
namespace Go.Proofs.Ytdgenclminhcdaa
open Go.Sx
set_option maxRecDepth 100000

theorem fnExactPendulumText_check : allTrueI 1000 ⟨[], ptWf 0 [V5], [], [], []⟩ (resT (cfT 5 (ptGo 0 [V5]) cx0)) = true := by kernel_rfl

theorem fnExactPendulumText_law : LawIs seatU (resT (cfT 5 (ptGo 0 [V5]) cx0)) [V5] := @law_of_I seatU (resT (cfT 5 (ptGo 0 [V5]) cx0)) [V5] (by kernel_rfl) fnExactPendulumText_check

theorem fnExactPendulumText_lifted (os : Os) (started : os.Started) (H : Type) (enc : TypeId × Value → H) :
    ReturnsInHanded {} Try.checked os 5 .any (Rows.fnExactPendulumTextSpec.pre6 enc Try.prog Try.f5 Rows.fnExactPendulumTextRow.domain false) (Rows.fnExactPendulumTextSpec.post enc Try.prog Try.f5 false true false false) :=
  row_lawI (C := Try.checked) (U := seatU) (cf := cfT) (f := 5) Try.own Try.laidOut started (by kernel_rfl) Try.names cfT_ok Try.func5 rfl rfl (by kernel_rfl) (by kernel_rfl) rfl
    (fun ds h => by match ds, h with | [_], _ => rfl)
    (ChangeSpec.witness6 (enc := enc) (C := Try.checked) false ⟨#[], #[.agg #[.float .f32 0, .float .f32 0, .float .f32 0, .float .f32 0, .float .f32 0]], []⟩ 8 (by kernel_rfl) (by kernel_rfl) (by kernel_rfl) (by kernel_rfl))
    (ps := [V5]) (by kernel_rfl) (by kernel_rfl) fnExactPendulumText_law

theorem fnExactPendulumText_holds : Rows.FnExactPendulumTextSaid :=
  OpenClaim.holds_of_wide 5 Try.f5 rfl rfl rfl rfl rfl rfl rfl ⟨rfl, rfl, rfl, rfl, rfl⟩ rfl rfl rfl rfl rfl (by kernel_rfl) Try.func5 (by kernel_rfl)
    (of_decide_eq_true (by kernel_rfl)) (by unfold Func.isWrapper; first | (rw [if_pos (by decide +kernel)]; kernel_rfl) | (rw [if_neg (by decide +kernel)]; exact ⟨rfl, rfl⟩))
    (fun os started H enc _ => fnExactPendulumText_lifted os started H enc)

end Go.Proofs.Ytdgenclminhcdaa
