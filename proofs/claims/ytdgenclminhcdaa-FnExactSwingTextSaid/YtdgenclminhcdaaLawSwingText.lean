/-
  PROVED: 'laws.FnExactSwingText' answers true at every input, and leaves all it was handed as it was. No condition.
-/
import Derived.Test.YtdgenclminhcdaaTexts
namespace Go.Proofs.Ytdgenclminhcdaa
open Go.Sx
set_option maxRecDepth 100000

theorem fnExactSwingText_check : allTrueI 1000 ⟨[], ptWf 0 [V3], [], [], []⟩ (resT (cfT 4 (ptGo 0 [V3]) cx0)) = true := by kernel_rfl

theorem fnExactSwingText_law : LawIs seatU (resT (cfT 4 (ptGo 0 [V3]) cx0)) [V3] := @law_of_I seatU (resT (cfT 4 (ptGo 0 [V3]) cx0)) [V3] (by kernel_rfl) fnExactSwingText_check

theorem fnExactSwingText_lifted (os : Os) (started : os.Started) (H : Type) (enc : TypeId × Value → H) :
    ReturnsInHanded {} Try.checked os 4 .any (Rows.fnExactSwingTextSpec.pre6 enc Try.prog Try.f4 Rows.fnExactSwingTextRow.domain false) (Rows.fnExactSwingTextSpec.post enc Try.prog Try.f4 false true false false) :=
  row_lawI (C := Try.checked) (U := seatU) (cf := cfT) (f := 4) Try.own Try.laidOut started (by kernel_rfl) Try.names cfT_ok Try.func4 rfl rfl (by kernel_rfl) (by kernel_rfl) rfl
    (fun ds h => by match ds, h with | [_], _ => rfl)
    (ChangeSpec.witness6 (enc := enc) (C := Try.checked) false ⟨#[], #[.agg #[.float .f32 0, .float .f32 0, .float .f32 0]], []⟩ 8 (by kernel_rfl) (by kernel_rfl) (by kernel_rfl) (by kernel_rfl))
    (ps := [V3]) (by kernel_rfl) (by kernel_rfl) fnExactSwingText_law

theorem fnExactSwingText_holds : Rows.FnExactSwingTextSaid :=
  OpenClaim.holds_of_wide 4 Try.f4 rfl rfl rfl rfl rfl rfl rfl ⟨rfl, rfl, rfl, rfl, rfl⟩ rfl rfl rfl rfl rfl (by kernel_rfl) Try.func4 (by kernel_rfl)
    (of_decide_eq_true (by kernel_rfl)) (by unfold Func.isWrapper; first | (rw [if_pos (by decide +kernel)]; kernel_rfl) | (rw [if_neg (by decide +kernel)]; exact ⟨rfl, rfl⟩))
    (fun os started H enc _ => fnExactSwingText_lifted os started H enc)

end Go.Proofs.Ytdgenclminhcdaa
