/-
  PROVED: 'laws.FnExactTopText' answers true at every input, and leaves all it was handed as it was. No condition.
-/
import Derived.Test.YtdgenclminhcdaaTextsV
namespace Go.Proofs.Ytdgenclminhcdaa
open Go.Sx
set_option maxRecDepth 100000

theorem fnExactTopText_check : allTrueI 1000 ⟨[], ptWf 0 [V10], [], [], []⟩ (resT (cfV 7 (ptGo 0 [V10]) cx0)) = true := by kernel_rfl

theorem fnExactTopText_law : LawIs seatU (resT (cfV 7 (ptGo 0 [V10]) cx0)) [V10] := @law_of_I seatU (resT (cfV 7 (ptGo 0 [V10]) cx0)) [V10] (by kernel_rfl) fnExactTopText_check

theorem fnExactTopText_lifted (os : Os) (started : os.Started) (H : Type) (enc : TypeId × Value → H) :
    ReturnsInHanded {} Try.checked os 7 .any (Rows.fnExactTopTextSpec.pre6 enc Try.prog Try.f7 Rows.fnExactTopTextRow.domain false) (Rows.fnExactTopTextSpec.post enc Try.prog Try.f7 false true false false) :=
  row_lawI (C := Try.checked) (U := seatU) (cf := cfV) (f := 7) Try.own Try.laidOut started (by kernel_rfl) Try.names cfV_ok Try.func7 rfl rfl (by kernel_rfl) (by kernel_rfl) rfl
    (fun ds h => by match ds, h with | [_], _ => rfl)
    (ChangeSpec.witness6 (enc := enc) (C := Try.checked) false ⟨#[], #[.agg #[.float .f32 0, .float .f32 0, .float .f32 0, .float .f32 0, .float .f32 0, .float .f32 0, .float .f32 0, .float .f32 0, .float .f32 0, .float .f32 0]], []⟩ 8 (by kernel_rfl) (by kernel_rfl) (by kernel_rfl) (by kernel_rfl))
    (ps := [V10]) (by kernel_rfl) (by kernel_rfl) fnExactTopText_law

theorem fnExactTopText_holds : Rows.FnExactTopTextSaid :=
  OpenClaim.holds_of_wide 7 Try.f7 rfl rfl rfl rfl rfl rfl rfl ⟨rfl, rfl, rfl, rfl, rfl⟩ rfl rfl rfl rfl rfl (by kernel_rfl) Try.func7 (by kernel_rfl)
    (of_decide_eq_true (by kernel_rfl)) (by unfold Func.isWrapper; first | (rw [if_pos (by decide +kernel)]; kernel_rfl) | (rw [if_neg (by decide +kernel)]; exact ⟨rfl, rfl⟩))
    (fun os started H enc _ => fnExactTopText_lifted os started H enc)

end Go.Proofs.Ytdgenclminhcdaa
