/-
  PROVED: 'laws.FnExactNextMeeting' answers true at every input, and leaves all it was handed as it was. No condition.
-/
import Derived.Test.YtdgenclminhcdaaRowsL
namespace Go.Proofs.Ytdgenclminhcdaa
open Go.Sx
set_option maxRecDepth 100000

theorem fnExactNextMeeting_check : allTrueI 1000 ⟨[], [], [], [], []⟩ (resT (cfR 9 (argGoA 0 0 rowArg) (cxA rowArg))) = true := by kernel_rfl

theorem fnExactNextMeeting_law : LawIsA rowU (resT (cfR 9 (argGoA 0 0 rowArg) (cxA rowArg))) := law_of_A fnExactNextMeeting_check

theorem fnExactNextMeeting_lifted (os : Os) (started : os.Started) (H : Type) (enc : TypeId × Value → H) :
    ReturnsInHanded {} Try.checked os 9 .any (Rows.fnExactNextMeetingSpec.pre6 enc Try.prog Try.f9 Rows.fnExactNextMeetingRow.domain false) (Rows.fnExactNextMeetingSpec.post enc Try.prog Try.f9 false true false false) :=
  row_lawA (C := Try.checked) (U := rowU) (cf := cfR) (f := 9) («as» := rowArg) Try.own Try.laidOut started (by kernel_rfl) Try.names cfR_ok Try.func9 rfl rfl (by kernel_rfl) (by kernel_rfl) rfl
    (fun ds h => by match ds, h with | [_], _ => rfl)
    (ChangeSpec.witness6 (enc := enc) (C := Try.checked) false ⟨#[], #[.agg #[.slice none 0 0, .float .f32 0]], []⟩ 8 (by kernel_rfl) (by kernel_rfl) (by kernel_rfl) (by kernel_rfl))
    (by kernel_rfl) (by kernel_rfl) (by kernel_rfl) (by kernel_rfl) fnExactNextMeeting_law

theorem fnExactNextMeeting_holds : Rows.FnExactNextMeetingSaid :=
  OpenClaim.holds_of_wide 9 Try.f9 rfl rfl rfl rfl rfl rfl rfl ⟨rfl, rfl, rfl, rfl, rfl⟩ rfl rfl rfl rfl rfl (by kernel_rfl) Try.func9 (by kernel_rfl)
    (of_decide_eq_true (by kernel_rfl)) (by unfold Func.isWrapper; first | (rw [if_pos (by decide +kernel)]; kernel_rfl) | (rw [if_neg (by decide +kernel)]; exact ⟨rfl, rfl⟩))
    (fun os started H enc _ => fnExactNextMeeting_lifted os started H enc)

end Go.Proofs.Ytdgenclminhcdaa
