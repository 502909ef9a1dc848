/-
  PROVED: 'laws.FnExactTurnsOfSpin' answers true at every input, and leaves all it was handed as it was. No condition.
-/
import Derived.Test.YtdgenclminhcdaaTopsI
namespace Go.Proofs.Ytdgenclminhcdaa
open Go.Sx
set_option maxRecDepth 100000

theorem fnExactTurnsOfSpin_check : allTrueI 1000 ⟨[], ptWf 0 [V4], [], [], []⟩ (resT (cf2 6 (ptGo 0 [V4]) cx0)) = true := by kernel_rfl

theorem fnExactTurnsOfSpin_law : LawIs noU (resT (cf2 6 (ptGo 0 [V4]) cx0)) [V4] := @law_of_I noU (resT (cf2 6 (ptGo 0 [V4]) cx0)) [V4] (by kernel_rfl) fnExactTurnsOfSpin_check

theorem fnExactTurnsOfSpin_lifted (os : Os) (started : os.Started) (H : Type) (enc : TypeId × Value → H) :
    ReturnsInHanded {} Try.checked os 6 .any (Rows.fnExactTurnsOfSpinSpec.pre6 enc Try.prog Try.f6 Rows.fnExactTurnsOfSpinRow.domain false) (Rows.fnExactTurnsOfSpinSpec.post enc Try.prog Try.f6 false true false false) :=
  row_lawI (C := Try.checked) (U := noU) (cf := cf2) (f := 6) Try.own Try.laidOut started (by kernel_rfl) Try.names cf2_ok Try.func6 rfl rfl (by kernel_rfl) (by kernel_rfl) rfl
    (fun ds h => by match ds, h with | [_], _ => rfl)
    (ChangeSpec.witness6 (enc := enc) (C := Try.checked) false ⟨#[], #[.agg #[.float .f32 0, .float .f32 0, .float .f32 0, .float .f32 0]], []⟩ 8 (by kernel_rfl) (by kernel_rfl) (by kernel_rfl) (by kernel_rfl))
    (ps := [V4]) (by kernel_rfl) (by kernel_rfl) fnExactTurnsOfSpin_law

theorem fnExactTurnsOfSpin_holds : Rows.FnExactTurnsOfSpinSaid :=
  OpenClaim.holds_of_wide 6 Try.f6 rfl rfl rfl rfl rfl rfl rfl ⟨rfl, rfl, rfl, rfl, rfl⟩ rfl rfl rfl rfl rfl (by kernel_rfl) Try.func6 (by kernel_rfl)
    (of_decide_eq_true (by kernel_rfl)) (by unfold Func.isWrapper; first | (rw [if_pos (by decide +kernel)]; kernel_rfl) | (rw [if_neg (by decide +kernel)]; exact ⟨rfl, rfl⟩))
    (fun os started H enc _ => fnExactTurnsOfSpin_lifted os started H enc)

end Go.Proofs.Ytdgenclminhcdaa
