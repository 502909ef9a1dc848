/-
  PROVED: 'laws.FnExactClocksText' answers true at every input, and leaves all it was handed as it was. No condition.
-/
import Derived.Test.YtlhlcmmjmhlpoaaRowsC
namespace Go.Proofs.Ytlhlcmmjmhlpoaa
open Go.Sx
set_option maxRecDepth 100000

theorem fnExactClocksText_check : allTrueI 1000 ⟨[], [], [], [], []⟩ (resT (cfN 3 (argGoA 0 0 clArg) (cxA clArg))) = true := by kernel_rfl

theorem fnExactClocksText_law : LawIsA clockU (resT (cfN 3 (argGoA 0 0 clArg) (cxA clArg))) := law_of_A fnExactClocksText_check

theorem fnExactClocksText_lifted (os : Os) (started : os.Started) (H : Type) (enc : TypeId × Value → H) :
    ReturnsInHanded {} Try.checked os 3 .any (Rows.fnExactClocksTextSpec.pre6 enc Try.prog Try.f3 Rows.fnExactClocksTextRow.domain false) (Rows.fnExactClocksTextSpec.post enc Try.prog Try.f3 false true false false) :=
  row_lawA (C := Try.checked) (U := clockU) (cf := cfN) (f := 3) («as» := clArg) Try.own Try.laidOut started (by kernel_rfl) Try.names cfN_ok Try.func3 rfl rfl (by kernel_rfl) (by kernel_rfl) rfl
    (fun ds h => by match ds, h with | [_], _ => rfl)
    (ChangeSpec.witness6 (enc := enc) (C := Try.checked) false ⟨#[], #[.agg #[.slice none 0 0, .slice none 0 0]], []⟩ 8 (by kernel_rfl) (by kernel_rfl) (by kernel_rfl) (by kernel_rfl))
    (by kernel_rfl) (by kernel_rfl) (by kernel_rfl) (by kernel_rfl) fnExactClocksText_law

theorem fnExactClocksText_holds : Rows.FnExactClocksTextSaid :=
  OpenClaim.holds_of_wide 3 Try.f3 rfl rfl rfl rfl rfl rfl rfl ⟨rfl, rfl, rfl, rfl, rfl⟩ rfl rfl rfl rfl rfl (by kernel_rfl) Try.func3 (by kernel_rfl)
    (of_decide_eq_true (by kernel_rfl)) (by unfold Func.isWrapper; first | (rw [if_pos (by decide +kernel)]; kernel_rfl) | (rw [if_neg (by decide +kernel)]; exact ⟨rfl, rfl⟩))
    (fun os started H enc _ => fnExactClocksText_lifted os started H enc)

end Go.Proofs.Ytlhlcmmjmhlpoaa
