/-
  PROVED: 'laws.FnExactValidDesk' answers true at every input, and leaves all it was handed as it was. No condition.
-/
import Derived.Test.YtaflnmmnaiaceaaDeskV
namespace Go.Proofs.Ytaflnmmnaiaceaa
open Go.Sx
set_option maxRecDepth 100000

theorem fnExactValidDesk_piece0 : midT [false, false, false, false, false, false, false, true, true, true, true, true, true, true, true, true, true, true, false, true, true, false] [] 1000 (resT (cfW 7 (argGoA 0 0 desks1) (cxA desks1))) = true := by kernel_rfl
theorem fnExactValidDesk_last : atT [false, false, false, false, false, false, false, true, true, true, true, true, true, true, true, true, true, true, false, true, true, false] 1000 (resT (cfW 7 (argGoA 0 0 desks1) (cxA desks1))) = true := by kernel_rfl
theorem fnExactValidDesk_join0 : atT [] 1000 (resT (cfW 7 (argGoA 0 0 desks1) (cxA desks1))) = true := at_join (p := []) (q := [false, false, false, false, false, false, false, true, true, true, true, true, true, true, true, true, true, true, false, true, true, false]) fnExactValidDesk_piece0 fnExactValidDesk_last
theorem fnExactValidDesk_check : allTrue 1000 (resT (cfW 7 (argGoA 0 0 desks1) (cxA desks1))) = true := at_nil.symm.trans fnExactValidDesk_join0

theorem fnExactValidDesk_law : LawIsA allU (resT (cfW 7 (argGoA 0 0 desks1) (cxA desks1))) := lawA_of_true fnExactValidDesk_check

theorem fnExactValidDesk_lifted (os : Os) (started : os.Started) (H : Type) (enc : TypeId × Value → H) :
    ReturnsInHanded {} Try.checked os 7 .any (Rows.fnExactValidDeskSpec.pre6 enc Try.prog Try.f7 Rows.fnExactValidDeskRow.domain false) (Rows.fnExactValidDeskSpec.post enc Try.prog Try.f7 false true false false) :=
  row_lawA (C := Try.checked) (U := allU) (cf := cfW) (f := 7) («as» := desks1) Try.own Try.laidOut started (by kernel_rfl) Try.names cfW_ok Try.func7 rfl rfl (by kernel_rfl) (by kernel_rfl) rfl
    (fun ds h => by match ds, h with | [_], _ => rfl)
    (ChangeSpec.witness6 (enc := enc) (C := Try.checked) false ⟨#[], #[.agg #[.float .f32 0, .float .f32 0, .float .f32 0, .float .f32 0, .float .f32 0, .float .f32 0, .float .f32 0, .float .f32 0, .slice none 0 0, .slice none 0 0, .slice none 0 0, .slice none 0 0, .float .f32 0, .float .f32 0, .float .f32 0, .float .f32 0, .float .f32 0, .float .f32 0, .float .f32 0, .float .f32 0, .float .f32 0, .float .f32 0, .slice none 0 0, .slice none 0 0]], []⟩ 8 (by kernel_rfl) (by kernel_rfl) (by kernel_rfl) (by kernel_rfl))
    (by kernel_rfl) (by kernel_rfl) (by kernel_rfl) (by kernel_rfl) fnExactValidDesk_law

theorem fnExactValidDesk_holds : Rows.FnExactValidDeskSaid :=
  OpenClaim.holds_of_wide 7 Try.f7 rfl rfl rfl rfl rfl rfl rfl ⟨rfl, rfl, rfl, rfl, rfl⟩ rfl rfl rfl rfl rfl (by kernel_rfl) Try.func7 (by kernel_rfl)
    (of_decide_eq_true (by kernel_rfl)) (by unfold Func.isWrapper; first | (rw [if_pos (by decide +kernel)]; kernel_rfl) | (rw [if_neg (by decide +kernel)]; exact ⟨rfl, rfl⟩))
    (fun os started H enc _ => fnExactValidDesk_lifted os started H enc)

end Go.Proofs.Ytaflnmmnaiaceaa
