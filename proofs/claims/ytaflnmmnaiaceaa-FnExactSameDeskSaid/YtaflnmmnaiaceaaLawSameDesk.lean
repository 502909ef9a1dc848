/-
  PROVED: 'laws.FnExactSameDesk' answers true at every input, and leaves all it was handed as it was. No condition.
-/
import Derived.Test.YtaflnmmnaiaceaaDesks
namespace Go.Proofs.Ytaflnmmnaiaceaa
open Go.Sx
set_option maxRecDepth 100000

theorem fnExactSameDesk_piece0 : midT [false, false, false, false, false, false, false, false, false, false, false, false, false, false, true, true, true, true, true, true, true, true, true] [] 1000 (resT (cfM 6 (argGoA 0 0 desks2) (cxA desks2))) = true := by kernel_rfl
theorem fnExactSameDesk_piece1 : midT [true, true, true, true, true, true, true, true, true, true] [false, false, false, false, false, false, false, false, false, false, false, false, false, false, true, true, true, true, true, true, true, true, true] 1000 (resT (cfM 6 (argGoA 0 0 desks2) (cxA desks2))) = true := by kernel_rfl
theorem fnExactSameDesk_last : atT [false, false, false, false, false, false, false, false, false, false, false, false, false, false, true, true, true, true, true, true, true, true, true, true, true, true, true, true, true, true, true, true, true] 1000 (resT (cfM 6 (argGoA 0 0 desks2) (cxA desks2))) = true := by kernel_rfl
theorem fnExactSameDesk_join1 : atT [false, false, false, false, false, false, false, false, false, false, false, false, false, false, true, true, true, true, true, true, true, true, true] 1000 (resT (cfM 6 (argGoA 0 0 desks2) (cxA desks2))) = true := at_join (p := [false, false, false, false, false, false, false, false, false, false, false, false, false, false, true, true, true, true, true, true, true, true, true]) (q := [true, true, true, true, true, true, true, true, true, true]) fnExactSameDesk_piece1 fnExactSameDesk_last
theorem fnExactSameDesk_join0 : atT [] 1000 (resT (cfM 6 (argGoA 0 0 desks2) (cxA desks2))) = true := at_join (p := []) (q := [false, false, false, false, false, false, false, false, false, false, false, false, false, false, true, true, true, true, true, true, true, true, true]) fnExactSameDesk_piece0 fnExactSameDesk_join1
theorem fnExactSameDesk_check : allTrue 1000 (resT (cfM 6 (argGoA 0 0 desks2) (cxA desks2))) = true := at_nil.symm.trans fnExactSameDesk_join0

theorem fnExactSameDesk_law : LawIsA deskU (resT (cfM 6 (argGoA 0 0 desks2) (cxA desks2))) := lawA_of_true fnExactSameDesk_check

theorem fnExactSameDesk_lifted (os : Os) (started : os.Started) (H : Type) (enc : TypeId × Value → H) :
    ReturnsInHanded {} Try.checked os 6 .any (Rows.fnExactSameDeskSpec.pre6 enc Try.prog Try.f6 Rows.fnExactSameDeskRow.domain false) (Rows.fnExactSameDeskSpec.post enc Try.prog Try.f6 false true false false) :=
  row_lawA (C := Try.checked) (U := deskU) (cf := cfM) (f := 6) («as» := desks2) Try.own Try.laidOut started (by kernel_rfl) Try.names cfM_ok Try.func6 rfl rfl (by kernel_rfl) (by kernel_rfl) rfl
    (fun ds h => by match ds, h with | [_, _], _ => rfl)
    (ChangeSpec.witness6 (enc := enc) (C := Try.checked) false ⟨#[], #[.agg #[.float .f32 0, .float .f32 0, .float .f32 0, .float .f32 0, .float .f32 0, .float .f32 0, .float .f32 0, .float .f32 0, .slice none 0 0, .slice none 0 0, .slice none 0 0, .slice none 0 0, .float .f32 0, .float .f32 0, .float .f32 0, .float .f32 0, .float .f32 0, .float .f32 0, .float .f32 0, .float .f32 0, .float .f32 0, .float .f32 0, .slice none 0 0, .slice none 0 0], .agg #[.float .f32 0, .float .f32 0, .float .f32 0, .float .f32 0, .float .f32 0, .float .f32 0, .float .f32 0, .float .f32 0, .slice none 0 0, .slice none 0 0, .slice none 0 0, .slice none 0 0, .float .f32 0, .float .f32 0, .float .f32 0, .float .f32 0, .float .f32 0, .float .f32 0, .float .f32 0, .float .f32 0, .float .f32 0, .float .f32 0, .slice none 0 0, .slice none 0 0]], []⟩ 8 (by kernel_rfl) (by kernel_rfl) (by kernel_rfl) (by kernel_rfl))
    (by kernel_rfl) (by kernel_rfl) (by kernel_rfl) (by kernel_rfl) fnExactSameDesk_law

theorem fnExactSameDesk_holds : Rows.FnExactSameDeskSaid :=
  OpenClaim.holds_of_wide 6 Try.f6 rfl rfl rfl rfl rfl rfl rfl ⟨rfl, rfl, rfl, rfl, rfl⟩ rfl rfl rfl rfl rfl (by kernel_rfl) Try.func6 (by kernel_rfl)
    (of_decide_eq_true (by kernel_rfl)) (by unfold Func.isWrapper; first | (rw [if_pos (by decide +kernel)]; kernel_rfl) | (rw [if_neg (by decide +kernel)]; exact ⟨rfl, rfl⟩))
    (fun os started H enc _ => fnExactSameDesk_lifted os started H enc)

end Go.Proofs.Ytaflnmmnaiaceaa
