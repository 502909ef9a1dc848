/-
  Functions of this seat that are taken as one word each, and what the words are: what the reference's walk answers.
-/
import Derived.Test.YtdgenclminhcdaaBase
import Derived.Test.YtdgenclminhcdaaSxZl
namespace Go.Proofs.Ytdgenclminhcdaa
open Go.Sx
set_option maxRecDepth 100000

abbrev RF : Rp := .one F1

/-- The angle of a point. -/
noncomputable def angleT : Tree SV := resT (cf0 64 (ptGo 0 [F1, F1]) cx0)

/-- The bits of a number, all not-a-numbers one. -/
noncomputable def bitsT : Tree SV := resT (cf0 164 (ptGo 0 [F1]) cx0)

abbrev RI : Rp := .one (.one (.i .i64))

noncomputable def seatU : Nat → D → D := fun n d => bif Nat.beq n 0 then opVal angleT (ptCount [F1, F1]) RF d else bif Nat.beq n 1 then opVal bitsT (ptCount [F1]) RI d else d
theorem seatU1 (d : D) : seatU 1 d = opVal bitsT (ptCount [F1]) RI d := by kernel_rfl
theorem seatU0 (d : D) : seatU 0 d = opVal angleT (ptCount [F1, F1]) RF d := by kernel_rfl

theorem angle_spec_check : opOk [F1, F1] RF (resT (cf0 64 (ptGo 0 [F1, F1]) cx0)) angleT = true := by kernel_rfl
theorem angle_impl_check : opOk [F1, F1] RF (resT (cf0 67 (ptGo 0 [F1, F1]) cx0)) angleT = true := by kernel_rfl
theorem angle_spec : EntryOk seatU Try.prog 64 (opRun 0 [F1, F1] RF) := @op_entry seatU Try.prog cf0 cf0_ok 64 [F1, F1] RF 0 (by kernel_rfl) angleT angle_spec_check seatU0
theorem angle_impl : EntryOk seatU Try.prog 67 (opRun 0 [F1, F1] RF) := @op_entry seatU Try.prog cf0 cf0_ok 67 [F1, F1] RF 0 (by kernel_rfl) angleT angle_impl_check seatU0

theorem bits_spec_check : opOk [F1] RI (resT (cf0 164 (ptGo 0 [F1]) cx0)) bitsT = true := by kernel_rfl
theorem bits_impl_check : opOk [F1] RI (resT (cf0 158 (ptGo 0 [F1]) cx0)) bitsT = true := by kernel_rfl
theorem bits_spec : EntryOk seatU Try.prog 164 (opRun 1 [F1] RI) := @op_entry seatU Try.prog cf0 cf0_ok 164 [F1] RI 1 (by kernel_rfl) bitsT bits_spec_check seatU1
theorem bits_impl : EntryOk seatU Try.prog 158 (opRun 1 [F1] RI) := @op_entry seatU Try.prog cf0 cf0_ok 158 [F1] RI 1 (by kernel_rfl) bitsT bits_impl_check seatU1

end Go.Proofs.Ytdgenclminhcdaa
