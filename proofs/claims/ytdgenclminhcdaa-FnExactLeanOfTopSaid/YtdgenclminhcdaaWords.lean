/-
  Functions of this seat that are taken as one word each, and what the words are: what the reference's walk answers.
-/
import Derived.Test.YtdgenclminhcdaaBase
import Derived.Test.YtdgenclminhcdaaSxZl
namespace Go.Proofs.Ytdgenclminhcdaa
open Go.Sx
set_option maxRecDepth 100000

abbrev RF : Rp := .one F1

/-- The angle of a point. -/
noncomputable def angleT : Tree SV := resT (cf0 64 (ptGo 0 [F1, F1]) cx0)

noncomputable def seatU : Nat → D → D := fun n d => bif Nat.beq n 0 then opVal angleT (ptCount [F1, F1]) RF d else d
theorem seatU0 (d : D) : seatU 0 d = opVal angleT (ptCount [F1, F1]) RF d := by kernel_rfl

theorem angle_spec_check : opOk [F1, F1] RF (resT (cf0 64 (ptGo 0 [F1, F1]) cx0)) angleT = true := by kernel_rfl
theorem angle_impl_check : opOk [F1, F1] RF (resT (cf0 67 (ptGo 0 [F1, F1]) cx0)) angleT = true := by kernel_rfl
theorem angle_spec : EntryOk seatU Try.prog 64 (opRun 0 [F1, F1] RF) := @op_entry seatU Try.prog cf0 cf0_ok 64 [F1, F1] RF 0 (by kernel_rfl) angleT angle_spec_check seatU0
theorem angle_impl : EntryOk seatU Try.prog 67 (opRun 0 [F1, F1] RF) := @op_entry seatU Try.prog cf0 cf0_ok 67 [F1, F1] RF 0 (by kernel_rfl) angleT angle_impl_check seatU0

end Go.Proofs.Ytdgenclminhcdaa
