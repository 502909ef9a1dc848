/-
  RunKh: the rounds of the program's loop of RunHeavy.
-/
import Derived.Test.YtaflnmmnaiaceaaRunLh
namespace Go.Proofs.Ytaflnmmnaiaceaa
open Go.Sx
set_option maxRecDepth 100000
theorem r46h : roundK C46h outs46h A46h.t.cnt A46h.inv mu46h T46h = true := by rw [l46h]; kernel_rfl
theorem p46h : postOk A46h pfRh T46h = true := by rw [l46h]; kernel_rfl
end Go.Proofs.Ytaflnmmnaiaceaa
