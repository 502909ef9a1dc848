/-
  RunSh: the program's loop does what the reference's does, leaf by leaf.
-/
import Derived.Test.YtaflnmmnaiaceaaRunLh
namespace Go.Proofs.Ytaflnmmnaiaceaa
open Go.Sx
set_option maxRecDepth 100000
theorem s46h_0 : simI A46h.inv rho46h outs46h L43h L46h 0 = true := by kernel_rfl
theorem s46h_1 : simI A46h.inv rho46h outs46h L43h L46h 1 = true := by kernel_rfl
theorem s46h_2 : simI A46h.inv rho46h outs46h L43h L46h 2 = true := by kernel_rfl
theorem s46h_3 : simI A46h.inv rho46h outs46h L43h L46h 3 = true := by kernel_rfl
theorem s46h_4 : simI A46h.inv rho46h outs46h L43h L46h 4 = true := by kernel_rfl
theorem s46h_5 : simI A46h.inv rho46h outs46h L43h L46h 5 = true := by kernel_rfl
end Go.Proofs.Ytaflnmmnaiaceaa
