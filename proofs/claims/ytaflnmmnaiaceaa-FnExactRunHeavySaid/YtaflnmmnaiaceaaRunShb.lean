/-
  RunSh: the program's loop does what the reference's does, leaf by leaf.
-/
import Derived.Test.YtaflnmmnaiaceaaRunLh
namespace Go.Proofs.Ytaflnmmnaiaceaa
open Go.Sx
set_option maxRecDepth 100000
theorem s46h_6 : simI A46h.inv rho46h outs46h L43h L46h 6 = true := by kernel_rfl
theorem s46h_7 : simI A46h.inv rho46h outs46h L43h L46h 7 = true := by kernel_rfl
theorem s46h_8 : simI A46h.inv rho46h outs46h L43h L46h 8 = true := by kernel_rfl
theorem s46h_9 : simI A46h.inv rho46h outs46h L43h L46h 9 = true := by kernel_rfl
theorem s46h_10 : simI A46h.inv rho46h outs46h L43h L46h 10 = true := by kernel_rfl
theorem s46h_11 : simI A46h.inv rho46h outs46h L43h L46h 11 = true := by kernel_rfl
theorem s46h_12 : simI A46h.inv rho46h outs46h L43h L46h 12 = true := by kernel_rfl
theorem s46h_13 : simI A46h.inv rho46h outs46h L43h L46h 13 = true := by kernel_rfl
theorem s46h_14 : simI A46h.inv rho46h outs46h L43h L46h 14 = true := by kernel_rfl
theorem s46h_15 : simI A46h.inv rho46h outs46h L43h L46h 15 = true := by kernel_rfl
theorem s46h_16 : simI A46h.inv rho46h outs46h L43h L46h 16 = true := by kernel_rfl
theorem s46h_17 : simI A46h.inv rho46h outs46h L43h L46h 17 = true := by kernel_rfl
end Go.Proofs.Ytaflnmmnaiaceaa
