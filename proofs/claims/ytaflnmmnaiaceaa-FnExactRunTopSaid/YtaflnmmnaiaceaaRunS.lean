/-
  RunS: the program's loop does what the reference's does, leaf by leaf.
-/
import Derived.Test.YtaflnmmnaiaceaaRunL
namespace Go.Proofs.Ytaflnmmnaiaceaa
open Go.Sx
set_option maxRecDepth 100000
theorem s46_0 : simI A46.inv rho46 outs46 L43 L46 0 = true := by kernel_rfl
theorem s46_1 : simI A46.inv rho46 outs46 L43 L46 1 = true := by kernel_rfl
theorem s46_2 : simI A46.inv rho46 outs46 L43 L46 2 = true := by kernel_rfl
theorem s46_3 : simI A46.inv rho46 outs46 L43 L46 3 = true := by kernel_rfl
theorem s46_4 : simI A46.inv rho46 outs46 L43 L46 4 = true := by kernel_rfl
theorem s46_5 : simI A46.inv rho46 outs46 L43 L46 5 = true := by kernel_rfl
theorem s46_6 : simI A46.inv rho46 outs46 L43 L46 6 = true := by kernel_rfl
theorem s46_7 : simI A46.inv rho46 outs46 L43 L46 7 = true := by kernel_rfl
theorem s46_8 : simI A46.inv rho46 outs46 L43 L46 8 = true := by kernel_rfl
theorem s46_9 : simI A46.inv rho46 outs46 L43 L46 9 = true := by kernel_rfl
theorem n46 : leavesN L46 = 10 := by kernel_rfl
theorem s46 : simOkK A43.inv A46.inv rho46 outs46 T43 T46 = true := by
  rw [l43, l46]
  refine simI_join (by kernel_rfl) fun i hi => ?_
  rw [n46] at hi
  match i, hi with
  | 0, _ => exact s46_0
  | 1, _ => exact s46_1
  | 2, _ => exact s46_2
  | 3, _ => exact s46_3
  | 4, _ => exact s46_4
  | 5, _ => exact s46_5
  | 6, _ => exact s46_6
  | 7, _ => exact s46_7
  | 8, _ => exact s46_8
  | 9, _ => exact s46_9
  | i + 10, h => omega
noncomputable def R43p : LRun := postRun R43 pfR
noncomputable def R46 : LRun := simRun A46 n43 rho46 outs46
noncomputable def R46p : LRun := postRun R46 pfR
section
variable {U : Nat → D → D}
theorem told43p (hU : ∀ d, U n43 d = loopVal U A43.inv T43 d) : Sx.Told U T43 R43p := post_told (told43 hU) p43
theorem told46 (hU : ∀ d, U n43 d = loopVal U A43.inv T43 d) : Sx.Told U T46 R46 := simK_told hU r46 s46 (by kernel_rfl)
theorem told46p (hU : ∀ d, U n43 d = loopVal U A43.inv T43 d) : Sx.Told U T46 R46p := post_told (told46 hU) p46
noncomputable def E43 := textL Try.prog ctA (loopsAt [(3, 0, R43p)]) 100 Try.f43 body43
noncomputable def E46 := textL Try.prog ctA (loopsAt [(5, 0, R46p)]) 100 Try.f46 body46
theorem e43 (hU : ∀ d, U n43 d = loopVal U A43.inv T43 d) : EntryOk U Try.prog 43 E43 := loopsFn_entry Try.mixes Try.names ctA_ok Try.func43 (by kernel_rfl) (by kernel_rfl) (fun e he => by rw [List.mem_singleton.1 he]; exact told_ok Try.mixes Try.names ctA_ok (by kernel_rfl) okT43 (told43p hU))
theorem e46 (hU : ∀ d, U n43 d = loopVal U A43.inv T43 d) : EntryOk U Try.prog 46 E46 := loopsFn_entry Try.mixes Try.names ctA_ok Try.func46 (by kernel_rfl) (by kernel_rfl) (fun e he => by rw [List.mem_singleton.1 he]; exact told_ok Try.mixes Try.names ctA_ok (by kernel_rfl) okT46 (told46p hU))
end
end Go.Proofs.Ytaflnmmnaiaceaa
