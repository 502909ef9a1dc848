/-
  RunTh: the loops of RunHeavy, told.
-/
import Derived.Test.YtaflnmmnaiaceaaRunKh
import Derived.Test.YtaflnmmnaiaceaaRunSha
import Derived.Test.YtaflnmmnaiaceaaRunShb
namespace Go.Proofs.Ytaflnmmnaiaceaa
open Go.Sx
set_option maxRecDepth 100000
theorem n46h : leavesN L46h = 18 := by kernel_rfl
theorem s46h : simOkK A43h.inv A46h.inv rho46h outs46h T43h T46h = true := by
  rw [l43h, l46h]
  refine simI_join (by kernel_rfl) fun i hi => ?_
  rw [n46h] at hi
  match i, hi with
  | 0, _ => exact s46h_0
  | 1, _ => exact s46h_1
  | 2, _ => exact s46h_2
  | 3, _ => exact s46h_3
  | 4, _ => exact s46h_4
  | 5, _ => exact s46h_5
  | 6, _ => exact s46h_6
  | 7, _ => exact s46h_7
  | 8, _ => exact s46h_8
  | 9, _ => exact s46h_9
  | 10, _ => exact s46h_10
  | 11, _ => exact s46h_11
  | 12, _ => exact s46h_12
  | 13, _ => exact s46h_13
  | 14, _ => exact s46h_14
  | 15, _ => exact s46h_15
  | 16, _ => exact s46h_16
  | 17, _ => exact s46h_17
  | i + 18, h => omega
noncomputable def R43h : LRun := wordRun A43h 1 outs43h
noncomputable def R43p : LRun := postRun R43h pfR
noncomputable def R46h : LRun := simRun A46h 1 rho46h outs46h
noncomputable def R46p : LRun := postRun R46h pfRh
section
variable {U : Nat → D → D}
theorem told43p (hU : ∀ d, U 1 d = loopVal U A43h.inv T43h d) : Sx.Told U T43h R43p := post_told (wordK_told hU r43h (by kernel_rfl)) p43h
theorem told46p (hU : ∀ d, U 1 d = loopVal U A43h.inv T43h d) : Sx.Told U T46h R46p := post_told (simK_told hU r46h s46h (by kernel_rfl)) p46h
noncomputable def E43 := textL Try.prog ctA (loopsAt [(3, 0, R43p)]) 100 Try.f43 body43
noncomputable def E46 := textL Try.prog ctA (loopsAt [(5, 0, R46p)]) 100 Try.f46 body46
theorem e43 (hU : ∀ d, U 1 d = loopVal U A43h.inv T43h d) : EntryOk U Try.prog 43 E43 := loopsFn_entry Try.mixes Try.names ctA_ok Try.func43 (by kernel_rfl) (by kernel_rfl) (fun e he => by rw [List.mem_singleton.1 he]; exact told_ok Try.mixes Try.names ctA_ok (by kernel_rfl) okT43h (told43p hU))
theorem e46 (hU : ∀ d, U 1 d = loopVal U A43h.inv T43h d) : EntryOk U Try.prog 46 E46 := loopsFn_entry Try.mixes Try.names ctA_ok Try.func46 (by kernel_rfl) (by kernel_rfl) (fun e he => by rw [List.mem_singleton.1 he]; exact told_ok Try.mixes Try.names ctA_ok (by kernel_rfl) okT46h (told46p hU))
end
end Go.Proofs.Ytaflnmmnaiaceaa
