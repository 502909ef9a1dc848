/-
  RunWh: all words of RunHeavy's law, and its walk's contracts.
-/
import Derived.Test.YtaflnmmnaiaceaaRunTh
import Derived.Test.YtaflnmmnaiaceaaRunM
namespace Go.Proofs.Ytaflnmmnaiaceaa
open Go.Sx
set_option maxRecDepth 100000
def idU : Nat → D → D := fun _ d => d
noncomputable def runU : Nat → D → D := fun n d => bif Nat.beq n 1 then loopVal idU A43h.inv T43h d else bif Nat.beq n 2 then markD d else bif Nat.beq n 3 then loopVal idU markInv heldT d else bif Nat.beq n 4 then loopVal idU A18.inv T18 d else d
theorem w0 (d : D) : runU 1 d = loopVal runU A43h.inv T43h d := (show runU 1 d = loopVal idU A43h.inv T43h d by kernel_rfl).trans (loopVal_below (N := 0) (fun _ h => absurd h (Nat.not_lt_zero _)) (by kernel_rfl) (by rw [l43h]; kernel_rfl) d)
theorem w2 (d : D) : runU 2 d = markD d := by kernel_rfl
theorem w3 (d : D) : runU 3 d = loopVal runU markInv heldT d := (show runU 3 d = loopVal idU markInv heldT d by kernel_rfl).trans (loopVal_below (N := 0) (fun _ h => absurd h (Nat.not_lt_zero _)) (by kernel_rfl) (by kernel_rfl) d)
theorem w4 (d : D) : runU 4 d = loopVal runU A18.inv T18 d := (show runU 4 d = loopVal idU A18.inv T18 d by kernel_rfl).trans (loopVal_below (N := 0) (fun _ h => absurd h (Nat.not_lt_zero _)) (by kernel_rfl) (by kernel_rfl) d)
noncomputable def ctR : Contracts := ((((ctA.add 43 E43).add 46 E46).add 18 E18).add 19 E19).add 20 E20
theorem ctR_ok : ContractsOk runU Try.prog ctR := ((((ctA_ok.add (e43 w0)).add (e46 w0)).add (e18 w4)).add (e19 w2)).add (e20 w2 w3)
noncomputable def cfR := callX Try.prog ctR (exec Try.prog ctR 100)
theorem cfR_ok : CallsOk runU Try.prog cfR := @calls_ok runU Try.prog ctR Try.mixes Try.names ctR_ok 100
abbrev topArg : AArg := .ag [.sc (.f .f32), .sc (.f .f32), .sc (.f .f32), .sc (.f .f32), .sc (.f .f32), .sc (.f .f32), .sc (.f .f32), .sc (.f .f32), .sc (.f .f32), .sc (.f .f32)]
abbrev runAs : List AArg := [topArg, .one (.sc (.f .f32)), .one (.sc (.f .f32)), .one (.sc (.f .f32)), .one (.sc (.i .i64))]
end Go.Proofs.Ytaflnmmnaiaceaa
