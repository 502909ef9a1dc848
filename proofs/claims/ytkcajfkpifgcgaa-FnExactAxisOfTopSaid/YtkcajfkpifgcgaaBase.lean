/-
  What all laws of this seat share: the program's closed facts, and the walk with its first contract (the sameness of floats).
-/
import Derived.Test.YtkcajfkpifgcgaaRows
import Derived.Test.YtkcajfkpifgcgaaSxT
namespace Go.Proofs.Ytkcajfkpifgcgaa
open Go.Sx

theorem Try.own : ownKnob Try.prog.godebug = none := by kernel_rfl
theorem Try.laidOut : laidOutB Try.prog = true := by kernel_rfl
theorem Try.names : NamesOk Try.prog := names_ok (by kernel_rfl)
theorem Try.mixes : Try.prog.follows .mixedOrders = true := Try.checked.mixed

noncomputable def cf0 := callX Try.prog noContracts (exec Try.prog noContracts 100)
theorem cf0_ok : CallsOk noU Try.prog cf0 := calls_ok Try.mixes Try.names noContracts_ok 100
theorem same42 : EntryOk noU Try.prog 42 (memoRun [.one (.f .f64), .one (.f .f64)] sameAns) := same_ok cf0_ok 42 (by kernel_rfl)

noncomputable def ct1 : Contracts := noContracts.add 42 (memoRun [.one (.f .f64), .one (.f .f64)] sameAns)
theorem ct1_ok : ContractsOk noU Try.prog ct1 := noContracts_ok.add same42
noncomputable def cf1 := callX Try.prog ct1 (exec Try.prog ct1 100)
theorem cf1_ok : CallsOk noU Try.prog cf1 := calls_ok Try.mixes Try.names ct1_ok 100

end Go.Proofs.Ytkcajfkpifgcgaa
