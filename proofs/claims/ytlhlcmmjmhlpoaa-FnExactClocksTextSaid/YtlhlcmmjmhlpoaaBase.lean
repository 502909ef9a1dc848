/-
  What all laws of this seat share: the program's closed facts, and the walk with its first contract (the sameness of floats).
-/
import Derived.Test.YtlhlcmmjmhlpoaaRows
import Derived.Test.YtlhlcmmjmhlpoaaSxGe
namespace Go.Proofs.Ytlhlcmmjmhlpoaa
open Go.Sx
set_option maxRecDepth 100000

theorem Try.own : ownKnob Try.prog.godebug = none := by kernel_rfl
theorem Try.laidOut : laidOutB Try.prog = true := by kernel_rfl
theorem Try.names : NamesOk Try.prog := names_ok (by kernel_rfl)
theorem Try.mixes : Try.prog.follows .mixedOrders = true := Try.checked.mixed

abbrev F1 : Pt := .one (.f .f32)
abbrev V3 : Pt := .ag [.f .f32, .f .f32, .f .f32]
abbrev V4 : Pt := .ag [.f .f32, .f .f32, .f .f32, .f .f32]
abbrev V5 : Pt := .ag [.f .f32, .f .f32, .f .f32, .f .f32, .f .f32]
abbrev V10 : Pt := .ag [.f .f32, .f .f32, .f .f32, .f .f32, .f .f32, .f .f32, .f .f32, .f .f32, .f .f32, .f .f32]

theorem at40 : ExtAt Try.prog 40 (bitsRow .f32) := ⟨⟨_, Try.func40, by kernel_rfl, rfl, by kernel_rfl, by kernel_rfl⟩⟩
theorem ex40 {U : Nat → D → D} : EntryOk U Try.prog 40 (bitsRun .f32) := @bits_entry U Try.prog .f32 40 at40
noncomputable def ctx40 : Contracts := noContracts.add 40 (bitsRun .f32)
theorem ctx40_ok {U : Nat → D → D} : ContractsOk U Try.prog ctx40 := @ContractsOk.add U Try.prog noContracts noContracts_ok 40 _ ex40
noncomputable def ct0 : Contracts := ctx40
theorem ct0_ok {U : Nat → D → D} : ContractsOk U Try.prog ct0 := ctx40_ok
noncomputable def cf0 := callX Try.prog ct0 (exec Try.prog ct0 100)
theorem cf0_ok {U : Nat → D → D} : CallsOk U Try.prog cf0 := @calls_ok U Try.prog ct0 Try.mixes Try.names ct0_ok 100
theorem sameFloat_ok {U : Nat → D → D} : EntryOk U Try.prog 29 (memoRun [.one (.f .f64), .one (.f .f64)] sameAns) := @same_ok U Try.prog cf0 cf0_ok 29 (by kernel_rfl)

noncomputable def ct1 : Contracts := ct0.add 29 (memoRun [.one (.f .f64), .one (.f .f64)] sameAns)
theorem ct1_ok {U : Nat → D → D} : ContractsOk U Try.prog ct1 := @ContractsOk.add U Try.prog ct0 ct0_ok 29 _ sameFloat_ok
noncomputable def cf1 := callX Try.prog ct1 (exec Try.prog ct1 100)
theorem cf1_ok {U : Nat → D → D} : CallsOk U Try.prog cf1 := @calls_ok U Try.prog ct1 Try.mixes Try.names ct1_ok 100

end Go.Proofs.Ytlhlcmmjmhlpoaa
