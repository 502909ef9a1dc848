/-
  What all laws of this seat share: the program's closed facts, and the walk with its first contract (the sameness of floats).
-/
import Derived.Test.YtagchccdnpofaaaRows
import Derived.Test.YtagchccdnpofaaaSxGe
namespace Go.Proofs.Ytagchccdnpofaaa
open Go.Sx
set_option maxRecDepth 100000

theorem Try.own : ownKnob Try.prog.godebug = none := by kernel_rfl
theorem Try.laidOut : laidOutB Try.prog = true := by kernel_rfl
theorem Try.names : NamesOk Try.prog := names_ok (by kernel_rfl)
theorem Try.mixes : Try.prog.follows .mixedOrders = true := Try.checked.mixed

abbrev F1 : Pt := .one (.f .f32)
abbrev V3 : Pt := .ag [.f .f32, .f .f32, .f .f32]
abbrev V4 : Pt := .ag [.f .f32, .f .f32, .f .f32, .f .f32]
abbrev V5 : Pt := .ag [.f .f32, .f .f32, .f .f32, .f .f32, .f .f32]
abbrev V10 : Pt := .ag [.f .f32, .f .f32, .f .f32, .f .f32, .f .f32, .f .f32, .f .f32, .f .f32, .f .f32, .f .f32]

theorem at162 : ExtAt Try.prog 162 Extern.MathSqrt.sqrt := ⟨⟨_, Try.func162, by kernel_rfl, rfl, by kernel_rfl, by kernel_rfl⟩⟩
theorem ex162 {U : Nat → D → D} : EntryOk U Try.prog 162 sqrtRun := @sqrt_entry U Try.prog 162 at162
noncomputable def ctx162 : Contracts := noContracts.add 162 sqrtRun
theorem ctx162_ok {U : Nat → D → D} : ContractsOk U Try.prog ctx162 := @ContractsOk.add U Try.prog noContracts noContracts_ok 162 _ ex162
theorem at166 : ExtAt Try.prog 166 (bitsRow .f32) := ⟨⟨_, Try.func166, by kernel_rfl, rfl, by kernel_rfl, by kernel_rfl⟩⟩
theorem ex166 {U : Nat → D → D} : EntryOk U Try.prog 166 (bitsRun .f32) := @bits_entry U Try.prog .f32 166 at166
noncomputable def ctx166 : Contracts := ctx162.add 166 (bitsRun .f32)
theorem ctx166_ok {U : Nat → D → D} : ContractsOk U Try.prog ctx166 := @ContractsOk.add U Try.prog ctx162 ctx162_ok 166 _ ex166
noncomputable def ct0 : Contracts := ctx166
theorem ct0_ok {U : Nat → D → D} : ContractsOk U Try.prog ct0 := ctx166_ok
noncomputable def cf0 := callX Try.prog ct0 (exec Try.prog ct0 100)
theorem cf0_ok {U : Nat → D → D} : CallsOk U Try.prog cf0 := @calls_ok U Try.prog ct0 Try.mixes Try.names ct0_ok 100
theorem sameFloat_ok {U : Nat → D → D} : EntryOk U Try.prog 21 (memoRun [.one (.f .f64), .one (.f .f64)] sameAns) := @same_ok U Try.prog cf0 cf0_ok 21 (by kernel_rfl)

noncomputable def ct1 : Contracts := ct0.add 21 (memoRun [.one (.f .f64), .one (.f .f64)] sameAns)
theorem ct1_ok {U : Nat → D → D} : ContractsOk U Try.prog ct1 := @ContractsOk.add U Try.prog ct0 ct0_ok 21 _ sameFloat_ok
noncomputable def cf1 := callX Try.prog ct1 (exec Try.prog ct1 100)
theorem cf1_ok {U : Nat → D → D} : CallsOk U Try.prog cf1 := @calls_ok U Try.prog ct1 Try.mixes Try.names ct1_ok 100

end Go.Proofs.Ytagchccdnpofaaa
