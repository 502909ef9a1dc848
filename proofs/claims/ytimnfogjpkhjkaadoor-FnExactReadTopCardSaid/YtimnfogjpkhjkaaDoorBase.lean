/-
  What all laws of this seat share: the program's closed facts, and the walk with its first contract (the sameness of floats).
-/
import Derived.Test.YtimnfogjpkhjkaaDoorRows
import Derived.Test.YtimnfogjpkhjkaaDoorSxGe
namespace Go.Proofs.YtimnfogjpkhjkaaDoor
open Go.Sx
set_option maxRecDepth 100000

theorem Tryd.own : ownKnob Tryd.prog.godebug = none := by kernel_rfl
theorem Tryd.laidOut : laidOutB Tryd.prog = true := by kernel_rfl
theorem Tryd.names : NamesOk Tryd.prog := names_ok (by kernel_rfl)
theorem Tryd.mixes : Tryd.prog.follows .mixedOrders = true := Tryd.checked.mixed

abbrev F1 : Pt := .one (.f .f32)
abbrev V3 : Pt := .ag [.f .f32, .f .f32, .f .f32]
abbrev V4 : Pt := .ag [.f .f32, .f .f32, .f .f32, .f .f32]
abbrev V5 : Pt := .ag [.f .f32, .f .f32, .f .f32, .f .f32, .f .f32]
abbrev V10 : Pt := .ag [.f .f32, .f .f32, .f .f32, .f .f32, .f .f32, .f .f32, .f .f32, .f .f32, .f .f32, .f .f32]

theorem at88 : ExtAt Tryd.prog 88 (bitsRow .f32) := ⟨⟨_, Tryd.func88, by kernel_rfl, rfl, by kernel_rfl, by kernel_rfl⟩⟩
theorem ex88 {U : Nat → D → D} : EntryOk U Tryd.prog 88 (bitsRun .f32) := @bits_entry U Tryd.prog .f32 88 at88
noncomputable def ctx88 : Contracts := noContracts.add 88 (bitsRun .f32)
theorem ctx88_ok {U : Nat → D → D} : ContractsOk U Tryd.prog ctx88 := @ContractsOk.add U Tryd.prog noContracts noContracts_ok 88 _ ex88
theorem at87 : ExtAt Tryd.prog 87 (fromRow .f32) := ⟨⟨_, Tryd.func87, by kernel_rfl, rfl, by kernel_rfl, by kernel_rfl⟩⟩
theorem ex87 {U : Nat → D → D} : EntryOk U Tryd.prog 87 (fromRun .f32) := @from_entry U Tryd.prog .f32 87 at87
noncomputable def ctx87 : Contracts := ctx88.add 87 (fromRun .f32)
theorem ctx87_ok {U : Nat → D → D} : ContractsOk U Tryd.prog ctx87 := @ContractsOk.add U Tryd.prog ctx88 ctx88_ok 87 _ ex87
noncomputable def ct0 : Contracts := ctx87
theorem ct0_ok {U : Nat → D → D} : ContractsOk U Tryd.prog ct0 := ctx87_ok
noncomputable def cf0 := callX Tryd.prog ct0 (exec Tryd.prog ct0 100)
theorem cf0_ok {U : Nat → D → D} : CallsOk U Tryd.prog cf0 := @calls_ok U Tryd.prog ct0 Tryd.mixes Tryd.names ct0_ok 100
theorem sameFloat_ok {U : Nat → D → D} : EntryOk U Tryd.prog 24 (memoRun [.one (.f .f64), .one (.f .f64)] sameAns) := @same_ok U Tryd.prog cf0 cf0_ok 24 (by kernel_rfl)

noncomputable def ct1 : Contracts := ct0.add 24 (memoRun [.one (.f .f64), .one (.f .f64)] sameAns)
theorem ct1_ok {U : Nat → D → D} : ContractsOk U Tryd.prog ct1 := @ContractsOk.add U Tryd.prog ct0 ct0_ok 24 _ sameFloat_ok
noncomputable def cf1 := callX Tryd.prog ct1 (exec Tryd.prog ct1 100)
theorem cf1_ok {U : Nat → D → D} : CallsOk U Tryd.prog cf1 := @calls_ok U Tryd.prog ct1 Tryd.mixes Tryd.names ct1_ok 100

end Go.Proofs.YtimnfogjpkhjkaaDoor
