/-
  What all laws of this seat share: the program's closed facts, and the walk with its first contract (the sameness of floats).
-/
import Derived.Test.YtcloacigldklkaaDoorRows
import Derived.Test.YtcloacigldklkaaDoorSxGe
namespace Go.Proofs.YtcloacigldklkaaDoor
open Go.Sx
set_option maxRecDepth 100000

theorem Tryd.own : ownKnob Tryd.prog.godebug = none := by kernel_rfl
theorem Tryd.laidOut : laidOutB Tryd.prog = true := by kernel_rfl
theorem Tryd.names : NamesOk Tryd.prog := names_ok (by kernel_rfl)
theorem Tryd.mixes : Tryd.prog.follows .mixedOrders = true := Tryd.checked.mixed

abbrev F1 : Pt := .one (.f .f32)
abbrev V3 : Pt := .ag [.f .f32, .f .f32, .f .f32]
abbrev V4 : Pt := .ag [.f .f32, .f .f32, .f .f32, .f .f32]
abbrev V5 : Pt := .ag [.f .f32, .f .f32, .f .f32, .f .f32, .f .f32]
abbrev V10 : Pt := .ag [.f .f32, .f .f32, .f .f32, .f .f32, .f .f32, .f .f32, .f .f32, .f .f32, .f .f32, .f .f32]

theorem at46 : ExtAt Tryd.prog 46 (bitsRow .f32) := ⟨⟨_, Tryd.func46, by kernel_rfl, rfl, by kernel_rfl, by kernel_rfl⟩⟩
theorem ex46 {U : Nat → D → D} : EntryOk U Tryd.prog 46 (bitsRun .f32) := @bits_entry U Tryd.prog .f32 46 at46
noncomputable def ctx46 : Contracts := noContracts.add 46 (bitsRun .f32)
theorem ctx46_ok {U : Nat → D → D} : ContractsOk U Tryd.prog ctx46 := @ContractsOk.add U Tryd.prog noContracts noContracts_ok 46 _ ex46
theorem at56 : ExtAt Tryd.prog 56 (fromRow .f32) := ⟨⟨_, Tryd.func56, by kernel_rfl, rfl, by kernel_rfl, by kernel_rfl⟩⟩
theorem ex56 {U : Nat → D → D} : EntryOk U Tryd.prog 56 (fromRun .f32) := @from_entry U Tryd.prog .f32 56 at56
noncomputable def ctx56 : Contracts := ctx46.add 56 (fromRun .f32)
theorem ctx56_ok {U : Nat → D → D} : ContractsOk U Tryd.prog ctx56 := @ContractsOk.add U Tryd.prog ctx46 ctx46_ok 56 _ ex56
theorem at47 : ExtAt Tryd.prog 47 Extern.MathSqrt.sqrt := ⟨⟨_, Tryd.func47, by kernel_rfl, rfl, by kernel_rfl, by kernel_rfl⟩⟩
theorem ex47 {U : Nat → D → D} : EntryOk U Tryd.prog 47 sqrtRun := @sqrt_entry U Tryd.prog 47 at47
noncomputable def ctx47 : Contracts := ctx56.add 47 sqrtRun
theorem ctx47_ok {U : Nat → D → D} : ContractsOk U Tryd.prog ctx47 := @ContractsOk.add U Tryd.prog ctx56 ctx56_ok 47 _ ex47
noncomputable def ct0 : Contracts := ctx47
theorem ct0_ok {U : Nat → D → D} : ContractsOk U Tryd.prog ct0 := ctx47_ok
noncomputable def cf0 := callX Tryd.prog ct0 (exec Tryd.prog ct0 100)
theorem cf0_ok {U : Nat → D → D} : CallsOk U Tryd.prog cf0 := @calls_ok U Tryd.prog ct0 Tryd.mixes Tryd.names ct0_ok 100
noncomputable def ct1 : Contracts := ct0
theorem ct1_ok {U : Nat → D → D} : ContractsOk U Tryd.prog ct1 := ct0_ok
noncomputable def cf1 := callX Tryd.prog ct1 (exec Tryd.prog ct1 100)
theorem cf1_ok {U : Nat → D → D} : CallsOk U Tryd.prog cf1 := @calls_ok U Tryd.prog ct1 Tryd.mixes Tryd.names ct1_ok 100

end Go.Proofs.YtcloacigldklkaaDoor
