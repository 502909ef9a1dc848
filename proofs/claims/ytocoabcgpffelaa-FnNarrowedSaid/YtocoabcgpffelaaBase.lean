/-
  What all laws of this seat share: the program's closed facts, and the walk with its first contract (the sameness of floats).
-/
import Derived.Test.YtocoabcgpffelaaRows
import Derived.Test.YtocoabcgpffelaaSxGe
namespace Go.Proofs.Ytocoabcgpffelaa
open Go.Sx
set_option maxRecDepth 100000

theorem Try.own : ownKnob Try.prog.godebug = none := by kernel_rfl
theorem Try.laidOut : laidOutB Try.prog = true := by kernel_rfl
theorem Try.names : NamesOk Try.prog := names_ok (by kernel_rfl)
theorem Try.mixes : Try.prog.follows .mixedOrders = true := Try.checked.mixed

abbrev F1 : Pt := .one (.f .f32)
abbrev V3 : Pt := .ag [.f .f32, .f .f32, .f .f32]
abbrev V4 : Pt := .ag [.f .f32, .f .f32, .f .f32, .f .f32]
abbrev V5 : Pt := .ag [.f .f32, .f .f32, .f .f32, .f .f32, .f .f32]
abbrev V10 : Pt := .ag [.f .f32, .f .f32, .f .f32, .f .f32, .f .f32, .f .f32, .f .f32, .f .f32, .f .f32, .f .f32]

theorem at36 : ExtAt Try.prog 36 (bitsRow .f32) := ⟨⟨_, Try.func36, by kernel_rfl, rfl, by kernel_rfl, by kernel_rfl⟩⟩
theorem ex36 {U : Nat → D → D} : EntryOk U Try.prog 36 (bitsRun .f32) := @bits_entry U Try.prog .f32 36 at36
noncomputable def ctx36 : Contracts := noContracts.add 36 (bitsRun .f32)
theorem ctx36_ok {U : Nat → D → D} : ContractsOk U Try.prog ctx36 := @ContractsOk.add U Try.prog noContracts noContracts_ok 36 _ ex36
theorem at38 : ExtAt Try.prog 38 (fromRow .f32) := ⟨⟨_, Try.func38, by kernel_rfl, rfl, by kernel_rfl, by kernel_rfl⟩⟩
theorem ex38 {U : Nat → D → D} : EntryOk U Try.prog 38 (fromRun .f32) := @from_entry U Try.prog .f32 38 at38
noncomputable def ctx38 : Contracts := ctx36.add 38 (fromRun .f32)
theorem ctx38_ok {U : Nat → D → D} : ContractsOk U Try.prog ctx38 := @ContractsOk.add U Try.prog ctx36 ctx36_ok 38 _ ex38
noncomputable def ct0 : Contracts := ctx38
theorem ct0_ok {U : Nat → D → D} : ContractsOk U Try.prog ct0 := ctx38_ok
noncomputable def cf0 := callX Try.prog ct0 (exec Try.prog ct0 100)
theorem cf0_ok {U : Nat → D → D} : CallsOk U Try.prog cf0 := @calls_ok U Try.prog ct0 Try.mixes Try.names ct0_ok 100
noncomputable def ct1 : Contracts := ct0
theorem ct1_ok {U : Nat → D → D} : ContractsOk U Try.prog ct1 := ct0_ok
noncomputable def cf1 := callX Try.prog ct1 (exec Try.prog ct1 100)
theorem cf1_ok {U : Nat → D → D} : CallsOk U Try.prog cf1 := @calls_ok U Try.prog ct1 Try.mixes Try.names ct1_ok 100

end Go.Proofs.Ytocoabcgpffelaa
