/-
  What all laws of this seat share: the program's closed facts, and the walk with its first contract (the sameness of floats).
-/
import Derived.Test.YtdgenclminhcdaaRows
import Derived.Test.YtdgenclminhcdaaSxV
namespace Go.Proofs.Ytdgenclminhcdaa
open Go.Sx
set_option maxRecDepth 100000

theorem Try.own : ownKnob Try.prog.godebug = none := by kernel_rfl
theorem Try.laidOut : laidOutB Try.prog = true := by kernel_rfl
theorem Try.names : NamesOk Try.prog := names_ok (by kernel_rfl)
theorem Try.mixes : Try.prog.follows .mixedOrders = true := Try.checked.mixed

abbrev F1 : Pt := .one (.f .f32)
abbrev V3 : Pt := .ag [.f .f32, .f .f32, .f .f32]
abbrev V4 : Pt := .ag [.f .f32, .f .f32, .f .f32, .f .f32]
abbrev V5 : Pt := .ag [.f .f32, .f .f32, .f .f32, .f .f32, .f .f32]
abbrev V10 : Pt := .ag [.f .f32, .f .f32, .f .f32, .f .f32, .f .f32, .f .f32, .f .f32, .f .f32, .f .f32, .f .f32]

noncomputable def cf0 := callX Try.prog noContracts (exec Try.prog noContracts 100)
theorem cf0_ok : CallsOk noU Try.prog cf0 := @calls_ok noU Try.prog noContracts Try.mixes Try.names noContracts_ok 100
theorem sameFloat_ok : EntryOk noU Try.prog 26 (memoRun [.one (.f .f64), .one (.f .f64)] sameAns) := @same_ok noU Try.prog cf0 cf0_ok 26 (by kernel_rfl)

noncomputable def ct1 : Contracts := noContracts.add 26 (memoRun [.one (.f .f64), .one (.f .f64)] sameAns)
theorem ct1_ok : ContractsOk noU Try.prog ct1 := @ContractsOk.add noU Try.prog noContracts noContracts_ok 26 _ sameFloat_ok
noncomputable def cf1 := callX Try.prog ct1 (exec Try.prog ct1 100)
theorem cf1_ok : CallsOk noU Try.prog cf1 := @calls_ok noU Try.prog ct1 Try.mixes Try.names ct1_ok 100

end Go.Proofs.Ytdgenclminhcdaa
