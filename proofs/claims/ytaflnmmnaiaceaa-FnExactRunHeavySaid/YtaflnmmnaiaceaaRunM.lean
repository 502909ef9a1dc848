/-
  RunM: rows compared, marked, and asked for their marks; the words of the laws of runs.
-/
import Derived.Test.YtaflnmmnaiaceaaRunT
import Derived.Test.YtaflnmmnaiaceaaSxMk
import Derived.Test.YtaflnmmnaiaceaaSxSb
namespace Go.Proofs.Ytaflnmmnaiaceaa
open Go.Sx
set_option maxRecDepth 100000
abbrev rowB (ks : List Sk) : BP := ⟨false, [], some ks⟩
noncomputable def body18 : Code := (Try.f18.body).getD .skip
noncomputable def body19 : Code := (Try.f19.body).getD .skip
noncomputable def body20 : Code := (Try.f20.body).getD .skip
noncomputable def A18 : LoopT := ⟨⟨Try.f18.ntmps, 2, [(0, .slo 0 3), (1, .slo 1 3), (5, .one (.i .i64))], [rowB KV, rowB KV]⟩, [.o2 .ile (.i 0) (.v 2), .o2 .ile (.o1 .llen (.v 0)) (.i 1048576), .o2 .ieq (.o1 .llen (.v 1)) (.o1 .llen (.v 0))], [(.exit 0, ⟨Try.f18.ntmps, 2, [(0, .slo 0 3), (1, .slo 1 3)], [rowB KV, rowB KV]⟩), (.ret, ⟨Try.f18.ntmps, 2, [(0, .slo 0 3), (1, .slo 1 3), (4, .one .b)], [rowB KV, rowB KV]⟩)]⟩
noncomputable def T18 : Tree LRes := mapT A18.leaf (execL Try.prog ct1 (fun _ => none) 100 (bodyOf body18 0) A18.s0)
noncomputable def A19 : LoopT := markA Try.f19.ntmps
noncomputable def T19 : Tree LRes := mapT A19.leaf (execL Try.prog ct1 (fun _ => none) 100 (bodyOf body19 0) A19.s0)
noncomputable def A20 : LoopT := heldA Try.f20.ntmps
noncomputable def T20 : Tree LRes := mapT A20.leaf (execL Try.prog ct1 (fun _ => none) 100 (bodyOf body20 0) A20.s0)
def OQ : List (List OutW) := [[.same 0, .same 1], [.same 0, .same 1, .lit (.b false)]]
noncomputable def R18 : LRun := eqRun A18 4 0 1 OQ
noncomputable def R19 : LRun := markRun Try.f19.ntmps 2
noncomputable def R20 : LRun := heldRun Try.f20.ntmps 2 3
noncomputable def E18 := textL Try.prog ct1 (oneLoop 4 R18) 100 Try.f18 body18
noncomputable def E19 := textL Try.prog ct1 (oneLoop 2 R19) 100 Try.f19 body19
noncomputable def E20 := textL Try.prog ct1 (oneLoop 2 R20) 100 Try.f20 body20
theorem okT18 : okA 1000 T18 = true := by kernel_rfl
theorem t19 : T19 = markT := by kernel_rfl
theorem t20 : T20 = heldT := by kernel_rfl
section
variable {U : Nat → D → D}
theorem told18 (hU : ∀ d, U 4 d = loopVal U A18.inv T18 d) : Sx.Told U T18 R18 := eq_told (C := [0, 1]) (mu := .o2 .isub (.o1 .llen (.v 0)) (.v 2)) hU (by kernel_rfl) okT18 (by kernel_rfl) (by kernel_rfl) (by kernel_rfl) (by kernel_rfl) (by kernel_rfl)
theorem told19 (hN : ∀ d, U 2 d = markD d) : Sx.Told U T19 R19 := mark_told t19 hN
theorem told20 (hN : ∀ d, U 2 d = markD d) (hU : ∀ d, U 3 d = loopVal U markInv heldT d) : Sx.Told U T20 R20 := held_told t20 hN hU
theorem e18 (hU : ∀ d, U 4 d = loopVal U A18.inv T18 d) : EntryOk U Try.prog 18 E18 := loopFn_entry (key := 4) (R := R18) Try.mixes Try.names ct1_ok Try.func18 (by kernel_rfl) (by kernel_rfl) (by kernel_rfl) okT18 (told18 hU)
theorem e19 (hN : ∀ d, U 2 d = markD d) : EntryOk U Try.prog 19 E19 := loopFn_entry (key := 2) (R := R19) Try.mixes Try.names ct1_ok Try.func19 (by kernel_rfl) (by kernel_rfl) (by kernel_rfl) (by rw [show mapT R19.loop.leaf (execL Try.prog ct1 (fun _ => none) 100 (bodyOf body19 0) R19.loop.s0) = markT from t19]; kernel_rfl) (told19 hN)
theorem e20 (hN : ∀ d, U 2 d = markD d) (hU : ∀ d, U 3 d = loopVal U markInv heldT d) : EntryOk U Try.prog 20 E20 := loopFn_entry (key := 2) (R := R20) Try.mixes Try.names ct1_ok Try.func20 (by kernel_rfl) (by kernel_rfl) (by kernel_rfl) (by rw [show mapT R20.loop.leaf (execL Try.prog ct1 (fun _ => none) 100 (bodyOf body20 0) R20.loop.s0) = heldT from t20]; kernel_rfl) (told20 hN hU)
end
end Go.Proofs.Ytaflnmmnaiaceaa
