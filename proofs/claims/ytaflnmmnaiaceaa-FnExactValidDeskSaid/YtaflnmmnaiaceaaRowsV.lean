/-
  Desks: the loops that look whether chains and clocks are right, each told once.
-/
import Derived.Test.YtaflnmmnaiaceaaDesks
import Derived.Test.YtaflnmmnaiaceaaSxPt
namespace Go.Proofs.Ytaflnmmnaiaceaa
open Go.Sx
set_option maxRecDepth 100000

def finP (e : E) : E := .o2 (.feq .f32) (.o2 (.fsub .f32) e e) (.f (some 0))
def bandL : List E → E
  | [] => .b true
  | [x] => x
  | x :: l => .o2 .band x (bandL l)
def PV : E := bandL [finP (.v 0), finP (.v 1), finP (.v 2)]
def PL : E := bandL [finP (.v 0), .o2 (.fle .f32) (.f (some 0)) (.v 0)]
def PR : E := bandL [.o2 .ile (.i 0) (.v 0), .o2 .ile (.v 0) (.o2 .iadd (.v 3) (.i (-1))), .o2 .ile (.i 0) (.v 1), .o2 .ile (.v 1) (.o2 .iadd (.v 3) (.i (-1))), .o1 .not (.o2 .ieq (.v 0) (.v 1)), finP (.v 2), .o2 (.fle .f32) (.f (some 0)) (.v 2)]
def PC : E := bandL [.o2 (.fle .f32) (.f (some 0)) (.v 0), .o1 .not (.o2 (.fle .f32) (.f (some 1065353216)) (.v 0)), finP (.v 1)]
def PF : E := finP (.v 0)
abbrev anys (n : Nat) : List LP := List.replicate n .any
abbrev cellB (l : List LP) : BP := ⟨false, l, none⟩
noncomputable def body138 : Code := (Try.f138.body).getD .skip
noncomputable def body139 : Code := (Try.f139.body).getD .skip
noncomputable def body166 : Code := (Try.f166.body).getD .skip
noncomputable def body179 : Code := (Try.f179.body).getD .skip
noncomputable def body181 : Code := (Try.f181.body).getD .skip
noncomputable def body182 : Code := (Try.f182.body).getD .skip
noncomputable def A138a : LoopT := ⟨⟨Try.f138.ntmps, 4, [(0, .ptr 0 8), (3, .one (.i .i64)), (44, .one (.i .i64)), (45, .one (.i .i64))], [cellB (anys 8 ++ [.slo 1 3, .slo 2 3, .slo 3 1] ++ anys 13), rowB KV, rowB KV, rowB KF]⟩, [.o2 .ile (.i 0) (.v 6), .o2 .ile (.o1 .llen (.v 1)) (.i 1048576), .o2 .ieq (.o1 .llen (.v 2)) (.o1 .llen (.v 1)), .o2 .ieq (.o1 .llen (.v 3)) (.o1 .llen (.v 1)), .o2 .ieq (.v 5) (.o1 .llen (.v 1))], [(.exit 0, ⟨Try.f138.ntmps, 4, [(0, .ptr 0 8), (3, .one (.i .i64))], [cellB (anys 8 ++ [.slo 1 3, .slo 2 3, .slo 3 1] ++ anys 13), rowB KV, rowB KV, rowB KF]⟩), (.ret, ⟨Try.f138.ntmps, 4, [(0, .ptr 0 8), (2, .one .b)], [cellB (anys 8 ++ [.slo 1 3, .slo 2 3, .slo 3 1] ++ anys 13), rowB KV, rowB KV, rowB KF]⟩)]⟩
noncomputable def T138a : Tree LRes := mapT A138a.leaf (execL Try.prog ct2 (fun _ => none) 100 (bodyOf body138 0) A138a.s0)
noncomputable def A138b : LoopT := ⟨⟨Try.f138.ntmps, 2, [(0, .ptr 0 8), (3, .one (.i .i64)), (84, .one (.i .i64)), (85, .one (.i .i64))], [cellB (anys 11 ++ [.slo 1 3] ++ anys 12), rowB KR]⟩, [.o2 .ile (.i 0) (.v 4), .o2 .ile (.o1 .llen (.v 1)) (.i 1048576), .o2 .ieq (.v 3) (.o1 .llen (.v 1)), .o2 .ile (.i 0) (.v 2), .o2 .ile (.v 2) (.i 1048576)], [(.exit 2, ⟨Try.f138.ntmps, 2, [(0, .ptr 0 8)], [cellB (anys 11 ++ [.slo 1 3] ++ anys 12), rowB KR]⟩), (.ret, ⟨Try.f138.ntmps, 2, [(0, .ptr 0 8), (2, .one .b)], [cellB (anys 11 ++ [.slo 1 3] ++ anys 12), rowB KR]⟩)]⟩
noncomputable def T138b : Tree LRes := mapT A138b.leaf (execL Try.prog ct2 (fun _ => none) 100 (bodyOf body138 1) A138b.s0)
noncomputable def A139a : LoopT := ⟨⟨Try.f139.ntmps, 2, [(0, .ptr 0 22), (32, .one (.i .i64)), (33, .one (.i .i64))], [cellB (anys 22 ++ [.slo 1 2] ++ anys 1), rowB KC]⟩, [.o2 .ile (.i 0) (.v 3), .o2 .ile (.o1 .llen (.v 1)) (.i 1048576), .o2 .ieq (.v 2) (.o1 .llen (.v 1))], [(.exit 0, ⟨Try.f139.ntmps, 2, [(0, .ptr 0 22)], [cellB (anys 22 ++ [.slo 1 2] ++ anys 1), rowB KC]⟩), (.ret, ⟨Try.f139.ntmps, 2, [(0, .ptr 0 22), (2, .one .b)], [cellB (anys 22 ++ [.slo 1 2] ++ anys 1), rowB KC]⟩)]⟩
noncomputable def T139a : Tree LRes := mapT A139a.leaf (execL Try.prog ct2 (fun _ => none) 100 (bodyOf body139 0) A139a.s0)
noncomputable def A139b : LoopT := ⟨⟨Try.f139.ntmps, 2, [(0, .ptr 0 22), (74, .one (.i .i64)), (75, .one (.i .i64))], [cellB (anys 23 ++ [.slo 1 1]), rowB KF]⟩, [.o2 .ile (.i 0) (.v 3), .o2 .ile (.o1 .llen (.v 1)) (.i 1048576), .o2 .ieq (.v 2) (.o1 .llen (.v 1))], [(.exit 2, ⟨Try.f139.ntmps, 2, [(0, .ptr 0 22)], [cellB (anys 23 ++ [.slo 1 1]), rowB KF]⟩), (.ret, ⟨Try.f139.ntmps, 2, [(0, .ptr 0 22), (2, .one .b)], [cellB (anys 23 ++ [.slo 1 1]), rowB KF]⟩)]⟩
noncomputable def T139b : Tree LRes := mapT A139b.leaf (execL Try.prog ct2 (fun _ => none) 100 (bodyOf body139 1) A139b.s0)
noncomputable def A179 : LoopT := ⟨⟨Try.f179.ntmps, 1, [(0, .slo 0 3), (1, .fn0 141), (7, .one (.i .i64)), (8, .one (.i .i64))], [rowB KV]⟩, [.o2 .ile (.i 0) (.v 2), .o2 .ile (.o1 .llen (.v 0)) (.i 1048576), .o2 .ieq (.v 1) (.o1 .llen (.v 0))], [(.exit 0, ⟨Try.f179.ntmps, 1, [(0, .slo 0 3)], [rowB KV]⟩), (.ret, ⟨Try.f179.ntmps, 1, [(0, .slo 0 3), (4, .one (.i .i64))], [rowB KV]⟩)]⟩
noncomputable def T179 : Tree LRes := mapT A179.leaf (execL Try.prog ct2 (fun _ => none) 100 (bodyOf body179 0) A179.s0)
noncomputable def A166a : LoopT := ⟨⟨Try.f166.ntmps, 1, [(0, .slo 0 1), (1, .fn0 142), (7, .one (.i .i64)), (8, .one (.i .i64))], [rowB KF]⟩, [.o2 .ile (.i 0) (.v 2), .o2 .ile (.o1 .llen (.v 0)) (.i 1048576), .o2 .ieq (.v 1) (.o1 .llen (.v 0))], [(.exit 0, ⟨Try.f166.ntmps, 1, [(0, .slo 0 1)], [rowB KF]⟩), (.ret, ⟨Try.f166.ntmps, 1, [(0, .slo 0 1), (4, .one (.i .i64))], [rowB KF]⟩)]⟩
noncomputable def T166a : Tree LRes := mapT A166a.leaf (execL Try.prog ct2 (fun _ => none) 100 (bodyOf body166 0) A166a.s0)
noncomputable def A166b : LoopT := ⟨⟨Try.f166.ntmps, 1, [(0, .slo 0 1), (1, .fn0 107), (7, .one (.i .i64)), (8, .one (.i .i64))], [rowB KF]⟩, [.o2 .ile (.i 0) (.v 2), .o2 .ile (.o1 .llen (.v 0)) (.i 1048576), .o2 .ieq (.v 1) (.o1 .llen (.v 0))], [(.exit 0, ⟨Try.f166.ntmps, 1, [(0, .slo 0 1)], [rowB KF]⟩), (.ret, ⟨Try.f166.ntmps, 1, [(0, .slo 0 1), (4, .one (.i .i64))], [rowB KF]⟩)]⟩
noncomputable def T166b : Tree LRes := mapT A166b.leaf (execL Try.prog ct2 (fun _ => none) 100 (bodyOf body166 0) A166b.s0)
noncomputable def A182 : LoopT := ⟨⟨Try.f182.ntmps, 1, [(0, .slo 0 2), (1, .fn0 148), (7, .one (.i .i64)), (8, .one (.i .i64))], [rowB KC]⟩, [.o2 .ile (.i 0) (.v 2), .o2 .ile (.o1 .llen (.v 0)) (.i 1048576), .o2 .ieq (.v 1) (.o1 .llen (.v 0))], [(.exit 0, ⟨Try.f182.ntmps, 1, [(0, .slo 0 2)], [rowB KC]⟩), (.ret, ⟨Try.f182.ntmps, 1, [(0, .slo 0 2), (4, .one (.i .i64))], [rowB KC]⟩)]⟩
noncomputable def T182 : Tree LRes := mapT A182.leaf (execL Try.prog ct2 (fun _ => none) 100 (bodyOf body182 0) A182.s0)
noncomputable def A181 : LoopT := ⟨⟨Try.f181.ntmps, 3, [(0, .slo 1 3), (1, .fn1 144 0 0), (7, .one (.i .i64)), (8, .one (.i .i64))], [cellB [.slo 2 3], rowB KR, rowB KV]⟩, [.o2 .ile (.i 0) (.v 4), .o2 .ile (.o1 .llen (.v 1)) (.i 1048576), .o2 .ile (.o1 .llen (.v 2)) (.i 1048576), .o2 .ieq (.v 3) (.o1 .llen (.v 1))], [(.exit 0, ⟨Try.f181.ntmps, 3, [(0, .slo 1 3), (1, .fn1 144 0 0)], [cellB [.slo 2 3], rowB KR, rowB KV]⟩), (.ret, ⟨Try.f181.ntmps, 3, [(0, .slo 1 3), (1, .fn1 144 0 0), (4, .one (.i .i64))], [cellB [.slo 2 3], rowB KR, rowB KV]⟩)]⟩
noncomputable def T181 : Tree LRes := mapT A181.leaf (execL Try.prog ct2 (fun _ => none) 100 (bodyOf body181 0) A181.s0)
/-- The words of these loops. -/
structure ValidWords (U : Nat → D → D) : Prop where
  w20 : ∀ d, U 20 d = allVal 3 PV d
  w21 : ∀ d, U 21 d = allVal 1 PL d
  w22 : ∀ d, U 22 d = allVal 3 PR d
  w23 : ∀ d, U 23 d = allVal 2 PC d
  w24 : ∀ d, U 24 d = allVal 1 PF d
  w30 : ∀ d, U 30 d = loopVal U A179.inv T179 d
  w31 : ∀ d, U 31 d = loopVal U A166a.inv T166a d
  w32 : ∀ d, U 32 d = loopVal U A166b.inv T166b d
  w33 : ∀ d, U 33 d = loopVal U A181.inv T181 d
  w34 : ∀ d, U 34 d = loopVal U A182.inv T182 d
noncomputable def validU : Nat → D → D := fun n d => bif Nat.beq n 20 then allVal 3 PV d else bif Nat.beq n 21 then allVal 1 PL d else bif Nat.beq n 22 then allVal 3 PR d else bif Nat.beq n 23 then allVal 2 PC d else bif Nat.beq n 24 then allVal 1 PF d else bif Nat.beq n 30 then loopVal idU A179.inv T179 d else bif Nat.beq n 31 then loopVal idU A166a.inv T166a d else bif Nat.beq n 32 then loopVal idU A166b.inv T166b d else bif Nat.beq n 33 then loopVal idU A181.inv T181 d else bif Nat.beq n 34 then loopVal idU A182.inv T182 d else d
/-- Words that hold these loops are such words. -/
theorem validWords {U : Nat → D → D} (h : ∀ n, Nat.ble 20 n = true → Nat.ble n 34 = true → ∀ d, U n d = validU n d) : ValidWords U where
  w20 d := (h 20 rfl rfl d).trans (show validU 20 d = allVal 3 PV d by kernel_rfl)
  w21 d := (h 21 rfl rfl d).trans (show validU 21 d = allVal 1 PL d by kernel_rfl)
  w22 d := (h 22 rfl rfl d).trans (show validU 22 d = allVal 3 PR d by kernel_rfl)
  w23 d := (h 23 rfl rfl d).trans (show validU 23 d = allVal 2 PC d by kernel_rfl)
  w24 d := (h 24 rfl rfl d).trans (show validU 24 d = allVal 1 PF d by kernel_rfl)
  w30 d := ((h 30 rfl rfl d).trans (show validU 30 d = loopVal idU A179.inv T179 d by kernel_rfl)).trans (loopVal_below (N := 0) (fun _ h => absurd h (Nat.not_lt_zero _)) (by kernel_rfl) (by kernel_rfl) d)
  w31 d := ((h 31 rfl rfl d).trans (show validU 31 d = loopVal idU A166a.inv T166a d by kernel_rfl)).trans (loopVal_below (N := 0) (fun _ h => absurd h (Nat.not_lt_zero _)) (by kernel_rfl) (by kernel_rfl) d)
  w32 d := ((h 32 rfl rfl d).trans (show validU 32 d = loopVal idU A166b.inv T166b d by kernel_rfl)).trans (loopVal_below (N := 0) (fun _ h => absurd h (Nat.not_lt_zero _)) (by kernel_rfl) (by kernel_rfl) d)
  w33 d := ((h 33 rfl rfl d).trans (show validU 33 d = loopVal idU A181.inv T181 d by kernel_rfl)).trans (loopVal_below (N := 0) (fun _ h => absurd h (Nat.not_lt_zero _)) (by kernel_rfl) (by kernel_rfl) d)
  w34 d := ((h 34 rfl rfl d).trans (show validU 34 d = loopVal idU A182.inv T182 d by kernel_rfl)).trans (loopVal_below (N := 0) (fun _ h => absurd h (Nat.not_lt_zero _)) (by kernel_rfl) (by kernel_rfl) d)
noncomputable def S138a : List AllS := [⟨20, 1, 3, [], PV⟩, ⟨20, 2, 3, [], PV⟩, ⟨21, 3, 1, [], PL⟩]
noncomputable def R138a : LRun := allRun A138a 0 S138a 6 [[.lit (.b false), .same 1, .same 2, .same 3, .same 4], [.lit (.b false), .same 1, .same 2, .same 3, .lit (.b false)]]
theorem okT138a : okA 1000 T138a = true := by kernel_rfl
theorem told138a {U : Nat → D → D} (hv : ValidWords U) : Sx.Told U T138a R138a := all_told (U := U) (n0 := 0) (idx := 6) (lenE := .v 5) (C := [1, 2, 3, 4, 5]) (mu := .o2 .isub (.v 5) (.v 6)) (fun s hs d => by rcases List.mem_cons.1 hs with rfl | hs; exact hv.w20 d; rcases List.mem_cons.1 hs with rfl | hs; exact hv.w20 d; rw [List.mem_singleton.1 hs]; exact hv.w21 d) (by kernel_rfl) okT138a (by kernel_rfl) (by kernel_rfl) (by kernel_rfl) (.inl (by kernel_rfl)) (by kernel_rfl)
theorem lr138a {U : Nat → D → D} (hv : ValidWords U) : LRunOk U Try.prog (bodyOf body138 0) R138a := told_ok (n := 100) Try.mixes Try.names ct2_ok (by kernel_rfl) okT138a (told138a hv)
noncomputable def S138b : List AllS := [⟨22, 1, 3, [.v 2], PR⟩]
noncomputable def R138b : LRun := allRun A138b 0 S138b 4 [[.lit (.b false), .same 1], [.lit (.b false), .same 1, .lit (.b false)]]
theorem okT138b : okA 1000 T138b = true := by kernel_rfl
theorem told138b {U : Nat → D → D} (hv : ValidWords U) : Sx.Told U T138b R138b := all_told (U := U) (n0 := 0) (idx := 4) (lenE := .v 3) (C := [1, 2, 3]) (mu := .o2 .isub (.v 3) (.v 4)) (fun s hs d => by rw [List.mem_singleton.1 hs]; exact hv.w22 d) (by kernel_rfl) okT138b (by kernel_rfl) (by kernel_rfl) (by kernel_rfl) (.inl (by kernel_rfl)) (by kernel_rfl)
theorem lr138b {U : Nat → D → D} (hv : ValidWords U) : LRunOk U Try.prog (bodyOf body138 1) R138b := told_ok (n := 100) Try.mixes Try.names ct2_ok (by kernel_rfl) okT138b (told138b hv)
noncomputable def S139a : List AllS := [⟨23, 1, 2, [], PC⟩]
noncomputable def R139a : LRun := allRun A139a 0 S139a 3 [[.lit (.b false), .same 1], [.lit (.b false), .same 1, .lit (.b false)]]
theorem okT139a : okA 1000 T139a = true := by kernel_rfl
theorem told139a {U : Nat → D → D} (hv : ValidWords U) : Sx.Told U T139a R139a := all_told (U := U) (n0 := 0) (idx := 3) (lenE := .v 2) (C := [1, 2]) (mu := .o2 .isub (.v 2) (.v 3)) (fun s hs d => by rw [List.mem_singleton.1 hs]; exact hv.w23 d) (by kernel_rfl) okT139a (by kernel_rfl) (by kernel_rfl) (by kernel_rfl) (.inl (by kernel_rfl)) (by kernel_rfl)
theorem lr139a {U : Nat → D → D} (hv : ValidWords U) : LRunOk U Try.prog (bodyOf body139 0) R139a := told_ok (n := 100) Try.mixes Try.names ct2_ok (by kernel_rfl) okT139a (told139a hv)
noncomputable def S139b : List AllS := [⟨24, 1, 1, [], PF⟩]
noncomputable def R139b : LRun := allRun A139b 0 S139b 3 [[.lit (.b false), .same 1], [.lit (.b false), .same 1, .lit (.b false)]]
theorem okT139b : okA 1000 T139b = true := by kernel_rfl
theorem told139b {U : Nat → D → D} (hv : ValidWords U) : Sx.Told U T139b R139b := all_told (U := U) (n0 := 0) (idx := 3) (lenE := .v 2) (C := [1, 2]) (mu := .o2 .isub (.v 2) (.v 3)) (fun s hs d => by rw [List.mem_singleton.1 hs]; exact hv.w24 d) (by kernel_rfl) okT139b (by kernel_rfl) (by kernel_rfl) (by kernel_rfl) (.inl (by kernel_rfl)) (by kernel_rfl)
theorem lr139b {U : Nat → D → D} (hv : ValidWords U) : LRunOk U Try.prog (bodyOf body139 1) R139b := told_ok (n := 100) Try.mixes Try.names ct2_ok (by kernel_rfl) okT139b (told139b hv)
noncomputable def S179 : List AllS := [⟨20, 0, 3, [], PV⟩]
noncomputable def R179 : LRun := postRun (allRun A179 30 S179 2 [[.same 0], [.same 0, .val 1]]) [[], [.o2 .ile (.i 0) (.v 1)]]
theorem okT179 : okA 1000 T179 = true := by kernel_rfl
theorem told179 {U : Nat → D → D} (hv : ValidWords U) : Sx.Told U T179 R179 := post_told (pf := [[], [.o2 .ile (.i 0) (.v 1)]]) (all_told (U := U) (n0 := 30) (idx := 2) (lenE := .v 1) (C := [0, 1]) (mu := .o2 .isub (.v 1) (.v 2)) (fun s hs d => by rw [List.mem_singleton.1 hs]; exact hv.w20 d) (by kernel_rfl) okT179 (by kernel_rfl) (by kernel_rfl) (by kernel_rfl) (.inr hv.w30) (by kernel_rfl)) (by kernel_rfl)
theorem lr179 {U : Nat → D → D} (hv : ValidWords U) : LRunOk U Try.prog (bodyOf body179 0) R179 := told_ok (n := 100) Try.mixes Try.names ct2_ok (by kernel_rfl) okT179 (told179 hv)
noncomputable def S166a : List AllS := [⟨21, 0, 1, [], PL⟩]
noncomputable def R166a : LRun := postRun (allRun A166a 31 S166a 2 [[.same 0], [.same 0, .val 1]]) [[], [.o2 .ile (.i 0) (.v 1)]]
theorem okT166a : okA 1000 T166a = true := by kernel_rfl
theorem told166a {U : Nat → D → D} (hv : ValidWords U) : Sx.Told U T166a R166a := post_told (pf := [[], [.o2 .ile (.i 0) (.v 1)]]) (all_told (U := U) (n0 := 31) (idx := 2) (lenE := .v 1) (C := [0, 1]) (mu := .o2 .isub (.v 1) (.v 2)) (fun s hs d => by rw [List.mem_singleton.1 hs]; exact hv.w21 d) (by kernel_rfl) okT166a (by kernel_rfl) (by kernel_rfl) (by kernel_rfl) (.inr hv.w31) (by kernel_rfl)) (by kernel_rfl)
theorem lr166a {U : Nat → D → D} (hv : ValidWords U) : LRunOk U Try.prog (bodyOf body166 0) R166a := told_ok (n := 100) Try.mixes Try.names ct2_ok (by kernel_rfl) okT166a (told166a hv)
noncomputable def S166b : List AllS := [⟨24, 0, 1, [], PF⟩]
noncomputable def R166b : LRun := postRun (allRun A166b 32 S166b 2 [[.same 0], [.same 0, .val 1]]) [[], [.o2 .ile (.i 0) (.v 1)]]
theorem okT166b : okA 1000 T166b = true := by kernel_rfl
theorem told166b {U : Nat → D → D} (hv : ValidWords U) : Sx.Told U T166b R166b := post_told (pf := [[], [.o2 .ile (.i 0) (.v 1)]]) (all_told (U := U) (n0 := 32) (idx := 2) (lenE := .v 1) (C := [0, 1]) (mu := .o2 .isub (.v 1) (.v 2)) (fun s hs d => by rw [List.mem_singleton.1 hs]; exact hv.w24 d) (by kernel_rfl) okT166b (by kernel_rfl) (by kernel_rfl) (by kernel_rfl) (.inr hv.w32) (by kernel_rfl)) (by kernel_rfl)
theorem lr166b {U : Nat → D → D} (hv : ValidWords U) : LRunOk U Try.prog (bodyOf body166 0) R166b := told_ok (n := 100) Try.mixes Try.names ct2_ok (by kernel_rfl) okT166b (told166b hv)
noncomputable def S181 : List AllS := [⟨22, 1, 3, [.o1 .llen (.v 2)], PR⟩]
noncomputable def R181 : LRun := postRun (allRun A181 33 S181 4 [[.lit (.b false), .same 1, .same 2], [.lit (.b false), .same 1, .same 2, .val 3]]) [[], [.o2 .ile (.i 0) (.v 3)]]
theorem okT181 : okA 1000 T181 = true := by kernel_rfl
theorem told181 {U : Nat → D → D} (hv : ValidWords U) : Sx.Told U T181 R181 := post_told (pf := [[], [.o2 .ile (.i 0) (.v 3)]]) (all_told (U := U) (n0 := 33) (idx := 4) (lenE := .v 3) (C := [1, 2, 3]) (mu := .o2 .isub (.v 3) (.v 4)) (fun s hs d => by rw [List.mem_singleton.1 hs]; exact hv.w22 d) (by kernel_rfl) okT181 (by kernel_rfl) (by kernel_rfl) (by kernel_rfl) (.inr hv.w33) (by kernel_rfl)) (by kernel_rfl)
theorem lr181 {U : Nat → D → D} (hv : ValidWords U) : LRunOk U Try.prog (bodyOf body181 0) R181 := told_ok (n := 100) Try.mixes Try.names ct2_ok (by kernel_rfl) okT181 (told181 hv)
noncomputable def S182 : List AllS := [⟨23, 0, 2, [], PC⟩]
noncomputable def R182 : LRun := postRun (allRun A182 34 S182 2 [[.same 0], [.same 0, .val 1]]) [[], [.o2 .ile (.i 0) (.v 1)]]
theorem okT182 : okA 1000 T182 = true := by kernel_rfl
theorem told182 {U : Nat → D → D} (hv : ValidWords U) : Sx.Told U T182 R182 := post_told (pf := [[], [.o2 .ile (.i 0) (.v 1)]]) (all_told (U := U) (n0 := 34) (idx := 2) (lenE := .v 1) (C := [0, 1]) (mu := .o2 .isub (.v 1) (.v 2)) (fun s hs d => by rw [List.mem_singleton.1 hs]; exact hv.w23 d) (by kernel_rfl) okT182 (by kernel_rfl) (by kernel_rfl) (by kernel_rfl) (.inr hv.w34) (by kernel_rfl)) (by kernel_rfl)
theorem lr182 {U : Nat → D → D} (hv : ValidWords U) : LRunOk U Try.prog (bodyOf body182 0) R182 := told_ok (n := 100) Try.mixes Try.names ct2_ok (by kernel_rfl) okT182 (told182 hv)
noncomputable def E138 := textL Try.prog ct2 (loopsAt [(5, 0, R138a), (11, 1, R138b)]) 100 Try.f138 body138
theorem e138 {U : Nat → D → D} (hv : ValidWords U) : EntryOk U Try.prog 138 E138 := loopsFn_entry Try.mixes Try.names ct2_ok Try.func138 (by kernel_rfl) (by kernel_rfl) (fun e he => by rcases List.mem_cons.1 he with rfl | he; exact lr138a hv; rw [List.mem_singleton.1 he]; exact lr138b hv)
noncomputable def E139 := textL Try.prog ct2 (loopsAt [(5, 0, R139a), (11, 1, R139b)]) 100 Try.f139 body139
theorem e139 {U : Nat → D → D} (hv : ValidWords U) : EntryOk U Try.prog 139 E139 := loopsFn_entry Try.mixes Try.names ct2_ok Try.func139 (by kernel_rfl) (by kernel_rfl) (fun e he => by rcases List.mem_cons.1 he with rfl | he; exact lr139a hv; rw [List.mem_singleton.1 he]; exact lr139b hv)
noncomputable def E179 := textL Try.prog ct2 (loopsAt [(2, 0, R179)]) 100 Try.f179 body179
theorem e179 {U : Nat → D → D} (hv : ValidWords U) : EntryOk U Try.prog 179 E179 := loopsFn_entry Try.mixes Try.names ct2_ok Try.func179 (by kernel_rfl) (by kernel_rfl) (fun e he => by rw [List.mem_singleton.1 he]; exact lr179 hv)
noncomputable def E166a := textL Try.prog ct2 (loopsAt [(2, 0, R166a)]) 100 Try.f166 body166
theorem e166a {U : Nat → D → D} (hv : ValidWords U) : EntryOk U Try.prog 166 E166a := loopsFn_entry Try.mixes Try.names ct2_ok Try.func166 (by kernel_rfl) (by kernel_rfl) (fun e he => by rw [List.mem_singleton.1 he]; exact lr166a hv)
noncomputable def E166b := textL Try.prog ct2 (loopsAt [(2, 0, R166b)]) 100 Try.f166 body166
theorem e166b {U : Nat → D → D} (hv : ValidWords U) : EntryOk U Try.prog 166 E166b := loopsFn_entry Try.mixes Try.names ct2_ok Try.func166 (by kernel_rfl) (by kernel_rfl) (fun e he => by rw [List.mem_singleton.1 he]; exact lr166b hv)
noncomputable def E181 := textL Try.prog ct2 (loopsAt [(2, 0, R181)]) 100 Try.f181 body181
theorem e181 {U : Nat → D → D} (hv : ValidWords U) : EntryOk U Try.prog 181 E181 := loopsFn_entry Try.mixes Try.names ct2_ok Try.func181 (by kernel_rfl) (by kernel_rfl) (fun e he => by rw [List.mem_singleton.1 he]; exact lr181 hv)
noncomputable def E182 := textL Try.prog ct2 (loopsAt [(2, 0, R182)]) 100 Try.f182 body182
theorem e182 {U : Nat → D → D} (hv : ValidWords U) : EntryOk U Try.prog 182 E182 := loopsFn_entry Try.mixes Try.names ct2_ok Try.func182 (by kernel_rfl) (by kernel_rfl) (fun e he => by rw [List.mem_singleton.1 he]; exact lr182 hv)

/-- Contracts of validity, on top of others. -/
noncomputable def ctVof (ct : Contracts) : Contracts := (((((ct.add 138 E138).add 139 E139).add 179 E179).add 166 (pickRun (fnIs 142) E166a E166b)).add 181 E181).add 182 E182
theorem ctVof_ok {U : Nat → D → D} {ct : Contracts} (hc : ContractsOk U Try.prog ct) (hv : ValidWords U) : ContractsOk U Try.prog (ctVof ct) := (((((hc.add (e138 hv)).add (e139 hv)).add (e179 hv)).add (pick_ok (e166a hv) (e166b hv))).add (e181 hv)).add (e182 hv)

end Go.Proofs.Ytaflnmmnaiaceaa
