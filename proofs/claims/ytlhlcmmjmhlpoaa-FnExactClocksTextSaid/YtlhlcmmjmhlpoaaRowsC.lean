/-
  RowsC: clocks: the loops that copy, compare, look through and spell them, each told once.
-/
import Derived.Test.YtlhlcmmjmhlpoaaWords
import Derived.Test.YtlhlcmmjmhlpoaaShelf
import Derived.Test.YtlhlcmmjmhlpoaaSxSb
import Derived.Test.YtlhlcmmjmhlpoaaSxPt
import Derived.Test.YtlhlcmmjmhlpoaaSxPu
import Derived.Test.YtlhlcmmjmhlpoaaSxTx
namespace Go.Proofs.Ytlhlcmmjmhlpoaa
open Go.Sx
set_option maxRecDepth 100000

theorem join_says : JoinSays Try.prog 41 := fun bk o c xs sep w h1 h2 h3 h4 h5 => Try.strings_Join bk o c xs sep w h1 h2 h3 h4 h5
abbrev f1 : LP := .one (.f .f32)
abbrev i1 : LP := .one (.i .i64)
abbrev KF : List Sk := [.f .f32]
abbrev KC : List Sk := [.f .f32, .f .f32]
abbrev rowB (ks : List Sk) : BP := ⟨false, [], some ks⟩
abbrev rowW (ks : List Sk) : BP := ⟨true, [], some ks⟩
abbrev cellB (l : List LP) : BP := ⟨false, l, none⟩
def finP (e : E) : E := .o2 (.feq .f32) (.o2 (.fsub .f32) e e) (.f (some 0))
def PC : E := .o2 .band (.o2 (.fle .f32) (.f (some 0)) (.v 0)) (.o2 .band (.o1 .not (.o2 (.fle .f32) (.f (some 1065353216)) (.v 0))) (finP (.v 1)))
def PF : E := finP (.v 0)
noncomputable def body11 : Code := (Try.f11.body).getD .skip
noncomputable def body12 : Code := (Try.f12.body).getD .skip
noncomputable def body7 : Code := (Try.f7.body).getD .skip
noncomputable def body13 : Code := (Try.f13.body).getD .skip
noncomputable def body14 : Code := (Try.f14.body).getD .skip
noncomputable def body17 : Code := (Try.f17.body).getD .skip
noncomputable def body18 : Code := (Try.f18.body).getD .skip
noncomputable def body31 : Code := (Try.f31.body).getD .skip
noncomputable def body38 : Code := (Try.f38.body).getD .skip
noncomputable def body20 : Code := (Try.f20.body).getD .skip
noncomputable def body27 : Code := (Try.f27.body).getD .skip
noncomputable def A13 : LoopT := copyA Try.f13.ntmps KC
noncomputable def T13 : Tree LRes := mapT A13.leaf (execL Try.prog ctT (fun _ => none) 100 (bodyOf body13 0) A13.s0)
noncomputable def A14 : LoopT := copyA Try.f14.ntmps KF
noncomputable def T14 : Tree LRes := mapT A14.leaf (execL Try.prog ctT (fun _ => none) 100 (bodyOf body14 0) A14.s0)
noncomputable def eqA (n : Nat) (ks : List Sk) : LoopT := ⟨⟨n, 2, [(0, .slo 0 ks.length), (1, .slo 1 ks.length), (5, i1)], [rowB ks, rowB ks]⟩,
  [.o2 .ile (.i 0) (.v 2), .o2 .ile (.o1 .llen (.v 0)) (.i 1048576), .o2 .ieq (.o1 .llen (.v 1)) (.o1 .llen (.v 0))],
  [(.exit 0, ⟨n, 2, [(0, .slo 0 ks.length), (1, .slo 1 ks.length)], [rowB ks, rowB ks]⟩), (.ret, ⟨n, 2, [(0, .slo 0 ks.length), (1, .slo 1 ks.length), (4, .one .b)], [rowB ks, rowB ks]⟩)]⟩
noncomputable def A17 : LoopT := eqA Try.f17.ntmps KC
noncomputable def T17 : Tree LRes := mapT A17.leaf (execL Try.prog ctT (fun _ => none) 100 (bodyOf body17 0) A17.s0)
noncomputable def A18 : LoopT := eqA Try.f18.ntmps KF
noncomputable def T18 : Tree LRes := mapT A18.leaf (execL Try.prog ctT (fun _ => none) 100 (bodyOf body18 0) A18.s0)
def OE : List (List OutW) := [[.same 0, .same 1], [.same 0, .same 1, .lit (.b false)]]
noncomputable def A11a : LoopT := ⟨⟨Try.f11.ntmps, 2, [(0, .ptr 0 0), (3, i1), (32, i1), (33, i1)], [cellB [.slo 1 2, .any], rowB KC]⟩, [.o2 .ile (.i 0) (.v 4), .o2 .ile (.o1 .llen (.v 1)) (.i 1048576), .o2 .ieq (.v 3) (.o1 .llen (.v 1))],
  [(.exit 0, ⟨Try.f11.ntmps, 2, [(0, .ptr 0 0)], [cellB [.slo 1 2, .any], rowB KC]⟩), (.ret, ⟨Try.f11.ntmps, 2, [(0, .ptr 0 0), (2, .one .b)], [cellB [.slo 1 2, .any], rowB KC]⟩)]⟩
noncomputable def T11a : Tree LRes := mapT A11a.leaf (execL Try.prog ctT (fun _ => none) 100 (bodyOf body11 0) A11a.s0)
noncomputable def A11b : LoopT := ⟨⟨Try.f11.ntmps, 2, [(0, .ptr 0 0), (74, i1), (75, i1)], [cellB [.any, .slo 1 1], rowB KF]⟩, [.o2 .ile (.i 0) (.v 3), .o2 .ile (.o1 .llen (.v 1)) (.i 1048576), .o2 .ieq (.v 2) (.o1 .llen (.v 1))],
  [(.exit 2, ⟨Try.f11.ntmps, 2, [(0, .ptr 0 0)], [cellB [.any, .slo 1 1], rowB KF]⟩), (.ret, ⟨Try.f11.ntmps, 2, [(0, .ptr 0 0), (2, .one .b)], [cellB [.any, .slo 1 1], rowB KF]⟩)]⟩
noncomputable def T11b : Tree LRes := mapT A11b.leaf (execL Try.prog ctT (fun _ => none) 100 (bodyOf body11 1) A11b.s0)
noncomputable def A31 : LoopT := ⟨⟨Try.f31.ntmps, 1, [(0, .slo 0 2), (1, .fn0 23), (7, i1), (8, i1)], [rowB KC]⟩, [.o2 .ile (.i 0) (.v 2), .o2 .ile (.o1 .llen (.v 0)) (.i 1048576), .o2 .ieq (.v 1) (.o1 .llen (.v 0))], [(.exit 0, ⟨Try.f31.ntmps, 1, [(0, .slo 0 2)], [rowB KC]⟩), (.ret, ⟨Try.f31.ntmps, 1, [(0, .slo 0 2), (4, i1)], [rowB KC]⟩)]⟩
noncomputable def T31 : Tree LRes := mapT A31.leaf (execL Try.prog ctT (fun _ => none) 100 (bodyOf body31 0) A31.s0)
noncomputable def A38 : LoopT := ⟨⟨Try.f38.ntmps, 1, [(0, .slo 0 1), (1, .fn0 33), (7, i1), (8, i1)], [rowB KF]⟩, [.o2 .ile (.i 0) (.v 2), .o2 .ile (.o1 .llen (.v 0)) (.i 1048576), .o2 .ieq (.v 1) (.o1 .llen (.v 0))], [(.exit 0, ⟨Try.f38.ntmps, 1, [(0, .slo 0 1)], [rowB KF]⟩), (.ret, ⟨Try.f38.ntmps, 1, [(0, .slo 0 1), (4, i1)], [rowB KF]⟩)]⟩
noncomputable def T38 : Tree LRes := mapT A38.leaf (execL Try.prog ctT (fun _ => none) 100 (bodyOf body38 0) A38.s0)
abbrev B12 : List BP := [cellB [.slo 1 2, .any], rowB KC, rowW KF]
noncomputable def A12 : LoopT := ⟨⟨Try.f12.ntmps, 2, [(0, .ptr 0 0), (3, .slo 2 1), (4, i1)], B12⟩,
  [.o2 .ile (.i 0) (.v 3), .o2 .ile (.v 3) (.o1 .llen (.v 1)), .o2 .ile (.o1 .llen (.v 1)) (.i 12), .o2 .ieq (.o1 .llen (.v 2)) (.o2 .imul (.i 2) (.v 3))],
  [(.exit 0, ⟨Try.f12.ntmps, 2, [(0, .ptr 0 0), (3, .slo 2 1)], B12⟩)]⟩
noncomputable def T12 : Tree LRes := mapT A12.leaf (execL Try.prog ctT (fun _ => none) 100 (bodyOf body12 0) A12.s0)
def O12 : List (List OutW) := [[.lit (.b false), .same 1, .val 2]]
abbrev B7 : List BP := [rowB KC, cellB [.slo 0 2, .slo 2 1], rowB KF, rowW KF]
noncomputable def A7 : LoopT := ⟨⟨Try.f7.ntmps, 3, [(1, .ptr 1 0), (4, .slo 3 1), (12, .slo 0 2), (13, i1), (14, i1)], B7⟩,
  [.o2 .ile (.i 0) (.v 5), .o2 .ile (.v 5) (.v 4), .o2 .ieq (.v 4) (.o1 .llen (.v 0)), .o2 .ile (.v 4) (.i 12), .o2 .ieq (.o1 .llen (.v 3)) (.o2 .imul (.i 2) (.v 5))],
  [(.exit 0, ⟨Try.f7.ntmps, 3, [(1, .ptr 1 0), (4, .slo 3 1)], B7⟩)]⟩
noncomputable def T7 : Tree LRes := mapT A7.leaf (execL Try.prog ctT (fun _ => none) 100 (bodyOf body7 0) A7.s0)
def O7 : List (List OutW) := [[.same 0, .lit (.b false), .same 2, .val 2]]
def rho7 : List E := [.b false, .v 0, .v 3, .v 5]
noncomputable def A27 : LoopT := ⟨⟨Try.f27.ntmps, 1, [(13, .slo 0 1), (4, .slo 1 1), (14, i1), (15, i1)], [rowB KF, rowW [.s]]⟩,
  [.o2 .ile (.i 0) (.v 3), .o2 .ile (.v 3) (.v 2), .o2 .ieq (.v 2) (.o1 .llen (.v 0)), .o2 .ile (.v 2) (.i 1048576), .o2 .ieq (.o1 .llen (.v 1)) (.v 3)],
  [(.exit 0, ⟨Try.f27.ntmps, 1, [(13, .slo 0 1), (4, .slo 1 1)], [rowB KF, rowW [.s]]⟩)]⟩
noncomputable def T27 : Tree LRes := mapT A27.leaf (execL Try.prog ctT (fun _ => none) 100 (bodyOf body27 0) A27.s0)
noncomputable def A20 : LoopT := ⟨⟨Try.f20.ntmps, 1, [(0, .slo 0 1), (3, .one .s), (4, i1)], [rowB KF]⟩,
  [.o2 .ile (.i 1) (.v 2), .o2 .ile (.v 2) (.o1 .llen (.v 0)), .o2 .ile (.o1 .llen (.v 0)) (.i 1048576), .o2 .ieq (.o2 .iadd (.o1 .slen (.v 1)) (.i 1)) (.o2 .imul (.i 9) (.v 2))],
  [(.exit 0, ⟨Try.f20.ntmps, 1, [(0, .slo 0 1), (3, .one .s)], [rowB KF]⟩)]⟩
noncomputable def T20 : Tree LRes := mapT A20.leaf (execL Try.prog ctT (fun _ => none) 100 (bodyOf body20 0) A20.s0)
def O20 : List (List OutW) := [[.same 0, .val 1]]
def O27 : List (List OutW) := [[.same 0, .val 1]]
def h8 : E := (.o2 .scat (.o1 .byte (.o2 .sidx (.s [48, 49, 50, 51, 52, 53, 54, 55, 56, 57, 97, 98, 99, 100, 101, 102]) (.o2 (.iand .i64) (.o2 .ishr (.app 1 (.v 1000)) (.i 28)) (.i 15)))) (.o2 .scat (.o1 .byte (.o2 .sidx (.s [48, 49, 50, 51, 52, 53, 54, 55, 56, 57, 97, 98, 99, 100, 101, 102]) (.o2 (.iand .i64) (.o2 .ishr (.app 1 (.v 1000)) (.i 24)) (.i 15)))) (.o2 .scat (.o1 .byte (.o2 .sidx (.s [48, 49, 50, 51, 52, 53, 54, 55, 56, 57, 97, 98, 99, 100, 101, 102]) (.o2 (.iand .i64) (.o2 .ishr (.app 1 (.v 1000)) (.i 20)) (.i 15)))) (.o2 .scat (.o1 .byte (.o2 .sidx (.s [48, 49, 50, 51, 52, 53, 54, 55, 56, 57, 97, 98, 99, 100, 101, 102]) (.o2 (.iand .i64) (.o2 .ishr (.app 1 (.v 1000)) (.i 16)) (.i 15)))) (.o2 .scat (.o1 .byte (.o2 .sidx (.s [48, 49, 50, 51, 52, 53, 54, 55, 56, 57, 97, 98, 99, 100, 101, 102]) (.o2 (.iand .i64) (.o2 .ishr (.app 1 (.v 1000)) (.i 12)) (.i 15)))) (.o2 .scat (.o1 .byte (.o2 .sidx (.s [48, 49, 50, 51, 52, 53, 54, 55, 56, 57, 97, 98, 99, 100, 101, 102]) (.o2 (.iand .i64) (.o2 .ishr (.app 1 (.v 1000)) (.i 8)) (.i 15)))) (.o2 .scat (.o1 .byte (.o2 .sidx (.s [48, 49, 50, 51, 52, 53, 54, 55, 56, 57, 97, 98, 99, 100, 101, 102]) (.o2 (.iand .i64) (.o2 .ishr (.app 1 (.v 1000)) (.i 4)) (.i 15)))) (.o2 .scat (.o1 .byte (.o2 .sidx (.s [48, 49, 50, 51, 52, 53, 54, 55, 56, 57, 97, 98, 99, 100, 101, 102]) (.o2 (.iand .i64) (.o2 .ishr (.app 1 (.v 1000)) (.i 0)) (.i 15)))) (.s [])))))))))
noncomputable def R13 : LRun := copyRun Try.f13.ntmps KC
noncomputable def R14 : LRun := copyRun Try.f14.ntmps KF
noncomputable def R17 : LRun := eqRun A17 10 0 1 OE
noncomputable def R18 : LRun := eqRun A18 11 0 1 OE
noncomputable def S11a : List AllS := [⟨23, 1, 2, [], PC⟩]
noncomputable def R11a : LRun := allRun A11a 0 S11a 4 [[.lit (.b false), .same 1], [.lit (.b false), .same 1, .lit (.b false)]]
noncomputable def S11b : List AllS := [⟨24, 1, 1, [], PF⟩]
noncomputable def R11b : LRun := allRun A11b 0 S11b 3 [[.lit (.b false), .same 1], [.lit (.b false), .same 1, .lit (.b false)]]
noncomputable def S31 : List AllS := [⟨23, 0, 2, [], PC⟩]
noncomputable def R31 : LRun := postRun (allRun A31 34 S31 2 [[.same 0], [.same 0, .val 1]]) [[], [.o2 .ile (.i 0) (.v 1)]]
noncomputable def S38 : List AllS := [⟨24, 0, 1, [], PF⟩]
noncomputable def R38 : LRun := postRun (allRun A38 32 S38 2 [[.same 0], [.same 0, .val 1]]) [[], [.o2 .ile (.i 0) (.v 1)]]
def pf12 : List (List E) := [[.o2 .ieq (.o1 .llen (.v 2)) (.o2 .imul (.i 2) (.o1 .llen (.v 1)))]]
noncomputable def R12 : LRun := postRun (wordRun A12 60 O12) pf12
def pf7 : List (List E) := [[.o2 .ieq (.o1 .llen (.v 3)) (.o2 .imul (.i 2) (.o1 .llen (.v 0)))]]
noncomputable def R7 : LRun := postRun (simRun A7 60 rho7 O7) pf7
noncomputable def R27 : LRun := partsRun A27 52
noncomputable def R20 : LRun := textRun A20 53
theorem okT17 : okA 1000 T17 = true := by kernel_rfl
theorem okT18 : okA 1000 T18 = true := by kernel_rfl
theorem okT11a : okA 1000 T11a = true := by kernel_rfl
theorem okT11b : okA 1000 T11b = true := by kernel_rfl
theorem okT31 : okA 1000 T31 = true := by kernel_rfl
theorem okT38 : okA 1000 T38 = true := by kernel_rfl
theorem okT12 : okA 1000 T12 = true := by kernel_rfl
theorem okT7 : okA 1000 T7 = true := by kernel_rfl
theorem t13 : T13 = copyT KC := by kernel_rfl
theorem t14 : T14 = copyT KF := by kernel_rfl
theorem t27 : T27 = partsT h8 := by kernel_rfl
theorem t20 : T20 = textT h8 := by kernel_rfl
theorem okT13 : okA 1000 T13 = true := by rw [t13]; kernel_rfl
theorem okT14 : okA 1000 T14 = true := by rw [t14]; kernel_rfl
theorem okT27 : okA 1000 T27 = true := by rw [t27]; kernel_rfl
theorem okT20 : okA 1000 T20 = true := by rw [t20]; kernel_rfl
theorem h8b : onlyB h8 = true := by kernel_rfl
theorem h8t : isTxt h8 = true := by kernel_rfl
theorem h8l : E.lenE h8 = some 8 := by kernel_rfl
structure ClockWords (U : Nat → D → D) : Prop where
  w1 : BitsWord U
  w10 : ∀ d, U 10 d = loopVal U A17.inv T17 d
  w11 : ∀ d, U 11 d = loopVal U A18.inv T18 d
  w23 : ∀ d, U 23 d = allVal 2 PC d
  w24 : ∀ d, U 24 d = allVal 1 PF d
  w32 : ∀ d, U 32 d = loopVal U A38.inv T38 d
  w34 : ∀ d, U 34 d = loopVal U A31.inv T31 d
  w52 : ∀ d, U 52 d = .l (partL U h8 d.toL)
  w53 : ∀ d, U 53 d = .s (tailS U h8 (d.toL.drop 1))
  w54 : ∀ d, U 54 d = .s (joinD U h8 d.toL)
  w60 : ∀ d, U 60 d = loopVal U A12.inv T12 d
def LB : Tree SV := (.ite (.o2 (.feq .f32) (.v 0) (.v 0)) (.ret (.int .i64 (.o1 (.wrap .i64) (.o1 .bits (.v 0))))) (.ret (.int .i64 (.i 2143289344))))
theorem lB : bitsT = LB := by kernel_rfl
theorem bits_at (z : D) : opVal LB 1 RI z = if Fl.eq .f32 z.toF z.toF = true then .i (IntKind.i64.wrap (Fl.bits z.toF)) else .i 2143289344 := by
  have e : evT (fun _ d => d) LB (Sx.valOf [z] 0) = if Fl.eq .f32 z.toF z.toF = true then some (.int .i64 (.o1 (.wrap .i64) (.o1 .bits (.v 0))), Sx.valOf [z] 0) else some (.int .i64 (.i 2143289344), Sx.valOf [z] 0) := rfl
  show (match evT (fun _ d => d) LB (Sx.valOf [z] 0) with
    | some (s, r') => match RI.out s with
      | some es => tupD (es.map fun e : E => e.ev (fun _ d => d) r')
      | none => .b false
    | none => .b false) = _
  rw [e]
  by_cases hq : Fl.eq .f32 z.toF z.toF = true
  · rw [if_pos hq, if_pos hq]; rfl
  · rw [if_neg hq, if_neg hq]; rfl
theorem floatWord {U : Nat → D → D} (h : BitsWord U) : FloatWord U := fun x y hxy => by
  rw [h x, h y, lB]
  show opVal LB 1 RI x = opVal LB 1 RI y
  rw [bits_at, bits_at, hxy]
section
variable {U : Nat → D → D}
theorem told13 : Sx.Told U T13 R13 := copy_told t13
theorem told14 : Sx.Told U T14 R14 := copy_told t14
theorem told17 (h : ClockWords U) : Sx.Told U T17 R17 := eq_told (C := [0, 1]) (mu := .o2 .isub (.o1 .llen (.v 0)) (.v 2)) h.w10 (by kernel_rfl) okT17 (by kernel_rfl) (by kernel_rfl) (by kernel_rfl) (by kernel_rfl) (by kernel_rfl)
theorem told18 (h : ClockWords U) : Sx.Told U T18 R18 := eq_told (C := [0, 1]) (mu := .o2 .isub (.o1 .llen (.v 0)) (.v 2)) h.w11 (by kernel_rfl) okT18 (by kernel_rfl) (by kernel_rfl) (by kernel_rfl) (by kernel_rfl) (by kernel_rfl)
theorem told11a (h : ClockWords U) : Sx.Told U T11a R11a := all_told (U := U) (n0 := 0) (idx := 4) (lenE := .v 3) (C := [1, 2, 3]) (mu := .o2 .isub (.v 3) (.v 4)) (fun s hs d => by rw [List.mem_singleton.1 hs]; exact h.w23 d) (by kernel_rfl) okT11a (by kernel_rfl) (by kernel_rfl) (by kernel_rfl) (.inl (by kernel_rfl)) (by kernel_rfl)
theorem told11b (h : ClockWords U) : Sx.Told U T11b R11b := all_told (U := U) (n0 := 0) (idx := 3) (lenE := .v 2) (C := [1, 2]) (mu := .o2 .isub (.v 2) (.v 3)) (fun s hs d => by rw [List.mem_singleton.1 hs]; exact h.w24 d) (by kernel_rfl) okT11b (by kernel_rfl) (by kernel_rfl) (by kernel_rfl) (.inl (by kernel_rfl)) (by kernel_rfl)
theorem told31 (h : ClockWords U) : Sx.Told U T31 R31 := post_told (pf := [[], [.o2 .ile (.i 0) (.v 1)]]) (all_told (U := U) (n0 := 34) (idx := 2) (lenE := .v 1) (C := [0, 1]) (mu := .o2 .isub (.v 1) (.v 2)) (fun s hs d => by rw [List.mem_singleton.1 hs]; exact h.w23 d) (by kernel_rfl) okT31 (by kernel_rfl) (by kernel_rfl) (by kernel_rfl) (.inr h.w34) (by kernel_rfl)) (by kernel_rfl)
theorem told38 (h : ClockWords U) : Sx.Told U T38 R38 := post_told (pf := [[], [.o2 .ile (.i 0) (.v 1)]]) (all_told (U := U) (n0 := 32) (idx := 2) (lenE := .v 1) (C := [0, 1]) (mu := .o2 .isub (.v 1) (.v 2)) (fun s hs d => by rw [List.mem_singleton.1 hs]; exact h.w24 d) (by kernel_rfl) okT38 (by kernel_rfl) (by kernel_rfl) (by kernel_rfl) (.inr h.w32) (by kernel_rfl)) (by kernel_rfl)
theorem r12 : roundK [1] O12 A12.t.cnt A12.inv (.o2 .isub (.o1 .llen (.v 1)) (.v 3)) T12 = true := by kernel_rfl
theorem r7 : roundK [0, 2, 4] O7 A7.t.cnt A7.inv (.o2 .isub (.v 4) (.v 5)) T7 = true := by kernel_rfl
theorem s7 : simOkK A12.inv A7.inv rho7 O7 T12 T7 = true := by kernel_rfl
theorem told12 (h : ClockWords U) : Sx.Told U T12 R12 := post_told (wordK_told h.w60 r12 (by kernel_rfl)) (by kernel_rfl)
theorem told7 (h : ClockWords U) : Sx.Told U T7 R7 := post_told (simK_told h.w60 r7 s7 (by kernel_rfl)) (by kernel_rfl)
theorem told27 (h : ClockWords U) : Sx.Told U T27 R27 := parts_told (floatWord h.w1) h.w52 h8b h8t t27 (by kernel_rfl) (by kernel_rfl) (by kernel_rfl)
theorem told20 (h : ClockWords U) : Sx.Told U T20 R20 := text_told (floatWord h.w1) h.w53 h8b h8l t20 (by kernel_rfl) (by kernel_rfl)
theorem bad_ok {f : FuncId} : EntryOk U Try.prog f (fun _ _ => .bad) := fun _ _ _ _ _ _ _ _ _ _ _ h => h.elim
noncomputable def E13 := textL Try.prog ctT (loopsAt [(3, 0, R13)]) 100 Try.f13 body13
theorem e13 (h : ClockWords U) : EntryOk U Try.prog 13 E13 := loopsFn_entry Try.mixes Try.names (ctT_ok h.w1) Try.func13 (by kernel_rfl) (by kernel_rfl) (fun e he => by rw [List.mem_singleton.1 he]; exact told_ok Try.mixes Try.names (ctT_ok h.w1) (by kernel_rfl) okT13 (told13))
noncomputable def E14 := textL Try.prog ctT (loopsAt [(3, 0, R14)]) 100 Try.f14 body14
theorem e14 (h : ClockWords U) : EntryOk U Try.prog 14 E14 := loopsFn_entry Try.mixes Try.names (ctT_ok h.w1) Try.func14 (by kernel_rfl) (by kernel_rfl) (fun e he => by rw [List.mem_singleton.1 he]; exact told_ok Try.mixes Try.names (ctT_ok h.w1) (by kernel_rfl) okT14 (told14))
noncomputable def E17 := textL Try.prog ctT (loopsAt [(4, 0, R17)]) 100 Try.f17 body17
theorem e17 (h : ClockWords U) : EntryOk U Try.prog 17 E17 := loopsFn_entry Try.mixes Try.names (ctT_ok h.w1) Try.func17 (by kernel_rfl) (by kernel_rfl) (fun e he => by rw [List.mem_singleton.1 he]; exact told_ok Try.mixes Try.names (ctT_ok h.w1) (by kernel_rfl) okT17 (told17 h))
noncomputable def E18 := textL Try.prog ctT (loopsAt [(4, 0, R18)]) 100 Try.f18 body18
theorem e18 (h : ClockWords U) : EntryOk U Try.prog 18 E18 := loopsFn_entry Try.mixes Try.names (ctT_ok h.w1) Try.func18 (by kernel_rfl) (by kernel_rfl) (fun e he => by rw [List.mem_singleton.1 he]; exact told_ok Try.mixes Try.names (ctT_ok h.w1) (by kernel_rfl) okT18 (told18 h))
noncomputable def E11 := textL Try.prog ctT (loopsAt [(5, 0, R11a), (11, 1, R11b)]) 100 Try.f11 body11
theorem e11 (h : ClockWords U) : EntryOk U Try.prog 11 E11 := loopsFn_entry Try.mixes Try.names (ctT_ok h.w1) Try.func11 (by kernel_rfl) (by kernel_rfl) (fun e he => by rcases List.mem_cons.1 he with rfl | he; exact told_ok Try.mixes Try.names (ctT_ok h.w1) (by kernel_rfl) okT11a (told11a h); rw [List.mem_singleton.1 he]; exact told_ok Try.mixes Try.names (ctT_ok h.w1) (by kernel_rfl) okT11b (told11b h))
noncomputable def E31 := textL Try.prog ctT (loopsAt [(2, 0, R31)]) 100 Try.f31 body31
theorem e31 (h : ClockWords U) : EntryOk U Try.prog 31 E31 := loopsFn_entry Try.mixes Try.names (ctT_ok h.w1) Try.func31 (by kernel_rfl) (by kernel_rfl) (fun e he => by rw [List.mem_singleton.1 he]; exact told_ok Try.mixes Try.names (ctT_ok h.w1) (by kernel_rfl) okT31 (told31 h))
noncomputable def E38 := textL Try.prog ctT (loopsAt [(2, 0, R38)]) 100 Try.f38 body38
theorem e38 (h : ClockWords U) : EntryOk U Try.prog 38 E38 := loopsFn_entry Try.mixes Try.names (ctT_ok h.w1) Try.func38 (by kernel_rfl) (by kernel_rfl) (fun e he => by rw [List.mem_singleton.1 he]; exact told_ok Try.mixes Try.names (ctT_ok h.w1) (by kernel_rfl) okT38 (told38 h))
noncomputable def J41 := joinRow 52 54 (fun _ _ => .bad)
theorem e41 (h : ClockWords U) : EntryOk U Try.prog 41 J41 := joinRow_entry Try.names Try.func41 rfl join_says bad_ok h.w52 h.w54 h8l
noncomputable def ctJ : Contracts := ctT.add 41 J41
theorem ctJ_ok (h : ClockWords U) : ContractsOk U Try.prog ctJ := (ctT_ok h.w1).add (e41 h)
noncomputable def E27 := textL Try.prog ctJ (loopsAt [(5, 0, R27)]) 100 Try.f27 body27
theorem e27 (h : ClockWords U) : EntryOk U Try.prog 27 E27 := loopsFn_entry Try.mixes Try.names (ctJ_ok h) Try.func27 (by kernel_rfl) (by kernel_rfl) (fun e he => by rw [List.mem_singleton.1 he]; exact told_ok Try.mixes Try.names (ctT_ok h.w1) (by kernel_rfl) okT27 (told27 h))
noncomputable def E20t := textL Try.prog ctT (loopsAt [(5, 0, R20)]) 100 Try.f20 body20
theorem e20t (h : ClockWords U) : EntryOk U Try.prog 20 E20t := loopsFn_entry Try.mixes Try.names (ctT_ok h.w1) Try.func20 (by kernel_rfl) (by kernel_rfl) (fun e he => by rw [List.mem_singleton.1 he]; exact told_ok Try.mixes Try.names (ctT_ok h.w1) (by kernel_rfl) okT20 (told20 h))
noncomputable def E20 := rwRun (rwText h8 53 54) E20t
theorem e20 (h : ClockWords U) : EntryOk U Try.prog 20 E20 := rw_entry (e20t h) (rwText_ok (floatWord h.w1) h8b h8l h.w53 h.w54)
noncomputable def ctL : Contracts := ((((((((ctJ.add 13 E13).add 14 E14).add 17 E17).add 18 E18).add 11 E11).add 31 E31).add 38 E38).add 27 E27).add 20 E20
theorem ctL_ok (h : ClockWords U) : ContractsOk U Try.prog ctL := ((((((((ctJ_ok h).add (e13 h)).add (e14 h)).add (e17 h)).add (e18 h)).add (e11 h)).add (e31 h)).add (e38 h)).add (e27 h) |>.add (e20 h)
noncomputable def E12 := textL Try.prog ctL (loopsAt [(3, 0, R12)]) 100 Try.f12 body12
theorem e12 (h : ClockWords U) : EntryOk U Try.prog 12 E12 := loopsFn_entry Try.mixes Try.names (ctL_ok h) Try.func12 (by kernel_rfl) (by kernel_rfl) (fun e he => by rw [List.mem_singleton.1 he]; exact told_ok Try.mixes Try.names (ctT_ok h.w1) (by kernel_rfl) okT12 (told12 h))
noncomputable def E7 := textL Try.prog ctL (loopsAt [(5, 0, R7)]) 100 Try.f7 body7
theorem e7 (h : ClockWords U) : EntryOk U Try.prog 7 E7 := loopsFn_entry Try.mixes Try.names (ctL_ok h) Try.func7 (by kernel_rfl) (by kernel_rfl) (fun e he => by rw [List.mem_singleton.1 he]; exact told_ok Try.mixes Try.names (ctT_ok h.w1) (by kernel_rfl) okT7 (told7 h))
noncomputable def ctN : Contracts := (ctL.add 12 E12).add 7 E7
theorem ctN_ok (h : ClockWords U) : ContractsOk U Try.prog ctN := ((ctL_ok h).add (e12 h)).add (e7 h)
end
def idU : Nat → D → D := fun _ d => d
noncomputable def bitU : Nat → D → D := fun n d => bif Nat.beq n 1 then opVal bitsT (ptCount [F1]) RI d else d
noncomputable def clockU : Nat → D → D := fun n d => bif Nat.beq n 1 then opVal bitsT (ptCount [F1]) RI d else bif Nat.beq n 10 then loopVal idU A17.inv T17 d else bif Nat.beq n 11 then loopVal idU A18.inv T18 d else bif Nat.beq n 32 then loopVal idU A38.inv T38 d else bif Nat.beq n 34 then loopVal idU A31.inv T31 d else bif Nat.beq n 60 then loopVal idU A12.inv T12 d else bif Nat.beq n 23 then allVal 2 PC d else bif Nat.beq n 24 then allVal 1 PF d else bif Nat.beq n 52 then .l (partL bitU h8 d.toL) else bif Nat.beq n 53 then .s (tailS bitU h8 (d.toL.drop 1)) else bif Nat.beq n 54 then .s (joinD bitU h8 d.toL) else d
theorem el_same : elS bitU h8 = elS clockU h8 := by
  funext d
  unfold elS
  rw [E.ev_lowW (N := 2) (U := bitU) (U' := clockU) (fun n hn => by
    funext d
    match n, hn with
    | 0, _ => rfl
    | 1, _ => rfl) (by kernel_rfl)]
theorem tail_same : ∀ l : List D, tailS bitU h8 l = tailS clockU h8 l := by
  intro l
  induction l with
  | nil => rfl
  | cons d l ih => show _ ++ elS bitU h8 d ++ tailS bitU h8 l = _ ++ elS clockU h8 d ++ tailS clockU h8 l; rw [ih, el_same]
theorem clockWords : ClockWords clockU where
  w1 d := by kernel_rfl
  w10 d := (show clockU 10 d = loopVal idU A17.inv T17 d by kernel_rfl).trans (loopVal_below (N := 0) (fun _ h => absurd h (Nat.not_lt_zero _)) (by kernel_rfl) (by kernel_rfl) d)
  w11 d := (show clockU 11 d = loopVal idU A18.inv T18 d by kernel_rfl).trans (loopVal_below (N := 0) (fun _ h => absurd h (Nat.not_lt_zero _)) (by kernel_rfl) (by kernel_rfl) d)
  w32 d := (show clockU 32 d = loopVal idU A38.inv T38 d by kernel_rfl).trans (loopVal_below (N := 0) (fun _ h => absurd h (Nat.not_lt_zero _)) (by kernel_rfl) (by kernel_rfl) d)
  w34 d := (show clockU 34 d = loopVal idU A31.inv T31 d by kernel_rfl).trans (loopVal_below (N := 0) (fun _ h => absurd h (Nat.not_lt_zero _)) (by kernel_rfl) (by kernel_rfl) d)
  w60 d := (show clockU 60 d = loopVal idU A12.inv T12 d by kernel_rfl).trans (loopVal_below (N := 0) (fun _ h => absurd h (Nat.not_lt_zero _)) (by kernel_rfl) (by kernel_rfl) d)
  w23 d := by kernel_rfl
  w24 d := by kernel_rfl
  w52 d := by
    show D.l (partL bitU h8 d.toL) = _
    unfold partL
    rw [el_same]
  w53 d := by
    show D.s (tailS bitU h8 (d.toL.drop 1)) = _
    rw [tail_same]
  w54 d := by
    show D.s (joinD bitU h8 d.toL) = _
    unfold joinD
    rw [el_same]
noncomputable def cfN := callX Try.prog ctN (exec Try.prog ctN 100)
theorem cfN_ok : CallsOk clockU Try.prog cfN := @calls_ok clockU Try.prog ctN Try.mixes Try.names (ctN_ok clockWords) 100
abbrev clArg : List AArg := [.ag [.row KC, .row KF]]
end Go.Proofs.Ytlhlcmmjmhlpoaa
