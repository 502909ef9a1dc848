/-
  RowsT: chains: the loops that copy, compare and look through them, and those that spell numbers and vectors, each told once.
-/
import Derived.Test.YtjedoigphjbgmaaDoorWords
import Derived.Test.YtjedoigphjbgmaaDoorShelf
import Derived.Test.YtjedoigphjbgmaaDoorSxSb
import Derived.Test.YtjedoigphjbgmaaDoorSxPt
import Derived.Test.YtjedoigphjbgmaaDoorSxPu
import Derived.Test.YtjedoigphjbgmaaDoorSxTw
namespace Go.Proofs.YtjedoigphjbgmaaDoor
open Go.Sx
set_option maxRecDepth 100000

theorem join_says : JoinSays Tryd.prog 20 := fun bk o c xs sep w h1 h2 h3 h4 h5 => Tryd.strings_Join bk o c xs sep w h1 h2 h3 h4 h5
theorem bad_ok {U : Nat → D → D} {f : FuncId} : EntryOk U Tryd.prog f (fun _ _ => .bad) := fun _ _ _ _ _ _ _ _ _ _ _ h => h.elim
abbrev i1 : LP := .one (.i .i64)
abbrev KF : List Sk := [.f .f32]
abbrev KV : List Sk := [.f .f32, .f .f32, .f .f32]
abbrev KR : List Sk := [.i .i64, .i .i64, .f .f32]
abbrev rowB (ks : List Sk) : BP := ⟨false, [], some ks⟩
abbrev rowW (ks : List Sk) : BP := ⟨true, [], some ks⟩
abbrev cellB (l : List LP) : BP := ⟨false, l, none⟩
def finP (e : E) : E := .o2 (.feq .f32) (.o2 (.fsub .f32) e e) (.f (some 0))
def bandL : List E → E
  | [] => .b true
  | [x] => x
  | x :: l => .o2 .band x (bandL l)
def PV : E := bandL [finP (.v 0), finP (.v 1), finP (.v 2)]
def PL : E := bandL [finP (.v 0), .o2 (.fle .f32) (.f (some 0)) (.v 0)]
def PR : E := bandL [.o2 .ile (.i 0) (.v 0), .o2 .ile (.v 0) (.o2 .iadd (.v 3) (.i (-1))), .o2 .ile (.i 0) (.v 1), .o2 .ile (.v 1) (.o2 .iadd (.v 3) (.i (-1))), .o1 .not (.o2 .ieq (.v 0) (.v 1)), finP (.v 2), .o2 (.fle .f32) (.f (some 0)) (.v 2)]
def PW : E := bandL [.o2 .ile (.i 0) (.v 0), .o2 .ile (.v 0) (.i 63), .o2 .ile (.i 0) (.v 1), .o2 .ile (.v 1) (.i 63)]
noncomputable def body7 : Code := (Tryd.f7.body).getD .skip
noncomputable def body12 : Code := (Tryd.f12.body).getD .skip
noncomputable def body14 : Code := (Tryd.f14.body).getD .skip
noncomputable def body15 : Code := (Tryd.f15.body).getD .skip
noncomputable def body16 : Code := (Tryd.f16.body).getD .skip
noncomputable def body21 : Code := (Tryd.f21.body).getD .skip
noncomputable def body23 : Code := (Tryd.f23.body).getD .skip
noncomputable def body24 : Code := (Tryd.f24.body).getD .skip
noncomputable def body25 : Code := (Tryd.f25.body).getD .skip
noncomputable def body29 : Code := (Tryd.f29.body).getD .skip
noncomputable def body30 : Code := (Tryd.f30.body).getD .skip
noncomputable def body31 : Code := (Tryd.f31.body).getD .skip
noncomputable def body44 : Code := (Tryd.f44.body).getD .skip
noncomputable def body56 : Code := (Tryd.f56.body).getD .skip
noncomputable def body58 : Code := (Tryd.f58.body).getD .skip
noncomputable def body60 : Code := (Tryd.f60.body).getD .skip
noncomputable def A14 : LoopT := copyA Tryd.f14.ntmps KV
noncomputable def T14 : Tree LRes := mapT A14.leaf (execL Tryd.prog ctT (fun _ => none) 100 (bodyOf body14 0) A14.s0)
noncomputable def A15 : LoopT := copyA Tryd.f15.ntmps KF
noncomputable def T15 : Tree LRes := mapT A15.leaf (execL Tryd.prog ctT (fun _ => none) 100 (bodyOf body15 0) A15.s0)
noncomputable def A16 : LoopT := copyA Tryd.f16.ntmps KR
noncomputable def T16 : Tree LRes := mapT A16.leaf (execL Tryd.prog ctT (fun _ => none) 100 (bodyOf body16 0) A16.s0)
noncomputable def eqA (n : Nat) (ks : List Sk) : LoopT := ⟨⟨n, 2, [(0, .slo 0 ks.length), (1, .slo 1 ks.length), (5, i1)], [rowB ks, rowB ks]⟩,
  [.o2 .ile (.i 0) (.v 2), .o2 .ile (.o1 .llen (.v 0)) (.i 1048576), .o2 .ieq (.o1 .llen (.v 1)) (.o1 .llen (.v 0))],
  [(.exit 0, ⟨n, 2, [(0, .slo 0 ks.length), (1, .slo 1 ks.length)], [rowB ks, rowB ks]⟩), (.ret, ⟨n, 2, [(0, .slo 0 ks.length), (1, .slo 1 ks.length), (4, .one .b)], [rowB ks, rowB ks]⟩)]⟩
noncomputable def A23 : LoopT := eqA Tryd.f23.ntmps KV
noncomputable def T23 : Tree LRes := mapT A23.leaf (execL Tryd.prog ctT (fun _ => none) 100 (bodyOf body23 0) A23.s0)
noncomputable def A24 : LoopT := eqA Tryd.f24.ntmps KF
noncomputable def T24 : Tree LRes := mapT A24.leaf (execL Tryd.prog ctT (fun _ => none) 100 (bodyOf body24 0) A24.s0)
noncomputable def A25 : LoopT := eqA Tryd.f25.ntmps KR
noncomputable def T25 : Tree LRes := mapT A25.leaf (execL Tryd.prog ctT (fun _ => none) 100 (bodyOf body25 0) A25.s0)
def OE : List (List OutW) := [[.same 0, .same 1], [.same 0, .same 1, .lit (.b false)]]
abbrev C12a : List BP := [cellB [.slo 1 3, .slo 2 3, .slo 3 1, .any], rowB KV, rowB KV, rowB KF]
noncomputable def A12a : LoopT := ⟨⟨Tryd.f12.ntmps, 4, [(0, .ptr 0 0), (3, i1), (44, i1), (45, i1)], C12a⟩, [.o2 .ile (.i 0) (.v 6), .o2 .ile (.o1 .llen (.v 1)) (.i 1048576), .o2 .ieq (.o1 .llen (.v 2)) (.o1 .llen (.v 1)), .o2 .ieq (.o1 .llen (.v 3)) (.o1 .llen (.v 1)), .o2 .ieq (.v 5) (.o1 .llen (.v 1))],
  [(.exit 0, ⟨Tryd.f12.ntmps, 4, [(0, .ptr 0 0), (3, i1)], C12a⟩), (.ret, ⟨Tryd.f12.ntmps, 4, [(0, .ptr 0 0), (2, .one .b)], C12a⟩)]⟩
noncomputable def T12a : Tree LRes := mapT A12a.leaf (execL Tryd.prog ctT (fun _ => none) 100 (bodyOf body12 0) A12a.s0)
abbrev C12b : List BP := [cellB [.any, .any, .any, .slo 1 3], rowB KR]
noncomputable def A12b : LoopT := ⟨⟨Tryd.f12.ntmps, 2, [(0, .ptr 0 0), (3, i1), (84, i1), (85, i1)], C12b⟩, [.o2 .ile (.i 0) (.v 4), .o2 .ile (.o1 .llen (.v 1)) (.i 1048576), .o2 .ieq (.v 3) (.o1 .llen (.v 1)), .o2 .ile (.i 0) (.v 2), .o2 .ile (.v 2) (.i 1048576)],
  [(.exit 2, ⟨Tryd.f12.ntmps, 2, [(0, .ptr 0 0)], C12b⟩), (.ret, ⟨Tryd.f12.ntmps, 2, [(0, .ptr 0 0), (2, .one .b)], C12b⟩)]⟩
noncomputable def T12b : Tree LRes := mapT A12b.leaf (execL Tryd.prog ctT (fun _ => none) 100 (bodyOf body12 1) A12b.s0)
noncomputable def idxA (n : Nat) (ks : List Sk) (k : Nat) : LoopT := ⟨⟨n, 1, [(0, .slo 0 ks.length), (1, .fn0 k), (7, i1), (8, i1)], [rowB ks]⟩, [.o2 .ile (.i 0) (.v 2), .o2 .ile (.o1 .llen (.v 0)) (.i 1048576), .o2 .ieq (.v 1) (.o1 .llen (.v 0))], [(.exit 0, ⟨n, 1, [(0, .slo 0 ks.length)], [rowB ks]⟩), (.ret, ⟨n, 1, [(0, .slo 0 ks.length), (4, i1)], [rowB ks]⟩)]⟩
noncomputable def A56 : LoopT := idxA Tryd.f56.ntmps KV 35
noncomputable def T56 : Tree LRes := mapT A56.leaf (execL Tryd.prog ctT (fun _ => none) 100 (bodyOf body56 0) A56.s0)
noncomputable def A58 : LoopT := idxA Tryd.f58.ntmps KF 37
noncomputable def T58 : Tree LRes := mapT A58.leaf (execL Tryd.prog ctT (fun _ => none) 100 (bodyOf body58 0) A58.s0)
abbrev C60 : List BP := [cellB [.slo 2 3], rowB KR, rowB KV]
noncomputable def A60 : LoopT := ⟨⟨Tryd.f60.ntmps, 3, [(0, .slo 1 3), (1, .fnc 39 [(0, 0)]), (7, i1), (8, i1)], C60⟩, [.o2 .ile (.i 0) (.v 4), .o2 .ile (.o1 .llen (.v 1)) (.i 1048576), .o2 .ile (.o1 .llen (.v 2)) (.i 1048576), .o2 .ieq (.v 3) (.o1 .llen (.v 1))], [(.exit 0, ⟨Tryd.f60.ntmps, 3, [(0, .slo 1 3), (1, .fnc 39 [(0, 0)])], C60⟩), (.ret, ⟨Tryd.f60.ntmps, 3, [(0, .slo 1 3), (1, .fnc 39 [(0, 0)]), (4, i1)], C60⟩)]⟩
noncomputable def T60 : Tree LRes := mapT A60.leaf (execL Tryd.prog ctT (fun _ => none) 100 (bodyOf body60 0) A60.s0)
noncomputable def R14 : LRun := copyRun Tryd.f14.ntmps KV
noncomputable def R15 : LRun := copyRun Tryd.f15.ntmps KF
noncomputable def R16 : LRun := copyRun Tryd.f16.ntmps KR
noncomputable def R23 : LRun := eqRun A23 10 0 1 OE
noncomputable def R24 : LRun := eqRun A24 11 0 1 OE
noncomputable def R25 : LRun := eqRun A25 12 0 1 OE
noncomputable def S12a : List AllS := [⟨20, 1, 3, [], PV⟩, ⟨20, 2, 3, [], PV⟩, ⟨21, 3, 1, [], PL⟩]
noncomputable def R12a : LRun := allRun A12a 0 S12a 6 [[.lit (.b false), .same 1, .same 2, .same 3, .same 4], [.lit (.b false), .same 1, .same 2, .same 3, .lit (.b false)]]
noncomputable def S12b : List AllS := [⟨22, 1, 3, [.v 2], PR⟩]
noncomputable def R12b : LRun := allRun A12b 0 S12b 4 [[.lit (.b false), .same 1], [.lit (.b false), .same 1, .lit (.b false)]]
def pfI (k : Nat) : List (List E) := [[], [.o2 .ile (.i 0) (.v k)]]
noncomputable def S56 : List AllS := [⟨20, 0, 3, [], PV⟩]
noncomputable def R56 : LRun := postRun (allRun A56 30 S56 2 [[.same 0], [.same 0, .val 1]]) (pfI 1)
noncomputable def S58 : List AllS := [⟨21, 0, 1, [], PL⟩]
noncomputable def R58 : LRun := postRun (allRun A58 31 S58 2 [[.same 0], [.same 0, .val 1]]) (pfI 1)
noncomputable def S60 : List AllS := [⟨22, 1, 3, [.o1 .llen (.v 2)], PR⟩]
noncomputable def R60 : LRun := postRun (allRun A60 33 S60 4 [[.lit (.b false), .same 1, .same 2], [.lit (.b false), .same 1, .same 2, .val 3]]) (pfI 3)
noncomputable def A44 : LoopT := ⟨⟨Tryd.f44.ntmps, 1, [(13, .slo 0 1), (4, .slo 1 1), (14, i1), (15, i1)], [rowB KF, rowW [.s]]⟩, partsInv, [(.exit 0, ⟨Tryd.f44.ntmps, 1, [(13, .slo 0 1), (4, .slo 1 1)], [rowB KF, rowW [.s]]⟩)]⟩
noncomputable def T44 : Tree LRes := mapT A44.leaf (execL Tryd.prog ctT (fun _ => none) 100 (bodyOf body44 0) A44.s0)
noncomputable def A30 : LoopT := ⟨⟨Tryd.f30.ntmps, 1, [(0, .slo 0 1), (3, .one .s), (4, i1)], [rowB KF]⟩, Tv.textInv 8, [(.exit 0, ⟨Tryd.f30.ntmps, 1, [(0, .slo 0 1), (3, .one .s)], [rowB KF]⟩)]⟩
noncomputable def T30 : Tree LRes := mapT A30.leaf (execL Tryd.prog ctT (fun _ => none) 100 (bodyOf body30 0) A30.s0)
noncomputable def R44 : LRun := Tv.partsRun A44 52
noncomputable def R30 : LRun := Tv.textRun A30 53
def h8 : E := (.o2 .scat (.o1 .byte (.o2 .sidx (.s [48, 49, 50, 51, 52, 53, 54, 55, 56, 57, 97, 98, 99, 100, 101, 102]) (.o2 (.iand .i64) (.o2 .ishr (.app 1 (.v 1000)) (.i 28)) (.i 15)))) (.o2 .scat (.o1 .byte (.o2 .sidx (.s [48, 49, 50, 51, 52, 53, 54, 55, 56, 57, 97, 98, 99, 100, 101, 102]) (.o2 (.iand .i64) (.o2 .ishr (.app 1 (.v 1000)) (.i 24)) (.i 15)))) (.o2 .scat (.o1 .byte (.o2 .sidx (.s [48, 49, 50, 51, 52, 53, 54, 55, 56, 57, 97, 98, 99, 100, 101, 102]) (.o2 (.iand .i64) (.o2 .ishr (.app 1 (.v 1000)) (.i 20)) (.i 15)))) (.o2 .scat (.o1 .byte (.o2 .sidx (.s [48, 49, 50, 51, 52, 53, 54, 55, 56, 57, 97, 98, 99, 100, 101, 102]) (.o2 (.iand .i64) (.o2 .ishr (.app 1 (.v 1000)) (.i 16)) (.i 15)))) (.o2 .scat (.o1 .byte (.o2 .sidx (.s [48, 49, 50, 51, 52, 53, 54, 55, 56, 57, 97, 98, 99, 100, 101, 102]) (.o2 (.iand .i64) (.o2 .ishr (.app 1 (.v 1000)) (.i 12)) (.i 15)))) (.o2 .scat (.o1 .byte (.o2 .sidx (.s [48, 49, 50, 51, 52, 53, 54, 55, 56, 57, 97, 98, 99, 100, 101, 102]) (.o2 (.iand .i64) (.o2 .ishr (.app 1 (.v 1000)) (.i 8)) (.i 15)))) (.o2 .scat (.o1 .byte (.o2 .sidx (.s [48, 49, 50, 51, 52, 53, 54, 55, 56, 57, 97, 98, 99, 100, 101, 102]) (.o2 (.iand .i64) (.o2 .ishr (.app 1 (.v 1000)) (.i 4)) (.i 15)))) (.o2 .scat (.o1 .byte (.o2 .sidx (.s [48, 49, 50, 51, 52, 53, 54, 55, 56, 57, 97, 98, 99, 100, 101, 102]) (.o2 (.iand .i64) (.o2 .ishr (.app 1 (.v 1000)) (.i 0)) (.i 15)))) (.s [])))))))))
def h8c : E := (.o2 .scat (.o1 .byte (.o2 .sidx (.s [48, 49, 50, 51, 52, 53, 54, 55, 56, 57, 97, 98, 99, 100, 101, 102]) (.o2 (.iand .i64) (.o2 .ishr (.app 1 (.v 1000)) (.i 28)) (.i 15)))) (.o2 .scat (.o1 .byte (.o2 .sidx (.s [48, 49, 50, 51, 52, 53, 54, 55, 56, 57, 97, 98, 99, 100, 101, 102]) (.o2 (.iand .i64) (.o2 .ishr (.app 1 (.v 1000)) (.i 24)) (.i 15)))) (.o2 .scat (.o1 .byte (.o2 .sidx (.s [48, 49, 50, 51, 52, 53, 54, 55, 56, 57, 97, 98, 99, 100, 101, 102]) (.o2 (.iand .i64) (.o2 .ishr (.app 1 (.v 1000)) (.i 20)) (.i 15)))) (.o2 .scat (.o1 .byte (.o2 .sidx (.s [48, 49, 50, 51, 52, 53, 54, 55, 56, 57, 97, 98, 99, 100, 101, 102]) (.o2 (.iand .i64) (.o2 .ishr (.app 1 (.v 1000)) (.i 16)) (.i 15)))) (.o2 .scat (.o1 .byte (.o2 .sidx (.s [48, 49, 50, 51, 52, 53, 54, 55, 56, 57, 97, 98, 99, 100, 101, 102]) (.o2 (.iand .i64) (.o2 .ishr (.app 1 (.v 1000)) (.i 12)) (.i 15)))) (.o2 .scat (.o1 .byte (.o2 .sidx (.s [48, 49, 50, 51, 52, 53, 54, 55, 56, 57, 97, 98, 99, 100, 101, 102]) (.o2 (.iand .i64) (.o2 .ishr (.app 1 (.v 1000)) (.i 8)) (.i 15)))) (.o2 .scat (.o1 .byte (.o2 .sidx (.s [48, 49, 50, 51, 52, 53, 54, 55, 56, 57, 97, 98, 99, 100, 101, 102]) (.o2 (.iand .i64) (.o2 .ishr (.app 1 (.v 1000)) (.i 4)) (.i 15)))) (.o1 .byte (.o2 .sidx (.s [48, 49, 50, 51, 52, 53, 54, 55, 56, 57, 97, 98, 99, 100, 101, 102]) (.o2 (.iand .i64) (.o2 .ishr (.app 1 (.v 1000)) (.i 0)) (.i 15)))))))))))
theorem t14 : T14 = copyT KV := by kernel_rfl
theorem t15 : T15 = copyT KF := by kernel_rfl
theorem t16 : T16 = copyT KR := by kernel_rfl
theorem t44 : T44 = Tv.partsT 1 h8 := by kernel_rfl
theorem t30 : T30 = Tv.textT 1 44 h8 := by kernel_rfl
theorem okT14 : okA 1000 T14 = true := by rw [t14]; kernel_rfl
theorem okT15 : okA 1000 T15 = true := by rw [t15]; kernel_rfl
theorem okT16 : okA 1000 T16 = true := by rw [t16]; kernel_rfl
theorem okT44 : okA 1000 T44 = true := by rw [t44]; kernel_rfl
theorem okT30 : okA 1000 T30 = true := by rw [t30]; kernel_rfl
theorem okT23 : okA 1000 T23 = true := by kernel_rfl
theorem okT24 : okA 1000 T24 = true := by kernel_rfl
theorem okT25 : okA 1000 T25 = true := by kernel_rfl
theorem okT12a : okA 1000 T12a = true := by kernel_rfl
theorem okT12b : okA 1000 T12b = true := by kernel_rfl
theorem okT56 : okA 1000 T56 = true := by kernel_rfl
theorem okT58 : okA 1000 T58 = true := by kernel_rfl
theorem okT60 : okA 1000 T60 = true := by kernel_rfl
theorem h8b : Tv.onlyB 1 h8 = true := by kernel_rfl
theorem h8t : isTxt h8 = true := by kernel_rfl
theorem h8l : E.lenE h8 = some 8 := by kernel_rfl
/-- The words of a chain's text: hV the text of a vector, el of a rod. -/
structure RowWords (U : Nat → D → D) : Prop where
  w1 : BitsWord U
  w10 : ∀ d, U 10 d = loopVal U A23.inv T23 d
  w11 : ∀ d, U 11 d = loopVal U A24.inv T24 d
  w12 : ∀ d, U 12 d = loopVal U A25.inv T25 d
  w20 : ∀ d, U 20 d = allVal 3 PV d
  w21 : ∀ d, U 21 d = allVal 1 PL d
  w22 : ∀ d, U 22 d = allVal 3 PR d
  w30 : ∀ d, U 30 d = loopVal U A56.inv T56 d
  w31 : ∀ d, U 31 d = loopVal U A58.inv T58 d
  w33 : ∀ d, U 33 d = loopVal U A60.inv T60 d
  w52 : ∀ d, U 52 d = .l (Tv.partL U h8 d.toL)
  w53 : ∀ d, U 53 d = .s (Tv.tailS U 44 h8 (d.toL.drop 1))
  w54 : ∀ d, U 54 d = .s (Tv.joinD U 44 h8 d.toL)
def LB : Tree SV := (.ite (.o2 (.feq .f32) (.v 0) (.v 0)) (.ret (.int .i64 (.o1 (.wrap .i64) (.o1 .bits (.v 0))))) (.ret (.int .i64 (.i 2143289344))))
theorem lB : bitsT = LB := by kernel_rfl
theorem bits_at (z : D) : opVal LB 1 RI z = if Fl.eq .f32 z.toF z.toF = true then .i (IntKind.i64.wrap (Fl.bits z.toF)) else .i 2143289344 := by
  have e : evT (fun _ d => d) LB (Sx.valOf [z] 0) = if Fl.eq .f32 z.toF z.toF = true then some (.int .i64 (.o1 (.wrap .i64) (.o1 .bits (.v 0))), Sx.valOf [z] 0) else some (.int .i64 (.i 2143289344), Sx.valOf [z] 0) := rfl
  show (match evT (fun _ d => d) LB (Sx.valOf [z] 0) with
    | some (s, r') => match RI.out s with
      | some es => tupD (es.map fun e : E => e.ev (fun _ d => d) r')
      | none => .b false
    | none => .b false) = _
  rw [e]
  by_cases hq : Fl.eq .f32 z.toF z.toF = true
  · rw [if_pos hq, if_pos hq]; rfl
  · rw [if_neg hq, if_neg hq]; rfl
theorem floatWord {U : Nat → D → D} (h : BitsWord U) : FloatWord U := fun x y hxy => by
  rw [h x, h y, lB]
  show opVal LB 1 RI x = opVal LB 1 RI y
  rw [bits_at, bits_at, hxy]
section
variable {U : Nat → D → D}
theorem told14 : Sx.Told U T14 R14 := copy_told t14
theorem told15 : Sx.Told U T15 R15 := copy_told t15
theorem told16 : Sx.Told U T16 R16 := copy_told t16
theorem told23 (h : RowWords U) : Sx.Told U T23 R23 := eq_told (C := [0, 1]) (mu := .o2 .isub (.o1 .llen (.v 0)) (.v 2)) h.w10 (by kernel_rfl) okT23 (by kernel_rfl) (by kernel_rfl) (by kernel_rfl) (by kernel_rfl) (by kernel_rfl)
theorem told24 (h : RowWords U) : Sx.Told U T24 R24 := eq_told (C := [0, 1]) (mu := .o2 .isub (.o1 .llen (.v 0)) (.v 2)) h.w11 (by kernel_rfl) okT24 (by kernel_rfl) (by kernel_rfl) (by kernel_rfl) (by kernel_rfl) (by kernel_rfl)
theorem told25 (h : RowWords U) : Sx.Told U T25 R25 := eq_told (C := [0, 1]) (mu := .o2 .isub (.o1 .llen (.v 0)) (.v 2)) h.w12 (by kernel_rfl) okT25 (by kernel_rfl) (by kernel_rfl) (by kernel_rfl) (by kernel_rfl) (by kernel_rfl)
theorem told12a (h : RowWords U) : Sx.Told U T12a R12a := all_told (U := U) (n0 := 0) (idx := 6) (lenE := .v 5) (C := [1, 2, 3, 4, 5]) (mu := .o2 .isub (.v 5) (.v 6)) (fun s hs d => by rcases List.mem_cons.1 hs with rfl | hs; exact h.w20 d; rcases List.mem_cons.1 hs with rfl | hs; exact h.w20 d; rw [List.mem_singleton.1 hs]; exact h.w21 d) (by kernel_rfl) okT12a (by kernel_rfl) (by kernel_rfl) (by kernel_rfl) (.inl (by kernel_rfl)) (by kernel_rfl)
theorem told12b (h : RowWords U) : Sx.Told U T12b R12b := all_told (U := U) (n0 := 0) (idx := 4) (lenE := .v 3) (C := [1, 2, 3]) (mu := .o2 .isub (.v 3) (.v 4)) (fun s hs d => by rw [List.mem_singleton.1 hs]; exact h.w22 d) (by kernel_rfl) okT12b (by kernel_rfl) (by kernel_rfl) (by kernel_rfl) (.inl (by kernel_rfl)) (by kernel_rfl)
theorem told56 (h : RowWords U) : Sx.Told U T56 R56 := post_told (pf := pfI 1) (all_told (U := U) (n0 := 30) (idx := 2) (lenE := .v 1) (C := [0, 1]) (mu := .o2 .isub (.v 1) (.v 2)) (fun s hs d => by rw [List.mem_singleton.1 hs]; exact h.w20 d) (by kernel_rfl) okT56 (by kernel_rfl) (by kernel_rfl) (by kernel_rfl) (.inr h.w30) (by kernel_rfl)) (by kernel_rfl)
theorem told58 (h : RowWords U) : Sx.Told U T58 R58 := post_told (pf := pfI 1) (all_told (U := U) (n0 := 31) (idx := 2) (lenE := .v 1) (C := [0, 1]) (mu := .o2 .isub (.v 1) (.v 2)) (fun s hs d => by rw [List.mem_singleton.1 hs]; exact h.w21 d) (by kernel_rfl) okT58 (by kernel_rfl) (by kernel_rfl) (by kernel_rfl) (.inr h.w31) (by kernel_rfl)) (by kernel_rfl)
theorem told60 (h : RowWords U) : Sx.Told U T60 R60 := post_told (pf := pfI 3) (all_told (U := U) (n0 := 33) (idx := 4) (lenE := .v 3) (C := [1, 2, 3]) (mu := .o2 .isub (.v 3) (.v 4)) (fun s hs d => by rw [List.mem_singleton.1 hs]; exact h.w22 d) (by kernel_rfl) okT60 (by kernel_rfl) (by kernel_rfl) (by kernel_rfl) (.inr h.w33) (by kernel_rfl)) (by kernel_rfl)
theorem told44 (h : RowWords U) : Sx.Told U T44 R44 := Tv.parts_told (floatWord h.w1) h.w52 h8b h8t t44 (by kernel_rfl) (by kernel_rfl) (by kernel_rfl)
theorem told30 (h : RowWords U) : Sx.Told U T30 R30 := Tv.text_told (floatWord h.w1) h.w53 h8b h8l t30 (by kernel_rfl) (by kernel_rfl)
end
end Go.Proofs.YtjedoigphjbgmaaDoor
