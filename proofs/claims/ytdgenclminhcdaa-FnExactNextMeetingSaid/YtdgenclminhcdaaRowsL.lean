/-
  Rows of balls: the loops that copy, compare and look through them, each told once.
-/
import Derived.Test.YtdgenclminhcdaaBase
import Derived.Test.YtdgenclminhcdaaSxSb
namespace Go.Proofs.Ytdgenclminhcdaa
open Go.Sx
set_option maxRecDepth 100000

abbrev K3 : List Sk := [.f .f32, .f .f32, .f .f32]
abbrev rowB : BP := ⟨false, [], some K3⟩
abbrev ballsB (w : Bool) : List BP := [⟨w, [.slo 1 3, .one (.f .f32)], none⟩, rowB]

noncomputable def body84 : Code := (Try.f84.body).getD .skip
noncomputable def body87 : Code := (Try.f87.body).getD .skip
noncomputable def body82 : Code := (Try.f82.body).getD .skip
noncomputable def body85 : Code := (Try.f85.body).getD .skip
noncomputable def body83 : Code := (Try.f83.body).getD .skip
noncomputable def body86 : Code := (Try.f86.body).getD .skip

def A87 : LoopT := ⟨⟨27, 2, [(0, .slo 0 3), (1, .slo 1 3), (5, .one (.i .i64))], [rowB, rowB]⟩,
  [.o2 .ile (.i 0) (.v 2), .o2 .ile (.o1 .llen (.v 0)) (.i 1048576), .o2 .ieq (.o1 .llen (.v 1)) (.o1 .llen (.v 0))],
  [(.exit 0, ⟨27, 2, [(0, .slo 0 3), (1, .slo 1 3)], [rowB, rowB]⟩), (.ret, ⟨27, 2, [(0, .slo 0 3), (1, .slo 1 3), (4, .one .b)], [rowB, rowB]⟩)]⟩
noncomputable def T87 : Tree LRes := mapT A87.leaf (execL Try.prog ct1 (fun _ => none) 100 (bodyOf body87 0) A87.s0)
def O87 : List (List OutW) := [[.same 0, .same 1], [.same 0, .same 1, .lit (.b false)]]

def A82 : LoopT := ⟨⟨67, 2, [(0, .ptr 0 0), (3, .one (.i .i64))], ballsB false⟩,
  [.o2 .ile (.i 0) (.v 2), .o2 .ile (.o1 .llen (.v 1)) (.i 1048576)],
  [(.exit 0, ⟨67, 2, [(0, .ptr 0 0)], ballsB false⟩), (.ret, ⟨67, 2, [(0, .ptr 0 0), (2, .one .b)], ballsB false⟩)]⟩
noncomputable def T82 : Tree LRes := mapT A82.leaf (execL Try.prog ct1 (fun _ => none) 100 (bodyOf body82 0) A82.s0)
def O82 : List (List OutW) := [[.lit (.b false), .same 1, .same 3], [.lit (.b false), .same 1, .lit (.b false), .same 3]]

def A85 : LoopT := ⟨⟨52, 2, [(1, .ptr 0 0), (6, .slo 1 3), (7, .one (.i .i64)), (8, .one (.i .i64))], ballsB true⟩,
  [.o2 .ile (.i 0) (.v 3), .o2 .ile (.o1 .llen (.v 1)) (.i 1048576), .o2 .ieq (.v 2) (.o1 .llen (.v 1))],
  [(.exit 0, ⟨52, 2, [(1, .ptr 0 0)], ballsB true⟩), (.ret, ⟨52, 2, [(2, .one .b)], ballsB true⟩)]⟩
noncomputable def T85 : Tree LRes := mapT A85.leaf (execL Try.prog ct1 (fun _ => none) 100 (bodyOf body85 0) A85.s0)
def O85 : List (List OutW) := [[.lit (.b false), .same 1, .same 4], [.lit (.b false), .same 1, .lit (.b false), .same 4]]
def rho85 : List E := [.b false, .v 1, .v 3, .v 4]

def A83 : LoopT := ⟨⟨90, 2, [(0, .ptr 0 0), (5, .one (.i .i64)), (6, .one (.f .f32)), (7, .one (.i .i64))], ballsB false⟩,
  [.o2 .ile (.i 0) (.v 4), .o2 .ile (.v 4) (.i 1048576), .o2 .ile (.o1 .llen (.v 1)) (.i 1048576)],
  [(.exit 0, ⟨90, 2, [(0, .ptr 0 0), (5, .one (.i .i64)), (6, .one (.f .f32))], ballsB false⟩)]⟩
noncomputable def T83 : Tree LRes := mapT A83.leaf (execL Try.prog ct1 (fun _ => none) 100 (bodyOf body83 0) A83.s0)
def O83 : List (List OutW) := [[.lit (.b false), .same 1, .val 2, .val 3, .same 5]]

def A86 : LoopT := ⟨⟨79, 2, [(0, .ptr 0 0), (5, .one (.i .i64)), (6, .one (.f .f32)), (7, .one (.i .i64))], ballsB true⟩,
  [.o2 .ile (.i 1) (.v 4), .o2 .ile (.v 4) (.i 1048577), .o2 .ile (.o1 .llen (.v 1)) (.i 1048576)],
  [(.exit 0, ⟨79, 2, [(0, .ptr 0 0), (5, .one (.i .i64)), (6, .one (.f .f32))], ballsB true⟩)]⟩
noncomputable def T86 : Tree LRes := mapT A86.leaf (execL Try.prog ct1 (fun _ => none) 100 (bodyOf body86 0) A86.s0)
def rho86 : List E := [.b false, .v 1, .v 2, .v 3, .o2 .iadd (.v 4) (.i (-1)), .v 5]

def idU : Nat → D → D := fun _ d => d
noncomputable def rowU : Nat → D → D := fun n d => bif Nat.beq n 10 then loopVal idU A87.inv T87 d else bif Nat.beq n 11 then loopVal idU A82.inv T82 d else bif Nat.beq n 12 then loopVal idU A83.inv T83 d else d

def A84 : LoopT := copyA 23 K3
noncomputable def T84 : Tree LRes := mapT A84.leaf (execL Try.prog ct1 (fun _ => none) 100 (bodyOf body84 0) A84.s0)

theorem rowU10 (d : D) : rowU 10 d = loopVal rowU A87.inv T87 d := (show rowU 10 d = loopVal idU A87.inv T87 d by kernel_rfl).trans (loopVal_below (N := 0) (fun _ h => absurd h (Nat.not_lt_zero _)) (by kernel_rfl) (by kernel_rfl) d)
theorem rowU11 (d : D) : rowU 11 d = loopVal rowU A82.inv T82 d := (show rowU 11 d = loopVal idU A82.inv T82 d by kernel_rfl).trans (loopVal_below (N := 0) (fun _ h => absurd h (Nat.not_lt_zero _)) (by kernel_rfl) (by kernel_rfl) d)
theorem rowU12 (d : D) : rowU 12 d = loopVal rowU A83.inv T83 d := (show rowU 12 d = loopVal idU A83.inv T83 d by kernel_rfl).trans (loopVal_below (N := 0) (fun _ h => absurd h (Nat.not_lt_zero _)) (by kernel_rfl) (by kernel_rfl) d)

def R84 : LRun := copyRun 23 K3
def R87 : LRun := eqRun A87 10 0 1 O87
def R82 : LRun := wordRun A82 11 O82
def R85 : LRun := simRun A85 11 rho85 O85
def R83 : LRun := wordRun A83 12 O83
def R86 : LRun := simRun A86 12 rho86 O83

theorem okT84 : okA 1000 T84 = true := by kernel_rfl
theorem okT87 : okA 1000 T87 = true := by kernel_rfl
theorem okT82 : okA 1000 T82 = true := by kernel_rfl
theorem okT85 : okA 1000 T85 = true := by kernel_rfl
theorem okT83 : okA 1000 T83 = true := by kernel_rfl
theorem okT86 : okA 1000 T86 = true := by kernel_rfl

theorem told84 : Sx.Told rowU T84 R84 := copy_told (by kernel_rfl)
theorem told87 : Sx.Told rowU T87 R87 := eq_told (C := [0, 1]) (mu := .o2 .isub (.o1 .llen (.v 0)) (.v 2)) rowU10 (by kernel_rfl) okT87 (by kernel_rfl) (by kernel_rfl) (by kernel_rfl) (by kernel_rfl) (by kernel_rfl)
theorem told82 : Sx.Told rowU T82 R82 := word_told (C := [1, 3]) (mu := .o2 .isub (.o1 .llen (.v 1)) (.v 2)) rowU11 (by kernel_rfl) okT82 (by kernel_rfl) (by kernel_rfl) (by kernel_rfl)
theorem told83 : Sx.Told rowU T83 R83 := word_told (C := [1, 5]) (mu := .o2 .isub (.o1 .llen (.v 1)) (.v 4)) rowU12 (by kernel_rfl) okT83 (by kernel_rfl) (by kernel_rfl) (by kernel_rfl)
theorem told85 : Sx.Told rowU T85 R85 := sim_told (C := [1, 4]) (mu := .o2 .isub (.v 2) (.v 3)) rowU11 (by kernel_rfl) okT85 (by kernel_rfl) (by kernel_rfl) (by kernel_rfl) (by kernel_rfl)
theorem told86 : Sx.Told rowU T86 R86 := sim_told (C := [1, 5]) (mu := .o2 .isub (.o1 .llen (.v 1)) (.v 4)) rowU12 (by kernel_rfl) okT86 (by kernel_rfl) (by kernel_rfl) (by kernel_rfl) (by kernel_rfl)

noncomputable def E84 := textL Try.prog ct1 (oneLoop 3 R84) 100 Try.f84 body84
noncomputable def E87 := textL Try.prog ct1 (oneLoop 4 R87) 100 Try.f87 body87
noncomputable def E82 := textL Try.prog ct1 (oneLoop 4 R82) 100 Try.f82 body82
noncomputable def E83 := textL Try.prog ct1 (oneLoop 4 R83) 100 Try.f83 body83
noncomputable def E85 := textL Try.prog ct1 (oneLoop 2 R85) 100 Try.f85 body85
noncomputable def E86 := textL Try.prog ct1 (oneLoop 3 R86) 100 Try.f86 body86

theorem e84 : EntryOk rowU Try.prog 84 E84 := loopFn_entry (key := 3) (R := R84) Try.mixes Try.names ct1_ok Try.func84 (by kernel_rfl) (by kernel_rfl) (by kernel_rfl) okT84 told84
theorem e87 : EntryOk rowU Try.prog 87 E87 := loopFn_entry (key := 4) (R := R87) Try.mixes Try.names ct1_ok Try.func87 (by kernel_rfl) (by kernel_rfl) (by kernel_rfl) okT87 told87
theorem e82 : EntryOk rowU Try.prog 82 E82 := loopFn_entry (key := 4) (R := R82) Try.mixes Try.names ct1_ok Try.func82 (by kernel_rfl) (by kernel_rfl) (by kernel_rfl) okT82 told82
theorem e83 : EntryOk rowU Try.prog 83 E83 := loopFn_entry (key := 4) (R := R83) Try.mixes Try.names ct1_ok Try.func83 (by kernel_rfl) (by kernel_rfl) (by kernel_rfl) okT83 told83
theorem e85 : EntryOk rowU Try.prog 85 E85 := loopFn_entry (key := 2) (R := R85) Try.mixes Try.names ct1_ok Try.func85 (by kernel_rfl) (by kernel_rfl) (by kernel_rfl) okT85 told85
theorem e86 : EntryOk rowU Try.prog 86 E86 := loopFn_entry (key := 3) (R := R86) Try.mixes Try.names ct1_ok Try.func86 (by kernel_rfl) (by kernel_rfl) (by kernel_rfl) okT86 told86

noncomputable def ctR : Contracts := (((((ct1.add 84 E84).add 87 E87).add 82 E82).add 83 E83).add 85 E85).add 86 E86
theorem ctR_ok : ContractsOk rowU Try.prog ctR := (((((ct1_ok.add e84).add e87).add e82).add e83).add e85).add e86
noncomputable def cfR := callX Try.prog ctR (exec Try.prog ctR 100)
theorem cfR_ok : CallsOk rowU Try.prog cfR := @calls_ok rowU Try.prog ctR Try.mixes Try.names ctR_ok 100

abbrev rowArg : List AArg := [.ag [.row K3, .sc (.f .f32)]]

end Go.Proofs.Ytdgenclminhcdaa
