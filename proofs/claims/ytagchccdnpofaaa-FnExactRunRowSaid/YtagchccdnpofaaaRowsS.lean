/-
  RowsS: rows of balls: the loops that copy, compare, look through, move, lift and mark them, each told once.
-/
import Derived.Test.YtagchccdnpofaaaBase
import Derived.Test.YtagchccdnpofaaaSxSb
import Derived.Test.YtagchccdnpofaaaSxPu
import Derived.Test.YtagchccdnpofaaaSxMk
import Derived.Test.YtagchccdnpofaaaSxLn
namespace Go.Proofs.Ytagchccdnpofaaa
open Go.Sx
set_option maxRecDepth 100000

abbrev f1 : LP := .one (.f .f32)
abbrev i1 : LP := .one (.i .i64)
abbrev rowB : BP := ⟨false, [], some K3⟩
abbrev ballsB (w : Bool) : List BP := [⟨w, [.slo 1 3, f1], none⟩, rowB]
/-- A row that may be written. -/
abbrev ballsW : List BP := [⟨true, [.slo 1 3, f1], none⟩, ⟨true, [], some K3⟩]

noncomputable def body58 : Code := (Try.f58.body).getD .skip
noncomputable def body61 : Code := (Try.f61.body).getD .skip
noncomputable def body56 : Code := (Try.f56.body).getD .skip
noncomputable def body59 : Code := (Try.f59.body).getD .skip
noncomputable def body57 : Code := (Try.f57.body).getD .skip
noncomputable def body60 : Code := (Try.f60.body).getD .skip
noncomputable def body106 : Code := (Try.f106.body).getD .skip
noncomputable def body107 : Code := (Try.f107.body).getD .skip
noncomputable def body111 : Code := (Try.f111.body).getD .skip
noncomputable def body112 : Code := (Try.f112.body).getD .skip
noncomputable def body101 : Code := (Try.f101.body).getD .skip
noncomputable def body102 : Code := (Try.f102.body).getD .skip

noncomputable def A61 : LoopT := ⟨⟨Try.f61.ntmps, 2, [(0, .slo 0 3), (1, .slo 1 3), (5, i1)], [rowB, rowB]⟩,
  [.o2 .ile (.i 0) (.v 2), .o2 .ile (.o1 .llen (.v 0)) (.i 1048576), .o2 .ieq (.o1 .llen (.v 1)) (.o1 .llen (.v 0))],
  [(.exit 0, ⟨Try.f61.ntmps, 2, [(0, .slo 0 3), (1, .slo 1 3)], [rowB, rowB]⟩), (.ret, ⟨Try.f61.ntmps, 2, [(0, .slo 0 3), (1, .slo 1 3), (4, .one .b)], [rowB, rowB]⟩)]⟩
noncomputable def T61 : Tree LRes := mapT A61.leaf (execL Try.prog ct1 (fun _ => none) 100 (bodyOf body61 0) A61.s0)
def O61 : List (List OutW) := [[.same 0, .same 1], [.same 0, .same 1, .lit (.b false)]]
noncomputable def A56 : LoopT := ⟨⟨Try.f56.ntmps, 2, [(0, .ptr 0 0), (3, i1)], ballsB false⟩,
  [.o2 .ile (.i 0) (.v 2), .o2 .ile (.o1 .llen (.v 1)) (.i 1048576)],
  [(.exit 0, ⟨Try.f56.ntmps, 2, [(0, .ptr 0 0)], ballsB false⟩), (.ret, ⟨Try.f56.ntmps, 2, [(0, .ptr 0 0), (2, .one .b)], ballsB false⟩)]⟩
noncomputable def T56 : Tree LRes := mapT A56.leaf (execL Try.prog ct1 (fun _ => none) 100 (bodyOf body56 0) A56.s0)
def O56 : List (List OutW) := [[.lit (.b false), .same 1, .same 3], [.lit (.b false), .same 1, .lit (.b false), .same 3]]
noncomputable def A59 : LoopT := ⟨⟨Try.f59.ntmps, 2, [(1, .ptr 0 0), (6, .slo 1 3), (7, i1), (8, i1)], [⟨true, [.slo 1 3, f1], none⟩, rowB]⟩,
  [.o2 .ile (.i 0) (.v 3), .o2 .ile (.o1 .llen (.v 1)) (.i 1048576), .o2 .ieq (.v 2) (.o1 .llen (.v 1))],
  [(.exit 0, ⟨Try.f59.ntmps, 2, [(1, .ptr 0 0)], [⟨true, [.slo 1 3, f1], none⟩, rowB]⟩), (.ret, ⟨Try.f59.ntmps, 2, [(2, .one .b)], [⟨true, [.slo 1 3, f1], none⟩, rowB]⟩)]⟩
noncomputable def T59 : Tree LRes := mapT A59.leaf (execL Try.prog ct1 (fun _ => none) 100 (bodyOf body59 0) A59.s0)
def O59 : List (List OutW) := [[.lit (.b false), .same 1, .same 4], [.lit (.b false), .same 1, .lit (.b false), .same 4]]
def rho59 : List E := [.b false, .v 1, .v 3, .v 4]
noncomputable def A57 : LoopT := ⟨⟨Try.f57.ntmps, 2, [(0, .ptr 0 0), (5, i1), (6, f1), (7, i1)], ballsB false⟩,
  [.o2 .ile (.i 0) (.v 4), .o2 .ilt (.v 4) (.o1 .llen (.v 1)), .o2 .ile (.o1 .llen (.v 1)) (.i 1048576), .o2 .ile (.i (-1)) (.v 2), .o2 .ilt (.v 2) (.v 4)],
  [(.exit 0, ⟨Try.f57.ntmps, 2, [(0, .ptr 0 0), (5, i1), (6, f1)], ballsB false⟩)]⟩
noncomputable def T57 : Tree LRes := mapT A57.leaf (execL Try.prog ct1 (fun _ => none) 100 (bodyOf body57 0) A57.s0)
def O57 : List (List OutW) := [[.lit (.b false), .same 1, .val 2, .val 3, .same 5]]
noncomputable def A60 : LoopT := ⟨⟨Try.f60.ntmps, 2, [(0, .ptr 0 0), (5, i1), (6, f1), (7, i1)], [⟨true, [.slo 1 3, f1], none⟩, rowB]⟩,
  [.o2 .ile (.i 1) (.v 4), .o2 .ile (.v 4) (.o1 .llen (.v 1)), .o2 .ile (.o1 .llen (.v 1)) (.i 1048576), .o2 .ile (.i (-1)) (.v 2), .o2 .ilt (.o2 .iadd (.v 2) (.i 1)) (.v 4)],
  [(.exit 0, ⟨Try.f60.ntmps, 2, [(0, .ptr 0 0), (5, i1), (6, f1)], [⟨true, [.slo 1 3, f1], none⟩, rowB]⟩)]⟩
noncomputable def T60 : Tree LRes := mapT A60.leaf (execL Try.prog ct1 (fun _ => none) 100 (bodyOf body60 0) A60.s0)
def rho60 : List E := [.b false, .v 1, .v 2, .v 3, .o2 .iadd (.v 4) (.i (-1)), .v 5]
def pf57 : List (List E) := [[.o2 .ilt (.o2 .iadd (.v 2) (.i 1)) (.o1 .llen (.v 1)), .o2 .ile (.i (-1)) (.v 2)]]
noncomputable def A106 : LoopT := ⟨⟨Try.f106.ntmps, 3, [(4, .ptr 2 0), (5, .ptr 0 0), (1, f1), (6, i1)], ballsW ++ [⟨true, [.any, .any], none⟩]⟩,
  [.o2 .ile (.i 0) (.v 4), .o2 .ile (.o1 .llen (.v 1)) (.i 1048576)],
  [(.exit 0, ⟨Try.f106.ntmps, 3, [(4, .ptr 2 0), (5, .ptr 0 0)], ballsW ++ [⟨true, [.any, .any], none⟩]⟩)]⟩
noncomputable def T106 : Tree LRes := mapT A106.leaf (execL Try.prog ct1 (fun _ => none) 100 (bodyOf body106 0) A106.s0)
def O106 : List (List OutW) := [[.lit (.b false), .val 1, .lit (.b false), .same 5]]
noncomputable def A111 : LoopT := ⟨⟨Try.f111.ntmps, 2, [(0, .ptr 0 0), (1, f1), (9, i1), (10, i1)], ballsW⟩,
  [.o2 .ile (.i 0) (.v 4), .o2 .ile (.v 3) (.i 1048576), .o2 .ieq (.o1 .llen (.v 1)) (.v 3)],
  [(.exit 0, ⟨Try.f111.ntmps, 2, [(0, .ptr 0 0)], ballsW⟩)]⟩
noncomputable def T111 : Tree LRes := mapT A111.leaf (execL Try.prog ct1 (fun _ => none) 100 (bodyOf body111 0) A111.s0)
def O111 : List (List OutW) := [[.lit (.b false), .val 1, .same 5]]
def rho111 : List E := [.b false, .v 1, .b false, .v 2, .v 4, .v 5]
noncomputable def A107 : LoopT := ⟨⟨Try.f107.ntmps, 2, [(0, .ptr 0 0), (2, i1)], ballsW⟩,
  [.o2 .ile (.i 1) (.v 2), .o2 .ile (.o1 .llen (.v 1)) (.i 1048576)],
  [(.exit 0, ⟨Try.f107.ntmps, 2, [(0, .ptr 0 0)], ballsW⟩)]⟩
noncomputable def T107 : Tree LRes := mapT A107.leaf (execL Try.prog ct1 (fun _ => none) 100 (bodyOf body107 0) A107.s0)
def O107 : List (List OutW) := [[.lit (.b false), .val 1, .same 3]]
noncomputable def A112 : LoopT := ⟨⟨Try.f112.ntmps, 2, [(0, .ptr 0 0), (2, i1)], ballsW⟩, A107.inv, [(.exit 0, ⟨Try.f112.ntmps, 2, [(0, .ptr 0 0)], ballsW⟩)]⟩
noncomputable def T112 : Tree LRes := mapT A112.leaf (execL Try.prog ct1 (fun _ => none) 100 (bodyOf body112 0) A112.s0)
def rho112 : List E := [.b false, .v 1, .v 2, .v 3]
noncomputable def A58 : LoopT := copyA Try.f58.ntmps K3
noncomputable def T58 : Tree LRes := mapT A58.leaf (execL Try.prog ct1 (fun _ => none) 100 (bodyOf body58 0) A58.s0)
noncomputable def A101 : LoopT := markA Try.f101.ntmps
noncomputable def T101 : Tree LRes := mapT A101.leaf (execL Try.prog ct1 (fun _ => none) 100 (bodyOf body101 0) A101.s0)
noncomputable def A102 : LoopT := heldA Try.f102.ntmps
noncomputable def T102 : Tree LRes := mapT A102.leaf (execL Try.prog ct1 (fun _ => none) 100 (bodyOf body102 0) A102.s0)

noncomputable def R58 : LRun := copyRun Try.f58.ntmps K3
noncomputable def R61 : LRun := eqRun A61 10 0 1 O61
noncomputable def R56 : LRun := wordRun A56 11 O56
noncomputable def R59 : LRun := simRun A59 11 rho59 O59
noncomputable def R57 : LRun := postRun (wordRun A57 12 O57) pf57
noncomputable def R60 : LRun := postRun (simRun A60 12 rho60 O57) pf57
noncomputable def R106 : LRun := lenRun (wordRun A106 13 O106) 1 1
noncomputable def R111 : LRun := lenRun (simRun A111 13 rho111 O111) 1 1
noncomputable def R107 : LRun := lenRun (wordRun A107 14 O107) 1 1
noncomputable def R112 : LRun := lenRun (simRun A112 14 rho112 O107) 1 1
noncomputable def R101 : LRun := markRun Try.f101.ntmps 20
noncomputable def R102 : LRun := heldRun Try.f102.ntmps 20 21

noncomputable def E58 := textL Try.prog ct1 (loopsAt [(3, 0, R58)]) 100 Try.f58 body58
noncomputable def E61 := textL Try.prog ct1 (loopsAt [(4, 0, R61)]) 100 Try.f61 body61
noncomputable def E56 := textL Try.prog ct1 (loopsAt [(4, 0, R56)]) 100 Try.f56 body56
noncomputable def E57 := textL Try.prog ct1 (loopsAt [(4, 0, R57)]) 100 Try.f57 body57
noncomputable def E59 := textL Try.prog ct1 (loopsAt [(2, 0, R59)]) 100 Try.f59 body59
noncomputable def E60 := textL Try.prog ct1 (loopsAt [(3, 0, R60)]) 100 Try.f60 body60
noncomputable def E106 := textL Try.prog ct1 (loopsAt [(3, 0, R106)]) 100 Try.f106 body106
noncomputable def E111 := textL Try.prog ct1 (loopsAt [(1, 0, R111)]) 100 Try.f111 body111
noncomputable def E107 := textL Try.prog ct1 (loopsAt [(1, 0, R107)]) 100 Try.f107 body107
noncomputable def E112 := textL Try.prog ct1 (loopsAt [(1, 0, R112)]) 100 Try.f112 body112
noncomputable def E101 := textL Try.prog ct1 (loopsAt [(2, 0, R101)]) 100 Try.f101 body101
noncomputable def E102 := textL Try.prog ct1 (loopsAt [(2, 0, R102)]) 100 Try.f102 body102

theorem okT61 : okA 1000 T61 = true := by kernel_rfl
theorem okT56 : okA 1000 T56 = true := by kernel_rfl
theorem okT57 : okA 1000 T57 = true := by kernel_rfl
theorem okT59 : okA 1000 T59 = true := by kernel_rfl
theorem okT60 : okA 1000 T60 = true := by kernel_rfl
theorem okT106 : okA 1000 T106 = true := by kernel_rfl
theorem okT111 : okA 1000 T111 = true := by kernel_rfl
theorem okT107 : okA 1000 T107 = true := by kernel_rfl
theorem okT112 : okA 1000 T112 = true := by kernel_rfl
theorem t58 : T58 = copyT K3 := by kernel_rfl
theorem t101 : T101 = markT := by kernel_rfl
theorem t102 : T102 = heldT := by kernel_rfl
theorem okT58 : okA 1000 T58 = true := by rw [t58]; kernel_rfl
theorem okT101 : okA 1000 T101 = true := by rw [t101]; kernel_rfl
theorem okT102 : okA 1000 T102 = true := by rw [t102]; kernel_rfl
structure BallWords (U : Nat → D → D) : Prop where
  w10 : ∀ d, U 10 d = loopVal U A61.inv T61 d
  w11 : ∀ d, U 11 d = loopVal U A56.inv T56 d
  w12 : ∀ d, U 12 d = loopVal U A57.inv T57 d
  w13 : ∀ d, U 13 d = loopVal U A106.inv T106 d
  w14 : ∀ d, U 14 d = loopVal U A107.inv T107 d
  w20 : ∀ d, U 20 d = markD d
  w21 : ∀ d, U 21 d = loopVal U markInv heldT d
section
variable {U : Nat → D → D}
theorem r56 : roundK [1, 3] O56 A56.t.cnt A56.inv (.o2 .isub (.o1 .llen (.v 1)) (.v 2)) T56 = true := by kernel_rfl
theorem r59 : roundK [1, 4] O59 A59.t.cnt A59.inv (.o2 .isub (.v 2) (.v 3)) T59 = true := by kernel_rfl
theorem r57 : roundK [1, 5] O57 A57.t.cnt A57.inv (.o2 .isub (.o1 .llen (.v 1)) (.v 4)) T57 = true := by kernel_rfl
theorem r60 : roundK [1, 5] O57 A60.t.cnt A60.inv (.o2 .isub (.o1 .llen (.v 1)) (.v 4)) T60 = true := by kernel_rfl
theorem r106 : roundK [3, 5] O106 A106.t.cnt A106.inv (.o2 .isub (.o1 .llen (.v 1)) (.v 4)) T106 = true := by kernel_rfl
theorem r111 : roundK [2, 3, 5] O111 A111.t.cnt A111.inv (.o2 .isub (.v 3) (.v 4)) T111 = true := by kernel_rfl
theorem r107 : roundK [3] O107 A107.t.cnt A107.inv (.o2 .isub (.o1 .llen (.v 1)) (.v 2)) T107 = true := by kernel_rfl
theorem r112 : roundK [3] O107 A112.t.cnt A112.inv (.o2 .isub (.o1 .llen (.v 1)) (.v 2)) T112 = true := by kernel_rfl
theorem s59 : simOkK A56.inv A59.inv rho59 O59 T56 T59 = true := by kernel_rfl
theorem s60 : simOkK A57.inv A60.inv rho60 O57 T57 T60 = true := by kernel_rfl
theorem s111 : simOkK A106.inv A111.inv rho111 O111 T106 T111 = true := by kernel_rfl
theorem s112 : simOkK A107.inv A112.inv rho112 O107 T107 T112 = true := by kernel_rfl
theorem told58 : Sx.Told U T58 R58 := copy_told t58
theorem told61 (h : BallWords U) : Sx.Told U T61 R61 := eq_told (C := [0, 1]) (mu := .o2 .isub (.o1 .llen (.v 0)) (.v 2)) h.w10 (by kernel_rfl) okT61 (by kernel_rfl) (by kernel_rfl) (by kernel_rfl) (by kernel_rfl) (by kernel_rfl)
theorem told56 (h : BallWords U) : Sx.Told U T56 R56 := wordK_told h.w11 r56 (by kernel_rfl)
theorem told59 (h : BallWords U) : Sx.Told U T59 R59 := simK_told h.w11 r59 s59 (by kernel_rfl)
theorem told57 (h : BallWords U) : Sx.Told U T57 R57 := post_told (wordK_told h.w12 r57 (by kernel_rfl)) (by kernel_rfl)
theorem told60 (h : BallWords U) : Sx.Told U T60 R60 := post_told (simK_told h.w12 r60 s60 (by kernel_rfl)) (by kernel_rfl)
theorem told106 (h : BallWords U) : Sx.Told U T106 R106 := len_told (wordK_told h.w13 r106 (by kernel_rfl)) (by kernel_rfl) (by kernel_rfl)
theorem told111 (h : BallWords U) : Sx.Told U T111 R111 := len_told (simK_told h.w13 r111 s111 (by kernel_rfl)) (by kernel_rfl) (by kernel_rfl)
theorem told107 (h : BallWords U) : Sx.Told U T107 R107 := len_told (wordK_told h.w14 r107 (by kernel_rfl)) (by kernel_rfl) (by kernel_rfl)
theorem told112 (h : BallWords U) : Sx.Told U T112 R112 := len_told (simK_told h.w14 r112 s112 (by kernel_rfl)) (by kernel_rfl) (by kernel_rfl)
theorem told101 (h : BallWords U) : Sx.Told U T101 R101 := mark_told t101 h.w20
theorem told102 (h : BallWords U) : Sx.Told U T102 R102 := held_told t102 h.w20 h.w21
theorem e61 (h : BallWords U) : EntryOk U Try.prog 61 E61 := loopsFn_entry Try.mixes Try.names ct1_ok Try.func61 (by kernel_rfl) (by kernel_rfl) (fun e he => by rw [List.mem_singleton.1 he]; exact told_ok Try.mixes Try.names ct1_ok (by kernel_rfl) okT61 (told61 h))
theorem e56 (h : BallWords U) : EntryOk U Try.prog 56 E56 := loopsFn_entry Try.mixes Try.names ct1_ok Try.func56 (by kernel_rfl) (by kernel_rfl) (fun e he => by rw [List.mem_singleton.1 he]; exact told_ok Try.mixes Try.names ct1_ok (by kernel_rfl) okT56 (told56 h))
theorem e57 (h : BallWords U) : EntryOk U Try.prog 57 E57 := loopsFn_entry Try.mixes Try.names ct1_ok Try.func57 (by kernel_rfl) (by kernel_rfl) (fun e he => by rw [List.mem_singleton.1 he]; exact told_ok Try.mixes Try.names ct1_ok (by kernel_rfl) okT57 (told57 h))
theorem e59 (h : BallWords U) : EntryOk U Try.prog 59 E59 := loopsFn_entry Try.mixes Try.names ct1_ok Try.func59 (by kernel_rfl) (by kernel_rfl) (fun e he => by rw [List.mem_singleton.1 he]; exact told_ok Try.mixes Try.names ct1_ok (by kernel_rfl) okT59 (told59 h))
theorem e60 (h : BallWords U) : EntryOk U Try.prog 60 E60 := loopsFn_entry Try.mixes Try.names ct1_ok Try.func60 (by kernel_rfl) (by kernel_rfl) (fun e he => by rw [List.mem_singleton.1 he]; exact told_ok Try.mixes Try.names ct1_ok (by kernel_rfl) okT60 (told60 h))
theorem e106 (h : BallWords U) : EntryOk U Try.prog 106 E106 := loopsFn_entry Try.mixes Try.names ct1_ok Try.func106 (by kernel_rfl) (by kernel_rfl) (fun e he => by rw [List.mem_singleton.1 he]; exact told_ok Try.mixes Try.names ct1_ok (by kernel_rfl) okT106 (told106 h))
theorem e111 (h : BallWords U) : EntryOk U Try.prog 111 E111 := loopsFn_entry Try.mixes Try.names ct1_ok Try.func111 (by kernel_rfl) (by kernel_rfl) (fun e he => by rw [List.mem_singleton.1 he]; exact told_ok Try.mixes Try.names ct1_ok (by kernel_rfl) okT111 (told111 h))
theorem e107 (h : BallWords U) : EntryOk U Try.prog 107 E107 := loopsFn_entry Try.mixes Try.names ct1_ok Try.func107 (by kernel_rfl) (by kernel_rfl) (fun e he => by rw [List.mem_singleton.1 he]; exact told_ok Try.mixes Try.names ct1_ok (by kernel_rfl) okT107 (told107 h))
theorem e112 (h : BallWords U) : EntryOk U Try.prog 112 E112 := loopsFn_entry Try.mixes Try.names ct1_ok Try.func112 (by kernel_rfl) (by kernel_rfl) (fun e he => by rw [List.mem_singleton.1 he]; exact told_ok Try.mixes Try.names ct1_ok (by kernel_rfl) okT112 (told112 h))
theorem e58 : EntryOk U Try.prog 58 E58 := loopsFn_entry Try.mixes Try.names ct1_ok Try.func58 (by kernel_rfl) (by kernel_rfl) (fun e he => by rw [List.mem_singleton.1 he]; exact told_ok Try.mixes Try.names ct1_ok (by kernel_rfl) okT58 (told58))
theorem e101 (h : BallWords U) : EntryOk U Try.prog 101 E101 := loopsFn_entry Try.mixes Try.names ct1_ok Try.func101 (by kernel_rfl) (by kernel_rfl) (fun e he => by rw [List.mem_singleton.1 he]; exact told_ok Try.mixes Try.names ct1_ok (by kernel_rfl) okT101 (told101 h))
theorem e102 (h : BallWords U) : EntryOk U Try.prog 102 E102 := loopsFn_entry Try.mixes Try.names ct1_ok Try.func102 (by kernel_rfl) (by kernel_rfl) (fun e he => by rw [List.mem_singleton.1 he]; exact told_ok Try.mixes Try.names ct1_ok (by kernel_rfl) okT102 (told102 h))
end
noncomputable def ctR : Contracts := ((((((((((((ct1.add 58 E58).add 61 E61).add 56 E56).add 57 E57).add 59 E59).add 60 E60).add 106 E106).add 111 E111).add 107 E107).add 112 E112).add 101 E101).add 102 E102)
theorem ctR_ok {U : Nat → D → D} (h : BallWords U) : ContractsOk U Try.prog ctR := (((((((((((ct1_ok.add (e58)).add (e61 h)).add (e56 h)).add (e57 h)).add (e59 h)).add (e60 h)).add (e106 h)).add (e111 h)).add (e107 h)).add (e112 h)).add (e101 h)).add (e102 h)
def idU : Nat → D → D := fun _ d => d
noncomputable def ballU : Nat → D → D := fun n d => bif Nat.beq n 10 then loopVal idU A61.inv T61 d else bif Nat.beq n 11 then loopVal idU A56.inv T56 d else bif Nat.beq n 12 then loopVal idU A57.inv T57 d else bif Nat.beq n 13 then loopVal idU A106.inv T106 d else bif Nat.beq n 14 then loopVal idU A107.inv T107 d else bif Nat.beq n 21 then loopVal idU markInv heldT d else bif Nat.beq n 20 then markD d else d
theorem ballWords {U : Nat → D → D} (h : ∀ n, Nat.ble 10 n = true → Nat.ble n 21 = true → ∀ d, U n d = ballU n d) : BallWords U where
  w10 d := ((h 10 rfl rfl d).trans (show ballU 10 d = loopVal idU A61.inv T61 d by kernel_rfl)).trans (loopVal_below (N := 0) (fun _ h => absurd h (Nat.not_lt_zero _)) (by kernel_rfl) (by kernel_rfl) d)
  w11 d := ((h 11 rfl rfl d).trans (show ballU 11 d = loopVal idU A56.inv T56 d by kernel_rfl)).trans (loopVal_below (N := 0) (fun _ h => absurd h (Nat.not_lt_zero _)) (by kernel_rfl) (by kernel_rfl) d)
  w12 d := ((h 12 rfl rfl d).trans (show ballU 12 d = loopVal idU A57.inv T57 d by kernel_rfl)).trans (loopVal_below (N := 0) (fun _ h => absurd h (Nat.not_lt_zero _)) (by kernel_rfl) (by kernel_rfl) d)
  w13 d := ((h 13 rfl rfl d).trans (show ballU 13 d = loopVal idU A106.inv T106 d by kernel_rfl)).trans (loopVal_below (N := 0) (fun _ h => absurd h (Nat.not_lt_zero _)) (by kernel_rfl) (by kernel_rfl) d)
  w14 d := ((h 14 rfl rfl d).trans (show ballU 14 d = loopVal idU A107.inv T107 d by kernel_rfl)).trans (loopVal_below (N := 0) (fun _ h => absurd h (Nat.not_lt_zero _)) (by kernel_rfl) (by kernel_rfl) d)
  w21 d := ((h 21 rfl rfl d).trans (show ballU 21 d = loopVal idU markInv heldT d by kernel_rfl)).trans (loopVal_below (N := 0) (fun _ h => absurd h (Nat.not_lt_zero _)) (by kernel_rfl) (by kernel_rfl) d)
  w20 d := (h 20 rfl rfl d).trans (show ballU 20 d = markD d by kernel_rfl)
noncomputable def cfR := callX Try.prog ctR (exec Try.prog ctR 100)
theorem cfR_ok : CallsOk ballU Try.prog cfR := @calls_ok ballU Try.prog ctR Try.mixes Try.names (ctR_ok (ballWords fun _ _ _ _ => rfl)) 100
abbrev rowArg : List AArg := [.ag [.row K3, .sc (.f .f32)]]
end Go.Proofs.Ytagchccdnpofaaa
