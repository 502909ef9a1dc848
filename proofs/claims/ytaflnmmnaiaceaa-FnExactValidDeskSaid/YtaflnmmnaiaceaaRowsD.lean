/-
  Desks: the loops that copy and compare the lists of a desk, each told once.
-/
import Derived.Test.YtaflnmmnaiaceaaBase
import Derived.Test.YtaflnmmnaiaceaaSxSb
import Derived.Test.YtaflnmmnaiaceaaSxGe
namespace Go.Proofs.Ytaflnmmnaiaceaa
open Go.Sx
set_option maxRecDepth 100000

theorem same116 {U : Nat → D → D} : EntryOk U Try.prog 116 (memoRun [.one (.f .f32), .one (.f .f32)] sameAns) := @specSame_ok U Try.prog cf1 cf1_ok 116 (by kernel_rfl)
theorem same134 {U : Nat → D → D} : EntryOk U Try.prog 134 (memoRun [.one (.f .f32), .one (.f .f32)] sameAns) := @implSame_ok U Try.prog cf1 cf1_ok 134 (by kernel_rfl)
noncomputable def ct2 : Contracts := (ct1.add 116 (memoRun [.one (.f .f32), .one (.f .f32)] sameAns)).add 134 (memoRun [.one (.f .f32), .one (.f .f32)] sameAns)
theorem ct2_ok {U : Nat → D → D} : ContractsOk U Try.prog ct2 := (ct1_ok.add same116).add same134

abbrev KV : List Sk := [.f .f32, .f .f32, .f .f32]
abbrev KF : List Sk := [.f .f32]
abbrev KR : List Sk := [.i .i64, .i .i64, .f .f32]
abbrev KC : List Sk := [.f .f32, .f .f32]
abbrev rowB (ks : List Sk) : BP := ⟨false, [], some ks⟩
abbrev chainB (b : Nat) : BP := ⟨false, [.any, .any, .any, .any, .any, .any, .any, .any, .any, .any, .any, .slo b 3, .any, .any, .any, .any, .any, .any, .any, .any, .any, .any, .any, .any], none⟩
abbrev clocksB (b : Nat) : BP := ⟨false, [.any, .any, .any, .any, .any, .any, .any, .any, .any, .any, .any, .any, .any, .any, .any, .any, .any, .any, .any, .any, .any, .any, .slo b 2, .any], none⟩
def O2 : List (List OutW) := [[.same 0, .same 1], [.same 0, .same 1, .lit (.b false)]]
def O4 : List (List OutW) := [[.lit (.b false), .lit (.b false), .same 2, .same 3], [.lit (.b false), .lit (.b false), .same 2, .same 3, .lit (.b false)]]

noncomputable def body18 : Code := (Try.f18.body).getD .skip
noncomputable def body88 : Code := (Try.f88.body).getD .skip
noncomputable def body89 : Code := (Try.f89.body).getD .skip
noncomputable def body90 : Code := (Try.f90.body).getD .skip
noncomputable def body121 : Code := (Try.f121.body).getD .skip
noncomputable def body122 : Code := (Try.f122.body).getD .skip
noncomputable def body123 : Code := (Try.f123.body).getD .skip
noncomputable def body124 : Code := (Try.f124.body).getD .skip
noncomputable def body128 : Code := (Try.f128.body).getD .skip
noncomputable def body172 : Code := (Try.f172.body).getD .skip
noncomputable def body130 : Code := (Try.f130.body).getD .skip
noncomputable def body135 : Code := (Try.f135.body).getD .skip
noncomputable def body117 : Code := (Try.f117.body).getD .skip
noncomputable def body118 : Code := (Try.f118.body).getD .skip
noncomputable def body59 : Code := (Try.f59.body).getD .skip
noncomputable def body61 : Code := (Try.f61.body).getD .skip

noncomputable def A18 : LoopT := ⟨⟨Try.f18.ntmps, 2, [(0, .slo 0 3), (1, .slo 1 3), (5, .one (.i .i64))], [rowB KV, rowB KV]⟩, [.o2 .ile (.i 0) (.v 2), .o2 .ile (.o1 .llen (.v 0)) (.i 1048576), .o2 .ieq (.o1 .llen (.v 1)) (.o1 .llen (.v 0))], [(.exit 0, ⟨Try.f18.ntmps, 2, [(0, .slo 0 3), (1, .slo 1 3)], [rowB KV, rowB KV]⟩), (.ret, ⟨Try.f18.ntmps, 2, [(0, .slo 0 3), (1, .slo 1 3), (4, .one .b)], [rowB KV, rowB KV]⟩)]⟩
noncomputable def T18 : Tree LRes := mapT A18.leaf (execL Try.prog ct2 (fun _ => none) 100 (bodyOf body18 0) A18.s0)
noncomputable def A88 : LoopT := ⟨⟨Try.f88.ntmps, 2, [(0, .slo 0 1), (1, .slo 1 1), (5, .one (.i .i64))], [rowB KF, rowB KF]⟩, [.o2 .ile (.i 0) (.v 2), .o2 .ile (.o1 .llen (.v 0)) (.i 1048576), .o2 .ieq (.o1 .llen (.v 1)) (.o1 .llen (.v 0))], [(.exit 0, ⟨Try.f88.ntmps, 2, [(0, .slo 0 1), (1, .slo 1 1)], [rowB KF, rowB KF]⟩), (.ret, ⟨Try.f88.ntmps, 2, [(0, .slo 0 1), (1, .slo 1 1), (4, .one .b)], [rowB KF, rowB KF]⟩)]⟩
noncomputable def T88 : Tree LRes := mapT A88.leaf (execL Try.prog ct2 (fun _ => none) 100 (bodyOf body88 0) A88.s0)
noncomputable def A89 : LoopT := ⟨⟨Try.f89.ntmps, 2, [(0, .slo 0 3), (1, .slo 1 3), (5, .one (.i .i64))], [rowB KR, rowB KR]⟩, [.o2 .ile (.i 0) (.v 2), .o2 .ile (.o1 .llen (.v 0)) (.i 1048576), .o2 .ieq (.o1 .llen (.v 1)) (.o1 .llen (.v 0))], [(.exit 0, ⟨Try.f89.ntmps, 2, [(0, .slo 0 3), (1, .slo 1 3)], [rowB KR, rowB KR]⟩), (.ret, ⟨Try.f89.ntmps, 2, [(0, .slo 0 3), (1, .slo 1 3), (4, .one .b)], [rowB KR, rowB KR]⟩)]⟩
noncomputable def T89 : Tree LRes := mapT A89.leaf (execL Try.prog ct2 (fun _ => none) 100 (bodyOf body89 0) A89.s0)
noncomputable def A90 : LoopT := ⟨⟨Try.f90.ntmps, 2, [(0, .slo 0 2), (1, .slo 1 2), (5, .one (.i .i64))], [rowB KC, rowB KC]⟩, [.o2 .ile (.i 0) (.v 2), .o2 .ile (.o1 .llen (.v 0)) (.i 1048576), .o2 .ieq (.o1 .llen (.v 1)) (.o1 .llen (.v 0))], [(.exit 0, ⟨Try.f90.ntmps, 2, [(0, .slo 0 2), (1, .slo 1 2)], [rowB KC, rowB KC]⟩), (.ret, ⟨Try.f90.ntmps, 2, [(0, .slo 0 2), (1, .slo 1 2), (4, .one .b)], [rowB KC, rowB KC]⟩)]⟩
noncomputable def T90 : Tree LRes := mapT A90.leaf (execL Try.prog ct2 (fun _ => none) 100 (bodyOf body90 0) A90.s0)
noncomputable def A117 : LoopT := ⟨⟨Try.f117.ntmps, 2, [(0, .slo 0 3), (1, .slo 1 3), (12, .one (.i .i64)), (13, .one (.i .i64))], [rowB KV, rowB KV]⟩, [.o2 .ile (.i 0) (.v 3), .o2 .ile (.o1 .llen (.v 0)) (.i 1048576), .o2 .ieq (.o1 .llen (.v 1)) (.o1 .llen (.v 0)), .o2 .ieq (.v 2) (.o1 .llen (.v 0))], [(.exit 0, ⟨Try.f117.ntmps, 2, [(0, .slo 0 3), (1, .slo 1 3)], [rowB KV, rowB KV]⟩), (.ret, ⟨Try.f117.ntmps, 2, [(0, .slo 0 3), (1, .slo 1 3), (4, .one .b)], [rowB KV, rowB KV]⟩)]⟩
noncomputable def T117 : Tree LRes := mapT A117.leaf (execL Try.prog ct2 (fun _ => none) 100 (bodyOf body117 0) A117.s0)
noncomputable def A118 : LoopT := ⟨⟨Try.f118.ntmps, 2, [(0, .slo 0 1), (1, .slo 1 1), (5, .one (.i .i64))], [rowB KF, rowB KF]⟩, [.o2 .ile (.i 0) (.v 2), .o2 .ile (.o1 .llen (.v 0)) (.i 1048576), .o2 .ieq (.o1 .llen (.v 1)) (.o1 .llen (.v 0))], [(.exit 0, ⟨Try.f118.ntmps, 2, [(0, .slo 0 1), (1, .slo 1 1)], [rowB KF, rowB KF]⟩), (.ret, ⟨Try.f118.ntmps, 2, [(0, .slo 0 1), (1, .slo 1 1), (4, .one .b)], [rowB KF, rowB KF]⟩)]⟩
noncomputable def T118 : Tree LRes := mapT A118.leaf (execL Try.prog ct2 (fun _ => none) 100 (bodyOf body118 0) A118.s0)
noncomputable def A59 : LoopT := ⟨⟨Try.f59.ntmps, 4, [(0, .ptr 0 8), (1, .ptr 1 8), (59, .one (.i .i64)), (60, .one (.i .i64))], [chainB 2, chainB 3, rowB KR, rowB KR]⟩, [.o2 .ile (.i 0) (.v 5), .o2 .ile (.o1 .llen (.v 2)) (.i 1048576), .o2 .ieq (.o1 .llen (.v 3)) (.o1 .llen (.v 2)), .o2 .ieq (.v 4) (.o1 .llen (.v 2))], [(.exit 0, ⟨Try.f59.ntmps, 4, [(0, .ptr 0 8), (1, .ptr 1 8)], [chainB 2, chainB 3, rowB KR, rowB KR]⟩), (.ret, ⟨Try.f59.ntmps, 4, [(0, .ptr 0 8), (1, .ptr 1 8), (4, .one .b)], [chainB 2, chainB 3, rowB KR, rowB KR]⟩)]⟩
noncomputable def A61 : LoopT := ⟨⟨Try.f61.ntmps, 4, [(0, .ptr 0 22), (1, .ptr 1 22), (33, .one (.i .i64)), (34, .one (.i .i64))], [clocksB 2, clocksB 3, rowB KC, rowB KC]⟩, [.o2 .ile (.i 0) (.v 5), .o2 .ile (.o1 .llen (.v 2)) (.i 1048576), .o2 .ieq (.o1 .llen (.v 3)) (.o1 .llen (.v 2)), .o2 .ieq (.v 4) (.o1 .llen (.v 2))], [(.exit 0, ⟨Try.f61.ntmps, 4, [(0, .ptr 0 22), (1, .ptr 1 22)], [clocksB 2, clocksB 3, rowB KC, rowB KC]⟩), (.ret, ⟨Try.f61.ntmps, 4, [(0, .ptr 0 22), (1, .ptr 1 22), (4, .one .b)], [clocksB 2, clocksB 3, rowB KC, rowB KC]⟩)]⟩
noncomputable def A128 : LoopT := ⟨⟨Try.f128.ntmps, 2, [(15, .slo 0 3), (1, .slo 1 3), (2, .fn0 129), (16, .one (.i .i64)), (17, .one (.i .i64))], [rowB KV, rowB KV]⟩, [.o2 .ile (.i 0) (.v 3), .o2 .ile (.o1 .llen (.v 0)) (.i 1048576), .o2 .ieq (.o1 .llen (.v 1)) (.o1 .llen (.v 0)), .o2 .ieq (.v 2) (.o1 .llen (.v 0))], [(.exit 0, ⟨Try.f128.ntmps, 2, [(15, .slo 0 3), (1, .slo 1 3)], [rowB KV, rowB KV]⟩), (.ret, ⟨Try.f128.ntmps, 2, [(15, .slo 0 3), (1, .slo 1 3), (6, .one .b)], [rowB KV, rowB KV]⟩)]⟩
noncomputable def T128 : Tree LRes := mapT A128.leaf (execL Try.prog ct2 (fun _ => none) 100 (bodyOf body128 0) A128.s0)
noncomputable def A172 : LoopT := ⟨⟨Try.f172.ntmps, 2, [(15, .slo 0 1), (1, .slo 1 1), (2, .fn0 134), (16, .one (.i .i64)), (17, .one (.i .i64))], [rowB KF, rowB KF]⟩, [.o2 .ile (.i 0) (.v 3), .o2 .ile (.o1 .llen (.v 0)) (.i 1048576), .o2 .ieq (.o1 .llen (.v 1)) (.o1 .llen (.v 0)), .o2 .ieq (.v 2) (.o1 .llen (.v 0))], [(.exit 0, ⟨Try.f172.ntmps, 2, [(15, .slo 0 1), (1, .slo 1 1)], [rowB KF, rowB KF]⟩), (.ret, ⟨Try.f172.ntmps, 2, [(15, .slo 0 1), (1, .slo 1 1), (6, .one .b)], [rowB KF, rowB KF]⟩)]⟩
noncomputable def T172 : Tree LRes := mapT A172.leaf (execL Try.prog ct2 (fun _ => none) 100 (bodyOf body172 0) A172.s0)
noncomputable def A130 : LoopT := ⟨⟨Try.f130.ntmps, 2, [(15, .slo 0 3), (1, .slo 1 3), (2, .fn0 131), (16, .one (.i .i64)), (17, .one (.i .i64))], [rowB KR, rowB KR]⟩, [.o2 .ile (.i 0) (.v 3), .o2 .ile (.o1 .llen (.v 0)) (.i 1048576), .o2 .ieq (.o1 .llen (.v 1)) (.o1 .llen (.v 0)), .o2 .ieq (.v 2) (.o1 .llen (.v 0))], [(.exit 0, ⟨Try.f130.ntmps, 2, [(15, .slo 0 3), (1, .slo 1 3)], [rowB KR, rowB KR]⟩), (.ret, ⟨Try.f130.ntmps, 2, [(15, .slo 0 3), (1, .slo 1 3), (6, .one .b)], [rowB KR, rowB KR]⟩)]⟩
noncomputable def T130 : Tree LRes := mapT A130.leaf (execL Try.prog ct2 (fun _ => none) 100 (bodyOf body130 0) A130.s0)
noncomputable def A135 : LoopT := ⟨⟨Try.f135.ntmps, 2, [(15, .slo 0 2), (1, .slo 1 2), (2, .fn0 133), (16, .one (.i .i64)), (17, .one (.i .i64))], [rowB KC, rowB KC]⟩, [.o2 .ile (.i 0) (.v 3), .o2 .ile (.o1 .llen (.v 0)) (.i 1048576), .o2 .ieq (.o1 .llen (.v 1)) (.o1 .llen (.v 0)), .o2 .ieq (.v 2) (.o1 .llen (.v 0))], [(.exit 0, ⟨Try.f135.ntmps, 2, [(15, .slo 0 2), (1, .slo 1 2)], [rowB KC, rowB KC]⟩), (.ret, ⟨Try.f135.ntmps, 2, [(15, .slo 0 2), (1, .slo 1 2), (6, .one .b)], [rowB KC, rowB KC]⟩)]⟩
noncomputable def T135 : Tree LRes := mapT A135.leaf (execL Try.prog ct2 (fun _ => none) 100 (bodyOf body135 0) A135.s0)
noncomputable def A121 : LoopT := copyA Try.f121.ntmps KV
noncomputable def T121 : Tree LRes := mapT A121.leaf (execL Try.prog ct2 (fun _ => none) 100 (bodyOf body121 0) A121.s0)
noncomputable def A122 : LoopT := copyA Try.f122.ntmps KF
noncomputable def T122 : Tree LRes := mapT A122.leaf (execL Try.prog ct2 (fun _ => none) 100 (bodyOf body122 0) A122.s0)
noncomputable def A123 : LoopT := copyA Try.f123.ntmps KR
noncomputable def T123 : Tree LRes := mapT A123.leaf (execL Try.prog ct2 (fun _ => none) 100 (bodyOf body123 0) A123.s0)
noncomputable def A124 : LoopT := copyA Try.f124.ntmps KC
noncomputable def T124 : Tree LRes := mapT A124.leaf (execL Try.prog ct2 (fun _ => none) 100 (bodyOf body124 0) A124.s0)

def rho128 : List E := [.v 0, .v 1, .v 2, .v 3]
def rho172 : List E := [.v 0, .v 1, .v 3]
def rho130 : List E := [.b false, .b false, .v 0, .v 1, .v 2, .v 3]
def rho135 : List E := [.b false, .b false, .v 0, .v 1, .v 2, .v 3]
def idU : Nat → D → D := fun _ d => d
noncomputable def R18 : LRun := eqRun A18 14 0 1 O2
noncomputable def R88 : LRun := eqRun A88 15 0 1 O2
noncomputable def R89 : LRun := eqRun A89 16 0 1 O2
noncomputable def R90 : LRun := eqRun A90 17 0 1 O2
noncomputable def R117 : LRun := wordRun A117 10 O2
noncomputable def R118 : LRun := wordRun A118 11 O2
noncomputable def R59 : LRun := wordRun A59 12 O4
noncomputable def R61 : LRun := wordRun A61 13 O4
noncomputable def R128 : LRun := simRun A128 10 rho128 O2
noncomputable def R172 : LRun := simRun A172 11 rho172 O2
noncomputable def R130 : LRun := simRun A130 12 rho130 O2
noncomputable def R135 : LRun := simRun A135 13 rho135 O2
noncomputable def R121 : LRun := copyRun Try.f121.ntmps KV
noncomputable def R122 : LRun := copyRun Try.f122.ntmps KF
noncomputable def R123 : LRun := copyRun Try.f123.ntmps KR
noncomputable def R124 : LRun := copyRun Try.f124.ntmps KC
noncomputable def E18 := textL Try.prog ct2 (oneLoop 4 R18) 100 Try.f18 body18
noncomputable def E88 := textL Try.prog ct2 (oneLoop 4 R88) 100 Try.f88 body88
noncomputable def E89 := textL Try.prog ct2 (oneLoop 4 R89) 100 Try.f89 body89
noncomputable def E90 := textL Try.prog ct2 (oneLoop 4 R90) 100 Try.f90 body90
noncomputable def E117 := textL Try.prog ct2 (oneLoop 4 R117) 100 Try.f117 body117
noncomputable def E118 := textL Try.prog ct2 (oneLoop 4 R118) 100 Try.f118 body118
noncomputable def E128 := textL Try.prog ct2 (oneLoop 4 R128) 100 Try.f128 body128
noncomputable def E172 := textL Try.prog ct2 (oneLoop 4 R172) 100 Try.f172 body172
noncomputable def E130 := textL Try.prog ct2 (oneLoop 4 R130) 100 Try.f130 body130
noncomputable def E135 := textL Try.prog ct2 (oneLoop 4 R135) 100 Try.f135 body135
noncomputable def E121 := textL Try.prog ct2 (oneLoop 3 R121) 100 Try.f121 body121
noncomputable def E122 := textL Try.prog ct2 (oneLoop 3 R122) 100 Try.f122 body122
noncomputable def E123 := textL Try.prog ct2 (oneLoop 3 R123) 100 Try.f123 body123
noncomputable def E124 := textL Try.prog ct2 (oneLoop 3 R124) 100 Try.f124 body124
noncomputable def ctQ : Contracts := ((((((((((((((ct2.add 18 E18).add 88 E88).add 89 E89).add 90 E90).add 117 E117).add 118 E118).add 128 E128).add 172 E172).add 130 E130).add 135 E135).add 121 E121).add 122 E122).add 123 E123).add 124 E124)
noncomputable def T59 : Tree LRes := mapT A59.leaf (execL Try.prog ctQ (fun _ => none) 100 (bodyOf body59 0) A59.s0)
noncomputable def T61 : Tree LRes := mapT A61.leaf (execL Try.prog ctQ (fun _ => none) 100 (bodyOf body61 0) A61.s0)
/-- The words of these loops. -/
structure DeskWords (U : Nat → D → D) : Prop where
  w10 : ∀ d, U 10 d = loopVal U A117.inv T117 d
  w11 : ∀ d, U 11 d = loopVal U A118.inv T118 d
  w12 : ∀ d, U 12 d = loopVal U A59.inv T59 d
  w13 : ∀ d, U 13 d = loopVal U A61.inv T61 d
  w14 : ∀ d, U 14 d = loopVal U A18.inv T18 d
  w15 : ∀ d, U 15 d = loopVal U A88.inv T88 d
  w16 : ∀ d, U 16 d = loopVal U A89.inv T89 d
  w17 : ∀ d, U 17 d = loopVal U A90.inv T90 d
theorem okT18 : okA 1000 T18 = true := by kernel_rfl
theorem okT88 : okA 1000 T88 = true := by kernel_rfl
theorem okT89 : okA 1000 T89 = true := by kernel_rfl
theorem okT90 : okA 1000 T90 = true := by kernel_rfl
theorem okT117 : okA 1000 T117 = true := by kernel_rfl
theorem okT118 : okA 1000 T118 = true := by kernel_rfl
theorem okT59 : okA 1000 T59 = true := by kernel_rfl
theorem okT61 : okA 1000 T61 = true := by kernel_rfl
theorem okT128 : okA 1000 T128 = true := by kernel_rfl
theorem okT172 : okA 1000 T172 = true := by kernel_rfl
theorem okT130 : okA 1000 T130 = true := by kernel_rfl
theorem okT135 : okA 1000 T135 = true := by kernel_rfl
theorem okT121 : okA 1000 T121 = true := by kernel_rfl
theorem okT122 : okA 1000 T122 = true := by kernel_rfl
theorem okT123 : okA 1000 T123 = true := by kernel_rfl
theorem okT124 : okA 1000 T124 = true := by kernel_rfl
theorem told18 {U : Nat → D → D} (hw : DeskWords U) : Sx.Told U T18 R18 := eq_told (C := [0, 1]) (mu := .o2 .isub (.o1 .llen (.v 0)) (.v 2)) hw.w14 (by kernel_rfl) okT18 (by kernel_rfl) (by kernel_rfl) (by kernel_rfl) (by kernel_rfl) (by kernel_rfl)
theorem told88 {U : Nat → D → D} (hw : DeskWords U) : Sx.Told U T88 R88 := eq_told (C := [0, 1]) (mu := .o2 .isub (.o1 .llen (.v 0)) (.v 2)) hw.w15 (by kernel_rfl) okT88 (by kernel_rfl) (by kernel_rfl) (by kernel_rfl) (by kernel_rfl) (by kernel_rfl)
theorem told89 {U : Nat → D → D} (hw : DeskWords U) : Sx.Told U T89 R89 := eq_told (C := [0, 1]) (mu := .o2 .isub (.o1 .llen (.v 0)) (.v 2)) hw.w16 (by kernel_rfl) okT89 (by kernel_rfl) (by kernel_rfl) (by kernel_rfl) (by kernel_rfl) (by kernel_rfl)
theorem told90 {U : Nat → D → D} (hw : DeskWords U) : Sx.Told U T90 R90 := eq_told (C := [0, 1]) (mu := .o2 .isub (.o1 .llen (.v 0)) (.v 2)) hw.w17 (by kernel_rfl) okT90 (by kernel_rfl) (by kernel_rfl) (by kernel_rfl) (by kernel_rfl) (by kernel_rfl)
theorem told117 {U : Nat → D → D} (hw : DeskWords U) : Sx.Told U T117 R117 := word_told (C := [0, 1]) (mu := .o2 .isub (.o1 .llen (.v 0)) (.v 3)) hw.w10 (by kernel_rfl) okT117 (by kernel_rfl) (by kernel_rfl) (by kernel_rfl)
theorem told118 {U : Nat → D → D} (hw : DeskWords U) : Sx.Told U T118 R118 := word_told (C := [0, 1]) (mu := .o2 .isub (.o1 .llen (.v 0)) (.v 2)) hw.w11 (by kernel_rfl) okT118 (by kernel_rfl) (by kernel_rfl) (by kernel_rfl)
theorem told59 {U : Nat → D → D} (hw : DeskWords U) : Sx.Told U T59 R59 := word_told (C := [2, 3]) (mu := .o2 .isub (.o1 .llen (.v 2)) (.v 5)) hw.w12 (by kernel_rfl) okT59 (by kernel_rfl) (by kernel_rfl) (by kernel_rfl)
theorem told61 {U : Nat → D → D} (hw : DeskWords U) : Sx.Told U T61 R61 := word_told (C := [2, 3]) (mu := .o2 .isub (.o1 .llen (.v 2)) (.v 5)) hw.w13 (by kernel_rfl) okT61 (by kernel_rfl) (by kernel_rfl) (by kernel_rfl)
theorem told128 {U : Nat → D → D} (hw : DeskWords U) : Sx.Told U T128 R128 := sim_told (C := [0, 1]) (mu := .o2 .isub (.o1 .llen (.v 0)) (.v 3)) hw.w10 (by kernel_rfl) okT128 (by kernel_rfl) (by kernel_rfl) (by kernel_rfl) (by kernel_rfl)
theorem told172 {U : Nat → D → D} (hw : DeskWords U) : Sx.Told U T172 R172 := sim_told (C := [0, 1]) (mu := .o2 .isub (.o1 .llen (.v 0)) (.v 3)) hw.w11 (by kernel_rfl) okT172 (by kernel_rfl) (by kernel_rfl) (by kernel_rfl) (by kernel_rfl)
theorem told130 {U : Nat → D → D} (hw : DeskWords U) : Sx.Told U T130 R130 := sim_told (C := [0, 1]) (mu := .o2 .isub (.o1 .llen (.v 0)) (.v 3)) hw.w12 (by kernel_rfl) okT130 (by kernel_rfl) (by kernel_rfl) (by kernel_rfl) (by kernel_rfl)
theorem told135 {U : Nat → D → D} (hw : DeskWords U) : Sx.Told U T135 R135 := sim_told (C := [0, 1]) (mu := .o2 .isub (.o1 .llen (.v 0)) (.v 3)) hw.w13 (by kernel_rfl) okT135 (by kernel_rfl) (by kernel_rfl) (by kernel_rfl) (by kernel_rfl)
theorem told121 {U : Nat → D → D} (_ : DeskWords U) : Sx.Told U T121 R121 := copy_told (by kernel_rfl)
theorem told122 {U : Nat → D → D} (_ : DeskWords U) : Sx.Told U T122 R122 := copy_told (by kernel_rfl)
theorem told123 {U : Nat → D → D} (_ : DeskWords U) : Sx.Told U T123 R123 := copy_told (by kernel_rfl)
theorem told124 {U : Nat → D → D} (_ : DeskWords U) : Sx.Told U T124 R124 := copy_told (by kernel_rfl)
theorem e18 {U : Nat → D → D} (hw : DeskWords U) : EntryOk U Try.prog 18 E18 := loopFn_entry (key := 4) (R := R18) Try.mixes Try.names ct2_ok Try.func18 (by kernel_rfl) (by kernel_rfl) (by kernel_rfl) okT18 (told18 hw)
theorem e88 {U : Nat → D → D} (hw : DeskWords U) : EntryOk U Try.prog 88 E88 := loopFn_entry (key := 4) (R := R88) Try.mixes Try.names ct2_ok Try.func88 (by kernel_rfl) (by kernel_rfl) (by kernel_rfl) okT88 (told88 hw)
theorem e89 {U : Nat → D → D} (hw : DeskWords U) : EntryOk U Try.prog 89 E89 := loopFn_entry (key := 4) (R := R89) Try.mixes Try.names ct2_ok Try.func89 (by kernel_rfl) (by kernel_rfl) (by kernel_rfl) okT89 (told89 hw)
theorem e90 {U : Nat → D → D} (hw : DeskWords U) : EntryOk U Try.prog 90 E90 := loopFn_entry (key := 4) (R := R90) Try.mixes Try.names ct2_ok Try.func90 (by kernel_rfl) (by kernel_rfl) (by kernel_rfl) okT90 (told90 hw)
theorem e117 {U : Nat → D → D} (hw : DeskWords U) : EntryOk U Try.prog 117 E117 := loopFn_entry (key := 4) (R := R117) Try.mixes Try.names ct2_ok Try.func117 (by kernel_rfl) (by kernel_rfl) (by kernel_rfl) okT117 (told117 hw)
theorem e118 {U : Nat → D → D} (hw : DeskWords U) : EntryOk U Try.prog 118 E118 := loopFn_entry (key := 4) (R := R118) Try.mixes Try.names ct2_ok Try.func118 (by kernel_rfl) (by kernel_rfl) (by kernel_rfl) okT118 (told118 hw)
theorem e128 {U : Nat → D → D} (hw : DeskWords U) : EntryOk U Try.prog 128 E128 := loopFn_entry (key := 4) (R := R128) Try.mixes Try.names ct2_ok Try.func128 (by kernel_rfl) (by kernel_rfl) (by kernel_rfl) okT128 (told128 hw)
theorem e172 {U : Nat → D → D} (hw : DeskWords U) : EntryOk U Try.prog 172 E172 := loopFn_entry (key := 4) (R := R172) Try.mixes Try.names ct2_ok Try.func172 (by kernel_rfl) (by kernel_rfl) (by kernel_rfl) okT172 (told172 hw)
theorem e130 {U : Nat → D → D} (hw : DeskWords U) : EntryOk U Try.prog 130 E130 := loopFn_entry (key := 4) (R := R130) Try.mixes Try.names ct2_ok Try.func130 (by kernel_rfl) (by kernel_rfl) (by kernel_rfl) okT130 (told130 hw)
theorem e135 {U : Nat → D → D} (hw : DeskWords U) : EntryOk U Try.prog 135 E135 := loopFn_entry (key := 4) (R := R135) Try.mixes Try.names ct2_ok Try.func135 (by kernel_rfl) (by kernel_rfl) (by kernel_rfl) okT135 (told135 hw)
theorem e121 {U : Nat → D → D} (hw : DeskWords U) : EntryOk U Try.prog 121 E121 := loopFn_entry (key := 3) (R := R121) Try.mixes Try.names ct2_ok Try.func121 (by kernel_rfl) (by kernel_rfl) (by kernel_rfl) okT121 (told121 hw)
theorem e122 {U : Nat → D → D} (hw : DeskWords U) : EntryOk U Try.prog 122 E122 := loopFn_entry (key := 3) (R := R122) Try.mixes Try.names ct2_ok Try.func122 (by kernel_rfl) (by kernel_rfl) (by kernel_rfl) okT122 (told122 hw)
theorem e123 {U : Nat → D → D} (hw : DeskWords U) : EntryOk U Try.prog 123 E123 := loopFn_entry (key := 3) (R := R123) Try.mixes Try.names ct2_ok Try.func123 (by kernel_rfl) (by kernel_rfl) (by kernel_rfl) okT123 (told123 hw)
theorem e124 {U : Nat → D → D} (hw : DeskWords U) : EntryOk U Try.prog 124 E124 := loopFn_entry (key := 3) (R := R124) Try.mixes Try.names ct2_ok Try.func124 (by kernel_rfl) (by kernel_rfl) (by kernel_rfl) okT124 (told124 hw)
theorem ctQ_ok {U : Nat → D → D} (hw : DeskWords U) : ContractsOk U Try.prog ctQ := ((((((((((((((ct2_ok.add (e18 hw)).add (e88 hw)).add (e89 hw)).add (e90 hw)).add (e117 hw)).add (e118 hw)).add (e128 hw)).add (e172 hw)).add (e130 hw)).add (e135 hw)).add (e121 hw)).add (e122 hw)).add (e123 hw)).add (e124 hw))

noncomputable def Q59 := textL Try.prog ctQ (oneLoop 4 R59) 100 Try.f59 body59
noncomputable def Q61 := textL Try.prog ctQ (oneLoop 4 R61) 100 Try.f61 body61
theorem q59 {U : Nat → D → D} (hw : DeskWords U) : EntryOk U Try.prog 59 Q59 := loopFn_entry (key := 4) (R := R59) Try.mixes Try.names (ctQ_ok hw) Try.func59 (by kernel_rfl) (by kernel_rfl) (by kernel_rfl) okT59 (told59 hw)
theorem q61 {U : Nat → D → D} (hw : DeskWords U) : EntryOk U Try.prog 61 Q61 := loopFn_entry (key := 4) (R := R61) Try.mixes Try.names (ctQ_ok hw) Try.func61 (by kernel_rfl) (by kernel_rfl) (by kernel_rfl) okT61 (told61 hw)
noncomputable def ctD : Contracts := (ctQ.add 59 Q59).add 61 Q61
theorem ctD_ok {U : Nat → D → D} (hw : DeskWords U) : ContractsOk U Try.prog ctD := ((ctQ_ok hw).add (q59 hw)).add (q61 hw)
noncomputable def cfD := callX Try.prog ctD (exec Try.prog ctD 100)
theorem cfD_ok {U : Nat → D → D} (hw : DeskWords U) : CallsOk U Try.prog cfD := @calls_ok U Try.prog ctD Try.mixes Try.names (ctD_ok hw) 100

noncomputable def deskU : Nat → D → D := fun n d => bif Nat.beq n 10 then loopVal idU A117.inv T117 d else bif Nat.beq n 11 then loopVal idU A118.inv T118 d else bif Nat.beq n 12 then loopVal idU A59.inv T59 d else bif Nat.beq n 13 then loopVal idU A61.inv T61 d else bif Nat.beq n 14 then loopVal idU A18.inv T18 d else bif Nat.beq n 15 then loopVal idU A88.inv T88 d else bif Nat.beq n 16 then loopVal idU A89.inv T89 d else bif Nat.beq n 17 then loopVal idU A90.inv T90 d else d
/-- Words that hold these loops are such words. -/
theorem deskWords {U : Nat → D → D} (h : ∀ n, Nat.ble 10 n = true → Nat.ble n 17 = true → ∀ d, U n d = deskU n d) : DeskWords U where
  w10 d := ((h 10 rfl rfl d).trans (show deskU 10 d = loopVal idU A117.inv T117 d by kernel_rfl)).trans (loopVal_below (N := 0) (fun _ h => absurd h (Nat.not_lt_zero _)) (by kernel_rfl) (by kernel_rfl) d)
  w11 d := ((h 11 rfl rfl d).trans (show deskU 11 d = loopVal idU A118.inv T118 d by kernel_rfl)).trans (loopVal_below (N := 0) (fun _ h => absurd h (Nat.not_lt_zero _)) (by kernel_rfl) (by kernel_rfl) d)
  w12 d := ((h 12 rfl rfl d).trans (show deskU 12 d = loopVal idU A59.inv T59 d by kernel_rfl)).trans (loopVal_below (N := 0) (fun _ h => absurd h (Nat.not_lt_zero _)) (by kernel_rfl) (by kernel_rfl) d)
  w13 d := ((h 13 rfl rfl d).trans (show deskU 13 d = loopVal idU A61.inv T61 d by kernel_rfl)).trans (loopVal_below (N := 0) (fun _ h => absurd h (Nat.not_lt_zero _)) (by kernel_rfl) (by kernel_rfl) d)
  w14 d := ((h 14 rfl rfl d).trans (show deskU 14 d = loopVal idU A18.inv T18 d by kernel_rfl)).trans (loopVal_below (N := 0) (fun _ h => absurd h (Nat.not_lt_zero _)) (by kernel_rfl) (by kernel_rfl) d)
  w15 d := ((h 15 rfl rfl d).trans (show deskU 15 d = loopVal idU A88.inv T88 d by kernel_rfl)).trans (loopVal_below (N := 0) (fun _ h => absurd h (Nat.not_lt_zero _)) (by kernel_rfl) (by kernel_rfl) d)
  w16 d := ((h 16 rfl rfl d).trans (show deskU 16 d = loopVal idU A89.inv T89 d by kernel_rfl)).trans (loopVal_below (N := 0) (fun _ h => absurd h (Nat.not_lt_zero _)) (by kernel_rfl) (by kernel_rfl) d)
  w17 d := ((h 17 rfl rfl d).trans (show deskU 17 d = loopVal idU A90.inv T90 d by kernel_rfl)).trans (loopVal_below (N := 0) (fun _ h => absurd h (Nat.not_lt_zero _)) (by kernel_rfl) (by kernel_rfl) d)

abbrev deskArg : AArg := .ag [.sc (.f .f32), .sc (.f .f32), .sc (.f .f32), .sc (.f .f32), .sc (.f .f32), .sc (.f .f32), .sc (.f .f32), .sc (.f .f32), .row KV, .row KV, .row KF, .row KR, .sc (.f .f32), .sc (.f .f32), .sc (.f .f32), .sc (.f .f32), .sc (.f .f32), .sc (.f .f32), .sc (.f .f32), .sc (.f .f32), .sc (.f .f32), .sc (.f .f32), .row KC, .row KF]
abbrev desks2 : List AArg := [deskArg, deskArg]

end Go.Proofs.Ytaflnmmnaiaceaa
