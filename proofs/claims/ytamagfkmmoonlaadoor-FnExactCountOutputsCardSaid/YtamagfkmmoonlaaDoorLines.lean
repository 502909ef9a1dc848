/-
  The lines of a text, and how many of them are 'no' or 'what': each loop told once.
-/
import Derived.Test.YtamagfkmmoonlaaDoorBase
import Derived.Test.YtamagfkmmoonlaaDoorShelf
import Derived.Test.YtamagfkmmoonlaaDoorSxSb
import Derived.Test.YtamagfkmmoonlaaDoorSxPt
import Derived.Test.YtamagfkmmoonlaaDoorSxPu
import Derived.Test.YtamagfkmmoonlaaDoorSxTl
namespace Go.Proofs.YtamagfkmmoonlaaDoor
open Go.Sx
set_option maxRecDepth 100000

abbrev i1 : LP := .one (.i .i64)
abbrev rowB (ks : List Sk) : BP := ⟨false, [], some ks⟩
abbrev rowW (ks : List Sk) : BP := ⟨true, [], some ks⟩
noncomputable def body8 : Code := (Tryd.f8.body).getD .skip
noncomputable def body4 : Code := (Tryd.f4.body).getD .skip
noncomputable def body5 : Code := (Tryd.f5.body).getD .skip
noncomputable def A8 : LoopT := ⟨⟨Tryd.f8.ntmps, 0, [(0, .one .s), (1, .one (.i .u8)), (5, .slo 0 1), (6, i1), (7, i1)], [rowW [.s]]⟩, Ts.cutInv, [(.exit 0, ⟨Tryd.f8.ntmps, 0, [(5, .slo 0 1)], [rowW [.s]]⟩)]⟩
theorem split_says : Ts.SplitSays Tryd.prog 10 9 := fun s b w hs => Ts.split_one Tryd.lays146 (by kernel_rfl) s b w hs
theorem suf_says : Tl.SufSays Tryd.prog 9 := fun s p w hs => Tryd.strings_HasSuffix s p w hs
noncomputable def ctA : Contracts := (noContracts.add 10 (Ts.splitRun 80)).add 9 (Tl.sufRun 80)
noncomputable def T8 : Tree LRes := mapT A8.leaf (execL Tryd.prog ctA (fun _ => none) 100 (bodyOf body8 0) A8.s0)
noncomputable def R8 : LRun := Ts.cutRun A8 80
noncomputable def E8 := textL Tryd.prog ctA (loopsAt [(4, 0, R8)]) 100 Tryd.f8 body8
noncomputable def ctB : Contracts := ctA.add 8 E8
noncomputable def cfB := callX Tryd.prog ctB (exec Tryd.prog ctB 100)
noncomputable def E6 := Tl.lnRun 80 90 (cfB 6)
noncomputable def E7 := Tl.lnRun 80 90 (cfB 7)
noncomputable def ctC : Contracts := (ctB.add 6 E6).add 7 E7
noncomputable def A4 : LoopT := ⟨⟨Tryd.f4.ntmps, 1, [(5, .slo 0 1), (7, .one (.i .i64)), (8, i1)], [rowB [.s]]⟩, [.o2 .ile (.i 0) (.v 2), .o2 .ile (.v 2) (.o1 .llen (.v 0)), .o2 .ile (.o1 .llen (.v 0)) (.i 20000), .o2 .ile (.i 0) (.v 1), .o2 .ile (.v 1) (.v 2)], [(.exit 0, ⟨Tryd.f4.ntmps, 1, [(5, .slo 0 1), (7, i1)], [rowB [.s]]⟩)]⟩
noncomputable def T4 : Tree LRes := mapT A4.leaf (execL Tryd.prog ctC (fun _ => none) 100 (bodyOf body4 0) A4.s0)
noncomputable def A5 : LoopT := ⟨⟨Tryd.f5.ntmps, 1, [(5, .slo 0 1), (17, .slo 0 1), (7, i1), (18, i1), (19, i1)], [rowB [.s]]⟩, [.o2 .ile (.i 0) (.v 3), .o2 .ile (.v 3) (.v 2), .o2 .ieq (.v 2) (.o1 .llen (.v 0)), .o2 .ile (.v 2) (.i 20000), .o2 .ile (.i 0) (.v 1), .o2 .ile (.v 1) (.v 3)], [(.exit 0, ⟨Tryd.f5.ntmps, 1, [(5, .slo 0 1), (7, i1)], [rowB [.s]]⟩)]⟩
noncomputable def T5 : Tree LRes := mapT A5.leaf (execL Tryd.prog ctC (fun _ => none) 100 (bodyOf body5 0) A5.s0)
def O4 : List (List OutW) := [[.same 0, .val 1]]
def rho5 : List E := [.v 0, .v 1, .v 3]
noncomputable def R4 : LRun := wordRun A4 60 O4
noncomputable def R5 : LRun := simRun A5 60 rho5 O4
structure LineWords (U : Nat → D → D) : Prop where
  w80 : ∀ d, U 80 d = Ts.cutVal d
  w90 : ∀ d, U 90 d = Tl.lnVal d
  w60 : ∀ d, U 60 d = loopVal U A4.inv T4 d
section
variable {U : Nat → D → D}
theorem ctA_ok (h : LineWords U) : ContractsOk U Tryd.prog ctA := (noContracts_ok.add (Ts.split_entry Tryd.names Tryd.func10 rfl split_says h.w80)).add (Tl.suf_entry Tryd.names Tryd.func9 rfl suf_says h.w80)
theorem t8 : T8 = Ts.cutT := by kernel_rfl
theorem okT8 : okA 1000 T8 = true := by rw [t8]; kernel_rfl
theorem told8 (h : LineWords U) : Sx.Told U T8 R8 := Ts.cut_told h.w80 t8 (by kernel_rfl) (by kernel_rfl) (by kernel_rfl)
theorem e8 (h : LineWords U) : EntryOk U Tryd.prog 8 E8 := loopsFn_entry Tryd.mixes Tryd.names (ctA_ok h) Tryd.func8 (by kernel_rfl) (by kernel_rfl) (fun e he => by rw [List.mem_singleton.1 he]; exact told_ok Tryd.mixes Tryd.names (ctA_ok h) (by kernel_rfl) okT8 (told8 h))
theorem ctB_ok (h : LineWords U) : ContractsOk U Tryd.prog ctB := (ctA_ok h).add (e8 h)
theorem cfB_ok (h : LineWords U) : CallsOk U Tryd.prog cfB := @calls_ok U Tryd.prog ctB Tryd.mixes Tryd.names (ctB_ok h) 100
theorem e6 (h : LineWords U) : EntryOk U Tryd.prog 6 E6 := Tl.lnRun_ok (cfB_ok h 6) h.w80 h.w90
theorem e7 (h : LineWords U) : EntryOk U Tryd.prog 7 E7 := Tl.lnRun_ok (cfB_ok h 7) h.w80 h.w90
theorem ctC_ok (h : LineWords U) : ContractsOk U Tryd.prog ctC := ((ctB_ok h).add (e6 h)).add (e7 h)
theorem okT4 : okA 1000 T4 = true := by kernel_rfl
theorem okT5 : okA 1000 T5 = true := by kernel_rfl
theorem r4 : roundK [0] O4 A4.t.cnt A4.inv (.o2 .isub (.o1 .llen (.v 0)) (.v 2)) T4 = true := by kernel_rfl
theorem r5 : roundK [0, 2] O4 A5.t.cnt A5.inv (.o2 .isub (.v 2) (.v 3)) T5 = true := by kernel_rfl
theorem s5 : simOkK A4.inv A5.inv rho5 O4 T4 T5 = true := by kernel_rfl
theorem told4 (h : LineWords U) : Sx.Told U T4 R4 := wordK_told h.w60 r4 (by kernel_rfl)
theorem told5 (h : LineWords U) : Sx.Told U T5 R5 := simK_told h.w60 r5 s5 (by kernel_rfl)
end
noncomputable def E4 := textL Tryd.prog ctC (loopsAt [(8, 0, R4)]) 100 Tryd.f4 body4
noncomputable def E5 := textL Tryd.prog ctC (loopsAt [(6, 0, R5)]) 100 Tryd.f5 body5
noncomputable def ctN : Contracts := (ctC.add 4 E4).add 5 E5
noncomputable def cfN := callX Tryd.prog ctN (exec Tryd.prog ctN 100)
section
variable {U : Nat → D → D}
theorem e4 (h : LineWords U) : EntryOk U Tryd.prog 4 E4 := loopsFn_entry Tryd.mixes Tryd.names (ctC_ok h) Tryd.func4 (by kernel_rfl) (by kernel_rfl) (fun e he => by rw [List.mem_singleton.1 he]; exact told_ok Tryd.mixes Tryd.names (ctC_ok h) (by kernel_rfl) okT4 (told4 h))
theorem e5 (h : LineWords U) : EntryOk U Tryd.prog 5 E5 := loopsFn_entry Tryd.mixes Tryd.names (ctC_ok h) Tryd.func5 (by kernel_rfl) (by kernel_rfl) (fun e he => by rw [List.mem_singleton.1 he]; exact told_ok Tryd.mixes Tryd.names (ctC_ok h) (by kernel_rfl) okT5 (told5 h))
theorem ctN_ok (h : LineWords U) : ContractsOk U Tryd.prog ctN := ((ctC_ok h).add (e4 h)).add (e5 h)
end
def idU : Nat → D → D := fun _ d => d
noncomputable def lineU : Nat → D → D := fun n d => bif Nat.beq n 80 then Ts.cutVal d else bif Nat.beq n 90 then Tl.lnVal d else bif Nat.beq n 60 then loopVal idU A4.inv T4 d else d
theorem lineWords : LineWords lineU where
  w80 d := by kernel_rfl
  w90 d := by kernel_rfl
  w60 d := (show lineU 60 d = loopVal idU A4.inv T4 d by kernel_rfl).trans (loopVal_below (N := 0) (fun _ h => absurd h (Nat.not_lt_zero _)) (by kernel_rfl) (by kernel_rfl) d)
theorem cfN_ok : CallsOk lineU Tryd.prog cfN := @calls_ok lineU Tryd.prog ctN Tryd.mixes Tryd.names (ctN_ok lineWords) 100
abbrev txArg : List AArg := [.one (.sc .s)]
end Go.Proofs.YtamagfkmmoonlaaDoor
