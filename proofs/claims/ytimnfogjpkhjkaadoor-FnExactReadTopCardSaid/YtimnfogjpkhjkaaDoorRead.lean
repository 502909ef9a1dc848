/-
  Texts of numbers read: the loops that cut, read digits and read lists, each told once.
-/
import Derived.Test.YtimnfogjpkhjkaaDoorBase
import Derived.Test.YtimnfogjpkhjkaaDoorShelf
import Derived.Test.YtimnfogjpkhjkaaDoorSxGg
import Derived.Test.YtimnfogjpkhjkaaDoorSxSb
import Derived.Test.YtimnfogjpkhjkaaDoorSxPt
import Derived.Test.YtimnfogjpkhjkaaDoorSxTr
namespace Go.Proofs.YtimnfogjpkhjkaaDoor
open Go.Sx
set_option maxRecDepth 100000

abbrev i1 : LP := .one (.i .i64)
abbrev KF : List Sk := [.f .f32]
abbrev rowB (ks : List Sk) : BP := ⟨false, [], some ks⟩
abbrev rowW (ks : List Sk) : BP := ⟨true, [], some ks⟩
abbrev RI : Rp := .one (.one (.i .i64))
noncomputable def bitsT : Tree SV := resT (cf0 68 (ptGo 0 [F1]) cx0)
noncomputable def body50 : Code := (Tryd.f50.body).getD .skip
noncomputable def body44 : Code := (Tryd.f44.body).getD .skip
noncomputable def body35 : Code := (Tryd.f35.body).getD .skip
noncomputable def body60 : Code := (Tryd.f60.body).getD .skip
noncomputable def A50 : LoopT := ⟨⟨Tryd.f50.ntmps, 0, [(0, .one .s), (1, .one (.i .u8)), (5, .slo 0 1), (6, i1), (7, i1)], [rowW [.s]]⟩, Ts.cutInv, [(.exit 0, ⟨Tryd.f50.ntmps, 0, [(5, .slo 0 1)], [rowW [.s]]⟩)]⟩
noncomputable def A60 : LoopT := ⟨⟨Tryd.f60.ntmps, 0, [(0, .one .s), (4, i1), (10, i1), (11, i1)], []⟩, Tr.hexInv, [(.exit 0, ⟨Tryd.f60.ntmps, 0, [(0, .one .s), (4, i1)], []⟩), (.ret, ⟨Tryd.f60.ntmps, 0, [(2, .one (.f .f32)), (3, .one .b)], []⟩)]⟩
noncomputable def AI : LoopT := ⟨⟨Tryd.f44.ntmps, 2, [(5, .slo 0 1), (4, .slo 1 1), (6, i1), (7, i1), (8, i1)], [rowB [.s], rowW KF]⟩, Tr.innInv, [(.exit 2, ⟨Tryd.f44.ntmps, 2, [(5, .slo 0 1), (4, .slo 1 1), (6, i1), (7, i1)], [rowB [.s], rowW KF]⟩), (.ret, ⟨Tryd.f44.ntmps, 2, [(5, .slo 0 1), (4, .slo 1 1), (2, .nils), (3, .one .b)], [rowB [.s], rowW KF]⟩)]⟩
abbrev B44 : List BP := [rowB [.s], rowW KF]
noncomputable def A44 : LoopT := ⟨⟨Tryd.f44.ntmps, 1, [(5, .slo 0 1), (4, .slo 1 1), (6, i1)], B44⟩, Tr.spInv, [(.exit 0, ⟨Tryd.f44.ntmps, 1, [(5, .slo 0 1), (4, .slo 1 1)], B44⟩), (.ret, ⟨Tryd.f44.ntmps, 1, [(5, .slo 0 1), (2, .nils), (3, .one .b)], [rowB [.s]]⟩)]⟩
noncomputable def A35 : LoopT := ⟨⟨Tryd.f35.ntmps, 1, [(11, .slo 0 1), (4, .slo 1 1), (12, i1), (13, i1)], B44⟩, Tr.imInv, [(.exit 0, ⟨Tryd.f35.ntmps, 1, [(11, .slo 0 1), (4, .slo 1 1)], B44⟩), (.ret, ⟨Tryd.f35.ntmps, 1, [(11, .slo 0 1), (2, .nils), (3, .one .b)], [rowB [.s]]⟩)]⟩
theorem bits_spec_check : opOk [F1] RI (resT (cf0 68 (ptGo 0 [F1]) cx0)) bitsT = true := by kernel_rfl
theorem bits_impl_check : opOk [F1] RI (resT (cf0 85 (ptGo 0 [F1]) cx0)) bitsT = true := by kernel_rfl
structure RdWords (U : Nat → D → D) : Prop extends Tr.ReadWords U where
  w1 : ∀ d, U 1 d = opVal bitsT (ptCount [F1]) RI d
  w80 : ∀ d, U 80 d = Ts.cutVal d
theorem split_says : Ts.SplitSays Tryd.prog 28 9 := fun s b w hs => Ts.split_one Tryd.lays146 (by kernel_rfl) s b w hs
theorem index_says : Tr.IndexByteSays Tryd.prog 83 := fun s c w => Tryd.strings_IndexByte s c w
noncomputable def ctB : Contracts := (((ct1.add 83 (Tr.hexRun 81)).add 68 (opRun 1 [F1] RI)).add 85 (opRun 1 [F1] RI)).add 28 (Ts.splitRun 80)
noncomputable def T50 : Tree LRes := mapT A50.leaf (execL Tryd.prog ctB (fun _ => none) 100 (bodyOf body50 0) A50.s0)
noncomputable def T60 : Tree LRes := mapT A60.leaf (execL Tryd.prog ctB (fun _ => none) 100 (bodyOf body60 0) A60.s0)
noncomputable def TI : Tree LRes := mapT AI.leaf (execL Tryd.prog ctB (fun _ => none) 100 (bodyOf (bodyOf body44 0) 0) AI.s0)
noncomputable def R50 : LRun := Ts.cutRun A50 80
noncomputable def R60 : LRun := Tr.hexLRun A60
noncomputable def RIn : LRun := Tr.innRun AI
section
variable {U : Nat → D → D}
theorem e68 (h : RdWords U) : EntryOk U Tryd.prog 68 (opRun 1 [F1] RI) := @op_entry U Tryd.prog cf0 cf0_ok 68 [F1] RI 1 (by kernel_rfl) bitsT bits_spec_check h.w1
theorem e85 (h : RdWords U) : EntryOk U Tryd.prog 85 (opRun 1 [F1] RI) := @op_entry U Tryd.prog cf0 cf0_ok 85 [F1] RI 1 (by kernel_rfl) bitsT bits_impl_check h.w1
theorem e83 (h : RdWords U) : EntryOk U Tryd.prog 83 (Tr.hexRun 81) := Tr.hex_entry Tryd.names Tryd.func83 rfl index_says h.w81
theorem e28 (h : RdWords U) : EntryOk U Tryd.prog 28 (Ts.splitRun 80) := Ts.split_entry Tryd.names Tryd.func28 rfl split_says h.w80
theorem ctB_ok (h : RdWords U) : ContractsOk U Tryd.prog ctB := (((ct1_ok.add (e83 h)).add (e68 h)).add (e85 h)).add (e28 h)
theorem t50 : T50 = Ts.cutT := by kernel_rfl
theorem t60 : T60 = Tr.hexT := by kernel_rfl
theorem tI : TI = Tr.innT := by kernel_rfl
theorem okT50 : okA 1000 T50 = true := by rw [t50]; kernel_rfl
theorem okT60 : okA 1000 T60 = true := by rw [t60]; kernel_rfl
theorem okTI : okA 1000 TI = true := by rw [tI]; kernel_rfl
theorem told50 (h : RdWords U) : Sx.Told U T50 R50 := Ts.cut_told h.w80 t50 (by kernel_rfl) (by kernel_rfl) (by kernel_rfl)
theorem told60 (h : RdWords U) : Sx.Told U T60 R60 := Tr.hex_told h.toHexWords t60 (by kernel_rfl) (by kernel_rfl)
theorem toldI (h : RdWords U) : Sx.Told U TI RIn := Tr.inn_told h.toHexWords tI (by kernel_rfl) (by kernel_rfl)
theorem lrI (h : RdWords U) : LRunOk U Tryd.prog (bodyOf (bodyOf body44 0) 0) RIn := told_ok (n := 100) Tryd.mixes Tryd.names (ctB_ok h) (by kernel_rfl) okTI (toldI h)
end
noncomputable def E50 := textL Tryd.prog ctB (loopsAt [(4, 0, R50)]) 100 Tryd.f50 body50
noncomputable def E60 := textL Tryd.prog ctB (loopsAt [(3, 0, R60)]) 100 Tryd.f60 body60
noncomputable def ctC : Contracts := (ctB.add 50 E50).add 60 E60
noncomputable def T44 : Tree LRes := mapT A44.leaf (execL Tryd.prog ctC (loopsAt [(14, 0, RIn)]) 100 (bodyOf body44 0) A44.s0)
noncomputable def T35 : Tree LRes := mapT A35.leaf (execL Tryd.prog ctC (fun _ => none) 100 (bodyOf body35 0) A35.s0)
noncomputable def R44 : LRun := Tr.spRun A44
noncomputable def R35 : LRun := Tr.imRun' A35
section
variable {U : Nat → D → D}
theorem e50 (h : RdWords U) : EntryOk U Tryd.prog 50 E50 := loopsFn_entry Tryd.mixes Tryd.names (ctB_ok h) Tryd.func50 (by kernel_rfl) (by kernel_rfl) (fun e he => by rw [List.mem_singleton.1 he]; exact told_ok Tryd.mixes Tryd.names (ctB_ok h) (by kernel_rfl) okT50 (told50 h))
theorem e60 (h : RdWords U) : EntryOk U Tryd.prog 60 E60 := loopsFn_entry Tryd.mixes Tryd.names (ctB_ok h) Tryd.func60 (by kernel_rfl) (by kernel_rfl) (fun e he => by rw [List.mem_singleton.1 he]; exact told_ok Tryd.mixes Tryd.names (ctB_ok h) (by kernel_rfl) okT60 (told60 h))
theorem ctC_ok (h : RdWords U) : ContractsOk U Tryd.prog ctC := ((ctB_ok h).add (e50 h)).add (e60 h)
theorem t44 : T44 = Tr.spT := by kernel_rfl
theorem t35 : T35 = Tr.imT := by kernel_rfl
theorem okT44 : okA 1000 T44 = true := by rw [t44]; kernel_rfl
theorem okT35 : okA 1000 T35 = true := by rw [t35]; kernel_rfl
theorem told44 (h : RdWords U) : Sx.Told U T44 R44 := Tr.sp_told h.toReadWords t44 (by kernel_rfl) (by kernel_rfl) (by kernel_rfl)
theorem told35 (h : RdWords U) : Sx.Told U T35 R35 := Tr.im_told' h.toReadWords t35 (by kernel_rfl) (by kernel_rfl) (by kernel_rfl)
theorem lr44 (h : RdWords U) : LRunOk U Tryd.prog (bodyOf body44 0) R44 := lrun_ok (execL_ok Tryd.mixes Tryd.names (ctC_ok h) 100 _ (loopsAt_ok (body := bodyOf body44 0) (l := [(14, 0, RIn)]) (by kernel_rfl) (fun e he => by rw [List.mem_singleton.1 he]; exact lrI h))) (by kernel_rfl) okT44 (told44 h)
end
noncomputable def E44 := textL Tryd.prog ctC (loopsAt [(8, 0, R44)]) 100 Tryd.f44 body44
noncomputable def E35 := textL Tryd.prog ctC (loopsAt [(3, 0, R35)]) 100 Tryd.f35 body35
noncomputable def ctN : Contracts := (ctC.add 44 E44).add 35 E35
noncomputable def cfN := callX Tryd.prog ctN (exec Tryd.prog ctN 100)
section
variable {U : Nat → D → D}
theorem e44 (h : RdWords U) : EntryOk U Tryd.prog 44 E44 := loopsFn_entry Tryd.mixes Tryd.names (ctC_ok h) Tryd.func44 (by kernel_rfl) (by kernel_rfl) (fun e he => by rw [List.mem_singleton.1 he]; exact lr44 h)
theorem e35 (h : RdWords U) : EntryOk U Tryd.prog 35 E35 := loopsFn_entry Tryd.mixes Tryd.names (ctC_ok h) Tryd.func35 (by kernel_rfl) (by kernel_rfl) (fun e he => by rw [List.mem_singleton.1 he]; exact told_ok Tryd.mixes Tryd.names (ctC_ok h) (by kernel_rfl) okT35 (told35 h))
theorem ctN_ok (h : RdWords U) : ContractsOk U Tryd.prog ctN := ((ctC_ok h).add (e44 h)).add (e35 h)
end
noncomputable def lowU : Nat → D → D := fun n d => bif Nat.beq n 1 then opVal bitsT (ptCount [F1]) RI d else bif Nat.beq n 84 then Tr.allVal8 d else bif Nat.beq n 85 then Tr.numVal d else d
noncomputable def readU : Nat → D → D := fun n d => bif Nat.beq n 1 then opVal bitsT (ptCount [F1]) RI d else bif Nat.beq n 84 then Tr.allVal8 d else bif Nat.beq n 85 then Tr.numVal d else bif Nat.beq n 80 then Ts.cutVal d else bif Nat.beq n 81 then Tr.hexVal d else bif Nat.beq n 86 then .b (d.toL.all (Tr.good lowU)) else bif Nat.beq n 87 then .l (Tr.readL lowU d.toL) else d
theorem num_same : Tr.numF lowU = Tr.numF readU := by funext t; rfl
theorem good_same : Tr.good lowU = Tr.good readU := by
  funext t
  unfold Tr.good
  rw [num_same]
  rfl
theorem readWords : RdWords readU where
  w1 d := by kernel_rfl
  w80 d := by kernel_rfl
  w81 d := by kernel_rfl
  w84 d := by kernel_rfl
  w85 d := by kernel_rfl
  w86 d := by
    show D.b (d.toL.all (Tr.good lowU)) = _
    rw [good_same]
  w87 d := by
    show D.l (Tr.readL lowU d.toL) = _
    unfold Tr.readL
    rw [num_same]
theorem cfN_ok : CallsOk readU Tryd.prog cfN := @calls_ok readU Tryd.prog ctN Tryd.mixes Tryd.names (ctN_ok readWords) 100
abbrev txArg : List AArg := [.one (.sc .s)]
end Go.Proofs.YtimnfogjpkhjkaaDoor
