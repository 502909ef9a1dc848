/-
  Tops: the questions (is it finite, a spin, a top), each as one word; the loops of runs.
-/
import Derived.Test.YtaflnmmnaiaceaaBase
import Derived.Test.YtaflnmmnaiaceaaSxPu
namespace Go.Proofs.Ytaflnmmnaiaceaa
open Go.Sx
set_option maxRecDepth 100000

theorem noWalk {f : FuncId} {U : Nat → D → D} : EntryOk U Try.prog f (fun _ _ => .bad) := fun _ _ _ _ _ _ _ _ _ _ _ h => h.elim
def fl (i : Nat) : SV := .flt .f32 (.v i)
def fls (i n : Nat) : List SV := (List.range n).map fun j => fl (i + j)
def isFin (i : Nat) : E := .o2 (.feq .f32) (.o2 (.fsub .f32) (.v i) (.v i)) (.f (some 0))
def isPos (i : Nat) : E := .o2 (.flt .f32) (.f (some 0)) (.v i)
def isNil (i : Nat) : E := .o2 (.feq .f32) (.v i) (.f (some 0))
def allE : List E → E
  | [] => .b true
  | [x] => x
  | x :: l => .o2 .band x (allE l)
def finE3 (i : Nat) : E := allE [isFin i, isFin (i + 1), isFin (i + 2)]
def spinE (i : Nat) : E := allE [isFin i, isFin (i + 1), isFin (i + 2), isFin (i + 3), .o1 .not (allE [isNil i, isNil (i + 1), isNil (i + 2), isNil (i + 3)])]
def topE (i : Nat) : E := allE [isFin i, isPos i, isFin (i + 1), isPos (i + 1), isFin (i + 2), isPos (i + 2), spinE (i + 3), finE3 (i + 7)]
def pV3 : HPat := ⟨[.agg (fls 0 3)], [], []⟩
def pV4 : HPat := ⟨[.agg (fls 0 4)], [], []⟩
def pV10 : HPat := ⟨[.agg (fls 0 10)], [], []⟩
def pP (off n : Nat) : HPat := ⟨[.ptr 0 off], [⟨false, List.replicate off .any ++ fls 0 n, none⟩], []⟩
theorem q45 {U : Nat → D → D} : EntryOk U Try.prog 45 (askRun pV3 (finE3 0) fun _ _ => .bad) := ask_ok' cf1_ok pV3 _ (by kernel_rfl) noWalk
theorem q97 {U : Nat → D → D} : EntryOk U Try.prog 97 (askRun pV3 (finE3 0) fun _ _ => .bad) := ask_ok' cf1_ok pV3 _ (by kernel_rfl) noWalk
theorem q146 {U : Nat → D → D} : EntryOk U Try.prog 146 (askRun pV4 (spinE 0) fun _ _ => .bad) := ask_ok' cf1_ok pV4 _ (by kernel_rfl) noWalk
theorem q105 {U : Nat → D → D} : EntryOk U Try.prog 105 (askRun (pP 0 4) (spinE 0) (askRun (pP 3 4) (spinE 0) fun _ _ => .bad)) := ask_ok' cf1_ok (pP 0 4) _ (by kernel_rfl) (ask_ok' cf1_ok (pP 3 4) _ (by kernel_rfl) noWalk)
theorem q75 {U : Nat → D → D} : EntryOk U Try.prog 75 (askRun pV10 (topE 0) fun _ _ => .bad) := ask_ok' cf1_ok pV10 _ (by kernel_rfl) noWalk
theorem q50 {U : Nat → D → D} : EntryOk U Try.prog 50 (askRun (pP 0 10) (topE 0) fun _ _ => .bad) := ask_ok' cf1_ok (pP 0 10) _ (by kernel_rfl) noWalk
noncomputable def ctA : Contracts := (((((ct1.add 45 (askRun pV3 (finE3 0) fun _ _ => .bad)).add 97 (askRun pV3 (finE3 0) fun _ _ => .bad)).add 146 (askRun pV4 (spinE 0) fun _ _ => .bad)).add 105 (askRun (pP 0 4) (spinE 0) (askRun (pP 3 4) (spinE 0) fun _ _ => .bad))).add 75 (askRun pV10 (topE 0) fun _ _ => .bad)).add 50 (askRun (pP 0 10) (topE 0) fun _ _ => .bad)
theorem ctA_ok {U : Nat → D → D} : ContractsOk U Try.prog ctA := (((((ct1_ok.add q45).add q97).add q146).add q105).add q75).add q50

end Go.Proofs.Ytaflnmmnaiaceaa
