/-
  The bits of a number as one word.
-/
import Derived.Test.YtjedoigphjbgmaaDoorBase
import Derived.Test.YtjedoigphjbgmaaDoorSxGg
namespace Go.Proofs.YtjedoigphjbgmaaDoor
open Go.Sx
set_option maxRecDepth 100000

noncomputable def bitsT : Tree SV := resT (cf0 67 (ptGo 0 [F1]) cx0)
abbrev RI : Rp := .one (.one (.i .i64))
theorem bits_spec_check : opOk [F1] RI (resT (cf0 67 (ptGo 0 [F1]) cx0)) bitsT = true := by kernel_rfl
theorem bits_impl_check : opOk [F1] RI (resT (cf0 63 (ptGo 0 [F1]) cx0)) bitsT = true := by kernel_rfl
def BitsWord (U : Nat → D → D) : Prop := ∀ d, U 1 d = opVal bitsT (ptCount [F1]) RI d
theorem bits_spec {U : Nat → D → D} (h : BitsWord U) : EntryOk U Tryd.prog 67 (opRun 1 [F1] RI) := @op_entry U Tryd.prog cf0 cf0_ok 67 [F1] RI 1 (by kernel_rfl) bitsT bits_spec_check h
theorem bits_impl {U : Nat → D → D} (h : BitsWord U) : EntryOk U Tryd.prog 63 (opRun 1 [F1] RI) := @op_entry U Tryd.prog cf0 cf0_ok 63 [F1] RI 1 (by kernel_rfl) bitsT bits_impl_check h
noncomputable def ctT : Contracts := (ct1.add 67 (opRun 1 [F1] RI)).add 63 (opRun 1 [F1] RI)
theorem ctT_ok {U : Nat → D → D} (h : BitsWord U) : ContractsOk U Tryd.prog ctT := (ct1_ok.add (bits_spec h)).add (bits_impl h)
end Go.Proofs.YtjedoigphjbgmaaDoor
