/-
  PROVED: 'laws.FnExactReadPendulum' answers true at every input, and leaves all it was handed as it was; the card ties the tables that it lists. No condition.
-/
import Derived.Test.YtimnfogjpkhjkaaDoorRead
import Derived.Test.YtimnfogjpkhjkaaDoorSxDo
import Derived.Test.YtimnfogjpkhjkaaDoorCards
import Derived.Test.YtimnfogjpkhjkaaDoorTie
import Derived.LaidLaws
import Derived.Handed
namespace Go.Proofs.YtimnfogjpkhjkaaDoor
open Go.Sx Go.RowKit
set_option maxRecDepth 100000

theorem fnExactReadPendulum_check : allTrueI 1000 ⟨[], [], [], [], []⟩ (resT (cfN 4 (argGoA 0 0 txArg) (cxA txArg))) = true := by kernel_rfl

theorem fnExactReadPendulum_law : LawIsA readU (resT (cfN 4 (argGoA 0 0 txArg) (cxA txArg))) := law_of_A fnExactReadPendulum_check

def cellsOf : Nat → DataW Unit → List Value
  | 0, _ => []
  | _ + 1, .lit (.int k v) => [.int k v]
  | n + 1, .agg l => l.flatMap (cellsOf n)
  | _, _ => []
def fill (d : DataW Unit) : Obj → Obj
  | .cells _ t fz => .cells (cellsOf 3 d).toArray t fz
  | o => o
/-- The settled world, with the tables laid. -/
noncomputable def laidWorld (os : Os) : World :=
  let w0 := World.holding Tryd.prog os ⟨#[], #[], []⟩
  { w0 with heap := (w0.heap.modify 2 (fill Rows.laid_unicode_utf8_first)).modify 3 (fill Rows.laid_unicode_utf8_acceptRanges) }
theorem laid_met (os : Os) (args : Array Value) : laidMet Tryd.prog Rows.fnExactReadPendulumRow.laid ((laidWorld os).forCall (fun _ _ => 0) ⟨#[], args, []⟩).memory :=
  laidMet_of_run' 8 (by kernel_rfl) (by kernel_rfl)

theorem fnExactReadPendulum_lifted (os : Os) (started : os.Started) (H : Type) (enc : TypeId × Value → H) :
    ReturnsInHanded {} Tryd.checked os 4 .any (fun w args => (Rows.fnExactReadPendulumSpec.pre enc Tryd.prog Tryd.f4 Rows.fnExactReadPendulumRow.domain false w args ∧ laidMet Tryd.prog Rows.fnExactReadPendulumRow.laid w) ∧ sizedMet enc Tryd.prog Tryd.f4 (OpenSpec.ofChange Rows.fnExactReadPendulumSpec) false w args)
      (Rows.fnExactReadPendulumSpec.post enc Tryd.prog Tryd.f4 false true false false) :=
  row_lawL (C := Tryd.checked) (U := readU) (cf := cfN) (f := 4) («as» := txArg) (X := fun w _ => laidMet Tryd.prog Rows.fnExactReadPendulumRow.laid w) (fun _ _ _ hh h => h.of_heap hh) Tryd.own Tryd.laidOut started (by kernel_rfl) Tryd.names cfN_ok Tryd.func4 rfl rfl (by kernel_rfl) (by kernel_rfl) rfl
    (fun ds h => by match ds, h with | [_], _ => rfl)
    (ChangeSpec.witness_at (enc := enc) (C := Tryd.checked) (os := os) (X := fun w _ => laidMet Tryd.prog Rows.fnExactReadPendulumRow.laid w) false (laidWorld os) #[.string ByteArray.empty] 8 rfl (by kernel_rfl) (by kernel_rfl) (by kernel_rfl) (by kernel_rfl) (by kernel_rfl) (laid_met os _))
    (by kernel_rfl) (by kernel_rfl) (by kernel_rfl) (by kernel_rfl) fnExactReadPendulum_law

theorem fnExactReadPendulum_holds : Rows.FnExactReadPendulumSaid :=
  OpenClaim.holds_of_wide 4 Tryd.f4 rfl rfl rfl rfl rfl rfl rfl ⟨rfl, rfl, rfl, rfl, rfl⟩ rfl rfl rfl rfl rfl (by kernel_rfl) Tryd.func4 (by kernel_rfl)
    (of_decide_eq_true (by kernel_rfl)) (by unfold Func.isWrapper; first | (rw [if_pos (by decide +kernel)]; kernel_rfl) | (rw [if_neg (by decide +kernel)]; exact ⟨rfl, rfl⟩))
    (fun os started H enc _ => fnExactReadPendulum_lifted os started H enc)

theorem fnExactReadPendulum_card : Rows.FnExactReadPendulumCardSaid :=
  Claim7.holds_tied_plain_at .later [] [.data, .pinned] true (true, "fd62f2e5a6809ae2b0200c52fe0e5903ff706315af06b21b2dcc9327fdc42bda") false
    fnExactReadPendulum_holds (fun _ h => by cases h) (by kernel_rfl) (fun _ h => by cases h) fnExactReadPendulum_row_tie rfl ⟨rfl, rfl⟩ (by kernel_rfl) rfl
    (fun f fn hf hfn => by
      obtain rfl : f = 4 := Option.some.inj ((show Tryd.prog.funcNamed "loop.example/g01253/laws.FnExactReadPendulum" = some 4 by kernel_rfl).symm.trans hf) |>.symm
      obtain rfl : fn = Tryd.f4 := (Option.some.inj (Tryd.func4.symm.trans hfn)).symm
      exact ⟨by kernel_rfl, fun j t ht => by
        have hm : t ∈ Tryd.f4.params := Array.mem_of_getElem? ht
        have hall : (Tryd.f4.params.toList.all fun u => !Tryd.prog.wantsStandIn u) = true := by kernel_rfl
        exact (show Tryd.prog.wantsStandIn t = false by simpa using List.all_eq_true.1 hall t (by simpa using hm))⟩)
    (by kernel_rfl)

end Go.Proofs.YtimnfogjpkhjkaaDoor
