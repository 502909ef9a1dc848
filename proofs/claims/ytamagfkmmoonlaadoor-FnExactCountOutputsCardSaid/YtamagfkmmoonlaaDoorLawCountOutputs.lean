/-
  PROVED: 'laws.FnExactCountOutputs' answers true at every input, and leaves all it was handed as it was; the card ties the tables that it lists. No condition.
-/
import Derived.Test.YtamagfkmmoonlaaDoorLines
import Derived.Test.YtamagfkmmoonlaaDoorSxDo
import Derived.Test.YtamagfkmmoonlaaDoorCards
import Derived.Test.YtamagfkmmoonlaaDoorTie
import Derived.LaidLaws
import Derived.Handed
namespace Go.Proofs.YtamagfkmmoonlaaDoor
open Go.Sx Go.RowKit
set_option maxRecDepth 100000

theorem fnExactCountOutputs_check : allTrueI 1000 ⟨[], [], [], [], []⟩ (resT (cfN 3 (argGoA 0 0 txArg) (cxA txArg))) = true := by kernel_rfl

theorem fnExactCountOutputs_law : LawIsA lineU (resT (cfN 3 (argGoA 0 0 txArg) (cxA txArg))) := law_of_A fnExactCountOutputs_check

def cellsOf : Nat → DataW Unit → List Value
  | 0, _ => []
  | _ + 1, .lit (.int k v) => [.int k v]
  | n + 1, .agg l => l.flatMap (cellsOf n)
  | _, _ => []
def fill (d : DataW Unit) : Obj → Obj
  | .cells _ t fz => .cells (cellsOf 3 d).toArray t fz
  | o => o
/-- The settled world, with the tables laid. -/
noncomputable def laidWorld (os : Os) : World :=
  let w0 := World.holding Tryd.prog os ⟨#[], #[], []⟩
  { w0 with heap := (w0.heap.modify 1 (fill Rows.laid_unicode_utf8_first)).modify 2 (fill Rows.laid_unicode_utf8_acceptRanges) }
theorem laid_met (os : Os) (args : Array Value) : laidMet Tryd.prog Rows.fnExactCountOutputsRow.laid ((laidWorld os).forCall (fun _ _ => 0) ⟨#[], args, []⟩).memory :=
  laidMet_of_run' 8 (by kernel_rfl) (by kernel_rfl)

theorem fnExactCountOutputs_lifted (os : Os) (started : os.Started) (H : Type) (enc : TypeId × Value → H) :
    ReturnsInHanded {} Tryd.checked os 3 .any (fun w args => (Rows.fnExactCountOutputsSpec.pre enc Tryd.prog Tryd.f3 Rows.fnExactCountOutputsRow.domain false w args ∧ laidMet Tryd.prog Rows.fnExactCountOutputsRow.laid w) ∧ sizedMet enc Tryd.prog Tryd.f3 (OpenSpec.ofChange Rows.fnExactCountOutputsSpec) false w args)
      (Rows.fnExactCountOutputsSpec.post enc Tryd.prog Tryd.f3 false true false false) :=
  row_lawL (C := Tryd.checked) (U := lineU) (cf := cfN) (f := 3) («as» := txArg) (X := fun w _ => laidMet Tryd.prog Rows.fnExactCountOutputsRow.laid w) (fun _ _ _ hh h => h.of_heap hh) Tryd.own Tryd.laidOut started (by kernel_rfl) Tryd.names cfN_ok Tryd.func3 rfl rfl (by kernel_rfl) (by kernel_rfl) rfl
    (fun ds h => by match ds, h with | [_], _ => rfl)
    (ChangeSpec.witness_at (enc := enc) (C := Tryd.checked) (os := os) (X := fun w _ => laidMet Tryd.prog Rows.fnExactCountOutputsRow.laid w) false (laidWorld os) #[.string ByteArray.empty] 8 rfl (by kernel_rfl) (by kernel_rfl) (by kernel_rfl) (by kernel_rfl) (by kernel_rfl) (laid_met os _))
    (by kernel_rfl) (by kernel_rfl) (by kernel_rfl) (by kernel_rfl) fnExactCountOutputs_law

theorem fnExactCountOutputs_holds : Rows.FnExactCountOutputsSaid :=
  OpenClaim.holds_of_wide 3 Tryd.f3 rfl rfl rfl rfl rfl rfl rfl ⟨rfl, rfl, rfl, rfl, rfl⟩ rfl rfl rfl rfl rfl (by kernel_rfl) Tryd.func3 (by kernel_rfl)
    (of_decide_eq_true (by kernel_rfl)) (by unfold Func.isWrapper; first | (rw [if_pos (by decide +kernel)]; kernel_rfl) | (rw [if_neg (by decide +kernel)]; exact ⟨rfl, rfl⟩))
    (fun os started H enc _ => fnExactCountOutputs_lifted os started H enc)

theorem fnExactCountOutputs_card : Rows.FnExactCountOutputsCardSaid :=
  Claim7.holds_tied_plain_at .later [] [.data, .pinned] true (true, "e8e9a2cf0efde610a1d3b140cdd8b894130dff509f86c813d72d628342541e6e") false
    fnExactCountOutputs_holds (fun _ h => by cases h) (by kernel_rfl) (fun _ h => by cases h) fnExactCountOutputs_row_tie rfl ⟨rfl, rfl⟩ (by kernel_rfl) rfl
    (fun f fn hf hfn => by
      obtain rfl : f = 3 := Option.some.inj ((show Tryd.prog.funcNamed "loop.example/g01253/laws.FnExactCountOutputs" = some 3 by kernel_rfl).symm.trans hf) |>.symm
      obtain rfl : fn = Tryd.f3 := (Option.some.inj (Tryd.func3.symm.trans hfn)).symm
      exact ⟨by kernel_rfl, fun j t ht => by
        have hm : t ∈ Tryd.f3.params := Array.mem_of_getElem? ht
        have hall : (Tryd.f3.params.toList.all fun u => !Tryd.prog.wantsStandIn u) = true := by kernel_rfl
        exact (show Tryd.prog.wantsStandIn t = false by simpa using List.all_eq_true.1 hall t (by simpa using hm))⟩)
    (by kernel_rfl)

end Go.Proofs.YtamagfkmmoonlaaDoor
