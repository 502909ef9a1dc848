/-
  PROVED: 'laws.FnExactChainText' answers true at every input, and leaves all it was handed as it was; the card ties the tables that it lists. No condition.
-/
import Derived.Test.YtjedoigphjbgmaaDoorWholeT
import Derived.Test.YtjedoigphjbgmaaDoorSxDo
import Derived.Test.YtjedoigphjbgmaaDoorCards
import Derived.Test.YtjedoigphjbgmaaDoorTie
import Derived.LaidLaws
import Derived.Handed
namespace Go.Proofs.YtjedoigphjbgmaaDoor
open Go.Sx Go.RowKit
set_option maxRecDepth 100000

theorem fnExactChainText_check : allTrueI 1000 ⟨[], [], [], [], []⟩ (resT (cfN 3 (argGoA 0 0 chArg) (cxA chArg))) = true := by kernel_rfl

theorem fnExactChainText_law : LawIsA chainU (resT (cfN 3 (argGoA 0 0 chArg) (cxA chArg))) := law_of_A fnExactChainText_check

def cellsOf : List (DataW Unit) → List Value
  | .lit (.int k n) :: l => .int k n :: cellsOf l
  | _ => []
def cellsAt : DataW Unit → Array Value
  | .agg l => (cellsOf l).toArray
  | _ => #[]
def fill (d : DataW Unit) : Obj → Obj
  | .cells _ t fz => .cells (cellsAt d) t fz
  | o => o
/-- The settled world, with the tables laid. -/
noncomputable def laidWorld (os : Os) : World :=
  let w0 := World.holding Tryd.prog os ⟨#[], #[], []⟩
  { w0 with heap := ((w0.heap.modify 2 (fill Rows.laid_internal_strconv_uint64pow10)).modify 3 (fill Rows.laid_math_bits_deBruijn32tab)).modify 4 (fill Rows.laid_math_bits_deBruijn64tab) }
theorem laid_met (os : Os) (args : Array Value) : laidMet Tryd.prog Rows.fnExactChainTextRow.laid ((laidWorld os).forCall (fun _ _ => 0) ⟨#[], args, []⟩).memory :=
  laidMet_of_run' 8 (by kernel_rfl) (by kernel_rfl)

theorem fnExactChainText_lifted (os : Os) (started : os.Started) (H : Type) (enc : TypeId × Value → H) :
    ReturnsInHanded {} Tryd.checked os 3 .any (fun w args => (Rows.fnExactChainTextSpec.pre enc Tryd.prog Tryd.f3 Rows.fnExactChainTextRow.domain false w args ∧ laidMet Tryd.prog Rows.fnExactChainTextRow.laid w) ∧ sizedMet enc Tryd.prog Tryd.f3 (OpenSpec.ofChange Rows.fnExactChainTextSpec) false w args)
      (Rows.fnExactChainTextSpec.post enc Tryd.prog Tryd.f3 false true false false) :=
  row_lawL (C := Tryd.checked) (U := chainU) (cf := cfN) (f := 3) («as» := chArg) (X := fun w _ => laidMet Tryd.prog Rows.fnExactChainTextRow.laid w) (fun _ _ _ hh h => h.of_heap hh) Tryd.own Tryd.laidOut started (by kernel_rfl) Tryd.names cfN_ok Tryd.func3 rfl rfl (by kernel_rfl) (by kernel_rfl) rfl
    (fun ds h => by match ds, h with | [_], _ => rfl)
    (ChangeSpec.witness_at (enc := enc) (C := Tryd.checked) (os := os) (X := fun w _ => laidMet Tryd.prog Rows.fnExactChainTextRow.laid w) false (laidWorld os) #[.agg #[.slice none 0 0, .slice none 0 0, .slice none 0 0, .slice none 0 0]] 8 rfl (by kernel_rfl) (by kernel_rfl) (by kernel_rfl) (by kernel_rfl) (by kernel_rfl) (laid_met os _))
    (by kernel_rfl) (by kernel_rfl) (by kernel_rfl) (by kernel_rfl) fnExactChainText_law

theorem fnExactChainText_holds : Rows.FnExactChainTextSaid :=
  OpenClaim.holds_of_wide 3 Tryd.f3 rfl rfl rfl rfl rfl rfl rfl ⟨rfl, rfl, rfl, rfl, rfl⟩ rfl rfl rfl rfl rfl (by kernel_rfl) Tryd.func3 (by kernel_rfl)
    (of_decide_eq_true (by kernel_rfl)) (by unfold Func.isWrapper; first | (rw [if_pos (by decide +kernel)]; kernel_rfl) | (rw [if_neg (by decide +kernel)]; exact ⟨rfl, rfl⟩))
    (fun os started H enc _ => fnExactChainText_lifted os started H enc)

theorem fnExactChainText_card : Rows.FnExactChainTextCardSaid :=
  Claim7.holds_tied_plain_at .later [] [.data, .data, .data] true (true, "74327aae512813f447024d675eee01881c76f86b9c530af1097ce074ca247384") false
    fnExactChainText_holds (fun _ h => by cases h) (by kernel_rfl) (fun _ h => by cases h) fnExactChainText_row_tie rfl ⟨rfl, rfl⟩ (by kernel_rfl) rfl
    (fun f fn hf hfn => by
      obtain rfl : f = 3 := Option.some.inj ((show Tryd.prog.funcNamed "loop.example/g01253/laws.FnExactChainText" = some 3 by kernel_rfl).symm.trans hf) |>.symm
      obtain rfl : fn = Tryd.f3 := (Option.some.inj (Tryd.func3.symm.trans hfn)).symm
      exact ⟨by kernel_rfl, fun j t ht => by
        have hm : t ∈ Tryd.f3.params := Array.mem_of_getElem? ht
        have hall : (Tryd.f3.params.toList.all fun u => !Tryd.prog.wantsStandIn u) = true := by kernel_rfl
        exact (show Tryd.prog.wantsStandIn t = false by simpa using List.all_eq_true.1 hall t (by simpa using hm))⟩)
    (by kernel_rfl)

end Go.Proofs.YtjedoigphjbgmaaDoor
