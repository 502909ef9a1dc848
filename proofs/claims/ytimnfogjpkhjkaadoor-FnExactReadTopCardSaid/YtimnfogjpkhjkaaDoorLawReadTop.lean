/-
  PROVED: 'laws.FnExactReadTop' answers true at every input, and leaves all it was handed as it was; the card ties the tables that it lists. No condition.
-/
import Derived.Test.YtimnfogjpkhjkaaDoorRead
import Derived.Test.YtimnfogjpkhjkaaDoorSxMf
import Derived.Test.YtimnfogjpkhjkaaDoorSxDo
import Derived.Test.YtimnfogjpkhjkaaDoorCards
import Derived.Test.YtimnfogjpkhjkaaDoorTie
import Derived.LaidLaws
import Derived.Handed
namespace Go.Proofs.YtimnfogjpkhjkaaDoor
open Go.Sx Go.RowKit
set_option maxRecDepth 100000

theorem noWalk {U : Nat → D → D} {f : FuncId} : EntryOk U Tryd.prog f (fun _ _ => .bad) := fun _ _ _ _ _ _ _ _ _ _ _ h => h.elim
def fl (i : Nat) : SV := .flt .f32 (.v i)
def fls (i n : Nat) : List SV := (List.range n).map fun j => fl (i + j)
def isFin (i : Nat) : E := .o2 (.feq .f32) (.o2 (.fsub .f32) (.v i) (.v i)) (.f (some 0))
def isPos (i : Nat) : E := .o2 (.flt .f32) (.f (some 0)) (.v i)
def isNil (i : Nat) : E := .o2 (.feq .f32) (.v i) (.f (some 0))
def allE : List E → E
  | [] => .b true
  | [x] => x
  | x :: l => .o2 .band x (allE l)
def finE3 (i : Nat) : E := allE [isFin i, isFin (i + 1), isFin (i + 2)]
def spinE (i : Nat) : E := allE [isFin i, isFin (i + 1), isFin (i + 2), isFin (i + 3), .o1 .not (allE [isNil i, isNil (i + 1), isNil (i + 2), isNil (i + 3)])]
def topE (i : Nat) : E := allE [isFin i, isPos i, isFin (i + 1), isPos (i + 1), isFin (i + 2), isPos (i + 2), spinE (i + 3), finE3 (i + 7)]
def pF10 : HPat := ⟨[.agg (fls 0 10)], [], []⟩
def pP (off n : Nat) : HPat := ⟨[.ptr 0 off], [⟨false, List.replicate off .any ++ fls 0 n, none⟩], []⟩
noncomputable def Q30 := askRun pF10 (topE 0) (fun _ _ => .bad)
noncomputable def Q52 := askRun (pP 0 10) (topE 0) (fun _ _ => .bad)
def F3 : SV := .tup [.agg [.flt .f32 (.f (some 0)), .flt .f32 (.f (some 0)), .flt .f32 (.f (some 0))], .bool (.b false)]
def pcS : List (E × Bool) := [(.o2 .ile (.o1 .slen (.v 0)) (.i 1048576), true)]
noncomputable def M29 := memoP [.one .s] pcS (mergeF F3 (resT (cfN 29 (ptGo 0 [.one .s]) ⟨[], 1000, pcS⟩)))
noncomputable def M51 := memoP [.one .s] pcS (mergeF F3 (resT (cfN 51 (ptGo 0 [.one .s]) ⟨[], 1000, pcS⟩)))
noncomputable def ctT : Contracts := (((ctN.add 30 Q30).add 52 Q52).add 29 M29).add 51 M51
noncomputable def cfT := callX Tryd.prog ctT (exec Tryd.prog ctT 100)
theorem q30 : EntryOk readU Tryd.prog 30 Q30 := ask_ok' cf1_ok pF10 _ (by kernel_rfl) noWalk
theorem q52 : EntryOk readU Tryd.prog 52 Q52 := ask_ok' cf1_ok (pP 0 10) _ (by kernel_rfl) noWalk
theorem ctT_ok : ContractsOk readU Tryd.prog ctT := ((((ctN_ok readWords).add q30).add q52).add (memoP_ok cfN_ok 29 [.one .s] pcS F3)).add (memoP_ok cfN_ok 51 [.one .s] pcS F3)
theorem cfT_ok : CallsOk readU Tryd.prog cfT := @calls_ok readU Tryd.prog ctT Tryd.mixes Tryd.names ctT_ok 100

theorem fnExactReadTop_check : allTrueI 1000 ⟨[], [], [], [], []⟩ (resT (cfT 5 (argGoA 0 0 txArg) (cxA txArg))) = true := by kernel_rfl

theorem fnExactReadTop_law : LawIsA readU (resT (cfT 5 (argGoA 0 0 txArg) (cxA txArg))) := law_of_A fnExactReadTop_check

def cellsOf : Nat → DataW Unit → List Value
  | 0, _ => []
  | _ + 1, .lit (.int k v) => [.int k v]
  | n + 1, .agg l => l.flatMap (cellsOf n)
  | _, _ => []
def fill (d : DataW Unit) : Obj → Obj
  | .cells _ t fz => .cells (cellsOf 3 d).toArray t fz
  | o => o
/-- The settled world, with the tables laid. -/
noncomputable def laidWorld (os : Os) : World :=
  let w0 := World.holding Tryd.prog os ⟨#[], #[], []⟩
  { w0 with heap := (w0.heap.modify 2 (fill Rows.laid_unicode_utf8_first)).modify 3 (fill Rows.laid_unicode_utf8_acceptRanges) }
theorem laid_met (os : Os) (args : Array Value) : laidMet Tryd.prog Rows.fnExactReadTopRow.laid ((laidWorld os).forCall (fun _ _ => 0) ⟨#[], args, []⟩).memory :=
  laidMet_of_run' 8 (by kernel_rfl) (by kernel_rfl)

theorem fnExactReadTop_lifted (os : Os) (started : os.Started) (H : Type) (enc : TypeId × Value → H) :
    ReturnsInHanded {} Tryd.checked os 5 .any (fun w args => (Rows.fnExactReadTopSpec.pre enc Tryd.prog Tryd.f5 Rows.fnExactReadTopRow.domain false w args ∧ laidMet Tryd.prog Rows.fnExactReadTopRow.laid w) ∧ sizedMet enc Tryd.prog Tryd.f5 (OpenSpec.ofChange Rows.fnExactReadTopSpec) false w args)
      (Rows.fnExactReadTopSpec.post enc Tryd.prog Tryd.f5 false true false false) :=
  row_lawL (C := Tryd.checked) (U := readU) (cf := cfT) (f := 5) («as» := txArg) (X := fun w _ => laidMet Tryd.prog Rows.fnExactReadTopRow.laid w) (fun _ _ _ hh h => h.of_heap hh) Tryd.own Tryd.laidOut started (by kernel_rfl) Tryd.names cfT_ok Tryd.func5 rfl rfl (by kernel_rfl) (by kernel_rfl) rfl
    (fun ds h => by match ds, h with | [_], _ => rfl)
    (ChangeSpec.witness_at (enc := enc) (C := Tryd.checked) (os := os) (X := fun w _ => laidMet Tryd.prog Rows.fnExactReadTopRow.laid w) false (laidWorld os) #[.string ByteArray.empty] 8 rfl (by kernel_rfl) (by kernel_rfl) (by kernel_rfl) (by kernel_rfl) (by kernel_rfl) (laid_met os _))
    (by kernel_rfl) (by kernel_rfl) (by kernel_rfl) (by kernel_rfl) fnExactReadTop_law

theorem fnExactReadTop_holds : Rows.FnExactReadTopSaid :=
  OpenClaim.holds_of_wide 5 Tryd.f5 rfl rfl rfl rfl rfl rfl rfl ⟨rfl, rfl, rfl, rfl, rfl⟩ rfl rfl rfl rfl rfl (by kernel_rfl) Tryd.func5 (by kernel_rfl)
    (of_decide_eq_true (by kernel_rfl)) (by unfold Func.isWrapper; first | (rw [if_pos (by decide +kernel)]; kernel_rfl) | (rw [if_neg (by decide +kernel)]; exact ⟨rfl, rfl⟩))
    (fun os started H enc _ => fnExactReadTop_lifted os started H enc)

theorem fnExactReadTop_card : Rows.FnExactReadTopCardSaid :=
  Claim7.holds_tied_plain_at .later [] [.data, .pinned] true (true, "fd62f2e5a6809ae2b0200c52fe0e5903ff706315af06b21b2dcc9327fdc42bda") false
    fnExactReadTop_holds (fun _ h => by cases h) (by kernel_rfl) (fun _ h => by cases h) fnExactReadTop_row_tie rfl ⟨rfl, rfl⟩ (by kernel_rfl) rfl
    (fun f fn hf hfn => by
      obtain rfl : f = 5 := Option.some.inj ((show Tryd.prog.funcNamed "loop.example/g01253/laws.FnExactReadTop" = some 5 by kernel_rfl).symm.trans hf) |>.symm
      obtain rfl : fn = Tryd.f5 := (Option.some.inj (Tryd.func5.symm.trans hfn)).symm
      exact ⟨by kernel_rfl, fun j t ht => by
        have hm : t ∈ Tryd.f5.params := Array.mem_of_getElem? ht
        have hall : (Tryd.f5.params.toList.all fun u => !Tryd.prog.wantsStandIn u) = true := by kernel_rfl
        exact (show Tryd.prog.wantsStandIn t = false by simpa using List.all_eq_true.1 hall t (by simpa using hm))⟩)
    (by kernel_rfl)

end Go.Proofs.YtimnfogjpkhjkaaDoor
