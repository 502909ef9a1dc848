/-
  Sx, part Do: laws whose rows list package variables.
-/
import Derived.Test.YtcloacigldklkaaDoorSxSb
namespace Go.Sx
open E (mk1 mk2 mkIte mk1_ev mk2_ev mkIte_ev)
section
open Go.ChangeShapes Go.WideShapes Go.RowKit
variable {H : Type} {enc : TypeId × Value → H}
/-- A law whose row lists package variables: what they hold is not asked. -/
theorem row_lawL {C : Checked} {os : Os} {U : Nat → D → D} {cf : FuncId → List SV → Cx → Tree (SV × Cx)} {f : FuncId} {fn : Func} {body : Code} {as : List AArg} {rt : TypeId} {s : ChangeSpec} {conds : List PathCond} {fresh handsOn again : Bool} {X : World → Array Value → Prop} (hX : ∀ (w w' : World) (args : Array Value), w.heap = w'.heap → X w args → X w' args)
    (own : ownKnob C.prog.godebug = none) (hl : laidOutB C.prog = true) (started : os.Started) (noInit : C.prog.inits.idxOf? f = none) (hn : NamesOk C.prog) (hcf : CallsOk U C.prog cf)
    (hfn : C.prog.funcs[f]? = some fn) (hbody : fn.body = some body) (hrt : fn.resultTypes = #[rt]) (hrb : C.prog.underlying rt = some .bool)
    (hr : (fn.params.toList.all fun t => C.prog.readableRec t && decide (t < C.prog.types.size)) = true) (hvars : s.vars = [])
    (hs : ∀ ds : List (DataW H), ds.length = fn.params.size → s.fn H ds = { results := [.lit (.bool true)], args := ds })
    (witness : ∃ (w : World) (tape : Tape) (i : Input), w.os = os ∧ (w.forCall tape i).Shaped C.prog ∧ i.vars = [] ∧ Input.okWide C.prog (w.forCall tape i) .any w.heap.size f i ∧
      ((s.pre enc C.prog fn conds false (w.forCall tape i).memory i.args ∧ X (w.forCall tape i).memory i.args) ∧ sizedMet enc C.prog fn (OpenSpec.ofChange s) false (w.forCall tape i).memory i.args) ∧ ({} : Assume).holds C.prog (lone (Frame.enter C.prog f i.args .normal) [] (w.forCall tape i)))
    (has : aArgs C.prog fn.params.toList = some as) (hu : SV.underL 1000 (argGoA 0 0 as) = true)
    (hH : (cxA as).h.all (fun o => match o with | some s => !s.wr && underB 1000 s | none => true) = true) (hpu : (cxA as).pc.all (fun x => x.1.under 1000) = true) (hT : LawIsA U (resT (cf f (argGoA 0 0 as) (cxA as)))) :
    ReturnsInHanded {} C os f .any (fun w args => (s.pre enc C.prog fn conds false w args ∧ X w args) ∧ sizedMet enc C.prog fn (OpenSpec.ofChange s) false w args) (s.post enc C.prog fn false fresh handsOn again) := by
  refine returnsInHanded_of_change_and hX own started noInit hfn witness ?_
  intro W base args ds gs before hval hW _ _ _ _
  have hlen : ∀ {ts : List TypeId} {vs : List Value} {ds : List (DataW H)} {ps : List MemPlace}, DataW.TrodAll enc C.prog W 0 (fun _ => true) true ts vs ds ps → vs.length = ts.length ∧ ds.length = ts.length := by
    intro ts
    induction ts with
    | nil =>
      intro vs ds ps h
      obtain ⟨rfl, rfl, rfl⟩ := trodAll_nil h
      exact ⟨rfl, rfl⟩
    | cons t ts ih =>
      intro vs ds ps h
      obtain ⟨v, vs', d, ds', p, q, rfl, rfl, rfl, h1, h2⟩ := trodAll_cons h
      simp [ih h2]
  obtain ⟨p, q, hA, hV, rfl, hz, hnd⟩ := id hW
  rw [hvars] at hV
  obtain ⟨rfl, rfl⟩ := trodVars_none hV
  obtain ⟨l1, l2⟩ := hlen hA
  obtain ⟨i1, i2⟩ := args_holds (U := U) has hA (fun j t v h1 h2 => hval j t v (by simpa using h1) (by simpa using h2))
  obtain ⟨es, gs', ls, hleaf⟩ := leaf_den (U := U) i1
  obtain ⟨g, L, hheap, hden⟩ := heapA hleaf
  have hg : TrueGoal C.prog f args W := closedA_lets hcf (pcGo_ok hleaf.2.2.2.1 hleaf.1 (fun j d hd => by rw [Nat.zero_add]; unfold rOf; rw [List.getD_eq_getElem?_getD, hd]; rfl)) hpu hH hu hheap (i2 _ _ _ _ _ hden) (hT.ok _ _ W fun _ h => ⟨rfl, h⟩)
  refine (calls_of_goal hn hfn hbody hg).mono fun e W' ⟨v, he, hv, hf⟩ => ?_
  subst he; subst hv
  refine ⟨_, rfl, post_true hl hr hrt hrb hvars ?_ hW ⟨hf.os, hf.tape, hf.output, hf.size, fun k hk => hf.block k hk (fun h => h)⟩⟩
  rw [List.append_nil]
  exact hs ds (by rw [l2]; simp)
end
end Go.Sx
