/-
  Sx, part S: the law's check, the float's sameness as one word, and the way from a walk to a row.
-/
import Derived.Test.YtaflnmmnaiaceaaSxP
import Derived.Test.YtaflnmmnaiaceaaSxR
import Derived.ProofKit
namespace Go.Sx
open E (mk1 mk2 mkIte mk1_ev mk2_ev mkIte_ev)

/-! ### A check: every leaf is the word 'true' -/

def allTrue : Nat → Tree SV → Bool
  | _, .ret (.bool (.b true)) => true
  | m, .ite c t e => c.under m && (allTrue m t && allTrue m e)
  | m, .chk (.o2 .fsame (.v i) e) t => Nat.ble m i && (e.under m && allTrue (i + 1) t)
  | _, _ => false

section
variable {U : Nat → D → D} {P : Program} {cf : FuncId → List SV → Cx → Tree (SV × Cx)} {w : World}

theorem allTrue_lets {K : Value → World → Prop} (hK : ∀ w', Frm (fun _ => False) w w' → K (.bool true) w') : ∀ {t : Tree SV} {m : Nat} {r : Nat → D}, allTrue m t = true → Lets U K w m r t := by
  intro t
  induction t with
  | ret x =>
    intro m r h g' L' v w' hf hd
    unfold allTrue at h
    split at h
    · rename_i h'
      cases h'
      simp only [SV.den, E.ev, D.toB] at hd
      subst hd
      exact hK w' hf
    all_goals first | cases h | (rename_i h'; cases h')
  | ite c t e iht ihe =>
    intro m r h
    simp only [allTrue, Bool.and_eq_true] at h
    exact ⟨h.1, fun _ => iht h.2.1, fun _ => ihe h.2.2⟩
  | chk c t ih =>
    intro m r h
    unfold allTrue at h
    split at h
    · rename_i h'; cases h'
    · rename_i h'; cases h'
    · rename_i m' i e t' h'
      cases h'
      simp only [Bool.and_eq_true] at h
      exact ⟨i, e, rfl, Nat.le_of_ble_eq_true h.1, h.2.1, ih h.2.2⟩
    · cases h
  | all i t ih => intro m r h; simp [allTrue] at h
  | asm e t ih => intro m r h; simp [allTrue] at h
  | bad => intro m r h; simp [allTrue] at h

/-- A law's call: it answers true, and nothing that was there has turned. -/
def TrueGoal (P : Program) (f : FuncId) (vs : Array Value) (w : World) : Prop := CallGoal P f vs w fun v w' => v = .bool true ∧ Frm (fun _ => False) w w'

/-- A law by its walk: whatever stands at the variables, the walk's tree answers true. -/
def LawOk (U : Nat → D → D) (T : Tree SV) (ps : List Pt) : Prop :=
  ∀ (r : Nat → D) (K : Value → World → Prop) (w : World), PtOk U ps r → (∀ w', Frm (fun _ => False) w w' → K (.bool true) w') → Lets U K w 1000 r T

theorem law_goal (hcf : CallsOk U P cf) {f : FuncId} {ps : List Pt} (hu : SV.underL 1000 (ptGo 0 ps) = true) (hT : LawOk U (resT (cf f (ptGo 0 ps) cx0)) ps) {r : Nat → D} {g : Gh} {vs : Array Value}
    (hd : SV.denL U r g (fun _ => False) (ptGo 0 ps) vs.toList) : TrueGoal P f vs w :=
  closed_lets hcf hu hd (hT r _ w ⟨_, _, _, hd⟩ fun _ h => ⟨rfl, h⟩)

theorem law_of_true {T : Tree SV} {ps : List Pt} (h : allTrue 1000 T = true) : LawOk U T ps := fun _ _ _ _ hK => allTrue_lets hK h
end

/-! ### Arguments: what the model hands over -/

def skOf (P : Program) (t : TypeId) : Option Sk :=
  match P.underlying t with
  | some .bool => some .b
  | some (.int k) => some (.i k)
  | some (.float k) => some (.f k)
  | some .string => some .s
  | _ => none

def skAll (P : Program) : List TypeId → Option (List Sk)
  | [] => some []
  | t :: l => match skOf P t, skAll P l with
    | some k, some m => some (k :: m)
    | _, _ => none

def ptOf (P : Program) (t : TypeId) : Option Pt :=
  match P.underlying t with
  | some (.struct _) | some (.array _ _) =>
    match P.cellTypes P.depth t with
    | some ts => if ts.length == P.cellsOf t && P.cellsOf t != 0 then (skAll P ts).map .ag else none
    | none => none
  | _ => (skOf P t).map .one

def ptsOf (P : Program) : List TypeId → Option (List Pt)
  | [] => some []
  | t :: l => match ptOf P t, ptsOf P l with
    | some k, some m => some (k :: m)
    | _, _ => none

section
variable {U : Nat → D → D} {P : Program} {w : World} {base : Nat}

theorem cell_den {t : TypeId} {v : Value} {k : Sk} (hk : skOf P t = some k) (h : Cell.okWide P w .any base t v) :
    ∃ d : D, ∀ (r : Nat → D) (i : Nat) (g : Gh) (L : Nat → Prop), r i = d → (skSV k (.v i)).den U r g L v := by
  unfold skOf at hk
  unfold Cell.okWide Cell.ok at h
  split at hk
  · rename_i hu
    cases hk
    simp only [hu] at h
    split at h
    all_goals first | exact h.elim | skip
    all_goals try (rename_i hh; cases hh)
    rename_i b
    exact ⟨.b b, fun r i g L hr => by simp [skSV, SV.den, E.ev, hr, D.toB]⟩
  · rename_i q hu
    cases hk
    simp only [hu] at h
    split at h
    all_goals first | exact h.elim | skip
    all_goals try (rename_i hh; cases hh)
    rename_i b n
    obtain ⟨rfl, h⟩ := h
    exact ⟨.i n, fun r i g L hr => by simp [skSV, SV.den, E.ev, hr, D.toI]⟩
  · rename_i q hu
    cases hk
    simp only [hu] at h
    split at h
    all_goals first | exact h.elim | skip
    all_goals try (rename_i hh; cases hh)
    rename_i b n
    refine ⟨.f (cn q n), fun r i g L hr => ?_⟩
    obtain ⟨rfl, h⟩ := h
    simp only [skSV, SV.den, E.ev, hr, D.toF]
    refine ⟨n, rfl, ?_, rfl⟩
    cases b
    · exact h
    · exact h
  · rename_i hu
    cases hk
    simp only [hu] at h
    split at h
    all_goals first | exact h.elim | skip
    all_goals try (rename_i hh; cases hh)
    rename_i b
    exact ⟨.s b, fun r i g L hr => by simp [skSV, SV.den, E.ev, hr, D.toS]⟩
  · cases hk

def valOf (ds : List D) (i : Nat) : Nat → D := fun n => ds.getD (n - i) (.b false)

theorem cells_den : ∀ {ts : List TypeId} {vs : List Value} {ks : List Sk}, skAll P ts = some ks → vs.length = ts.length → (∀ (i : Nat) (v : Value) (t : TypeId), vs[i]? = some v → ts[i]? = some t → Cell.okWide P w .any base t v) →
    ∃ ds : List D, ds.length = ks.length ∧ ∀ (r : Nat → D) (i : Nat) (g : Gh) (L : Nat → Prop), (∀ (j : Nat) (d : D), ds[j]? = some d → r (i + j) = d) → SV.denL U r g L (skGo i ks) vs := by
  intro ts
  induction ts with
  | nil =>
    intro vs ks hk hl _
    simp only [skAll, Option.some.injEq] at hk
    subst hk
    cases vs with
    | nil => exact ⟨[], rfl, fun r i g L _ => by simp [skGo, SV.denL]⟩
    | cons a b => simp at hl
  | cons t ts ih =>
    intro vs ks hk hl h
    simp only [skAll] at hk
    split at hk
    · rename_i k m h1 h2
      cases hk
      cases vs with
      | nil => simp at hl
      | cons v vs =>
        obtain ⟨d, hd⟩ := cell_den (U := U) h1 (h 0 v t (by simp) (by simp))
        obtain ⟨ds, hds, hr⟩ := ih h2 (by simpa using hl) (fun i v t h3 h4 => h (i + 1) v t (by simpa using h3) (by simpa using h4))
        refine ⟨d :: ds, by simp [hds], fun r i g L hj => ?_⟩
        simp only [skGo, SV.denL]
        refine ⟨hd r i g L (hj 0 d (by simp)), hr r (i + 1) g L fun j e he => ?_⟩
        have := hj (j + 1) e (by simpa using he)
        rw [← this]; congr 1; omega
    · cases hk

def ptN : Pt → Nat
  | .one _ => 1
  | .ag ks => ks.length

theorem arg_den {t : TypeId} {v : Value} {p : Pt} (hp : ptOf P t = some p) (h : Value.okWide P w .any base t v) :
    ∃ ds : List D, ds.length = ptN p ∧ ∀ (r : Nat → D) (i : Nat) (g : Gh) (L : Nat → Prop), (∀ (j : Nat) (d : D), ds[j]? = some d → r (i + j) = d) → SV.denL U r g L (ptGo i [p]) [v] := by
  unfold ptOf at hp
  unfold Value.okWide at h
  have agg : ∀ {ts : List TypeId}, P.cellTypes P.depth t = some ts → (if ts.length == P.cellsOf t && P.cellsOf t != 0 then (skAll P ts).map Pt.ag else none) = some p →
      (∃ cs, v = .agg cs ∧ cs.size = P.cellsOf t ∧ Row.okWide P w .any base t cs) →
      ∃ ds : List D, ds.length = ptN p ∧ ∀ (r : Nat → D) (i : Nat) (g : Gh) (L : Nat → Prop), (∀ (j : Nat) (d : D), ds[j]? = some d → r (i + j) = d) → SV.denL U r g L (ptGo i [p]) [v] := by
    intro ts hts hp ⟨cs, hv, hsz, ts', hts', _, hok⟩
    rw [hts] at hts'
    cases hts'
    split at hp
    · rename_i hc
      rw [Bool.and_eq_true] at hc
      have hc1 : ts.length = P.cellsOf t := by simpa using hc.1
      have hc2 : P.cellsOf t ≠ 0 := by simpa using hc.2
      simp only [Option.map_eq_some_iff] at hp
      obtain ⟨ks, hk, rfl⟩ := hp
      obtain ⟨ds, hds, hr⟩ := cells_den (U := U) (vs := cs.toList) hk (by rw [hc1, ← hsz]; simp) (fun i v t h3 h4 => by
        have h3' : cs[i]? = some v := by simpa using h3
        obtain ⟨u, hu, hcell⟩ := hok i v h3'
        have hi : i < cs.size := (Array.getElem?_eq_some_iff.1 h3').1
        rw [Nat.mod_eq_of_lt (by omega), h4] at hu
        cases hu
        exact hcell)
      refine ⟨ds, hds, fun r i g L hj => ?_⟩
      simp only [ptGo, SV.denL, SV.den, and_true]
      exact ⟨cs, hv, hr r i g L hj⟩
    · cases hp
  have one : (skOf P t).map Pt.one = some p → Cell.okWide P w .any base t v →
      ∃ ds : List D, ds.length = ptN p ∧ ∀ (r : Nat → D) (i : Nat) (g : Gh) (L : Nat → Prop), (∀ (j : Nat) (d : D), ds[j]? = some d → r (i + j) = d) → SV.denL U r g L (ptGo i [p]) [v] := by
    intro hp h
    simp only [Option.map_eq_some_iff] at hp
    obtain ⟨k, hk, rfl⟩ := hp
    obtain ⟨d, hd⟩ := cell_den (U := U) hk h
    exact ⟨[d], rfl, fun r i g L hj => by simpa [ptGo, SV.denL] using hd r i g L (hj 0 d (by simp))⟩
  split at hp
  · rename_i fs hu
    rw [hu] at h
    cases hts : P.cellTypes P.depth t with
    | none => rw [hts] at hp; cases hp
    | some ts => rw [hts] at hp; exact agg hts hp h
  · rename_i n e hu
    rw [hu] at h
    cases hts : P.cellTypes P.depth t with
    | none => rw [hts] at hp; cases hp
    | some ts => rw [hts] at hp; exact agg hts hp h
  · rename_i n1 n2
    refine one hp ?_
    split at h
    · rename_i fs hu; exact absurd hu (n1 fs)
    · rename_i n e hu; exact absurd hu (n2 n e)
    · exact h

theorem ptGo_cons (i : Nat) (p : Pt) (l : List Pt) : ptGo i (p :: l) = ptGo i [p] ++ ptGo (i + ptN p) l := by
  cases p <;> rfl

theorem args_den : ∀ {ts : List TypeId} {vs : List Value} {ps : List Pt}, ptsOf P ts = some ps → vs.length = ts.length → (∀ (j : Nat) t v, ts[j]? = some t → vs[j]? = some v → Value.okWide P w .any base t v) →
    ∃ ds : List D, ∀ (r : Nat → D) (i : Nat) (g : Gh) (L : Nat → Prop), (∀ (j : Nat) (d : D), ds[j]? = some d → r (i + j) = d) → SV.denL U r g L (ptGo i ps) vs := by
  intro ts
  induction ts with
  | nil =>
    intro vs ps hk hl _
    simp only [ptsOf, Option.some.injEq] at hk
    subst hk
    cases vs with
    | nil => exact ⟨[], fun r i g L _ => by simp [ptGo, SV.denL]⟩
    | cons a b => simp at hl
  | cons t ts ih =>
    intro vs ps hk hl h
    simp only [ptsOf] at hk
    split at hk
    · rename_i p m h1 h2
      cases hk
      cases vs with
      | nil => simp at hl
      | cons v vs =>
        obtain ⟨d1, l1, hr1⟩ := arg_den (U := U) h1 (h 0 t v (by simp) (by simp))
        obtain ⟨d2, hr2⟩ := ih h2 (by simpa using hl) (fun i t v h3 h4 => h (i + 1) t v (by simpa using h3) (by simpa using h4))
        refine ⟨d1 ++ d2, fun r i g L hj => ?_⟩
        rw [ptGo_cons]
        have := SV.denL_append U r g L (hr1 r i g L fun j d hd => hj j d (by rw [List.getElem?_append_left (List.getElem?_eq_some_iff.1 hd).1]; exact hd)) (hr2 r (i + ptN p) g L fun j d hd => by
          have := hj (d1.length + j) d (by rw [List.getElem?_append_right (by omega)]; simpa using hd)
          rw [← this, l1]; congr 1; omega)
        exact this
    · cases hk
end

/-! ### The row -/

section
open Go.ChangeShapes Go.WideShapes Go.RowKit
variable {H : Type} {enc : TypeId × Value → H} {P : Program}

theorem calls_of_goal {f : FuncId} {fn : Func} {body : Code} {vs : Array Value} {w : World} {K : Value → World → Prop} (hn : NamesOk P) (hf : P.funcs[f]? = some fn) (hb : fn.body = some body)
    (h : CallGoal P f vs w K) : Calls P f vs w fun e w' => ∃ v, e = .returned v ∧ K v w' := by
  have hrun : (callFunc f vs).run P w = .ok (.enter f vs) w := by
    unfold callFunc
    simp only [Sem.run_bind, run_program, Result.andThen_ok, hf, hn f fn hf, Bool.false_eq_true, if_false, hb, Option.isNone_some]
    rfl
  unfold CallGoal at h
  rw [hrun] at h
  exact h

/-- ARGS: behind a call that turned nothing, all arguments read as they did. -/
theorem args_stay (hl : laidOutB P = true) {W W' : World} (hb : Below W.heap.size W W') : ∀ {ts : List TypeId} {vs : List Value} {ds : List (DataW H)} {ps : List MemPlace},
    (ts.all fun t => P.readableRec t && decide (t < P.types.size)) = true → DataW.TrodAll enc P W 0 (fun _ => true) true ts vs ds ps → (∀ x ∈ ps, x.block < W.heap.size) →
    ∀ sp : Nat → Bool, (∀ p ∈ ps, sp p.block = true) → DataW.TrodAll enc P W' 0 sp true ts vs ds ps := by
  intro ts
  induction ts with
  | nil =>
    intro vs ds ps _ h _ sp _
    obtain ⟨rfl, rfl, rfl⟩ := trodAll_nil h
    rfl
  | cons t ts ih =>
    intro vs ds ps hr h hlt sp hsp
    obtain ⟨v, vs', d, ds', p, q, rfl, rfl, rfl, h1, h2⟩ := trodAll_cons h
    simp only [List.all_cons, Bool.and_eq_true, decide_eq_true_eq] at hr
    refine ⟨p, q, ?_, ih hr.2 h2 (fun x hx => hlt x (List.mem_append_right _ hx)) sp (fun x hx => hsp x (List.mem_append_right _ hx)), rfl⟩
    exact WideElems.Trod_stays hl hr.1.1 hr.1.2 h1 (fun x hx => hb.same (hlt x (List.mem_append_left _ hx))) (fun x hx => hsp x (List.mem_append_left _ hx))

theorem post_true {f : Func} {s : ChangeSpec} {apart fresh handsOn again : Bool} {W W' : World} {args : Array Value} {ds gs : List (DataW H)} {before : List MemPlace} {rt : TypeId}
    (hl : laidOutB P = true) (hr : (f.params.toList.all fun t => P.readableRec t && decide (t < P.types.size)) = true) (hrt : f.resultTypes = #[rt]) (hrb : P.underlying rt = some .bool) (hvars : s.vars = [])
    (hs : s.fn H (ds ++ gs) = { results := [.lit (.bool true)], args := ds })
    (hW : DataW.Whole enc P f.params.toList s.vars apart W args.toList ds gs before) (hb : Below W.heap.size W W') :
    s.post enc P f apart fresh handsOn again W args (.bool true) W' := by
  have hlt : ∀ p ∈ before, p.block < W.heap.size := fun p hp => hW.lt p hp
  have hold : ∀ p ∈ before, (fun b => decide (b < W.heap.size)) p.block = true := fun p hp => by simpa using hlt p hp
  obtain ⟨p, q, hA, hV, rfl, hz, hn⟩ := id hW
  rw [hvars] at hV
  obtain ⟨rfl, rfl⟩ := trodVars_none hV
  have hargs : ∀ sp : Nat → Bool, (∀ x ∈ p, sp x.block = true) → DataW.TrodAll enc P W' 0 sp true f.params.toList args.toList ds p := args_stay hl hb hr hA (fun x hx => hlt x (List.mem_append_left _ hx))
  have hres : ∀ (b : Nat) (sp : Nat → Bool) (hd : Bool), DataW.TrodAll enc P W' b sp hd f.resultTypes.toList ((Value.bool true).resultList f.resultTypes.size) [.lit (.bool true)] [] := by
    intro b sp hd
    rw [hrt]
    exact trodAll_mk1 (shut_bool hrb true)
  have hvr : ∀ sp : Nat → Bool, DataW.TrodVars enc P W' sp s.vars [] [] := fun sp => by rw [hvars]; rfl
  refine ⟨ds, [], p ++ [], [], p, [], hW, ?_, ?_, ?_, World.keptBut_mono (fun x hx => ⟨hx, ?_⟩) (hb.frame (· ∈ p ++ [])), fun _ => ?_⟩
  · rw [hs]; exact hres _ _ _
  · rw [hs]; exact hargs _ fun x hx => hold x (List.mem_append_left _ hx)
  · rw [hs]; exact hvr _
  · simpa using hx
  · refine ⟨?_, _, _, ([] ++ p) ++ [], ⟨[] ++ p, [], trodAll_append (hargs _ (fun _ _ => rfl)) (hres _ _ _), hvr _, rfl, ?_, ?_⟩, ?_⟩
    · exact ok_one hrt rfl (okWide_bool_mk hrb true)
    · intro b off hp
      have hin : MemPlace.cell b off ∈ p ++ [] := by simpa using hp
      rw [hb.frozen (hlt _ hin)]
      exact hz b off hin
    · intro ha
      have := hn ha
      simpa using this
    · intro x hx _
      simpa using hx

/-- A ROW: from a call that answers true to what the row asks. -/
theorem row_goal {C : Checked} {os : Os} {U : Nat → D → D} {f : FuncId} {fn : Func} {body : Code} {ps : List Pt} {rt : TypeId} {s : ChangeSpec} {fresh handsOn again : Bool}
    (own : ownKnob C.prog.godebug = none) (hl : laidOutB C.prog = true) (started : os.Started) (noInit : C.prog.inits.idxOf? f = none) (hn : NamesOk C.prog)
    (hfn : C.prog.funcs[f]? = some fn) (hbody : fn.body = some body) (hrt : fn.resultTypes = #[rt]) (hrb : C.prog.underlying rt = some .bool)
    (hr : (fn.params.toList.all fun t => C.prog.readableRec t && decide (t < C.prog.types.size)) = true) (hvars : s.vars = [])
    (hs : ∀ ds : List (DataW H), ds.length = fn.params.size → s.fn H ds = { results := [.lit (.bool true)], args := ds })
    (witness : ∃ (w : World) (tape : Tape) (i : Input), w.os = os ∧ (w.forCall tape i).Shaped C.prog ∧ i.vars = [] ∧ Input.okWide C.prog (w.forCall tape i) .any w.heap.size f i ∧
      s.pre6 enc C.prog fn [] false (w.forCall tape i).memory i.args ∧ ({} : Assume).holds C.prog (lone (Frame.enter C.prog f i.args .normal) [] (w.forCall tape i)))
    (hps : ptsOf C.prog fn.params.toList = some ps)
    (hG : ∀ (W : World) (args : Array Value) (r : Nat → D) (g : Gh), SV.denL U r g (fun _ => False) (ptGo 0 ps) args.toList → TrueGoal C.prog f args W) :
    ReturnsInHanded {} C os f .any (s.pre6 enc C.prog fn [] false) (s.post enc C.prog fn false fresh handsOn again) := by
  refine returnsInHanded_of_change own started noInit hfn witness ?_
  intro W base args ds gs before hval hW _ _
  have hlen : ∀ {ts : List TypeId} {vs : List Value} {ds : List (DataW H)} {ps : List MemPlace}, DataW.TrodAll enc C.prog W 0 (fun _ => true) true ts vs ds ps → vs.length = ts.length ∧ ds.length = ts.length := by
    intro ts
    induction ts with
    | nil =>
      intro vs ds ps h
      obtain ⟨rfl, rfl, rfl⟩ := trodAll_nil h
      exact ⟨rfl, rfl⟩
    | cons t ts ih =>
      intro vs ds ps h
      obtain ⟨v, vs', d, ds', p, q, rfl, rfl, rfl, h1, h2⟩ := trodAll_cons h
      simp [ih h2]
  obtain ⟨p, q, hA, hV, rfl, hz, hnd⟩ := id hW
  rw [hvars] at hV
  obtain ⟨rfl, rfl⟩ := trodVars_none hV
  obtain ⟨l1, l2⟩ := hlen hA
  obtain ⟨xs, hx⟩ := args_den (U := U) hps l1 (fun j t v h1 h2 => hval j t v (by simpa using h1) (by simpa using h2))
  have hd := hx (valOf xs 0) 0 ⟨fun _ => 0, fun _ => 0, fun _ => 0⟩ (fun _ => False) (fun j d hj => by simp [valOf, hj])
  have hg : TrueGoal C.prog f args W := hG W args _ _ hd
  refine (calls_of_goal hn hfn hbody hg).mono fun e W' ⟨v, he, hv, hf⟩ => ?_
  subst he; subst hv
  refine ⟨_, rfl, post_true hl hr hrt hrb hvars ?_ hW ⟨hf.os, hf.tape, hf.output, hf.size, fun k hk => hf.block k hk (fun h => h)⟩⟩
  rw [List.append_nil]
  exact hs ds (by rw [l2]; simp)

/-- A ROW: from a walk whose tree answers true. -/
theorem row_law {C : Checked} {os : Os} {U : Nat → D → D} {cf : FuncId → List SV → Cx → Tree (SV × Cx)} {f : FuncId} {fn : Func} {body : Code} {ps : List Pt} {rt : TypeId} {s : ChangeSpec} {fresh handsOn again : Bool}
    (own : ownKnob C.prog.godebug = none) (hl : laidOutB C.prog = true) (started : os.Started) (noInit : C.prog.inits.idxOf? f = none) (hn : NamesOk C.prog) (hcf : CallsOk U C.prog cf)
    (hfn : C.prog.funcs[f]? = some fn) (hbody : fn.body = some body) (hrt : fn.resultTypes = #[rt]) (hrb : C.prog.underlying rt = some .bool)
    (hr : (fn.params.toList.all fun t => C.prog.readableRec t && decide (t < C.prog.types.size)) = true) (hvars : s.vars = [])
    (hs : ∀ ds : List (DataW H), ds.length = fn.params.size → s.fn H ds = { results := [.lit (.bool true)], args := ds })
    (witness : ∃ (w : World) (tape : Tape) (i : Input), w.os = os ∧ (w.forCall tape i).Shaped C.prog ∧ i.vars = [] ∧ Input.okWide C.prog (w.forCall tape i) .any w.heap.size f i ∧
      s.pre6 enc C.prog fn [] false (w.forCall tape i).memory i.args ∧ ({} : Assume).holds C.prog (lone (Frame.enter C.prog f i.args .normal) [] (w.forCall tape i)))
    (hps : ptsOf C.prog fn.params.toList = some ps) (hu : SV.underL 1000 (ptGo 0 ps) = true) (hT : LawOk U (resT (cf f (ptGo 0 ps) cx0)) ps) :
    ReturnsInHanded {} C os f .any (s.pre6 enc C.prog fn [] false) (s.post enc C.prog fn false fresh handsOn again) :=
  row_goal (U := U) own hl started noInit hn hfn hbody hrt hrb hr hvars hs witness hps fun _ _ _ _ hd => law_goal hcf hu hT hd
end
end Go.Sx
