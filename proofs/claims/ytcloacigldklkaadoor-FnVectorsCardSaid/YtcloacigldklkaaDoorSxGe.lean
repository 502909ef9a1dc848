/-
  Sx, parts S, T, Tb, U, V, X.
-/
import Derived.Test.YtcloacigldklkaaDoorSxGh
import Derived.Test.YtcloacigldklkaaDoorSxGa
import Derived.ProofKit
/-
  Sx, part S: the law's check, the float's sameness as one word, and the way from a walk to a row.
-/
namespace Go.Sx
open E (mk1 mk2 mkIte mk1_ev mk2_ev mkIte_ev)

/-! ### A check: every leaf is the word 'true' -/

def allTrue : Nat → Tree SV → Bool
  | _, .ret (.bool (.b true)) => true
  | m, .ite c t e => c.under m && (allTrue m t && allTrue m e)
  | m, .chk (.o2 .fsame (.v i) e) t => Nat.ble m i && (e.under m && allTrue (i + 1) t)
  | _, _ => false

section
variable {U : Nat → D → D} {P : Program} {cf : FuncId → List SV → Cx → Tree (SV × Cx)} {w : World}

theorem allTrue_lets {K : Value → World → Prop} (hK : ∀ w', Frm (fun _ => False) w w' → K (.bool true) w') : ∀ {t : Tree SV} {m : Nat} {r : Nat → D}, allTrue m t = true → Lets U K w m r t := by
  intro t
  induction t with
  | ret x =>
    intro m r h g' L' v w' hf hd
    unfold allTrue at h
    split at h
    · rename_i h'
      cases h'
      simp only [SV.den, E.ev, D.toB] at hd
      subst hd
      exact hK w' hf
    all_goals first | cases h | (rename_i h'; cases h')
  | ite c t e iht ihe =>
    intro m r h
    simp only [allTrue, Bool.and_eq_true] at h
    exact ⟨h.1, fun _ => iht h.2.1, fun _ => ihe h.2.2⟩
  | chk c t ih =>
    intro m r h
    unfold allTrue at h
    split at h
    · rename_i h'; cases h'
    · rename_i h'; cases h'
    · rename_i m' i e t' h'
      cases h'
      simp only [Bool.and_eq_true] at h
      exact ⟨i, e, rfl, Nat.le_of_ble_eq_true h.1, h.2.1, ih h.2.2⟩
    · cases h
  | all i t ih => intro m r h; simp [allTrue] at h
  | asm e t ih => intro m r h; simp [allTrue] at h
  | bad => intro m r h; simp [allTrue] at h

/-- A law's call: it answers true, and nothing that was there has turned. -/
def TrueGoal (P : Program) (f : FuncId) (vs : Array Value) (w : World) : Prop := CallGoal P f vs w fun v w' => v = .bool true ∧ Frm (fun _ => False) w w'

/-- A law by its walk: whatever stands at the variables, the walk's tree answers true. -/
def LawOk (U : Nat → D → D) (T : Tree SV) (ps : List Pt) : Prop :=
  ∀ (r : Nat → D) (K : Value → World → Prop) (w : World), PtOk U ps r → (∀ w', Frm (fun _ => False) w w' → K (.bool true) w') → Lets U K w 1000 r T

theorem law_goal (hcf : CallsOk U P cf) {f : FuncId} {ps : List Pt} (hu : SV.underL 1000 (ptGo 0 ps) = true) (hT : LawOk U (resT (cf f (ptGo 0 ps) cx0)) ps) {r : Nat → D} {g : Gh} {vs : Array Value}
    (hd : SV.denL U r g (fun _ => False) (ptGo 0 ps) vs.toList) : TrueGoal P f vs w :=
  closed_lets hcf hu hd (hT r _ w ⟨_, _, _, hd⟩ fun _ h => ⟨rfl, h⟩)

theorem law_of_true {T : Tree SV} {ps : List Pt} (h : allTrue 1000 T = true) : LawOk U T ps := fun _ _ _ _ hK => allTrue_lets hK h
end

/-! ### Arguments: what the model hands over -/

def skOf (P : Program) (t : TypeId) : Option Sk :=
  match P.underlying t with
  | some .bool => some .b
  | some (.int .u8) => some .byte
  | some (.int k) => some (.i k)
  | some (.float k) => some (.f k)
  | some .string => some .s
  | _ => none

def skAll (P : Program) : List TypeId → Option (List Sk)
  | [] => some []
  | t :: l => match skOf P t, skAll P l with
    | some k, some m => some (k :: m)
    | _, _ => none

def ptOf (P : Program) (t : TypeId) : Option Pt :=
  match P.underlying t with
  | some (.struct _) | some (.array _ _) =>
    match P.cellTypes P.depth t with
    | some ts => if ts.length == P.cellsOf t && P.cellsOf t != 0 then (skAll P ts).map .ag else none
    | none => none
  | _ => (skOf P t).map .one

def ptsOf (P : Program) : List TypeId → Option (List Pt)
  | [] => some []
  | t :: l => match ptOf P t, ptsOf P l with
    | some k, some m => some (k :: m)
    | _, _ => none

section
variable {U : Nat → D → D} {P : Program} {w : World} {base : Nat}

theorem wrap_u8_in {n : Int} (h0 : IntKind.u8.min ≤ n) (h1 : n ≤ IntKind.u8.max) : IntKind.u8.wrap n = n := wrap_in (k := .u8) h0 h1

theorem cell_den {t : TypeId} {v : Value} {k : Sk} (hk : skOf P t = some k) (h : Cell.okWide P w .any base t v) :
    ∃ d : D, ∀ (r : Nat → D) (i : Nat) (g : Gh) (L : Nat → Prop), r i = d → (skSV k (.v i)).den U r g L v := by
  unfold skOf at hk
  unfold Cell.okWide Cell.ok at h
  split at hk
  · rename_i hu
    cases hk
    simp only [hu] at h
    split at h
    all_goals first | exact h.elim | skip
    all_goals try (rename_i hh; cases hh)
    rename_i b
    exact ⟨.b b, fun r i g L hr => by simp [skSV, SV.den, E.ev, hr, D.toB]⟩
  · rename_i hu
    cases hk
    simp only [hu] at h
    split at h
    all_goals first | exact h.elim | skip
    all_goals try (rename_i hh; cases hh)
    rename_i b n
    obtain ⟨rfl, h⟩ := h
    exact ⟨.i n, fun r i g L hr => by simp [skSV, SV.den, E.ev, O1.ev, hr, D.toI, wrap_u8_in h.1 h.2]⟩
  · rename_i q _ hu
    cases hk
    simp only [hu] at h
    split at h
    all_goals first | exact h.elim | skip
    all_goals try (rename_i hh; cases hh)
    rename_i b n
    obtain ⟨rfl, h⟩ := h
    exact ⟨.i n, fun r i g L hr => by simp [skSV, SV.den, E.ev, hr, D.toI]⟩
  · rename_i q hu
    cases hk
    simp only [hu] at h
    split at h
    all_goals first | exact h.elim | skip
    all_goals try (rename_i hh; cases hh)
    rename_i b n
    refine ⟨.f (cn q n), fun r i g L hr => ?_⟩
    obtain ⟨rfl, h⟩ := h
    simp only [skSV, SV.den, E.ev, hr, D.toF]
    refine ⟨n, rfl, ?_, rfl⟩
    cases b
    · exact h
    · exact h
  · rename_i hu
    cases hk
    simp only [hu] at h
    split at h
    all_goals first | exact h.elim | skip
    all_goals try (rename_i hh; cases hh)
    rename_i b
    exact ⟨.s b, fun r i g L hr => by simp [skSV, SV.den, E.ev, hr, D.toS]⟩
  · cases hk

def valOf (ds : List D) (i : Nat) : Nat → D := fun n => ds.getD (n - i) (.b false)

theorem cells_den : ∀ {ts : List TypeId} {vs : List Value} {ks : List Sk}, skAll P ts = some ks → vs.length = ts.length → (∀ (i : Nat) (v : Value) (t : TypeId), vs[i]? = some v → ts[i]? = some t → Cell.okWide P w .any base t v) →
    ∃ ds : List D, ds.length = ks.length ∧ ∀ (r : Nat → D) (i : Nat) (g : Gh) (L : Nat → Prop), (∀ (j : Nat) (d : D), ds[j]? = some d → r (i + j) = d) → SV.denL U r g L (skGo i ks) vs := by
  intro ts
  induction ts with
  | nil =>
    intro vs ks hk hl _
    simp only [skAll, Option.some.injEq] at hk
    subst hk
    cases vs with
    | nil => exact ⟨[], rfl, fun r i g L _ => by simp [skGo, SV.denL]⟩
    | cons a b => simp at hl
  | cons t ts ih =>
    intro vs ks hk hl h
    simp only [skAll] at hk
    split at hk
    · rename_i k m h1 h2
      cases hk
      cases vs with
      | nil => simp at hl
      | cons v vs =>
        obtain ⟨d, hd⟩ := cell_den (U := U) h1 (h 0 v t (by simp) (by simp))
        obtain ⟨ds, hds, hr⟩ := ih h2 (by simpa using hl) (fun i v t h3 h4 => h (i + 1) v t (by simpa using h3) (by simpa using h4))
        refine ⟨d :: ds, by simp [hds], fun r i g L hj => ?_⟩
        simp only [skGo, SV.denL]
        refine ⟨hd r i g L (hj 0 d (by simp)), hr r (i + 1) g L fun j e he => ?_⟩
        have := hj (j + 1) e (by simpa using he)
        rw [← this]; congr 1; omega
    · cases hk

def ptN : Pt → Nat
  | .one _ => 1
  | .ag ks => ks.length

theorem arg_den {t : TypeId} {v : Value} {p : Pt} (hp : ptOf P t = some p) (h : Value.okWide P w .any base t v) :
    ∃ ds : List D, ds.length = ptN p ∧ ∀ (r : Nat → D) (i : Nat) (g : Gh) (L : Nat → Prop), (∀ (j : Nat) (d : D), ds[j]? = some d → r (i + j) = d) → SV.denL U r g L (ptGo i [p]) [v] := by
  unfold ptOf at hp
  unfold Value.okWide at h
  have agg : ∀ {ts : List TypeId}, P.cellTypes P.depth t = some ts → (if ts.length == P.cellsOf t && P.cellsOf t != 0 then (skAll P ts).map Pt.ag else none) = some p →
      (∃ cs, v = .agg cs ∧ cs.size = P.cellsOf t ∧ Row.okWide P w .any base t cs) →
      ∃ ds : List D, ds.length = ptN p ∧ ∀ (r : Nat → D) (i : Nat) (g : Gh) (L : Nat → Prop), (∀ (j : Nat) (d : D), ds[j]? = some d → r (i + j) = d) → SV.denL U r g L (ptGo i [p]) [v] := by
    intro ts hts hp ⟨cs, hv, hsz, ts', hts', _, hok⟩
    rw [hts] at hts'
    cases hts'
    split at hp
    · rename_i hc
      rw [Bool.and_eq_true] at hc
      have hc1 : ts.length = P.cellsOf t := by simpa using hc.1
      have hc2 : P.cellsOf t ≠ 0 := by simpa using hc.2
      simp only [Option.map_eq_some_iff] at hp
      obtain ⟨ks, hk, rfl⟩ := hp
      obtain ⟨ds, hds, hr⟩ := cells_den (U := U) (vs := cs.toList) hk (by rw [hc1, ← hsz]; simp) (fun i v t h3 h4 => by
        have h3' : cs[i]? = some v := by simpa using h3
        obtain ⟨u, hu, hcell⟩ := hok i v h3'
        have hi : i < cs.size := (Array.getElem?_eq_some_iff.1 h3').1
        rw [Nat.mod_eq_of_lt (by omega), h4] at hu
        cases hu
        exact hcell)
      refine ⟨ds, hds, fun r i g L hj => ?_⟩
      simp only [ptGo, SV.denL, SV.den, and_true]
      exact ⟨cs, hv, hr r i g L hj⟩
    · cases hp
  have one : (skOf P t).map Pt.one = some p → Cell.okWide P w .any base t v →
      ∃ ds : List D, ds.length = ptN p ∧ ∀ (r : Nat → D) (i : Nat) (g : Gh) (L : Nat → Prop), (∀ (j : Nat) (d : D), ds[j]? = some d → r (i + j) = d) → SV.denL U r g L (ptGo i [p]) [v] := by
    intro hp h
    simp only [Option.map_eq_some_iff] at hp
    obtain ⟨k, hk, rfl⟩ := hp
    obtain ⟨d, hd⟩ := cell_den (U := U) hk h
    exact ⟨[d], rfl, fun r i g L hj => by simpa [ptGo, SV.denL] using hd r i g L (hj 0 d (by simp))⟩
  split at hp
  · rename_i fs hu
    rw [hu] at h
    cases hts : P.cellTypes P.depth t with
    | none => rw [hts] at hp; cases hp
    | some ts => rw [hts] at hp; exact agg hts hp h
  · rename_i n e hu
    rw [hu] at h
    cases hts : P.cellTypes P.depth t with
    | none => rw [hts] at hp; cases hp
    | some ts => rw [hts] at hp; exact agg hts hp h
  · rename_i n1 n2
    refine one hp ?_
    split at h
    · rename_i fs hu; exact absurd hu (n1 fs)
    · rename_i n e hu; exact absurd hu (n2 n e)
    · exact h

theorem ptGo_cons (i : Nat) (p : Pt) (l : List Pt) : ptGo i (p :: l) = ptGo i [p] ++ ptGo (i + ptN p) l := by
  cases p <;> rfl

theorem args_den : ∀ {ts : List TypeId} {vs : List Value} {ps : List Pt}, ptsOf P ts = some ps → vs.length = ts.length → (∀ (j : Nat) t v, ts[j]? = some t → vs[j]? = some v → Value.okWide P w .any base t v) →
    ∃ ds : List D, ∀ (r : Nat → D) (i : Nat) (g : Gh) (L : Nat → Prop), (∀ (j : Nat) (d : D), ds[j]? = some d → r (i + j) = d) → SV.denL U r g L (ptGo i ps) vs := by
  intro ts
  induction ts with
  | nil =>
    intro vs ps hk hl _
    simp only [ptsOf, Option.some.injEq] at hk
    subst hk
    cases vs with
    | nil => exact ⟨[], fun r i g L _ => by simp [ptGo, SV.denL]⟩
    | cons a b => simp at hl
  | cons t ts ih =>
    intro vs ps hk hl h
    simp only [ptsOf] at hk
    split at hk
    · rename_i p m h1 h2
      cases hk
      cases vs with
      | nil => simp at hl
      | cons v vs =>
        obtain ⟨d1, l1, hr1⟩ := arg_den (U := U) h1 (h 0 t v (by simp) (by simp))
        obtain ⟨d2, hr2⟩ := ih h2 (by simpa using hl) (fun i t v h3 h4 => h (i + 1) t v (by simpa using h3) (by simpa using h4))
        refine ⟨d1 ++ d2, fun r i g L hj => ?_⟩
        rw [ptGo_cons]
        have := SV.denL_append U r g L (hr1 r i g L fun j d hd => hj j d (by rw [List.getElem?_append_left (List.getElem?_eq_some_iff.1 hd).1]; exact hd)) (hr2 r (i + ptN p) g L fun j d hd => by
          have := hj (d1.length + j) d (by rw [List.getElem?_append_right (by omega)]; simpa using hd)
          rw [← this, l1]; congr 1; omega)
        exact this
    · cases hk
end

/-! ### The row -/

section
open Go.ChangeShapes Go.WideShapes Go.RowKit
variable {H : Type} {enc : TypeId × Value → H} {P : Program}

theorem calls_of_goal {f : FuncId} {fn : Func} {body : Code} {vs : Array Value} {w : World} {K : Value → World → Prop} (hn : NamesOk P) (hf : P.funcs[f]? = some fn) (hb : fn.body = some body)
    (h : CallGoal P f vs w K) : Calls P f vs w fun e w' => ∃ v, e = .returned v ∧ K v w' := by
  have hrun : (callFunc f vs).run P w = .ok (.enter f vs) w := by
    unfold callFunc
    simp only [Sem.run_bind, run_program, Result.andThen_ok, hf, hn f fn hf, Bool.false_eq_true, if_false, hb, Option.isNone_some]
    rfl
  unfold CallGoal at h
  rw [hrun] at h
  exact h

/-- ARGS: behind a call that turned nothing, all arguments read as they did. -/
theorem args_stay (hl : laidOutB P = true) {W W' : World} (hb : Below W.heap.size W W') : ∀ {ts : List TypeId} {vs : List Value} {ds : List (DataW H)} {ps : List MemPlace},
    (ts.all fun t => P.readableRec t && decide (t < P.types.size)) = true → DataW.TrodAll enc P W 0 (fun _ => true) true ts vs ds ps → (∀ x ∈ ps, x.block < W.heap.size) →
    ∀ sp : Nat → Bool, (∀ p ∈ ps, sp p.block = true) → DataW.TrodAll enc P W' 0 sp true ts vs ds ps := by
  intro ts
  induction ts with
  | nil =>
    intro vs ds ps _ h _ sp _
    obtain ⟨rfl, rfl, rfl⟩ := trodAll_nil h
    rfl
  | cons t ts ih =>
    intro vs ds ps hr h hlt sp hsp
    obtain ⟨v, vs', d, ds', p, q, rfl, rfl, rfl, h1, h2⟩ := trodAll_cons h
    simp only [List.all_cons, Bool.and_eq_true, decide_eq_true_eq] at hr
    refine ⟨p, q, ?_, ih hr.2 h2 (fun x hx => hlt x (List.mem_append_right _ hx)) sp (fun x hx => hsp x (List.mem_append_right _ hx)), rfl⟩
    exact WideElems.Trod_stays hl hr.1.1 hr.1.2 h1 (fun x hx => hb.same (hlt x (List.mem_append_left _ hx))) (fun x hx => hsp x (List.mem_append_left _ hx))

theorem post_true {f : Func} {s : ChangeSpec} {apart fresh handsOn again : Bool} {W W' : World} {args : Array Value} {ds gs : List (DataW H)} {before : List MemPlace} {rt : TypeId}
    (hl : laidOutB P = true) (hr : (f.params.toList.all fun t => P.readableRec t && decide (t < P.types.size)) = true) (hrt : f.resultTypes = #[rt]) (hrb : P.underlying rt = some .bool) (hvars : s.vars = [])
    (hs : s.fn H (ds ++ gs) = { results := [.lit (.bool true)], args := ds })
    (hW : DataW.Whole enc P f.params.toList s.vars apart W args.toList ds gs before) (hb : Below W.heap.size W W') :
    s.post enc P f apart fresh handsOn again W args (.bool true) W' := by
  have hlt : ∀ p ∈ before, p.block < W.heap.size := fun p hp => hW.lt p hp
  have hold : ∀ p ∈ before, (fun b => decide (b < W.heap.size)) p.block = true := fun p hp => by simpa using hlt p hp
  obtain ⟨p, q, hA, hV, rfl, hz, hn⟩ := id hW
  rw [hvars] at hV
  obtain ⟨rfl, rfl⟩ := trodVars_none hV
  have hargs : ∀ sp : Nat → Bool, (∀ x ∈ p, sp x.block = true) → DataW.TrodAll enc P W' 0 sp true f.params.toList args.toList ds p := args_stay hl hb hr hA (fun x hx => hlt x (List.mem_append_left _ hx))
  have hres : ∀ (b : Nat) (sp : Nat → Bool) (hd : Bool), DataW.TrodAll enc P W' b sp hd f.resultTypes.toList ((Value.bool true).resultList f.resultTypes.size) [.lit (.bool true)] [] := by
    intro b sp hd
    rw [hrt]
    exact trodAll_mk1 (shut_bool hrb true)
  have hvr : ∀ sp : Nat → Bool, DataW.TrodVars enc P W' sp s.vars [] [] := fun sp => by rw [hvars]; rfl
  refine ⟨ds, [], p ++ [], [], p, [], hW, ?_, ?_, ?_, World.keptBut_mono (fun x hx => ⟨hx, ?_⟩) (hb.frame (· ∈ p ++ [])), fun _ => ?_⟩
  · rw [hs]; exact hres _ _ _
  · rw [hs]; exact hargs _ fun x hx => hold x (List.mem_append_left _ hx)
  · rw [hs]; exact hvr _
  · simpa using hx
  · refine ⟨?_, _, _, ([] ++ p) ++ [], ⟨[] ++ p, [], trodAll_append (hargs _ (fun _ _ => rfl)) (hres _ _ _), hvr _, rfl, ?_, ?_⟩, ?_⟩
    · exact ok_one hrt rfl (okWide_bool_mk hrb true)
    · intro b off hp
      have hin : MemPlace.cell b off ∈ p ++ [] := by simpa using hp
      rw [hb.frozen (hlt _ hin)]
      exact hz b off hin
    · intro ha
      have := hn ha
      simpa using this
    · intro x hx _
      simpa using hx

/-- A ROW: from a call that answers true to what the row asks. -/
theorem row_goal {C : Checked} {os : Os} {U : Nat → D → D} {f : FuncId} {fn : Func} {body : Code} {ps : List Pt} {rt : TypeId} {s : ChangeSpec} {fresh handsOn again : Bool}
    (own : ownKnob C.prog.godebug = none) (hl : laidOutB C.prog = true) (started : os.Started) (noInit : C.prog.inits.idxOf? f = none) (hn : NamesOk C.prog)
    (hfn : C.prog.funcs[f]? = some fn) (hbody : fn.body = some body) (hrt : fn.resultTypes = #[rt]) (hrb : C.prog.underlying rt = some .bool)
    (hr : (fn.params.toList.all fun t => C.prog.readableRec t && decide (t < C.prog.types.size)) = true) (hvars : s.vars = [])
    (hs : ∀ ds : List (DataW H), ds.length = fn.params.size → s.fn H ds = { results := [.lit (.bool true)], args := ds })
    (witness : ∃ (w : World) (tape : Tape) (i : Input), w.os = os ∧ (w.forCall tape i).Shaped C.prog ∧ i.vars = [] ∧ Input.okWide C.prog (w.forCall tape i) .any w.heap.size f i ∧
      s.pre6 enc C.prog fn [] false (w.forCall tape i).memory i.args ∧ ({} : Assume).holds C.prog (lone (Frame.enter C.prog f i.args .normal) [] (w.forCall tape i)))
    (hps : ptsOf C.prog fn.params.toList = some ps)
    (hG : ∀ (W : World) (args : Array Value) (r : Nat → D) (g : Gh), SV.denL U r g (fun _ => False) (ptGo 0 ps) args.toList → TrueGoal C.prog f args W) :
    ReturnsInHanded {} C os f .any (s.pre6 enc C.prog fn [] false) (s.post enc C.prog fn false fresh handsOn again) := by
  refine returnsInHanded_of_change own started noInit hfn witness ?_
  intro W base args ds gs before hval hW _ _
  have hlen : ∀ {ts : List TypeId} {vs : List Value} {ds : List (DataW H)} {ps : List MemPlace}, DataW.TrodAll enc C.prog W 0 (fun _ => true) true ts vs ds ps → vs.length = ts.length ∧ ds.length = ts.length := by
    intro ts
    induction ts with
    | nil =>
      intro vs ds ps h
      obtain ⟨rfl, rfl, rfl⟩ := trodAll_nil h
      exact ⟨rfl, rfl⟩
    | cons t ts ih =>
      intro vs ds ps h
      obtain ⟨v, vs', d, ds', p, q, rfl, rfl, rfl, h1, h2⟩ := trodAll_cons h
      simp [ih h2]
  obtain ⟨p, q, hA, hV, rfl, hz, hnd⟩ := id hW
  rw [hvars] at hV
  obtain ⟨rfl, rfl⟩ := trodVars_none hV
  obtain ⟨l1, l2⟩ := hlen hA
  obtain ⟨xs, hx⟩ := args_den (U := U) hps l1 (fun j t v h1 h2 => hval j t v (by simpa using h1) (by simpa using h2))
  have hd := hx (valOf xs 0) 0 ⟨fun _ => 0, fun _ => 0, fun _ => 0⟩ (fun _ => False) (fun j d hj => by simp [valOf, hj])
  have hg : TrueGoal C.prog f args W := hG W args _ _ hd
  refine (calls_of_goal hn hfn hbody hg).mono fun e W' ⟨v, he, hv, hf⟩ => ?_
  subst he; subst hv
  refine ⟨_, rfl, post_true hl hr hrt hrb hvars ?_ hW ⟨hf.os, hf.tape, hf.output, hf.size, fun k hk => hf.block k hk (fun h => h)⟩⟩
  rw [List.append_nil]
  exact hs ds (by rw [l2]; simp)

/-- A ROW: from a walk whose tree answers true. -/
theorem row_law {C : Checked} {os : Os} {U : Nat → D → D} {cf : FuncId → List SV → Cx → Tree (SV × Cx)} {f : FuncId} {fn : Func} {body : Code} {ps : List Pt} {rt : TypeId} {s : ChangeSpec} {fresh handsOn again : Bool}
    (own : ownKnob C.prog.godebug = none) (hl : laidOutB C.prog = true) (started : os.Started) (noInit : C.prog.inits.idxOf? f = none) (hn : NamesOk C.prog) (hcf : CallsOk U C.prog cf)
    (hfn : C.prog.funcs[f]? = some fn) (hbody : fn.body = some body) (hrt : fn.resultTypes = #[rt]) (hrb : C.prog.underlying rt = some .bool)
    (hr : (fn.params.toList.all fun t => C.prog.readableRec t && decide (t < C.prog.types.size)) = true) (hvars : s.vars = [])
    (hs : ∀ ds : List (DataW H), ds.length = fn.params.size → s.fn H ds = { results := [.lit (.bool true)], args := ds })
    (witness : ∃ (w : World) (tape : Tape) (i : Input), w.os = os ∧ (w.forCall tape i).Shaped C.prog ∧ i.vars = [] ∧ Input.okWide C.prog (w.forCall tape i) .any w.heap.size f i ∧
      s.pre6 enc C.prog fn [] false (w.forCall tape i).memory i.args ∧ ({} : Assume).holds C.prog (lone (Frame.enter C.prog f i.args .normal) [] (w.forCall tape i)))
    (hps : ptsOf C.prog fn.params.toList = some ps) (hu : SV.underL 1000 (ptGo 0 ps) = true) (hT : LawOk U (resT (cf f (ptGo 0 ps) cx0)) ps) :
    ReturnsInHanded {} C os f .any (s.pre6 enc C.prog fn [] false) (s.post enc C.prog fn false fresh handsOn again) :=
  row_goal (U := U) own hl started noInit hn hfn hbody hrt hrb hr hvars hs witness hps fun _ _ _ _ hd => law_goal hcf hu hT hd
end
end Go.Sx

/-
  Sx, part T: a walk's tree put in another's place; the float's sameness as one word.
-/
namespace Go.Sx
open E (mk1 mk2 mkIte mk1_ev mk2_ev mkIte_ev)

section
variable {U : Nat → D → D} {r : Nat → D} {g : Gh} {L : Nat → Prop} {c : Cx} {w w' : World} {P : Program} {cf : FuncId → List SV → Cx → Tree (SV × Cx)} {K : Value → World → Prop}

/-! ### Sameness of floats -/

def sameTree (k : FloatKind) (one : Nat) : Tree SV :=
  .ite (.o2 (.feq k) (.v 0) (.v 0))
    (.ite (.o2 (.feq k) (.v 1) (.v 1))
      (.ite (.o2 (.feq k) (.v 0) (.f (some 0)))
        (.ite (.o2 (.feq k) (.v 1) (.f (some 0)))
          (.chk (.o2 .fsame (.v 1000) (.o2 (.fdiv k) (.f (some one)) (.v 0))) (.chk (.o2 .fsame (.v 1001) (.o2 (.fdiv k) (.f (some one)) (.v 1)))
            (.ret (.bool (.o2 .beq (.o2 (.flt k) (.f (some 0)) (.v 1000)) (.o2 (.flt k) (.f (some 0)) (.v 1001)))))))
          (.ret (.bool (.o2 (.feq k) (.v 0) (.v 1)))))
        (.ret (.bool (.o2 (.feq k) (.v 0) (.v 1)))))
      (.ret (.bool (.b false))))
    (.ret (.bool (.o1 .not (.o2 (.feq k) (.v 1) (.v 1)))))

def sameAns : Tree SV := .ret (.bool (.o2 .fsame (.v 0) (.v 1)))

theorem sat_ite {α : Type} {U : Nat → D → D} {Q : (Nat → D) → α → Prop} {r : Nat → D} {c : E} {t e : Tree α} : (Tree.ite c t e).sat U Q r ↔ (((c.ev U r).toB = true → t.sat U Q r) ∧ ((c.ev U r).toB = false → e.sat U Q r)) := by
  simp only [Tree.sat]
  cases h : (c.ev U r).toB <;> simp

theorem sat_ret {α : Type} {U : Nat → D → D} {Q : (Nat → D) → α → Prop} {r : Nat → D} {a : α} : (Tree.ret a).sat U Q r ↔ Q r a := Iff.rfl

theorem zeros64 : (Fl.lt .f64 (some 0) (Fl.div .f64 (some 4607182418800017408) (some 0)) = true) ∧ (Fl.lt .f64 (some 0) (Fl.div .f64 (some 4607182418800017408) (some 9223372036854775808)) = false) := by decide +kernel

theorem same_pure {x y : Fl} (hx : Wf .f64 x) (hy : Wf .f64 y) :
    (if Fl.eq .f64 x x = true then if Fl.eq .f64 y y = true then if Fl.eq .f64 x (some 0) = true then if Fl.eq .f64 y (some 0) = true then
        (Fl.lt .f64 (some 0) (Fl.div .f64 (some 4607182418800017408) x) == Fl.lt .f64 (some 0) (Fl.div .f64 (some 4607182418800017408) y)) else Fl.eq .f64 x y else Fl.eq .f64 x y else false else !Fl.eq .f64 y y) = (x == y) := by
  rw [feq_self hx, feq_self hy]
  cases x with
  | none => cases y <;> rfl
  | some a =>
    cases y with
    | none => rfl
    | some b =>
      simp only [Option.isSome, if_true]
      have hz := zeros64
      have := feq_iff hx hy
      have ne : (rungOf .f64 a ≠ 0 ∨ rungOf .f64 b ≠ 0) → Fl.eq .f64 (some a) (some b) = (some a == some b) := by
        intro hn
        cases hc : Fl.eq .f64 (some a) (some b)
        · rw [hc] at this
          have : a ≠ b := fun h' => by simp [h'] at this
          simpa using this
        · rcases this.1 hc with rfl | h'
          · simp
          · exact absurd h' (by omega)
      split
      · rename_i ha
        have ha := (feq_zero hx).1 ha
        split
        · rename_i hb
          have hb := (feq_zero hy).1 hb
          have hs : FloatKind.f64.format.signWeight = 9223372036854775808 := by decide +kernel
          rcases zero_word hx ha with rfl | rfl <;> rcases zero_word hy hb with rfl | rfl
          · simp
          · rw [hs, hz.1, hz.2]; decide
          · rw [hs, hz.1, hz.2]; decide
          · simp
        · rename_i hb
          exact ne (.inr fun h' => hb ((feq_zero hy).2 h'))
      · rename_i ha
        exact ne (.inl fun h' => ha ((feq_zero hx).2 h'))

theorem same_says {r : Nat → D} {K : Value → World → Prop} {w : World} (hp : PtOk U [.one (.f .f64), .one (.f .f64)] r) (h : Says U sameAns K w r) : Lets U K w 1000 r (sameTree .f64 4607182418800017408) := by
  obtain ⟨g, L, vs, hd⟩ := hp
  have hw : Wf .f64 (r 0).toF ∧ Wf .f64 (r 1).toF := by
    match vs, hd with
    | [a, b], hd =>
      simp only [ptGo, skSV, SV.denL, SV.den, E.ev] at hd
      obtain ⟨⟨x, _, hx⟩, ⟨y, _, hy⟩, _⟩ := hd
      exact ⟨⟨x, hx⟩, ⟨y, hy⟩⟩
    | [], hd => simp [ptGo, SV.denL] at hd
    | [a], hd => simp [ptGo, SV.denL] at hd
    | a :: b :: c :: l, hd => simp [ptGo, SV.denL] at hd
  obtain ⟨hx, hy⟩ := hw
  have hs := same_pure hx hy
  unfold Says sameAns at h
  simp only [Tree.sat, SV.den, E.ev, O2.ev, D.toB_b] at h
  rw [← hs] at h
  have key : ∀ b : Bool, (if Fl.eq .f64 (r 0).toF (r 0).toF = true then if Fl.eq .f64 (r 1).toF (r 1).toF = true then if Fl.eq .f64 (r 0).toF (some 0) = true then if Fl.eq .f64 (r 1).toF (some 0) = true then
        (Fl.lt .f64 (some 0) (Fl.div .f64 (some 4607182418800017408) (r 0).toF) == Fl.lt .f64 (some 0) (Fl.div .f64 (some 4607182418800017408) (r 1).toF)) else Fl.eq .f64 (r 0).toF (r 1).toF else Fl.eq .f64 (r 0).toF (r 1).toF else false else !Fl.eq .f64 (r 1).toF (r 1).toF) = b →
      ∀ g' L' v w', Frm (fun _ => False) w w' → SV.den U r g' L' (.bool (.b b)) v → K v w' := by
    intro b hb g' L' v w' hf hv
    exact h g' L' v w' hf (by rw [hb]; exact hv)
  clear h
  unfold sameTree
  refine ⟨rfl, fun h1 => ⟨rfl, fun h2 => ⟨rfl, fun h3 => ⟨rfl, fun h4 => ?_, fun h4 => ?_⟩, fun h3 => ?_⟩, fun h2 => ?_⟩, fun h1 => ?_⟩
  all_goals simp only [E.ev, O2.ev, D.toB_b, D.toF_f] at *
  · refine ⟨1000, _, rfl, Nat.le_refl _, rfl, 1001, _, rfl, Nat.le_refl _, rfl, ?_⟩
    rw [if_pos h1, if_pos h2, if_pos h3, if_pos h4] at key
    intro g' L' v w' hf hv
    refine key _ rfl g' L' v w' hf ?_
    simpa [SV.den, E.ev, O2.ev, Tree.upd, D.toF_f, D.toB_b] using hv
  · rw [if_pos h1, if_pos h2, if_pos h3, if_neg (by simp [h4])] at key
    exact fun g' L' v w' hf hv => key _ rfl g' L' v w' hf (by simpa [SV.den, E.ev, O2.ev, D.toB_b] using hv)
  · rw [if_pos h1, if_pos h2, if_neg (by simp [h3])] at key
    exact fun g' L' v w' hf hv => key _ rfl g' L' v w' hf (by simpa [SV.den, E.ev, O2.ev, D.toB_b] using hv)
  · rw [if_pos h1, if_neg (by simp [h2])] at key
    exact fun g' L' v w' hf hv => key _ rfl g' L' v w' hf (by simpa [SV.den, E.ev, O2.ev, D.toB_b] using hv)
  · rw [if_neg (by simp [h1])] at key
    exact fun g' L' v w' hf hv => key _ rfl g' L' v w' hf (by simpa [SV.den, E.ev, O1.ev, O2.ev, D.toB_b] using hv)

/-- SAMENESS: the law's own comparison of two floats is one word. -/
theorem same_ok (hcf : CallsOk U P cf) (f : FuncId) (hT : resT (cf f (ptGo 0 [.one (.f .f64), .one (.f .f64)]) cx0) = sameTree .f64 4607182418800017408) :
    EntryOk U P f (memoRun [.one (.f .f64), .one (.f .f64)] sameAns) :=
  swap_ok hcf f _ (by decide +kernel) fun r K w hp h => by rw [hT]; exact same_says hp h

def namesB (P : Program) : Bool := P.funcs.toList.all fun fn => !(fn.name == "runtime.NumGoroutine")
theorem names_ok (h : namesB P = true) : NamesOk P := by
  intro f fn hf
  unfold namesB at h
  rw [List.all_eq_true] at h
  have := h fn (by rw [Array.mem_toList_iff]; exact Array.mem_of_getElem? hf)
  simpa using this

/-- No table of functions. -/
def noU : Nat → D → D := fun _ d => d
end
end Go.Sx

/-
  Sx, part Tb: sameness of floats of 32 bits, told by their bits.
-/
namespace Go.Sx
open E (mk1 mk2 mkIte mk1_ev mk2_ev mkIte_ev)

def specSame : Tree SV :=
  .ite (.o2 (.feq .f32) (.v 0) (.v 0))
    (.ite (.o2 (.feq .f32) (.v 1) (.v 1)) (.ret (.bool (.o2 .ieq (.o1 (.wrap .i64) (.o1 .bits (.v 0))) (.o1 (.wrap .i64) (.o1 .bits (.v 1))))))
      (.ret (.bool (.o2 .ieq (.o1 (.wrap .i64) (.o1 .bits (.v 0))) (.i 2143289344)))))
    (.ite (.o2 (.feq .f32) (.v 1) (.v 1)) (.ret (.bool (.o2 .ieq (.i 2143289344) (.o1 (.wrap .i64) (.o1 .bits (.v 1)))))) (.ret (.bool (.b true))))

def implSame : Tree SV :=
  .ite (.o2 (.feq .f32) (.v 0) (.v 0))
    (.ite (.o2 (.feq .f32) (.v 1) (.v 1)) (.ret (.bool (.o2 .ieq (.o1 .bits (.v 0)) (.o1 .bits (.v 1))))) (.ret (.bool (.b false))))
    (.ret (.bool (.o1 .not (.o2 (.feq .f32) (.v 1) (.v 1)))))

theorem wf32 {x : Fl} (h : Wf .f32 x) : x = none ∨ ∃ a : Nat, x = some a ∧ a < 4294967296 ∧ a ≠ 2143289344 := by
  obtain ⟨b, hb, hc⟩ := h
  have hb : b < 4294967296 := hb
  cases x with
  | none => exact .inl rfl
  | some a =>
    right
    refine ⟨a, rfl, ?_⟩
    by_cases he : b = 2143289344
    · subst he
      have : cn .f32 2143289344 = none := by decide +kernel
      rw [this] at hc; cases hc
    · unfold cn at hc
      split at hc
      · cases hc
      · cases hc; exact ⟨hb, he⟩

theorem wrap64 {a : Nat} (h : a < 4294967296) : IntKind.i64.wrap ((a : Nat) : Int) = a := by
  simp [IntKind.wrap, IntKind.bits, IntKind.signed]; omega

section
variable {U : Nat → D → D} {P : Program} {cf : FuncId → List SV → Cx → Tree (SV × Cx)}

theorem wf_of {r : Nat → D} (hp : PtOk U [.one (.f .f32), .one (.f .f32)] r) : Wf .f32 (r 0).toF ∧ Wf .f32 (r 1).toF := by
  obtain ⟨g, L, vs, hd⟩ := hp
  match vs, hd with
  | [a, b], hd =>
    simp only [ptGo, skSV, SV.denL, SV.den, E.ev] at hd
    obtain ⟨⟨x, _, hx⟩, ⟨y, _, hy⟩, _⟩ := hd
    exact ⟨⟨x, hx⟩, ⟨y, hy⟩⟩
  | [], hd => simp [ptGo, SV.denL] at hd
  | [a], hd => simp [ptGo, SV.denL] at hd
  | a :: b :: c :: l, hd => simp [ptGo, SV.denL] at hd

theorem spec_says {r : Nat → D} {K : Value → World → Prop} {w : World} (hp : PtOk U [.one (.f .f32), .one (.f .f32)] r) (h : Says U sameAns K w r) : Lets U K w 1000 r specSame := by
  obtain ⟨hx, hy⟩ := wf_of hp
  have fx := feq_self hx
  have fy := feq_self hy
  unfold Says sameAns at h
  simp only [Tree.sat, SV.den, E.ev, O2.ev, D.toB_b] at h
  have key : ∀ b : Bool, ((r 0).toF == (r 1).toF) = b → ∀ g' L' v w', Frm (fun _ => False) w w' → SV.den U r g' L' (.bool (.b b)) v → K v w' := by
    intro b hb g' L' v w' hf hv
    exact h g' L' v w' hf (by rw [hb]; exact hv)
  unfold specSame
  rcases wf32 hx with ex | ⟨a, ex, ha, ha'⟩ <;> rcases wf32 hy with ey | ⟨b, ey, hb, hb'⟩
  all_goals
    rw [ex] at fx key
    rw [ey] at fy key
    refine ⟨rfl, fun h1 => ⟨rfl, fun h2 => ?_, fun h2 => ?_⟩, fun h1 => ⟨rfl, fun h2 => ?_, fun h2 => ?_⟩⟩
    all_goals simp only [E.ev, O2.ev, D.toB_b, ex, ey, fx, fy] at h1 h2
    all_goals first | (simp at h1; done) | (simp at h2; done) | skip
    all_goals
      intro g' L' v w' hf hv
      refine key _ rfl g' L' v w' hf ?_
      simp only [SV.den, E.ev, O1.ev, O2.ev, D.toB_b, D.toI_i, ex, ey, Fl.bits] at hv ⊢
      rw [hv]
      try rw [wrap64 ha]
      try rw [wrap64 hb]
      congr 1
      first
        | done
        | rfl
        | (rw [Bool.eq_iff_iff, beq_iff_eq, beq_iff_eq, Option.some.injEq]; omega)
        | (rw [Bool.eq_iff_iff, beq_iff_eq, beq_iff_eq]; exact ⟨fun h => absurd h (by omega), fun h => by cases h⟩)

theorem impl_says {r : Nat → D} {K : Value → World → Prop} {w : World} (hp : PtOk U [.one (.f .f32), .one (.f .f32)] r) (h : Says U sameAns K w r) : Lets U K w 1000 r implSame := by
  obtain ⟨hx, hy⟩ := wf_of hp
  have fx := feq_self hx
  have fy := feq_self hy
  unfold Says sameAns at h
  simp only [Tree.sat, SV.den, E.ev, O2.ev, D.toB_b] at h
  have key : ∀ b : Bool, ((r 0).toF == (r 1).toF) = b → ∀ g' L' v w', Frm (fun _ => False) w w' → SV.den U r g' L' (.bool (.b b)) v → K v w' := by
    intro b hb g' L' v w' hf hv
    exact h g' L' v w' hf (by rw [hb]; exact hv)
  unfold implSame
  rcases wf32 hx with ex | ⟨a, ex, ha, ha'⟩ <;> rcases wf32 hy with ey | ⟨b, ey, hb, hb'⟩
  all_goals
    rw [ex] at fx key
    rw [ey] at fy key
    refine ⟨rfl, fun h1 => ⟨rfl, fun h2 => ?_, fun h2 => ?_⟩, fun h1 => ?_⟩
    all_goals simp only [E.ev, O2.ev, D.toB_b, ex, fx] at h1
    all_goals try simp only [E.ev, O2.ev, D.toB_b, ey, fy] at h2
    all_goals first | (simp at h1; done) | (simp at h2; done) | skip
    all_goals
      intro g' L' v w' hf hv
      refine key _ rfl g' L' v w' hf ?_
      simp only [SV.den, E.ev, O1.ev, O2.ev, D.toB_b, D.toI_i, ex, ey, fx, fy, Fl.bits] at hv ⊢
      rw [hv]
      congr 1
      first
        | done
        | rfl
        | (rw [Bool.eq_iff_iff, beq_iff_eq, beq_iff_eq, Option.some.injEq]; omega)
        | (rw [Bool.eq_iff_iff, beq_iff_eq, beq_iff_eq]; exact ⟨fun h => absurd h (by omega), fun h => by cases h⟩)

theorem specSame_ok (hcf : CallsOk U P cf) (f : FuncId) (hT : resT (cf f (ptGo 0 [.one (.f .f32), .one (.f .f32)]) cx0) = specSame) : EntryOk U P f (memoRun [.one (.f .f32), .one (.f .f32)] sameAns) :=
  swap_ok hcf f _ (by decide +kernel) fun r K w hp h => by rw [hT]; exact spec_says hp h
theorem implSame_ok (hcf : CallsOk U P cf) (f : FuncId) (hT : resT (cf f (ptGo 0 [.one (.f .f32), .one (.f .f32)]) cx0) = implSame) : EntryOk U P f (memoRun [.one (.f .f32), .one (.f .f32)] sameAns) :=
  swap_ok hcf f _ (by decide +kernel) fun r K w hp h => by rw [hT]; exact impl_says hp h
end
end Go.Sx

/-
  Sx, part U: leaves that say 'true or y' joined; contracts by walks made once.
-/
namespace Go.Sx
open E (mk1 mk2 mkIte mk1_ev mk2_ev mkIte_ev)

/-- 'true if c, else y' as one word. -/
def orLeaf (c : E) : Tree SV → Tree SV → Tree SV
  | .ret (.bool (.b true)), .ret (.bool y) => .ret (.bool (mk2 .bor c y))
  | t, e => .ite c t e

def orMerge : Tree SV → Tree SV
  | .ite c t e => orLeaf c (orMerge t) (orMerge e)
  | .chk c t => .chk c (orMerge t)
  | t => t

section
variable {U : Nat → D → D} {r : Nat → D} {w : World} {P : Program} {cf : FuncId → List SV → Cx → Tree (SV × Cx)} {K : Value → World → Prop}

theorem orLeaf_says {c : E} {t e : Tree SV} (h : Says U (orLeaf c t e) K w r) : Says U (.ite c t e) K w r := by
  unfold orLeaf at h
  split at h
  · rename_i y
    unfold Says at h ⊢
    rw [sat_ret] at h
    rw [sat_ite, sat_ret, sat_ret]
    simp only [SV.den, mk2_ev, O2.ev, D.toB_b] at h ⊢
    constructor
    · intro hc g' L' v w' hf hv
      refine h g' L' v w' hf ?_
      rw [hc]; simpa [E.ev, D.toB] using hv
    · intro hc g' L' v w' hf hv
      refine h g' L' v w' hf ?_
      rw [hc]; simpa using hv
  · exact h

theorem orMerge_says : ∀ {t : Tree SV} {r : Nat → D}, Says U (orMerge t) K w r → Says U t K w r := by
  intro t
  induction t with
  | ret x => intro r h; exact h
  | ite c t e iht ihe =>
    intro r h
    have h1 := orLeaf_says h
    unfold Says at h1 ⊢
    rw [sat_ite] at h1 ⊢
    exact ⟨fun hc => iht (h1.1 hc), fun hc => ihe (h1.2 hc)⟩
  | all i t _ => intro r h; exact h
  | asm c t _ => intro r h; exact h
  | chk c t ih => intro r h; exact ⟨h.1, ih h.2⟩
  | bad => intro r h; exact h

/-- The walk of 'f', made once, its leaves joined. -/
theorem memoOr_ok (hcf : CallsOk U P cf) (f : FuncId) (ps : List Pt) : EntryOk U P f (memoRun ps (orMerge (resT (cf f (ptGo 0 ps) cx0)))) :=
  entry_ok fun _ _ _ _ _ hd h => closed_ok hcf hd (orMerge_says h)
end
end Go.Sx

/-
  Sx, part V: what is finite: a sum, a difference, a product is finite only of finite numbers; ways that cannot be.
-/
namespace Go.Sx
open Ieee
open E (mk1 mk2 mkIte mk1_ev mk2_ev mkIte_ev)

/-- A class of a number (no infinity, no not-a-number). -/
def IsNum (k : FloatKind) (x : Fl) : Prop := ∃ a, x = some a ∧ ∃ s m p, k.format.read a = .number s m p

theorem read_word_inf (k : FloatKind) (s : Bool) : ∃ t, k.format.read (k.format.word s k.format.infRung) = .infinity t := by
  cases k <;> cases s <;> exact ⟨_, rfl⟩

theorem sum_num {k : FloatKind} {a b d : Datum} (h : a.sum b = some d) (hd : ∃ s m p, k.format.read (k.format.write d) = .number s m p) :
    (∃ s m p, a = .number s m p) ∧ ∃ s m p, b = .number s m p := by
  cases a with
  | nan => cases b <;> simp [Datum.sum] at h
  | infinity s =>
    cases b with
    | nan => simp [Datum.sum] at h
    | infinity t =>
      simp [Datum.sum] at h
      obtain ⟨_, rfl⟩ := h
      obtain ⟨t', ht⟩ := read_word_inf k s
      obtain ⟨s1, m1, p1, hd⟩ := hd
      have hd : k.format.read (k.format.word s k.format.infRung) = .number s1 m1 p1 := hd
      rw [ht] at hd; cases hd
    | number t n j =>
      simp [Datum.sum] at h
      subst h
      obtain ⟨t', ht⟩ := read_word_inf k s
      obtain ⟨s1, m1, p1, hd⟩ := hd
      have hd : k.format.read (k.format.word s k.format.infRung) = .number s1 m1 p1 := hd
      rw [ht] at hd; cases hd
  | number s m i =>
    cases b with
    | nan => simp [Datum.sum] at h
    | infinity t =>
      simp [Datum.sum] at h
      subst h
      obtain ⟨t', ht⟩ := read_word_inf k t
      obtain ⟨s1, m1, p1, hd⟩ := hd
      have hd : k.format.read (k.format.word t k.format.infRung) = .number s1 m1 p1 := hd
      rw [ht] at hd; cases hd
    | number t n j => exact ⟨⟨_, _, _, rfl⟩, ⟨_, _, _, rfl⟩⟩

theorem product_num {k : FloatKind} {a b d : Datum} (h : a.product b = some d) (hd : ∃ s m p, k.format.read (k.format.write d) = .number s m p) :
    (∃ s m p, a = .number s m p) ∧ ∃ s m p, b = .number s m p := by
  have inf : ∀ s, d = .infinity s → False := by
    rintro s rfl
    obtain ⟨t', ht⟩ := read_word_inf k s
    obtain ⟨s1, m1, p1, hd⟩ := hd
    have hd : k.format.read (k.format.word s k.format.infRung) = .number s1 m1 p1 := hd
    rw [ht] at hd; cases hd
  cases a with
  | nan => cases b <;> simp [Datum.product] at h
  | infinity s =>
    cases b with
    | nan => simp [Datum.product] at h
    | infinity t => simp [Datum.product] at h; exact (inf _ h.symm).elim
    | number t n j => simp [Datum.product] at h; exact (inf _ h.2.symm).elim
  | number s m i =>
    cases b with
    | nan => simp [Datum.product] at h
    | infinity t => simp [Datum.product] at h; exact (inf _ h.2.symm).elim
    | number t n j => exact ⟨⟨_, _, _, rfl⟩, ⟨_, _, _, rfl⟩⟩

theorem opposite_num {b : Datum} (h : ∃ s m p, b.opposite = .number s m p) : ∃ s m p, b = .number s m p := by
  cases b with
  | number s m p => exact ⟨_, _, _, rfl⟩
  | infinity s => obtain ⟨_, _, _, h⟩ := h; cases h
  | nan s t => obtain ⟨_, _, _, h⟩ := h; cases h

theorem add_num {k : FloatKind} {x y : Fl} (h : IsNum k (Fl.add k x y)) : IsNum k x ∧ IsNum k y := by
  cases x with
  | none => obtain ⟨_, h, _⟩ := h; cases h
  | some a =>
    cases y with
    | none => obtain ⟨_, h, _⟩ := h; cases h
    | some b =>
      obtain ⟨w, h, hw⟩ := h
      have h : (((k.format.read a).sum (k.format.read b)).map k.format.write) = some w := h
      rw [Option.map_eq_some_iff] at h
      obtain ⟨d, h1, rfl⟩ := h
      obtain ⟨h2, h3⟩ := sum_num h1 hw
      exact ⟨⟨a, rfl, h2⟩, ⟨b, rfl, h3⟩⟩

theorem sub_num {k : FloatKind} {x y : Fl} (h : IsNum k (Fl.sub k x y)) : IsNum k x ∧ IsNum k y := by
  cases x with
  | none => obtain ⟨_, h, _⟩ := h; cases h
  | some a =>
    cases y with
    | none => obtain ⟨_, h, _⟩ := h; cases h
    | some b =>
      obtain ⟨w, h, hw⟩ := h
      have h : (((k.format.read a).sum (k.format.read b).opposite).map k.format.write) = some w := h
      rw [Option.map_eq_some_iff] at h
      obtain ⟨d, h1, rfl⟩ := h
      obtain ⟨h2, h3⟩ := sum_num h1 hw
      exact ⟨⟨a, rfl, h2⟩, ⟨b, rfl, opposite_num h3⟩⟩

theorem mul_num {k : FloatKind} {x y : Fl} (h : IsNum k (Fl.mul k x y)) : IsNum k x ∧ IsNum k y := by
  cases x with
  | none => obtain ⟨_, h, _⟩ := h; cases h
  | some a =>
    cases y with
    | none => obtain ⟨_, h, _⟩ := h; cases h
    | some b =>
      obtain ⟨w, h, hw⟩ := h
      have h : (((k.format.read a).product (k.format.read b)).map k.format.write) = some w := h
      rw [Option.map_eq_some_iff] at h
      obtain ⟨d, h1, rfl⟩ := h
      obtain ⟨h2, h3⟩ := product_num h1 hw
      exact ⟨⟨a, rfl, h2⟩, ⟨b, rfl, h3⟩⟩

theorem quotient_num {k : FloatKind} {n : Nat} {a b d : Datum} (h : a.quotient n b = some d) (hd : ∃ s m p, k.format.read (k.format.write d) = .number s m p) : ∃ s m p, a = .number s m p := by
  have inf : ∀ s, d = .infinity s → False := by
    rintro s rfl
    obtain ⟨t', ht⟩ := read_word_inf k s
    obtain ⟨s1, m1, p1, hd⟩ := hd
    have hd : k.format.read (k.format.word s k.format.infRung) = .number s1 m1 p1 := hd
    rw [ht] at hd; cases hd
  cases a with
  | nan => cases b <;> simp [Datum.quotient] at h
  | infinity s =>
    cases b with
    | nan => simp [Datum.quotient] at h
    | infinity t => simp [Datum.quotient] at h
    | number t n j => simp [Datum.quotient] at h; exact (inf _ h.symm).elim
  | number s m i => exact ⟨_, _, _, rfl⟩
theorem div_num {k : FloatKind} {x y : Fl} (h : IsNum k (Fl.div k x y)) : IsNum k x := by
  cases x with
  | none => obtain ⟨_, h, _⟩ := h; cases h
  | some a =>
    cases y with
    | none => obtain ⟨_, h, _⟩ := h; cases h
    | some b =>
      obtain ⟨w, h, hw⟩ := h
      have h : (((k.format.read a).quotient (k.format.fractionBits + 2) (k.format.read b)).map k.format.write) = some w := h
      rw [Option.map_eq_some_iff] at h
      obtain ⟨d, h1, rfl⟩ := h
      exact ⟨a, rfl, quotient_num h1 hw⟩

/-- Go's own test 'x - x == 0'. -/
def finF (k : FloatKind) (x : Fl) : Bool := Fl.eq k (Fl.sub k x x) (some 0)

theorem zero_eq (k : FloatKind) : Fl.eq k (some 0) (some 0) = true := by cases k <;> decide +kernel

theorem self_sum (s : Bool) (m : Nat) (p : Int) : (Datum.number s m p).sum (Datum.number s m p).opposite = some (.number false 0 p) := by
  simp only [Datum.opposite, Datum.sum]
  cases s <;> simp [signed] <;> omega

theorem finF_iff (k : FloatKind) (x : Fl) : finF k x = true ↔ IsNum k x := by
  constructor
  · intro h
    cases x with
    | none => unfold finF at h; cases h
    | some a =>
      cases hr : k.format.read a with
      | number s m p => exact ⟨a, rfl, s, m, p, hr⟩
      | infinity s =>
        have : Fl.sub k (some a) (some a) = none := by
          show (((k.format.read a).sum (k.format.read a).opposite).map k.format.write) = none
          rw [hr]; cases s <;> rfl
        unfold finF at h; rw [this] at h; cases h
      | nan s t =>
        have : Fl.sub k (some a) (some a) = none := by
          show (((k.format.read a).sum (k.format.read a).opposite).map k.format.write) = none
          rw [hr]; rfl
        unfold finF at h; rw [this] at h; cases h
  · rintro ⟨a, rfl, s, m, p, hr⟩
    have : Fl.sub k (some a) (some a) = some 0 := by
      show (((k.format.read a).sum (k.format.read a).opposite).map k.format.write) = some 0
      rw [hr, self_sum]
      show some (k.format.nearest false 0 p) = some 0
      unfold Format.nearest
      rw [if_pos rfl]; rfl
    unfold finF; rw [this]; exact zero_eq k

/-! ### Ways that cannot be -/

/-- The word that a variable names. -/
def unName (env : List (Nat × E)) : E → E
  | .v n => (lkM n env).getD (.v n)
  | e => e

/-- Go's own test, seen as a word: which expression is asked whether it is finite. -/
def isFin? (env : List (Nat × E)) : E → Option (FloatKind × E)
  | .o2 (.feq k) x (.f (some 0)) => (match unName env x with
    | .o2 (.fsub k') a b => if k = k' && E.same a b then some (k, a) else none
    | _ => none)
  | _ => none

/-- What is finite with what is finite: one walk over the names, the newest first. -/
def close : List (Nat × E) → List (FloatKind × E) → List (FloatKind × E)
  | [], F => F
  | (i, e) :: env, F =>
    match e with
    | .o2 (.fadd k) a b => if F.any (fun q => q.1 = k && E.same q.2 (.v i)) then close env ((k, a) :: (k, b) :: F) else close env F
    | .o2 (.fsub k) a b => if F.any (fun q => q.1 = k && E.same q.2 (.v i)) then close env ((k, a) :: (k, b) :: F) else close env F
    | .o2 (.fmul k) a b => if F.any (fun q => q.1 = k && E.same q.2 (.v i)) then close env ((k, a) :: (k, b) :: F) else close env F
    | .o2 (.fdiv k) a _ => if F.any (fun q => q.1 = k && E.same q.2 (.v i)) then close env ((k, a) :: (k, a) :: F) else close env F
    | _ => close env F

def hit (F N : List (FloatKind × E)) : Bool := F.any fun p => N.any fun q => p.1 = q.1 && E.same p.2 q.2

def allTrueF : Nat → List (Nat × E) → List (FloatKind × E) → List (FloatKind × E) → Tree SV → Bool
  | _, _, _, _, .ret (.bool (.b true)) => true
  | m, env, F, N, .ite c t e => c.under m && (match isFin? env c with
    | some (k, x) =>
      let F' := close env [(k, x)]
      (hit F' N || allTrueF m env (F' ++ F) N t) && (hit F [(k, x)] || allTrueF m env F ((k, x) :: N) e)
    | none => allTrueF m env F N t && allTrueF m env F N e)
  | m, env, F, N, .chk (.o2 .fsame (.v i) e) t => Nat.ble m i && (e.under m && allTrueF (i + 1) ((i, e) :: env) F N t)
  | _, _, _, _, _ => false

/-- What the names say. -/
def EnvOk (U : Nat → D → D) (r : Nat → D) (env : List (Nat × E)) : Prop := ∀ p ∈ env, r p.1 = p.2.ev U r

section
variable {U : Nat → D → D} {r : Nat → D} {w : World} {K : Value → World → Prop}

theorem lkM_mem {n : Nat} {e : E} : ∀ {env : List (Nat × E)}, lkM n env = some e → (n, e) ∈ env := by
  intro env
  induction env with
  | nil => intro h; cases h
  | cons p l ih =>
    obtain ⟨i, x⟩ := p
    intro h
    unfold lkM at h
    cases hb : Nat.beq i n with
    | true =>
      rw [hb] at h
      simp only [cond_true, Option.some.injEq] at h
      rw [Nat.eq_of_beq_eq_true hb, h]; exact List.mem_cons_self ..
    | false => rw [hb] at h; exact List.mem_cons_of_mem _ (ih h)

theorem unName_ev {env : List (Nat × E)} (he : EnvOk U r env) (e : E) : (unName env e).ev U r = e.ev U r := by
  cases e with
  | v n =>
    show ((lkM n env).getD (.v n)).ev U r = _
    cases h : lkM n env with
    | none => rfl
    | some x => exact (he _ (lkM_mem h)).symm
  | _ => rfl

theorem isFin?_ok {env : List (Nat × E)} (he : EnvOk U r env) {e a : E} {k : FloatKind} (h : isFin? env e = some (k, a)) : (e.ev U r).toB = finF k (a.ev U r).toF := by
  unfold isFin? at h
  split at h
  · rename_i k0 x
    split at h
    · rename_i k' a' b' hx
      split at h
      · rename_i hc
        simp only [Bool.and_eq_true, decide_eq_true_eq] at hc
        obtain ⟨rfl, hs⟩ := hc
        have := E.same_eq hs
        subst this
        cases h
        have hv := unName_ev he x
        rw [hx] at hv
        simp only [E.ev, O2.ev, D.toB_b] at hv ⊢
        rw [← hv]; rfl
      · cases h
    · cases h
  · cases h

def Fins (U : Nat → D → D) (r : Nat → D) (F : List (FloatKind × E)) : Prop := ∀ q ∈ F, IsNum q.1 (q.2.ev U r).toF

theorem close_ok : ∀ {env : List (Nat × E)} {F : List (FloatKind × E)}, EnvOk U r env → Fins U r F → Fins U r (close env F) := by
  intro env
  induction env with
  | nil => intro F _ hF; exact hF
  | cons p env ih =>
    obtain ⟨i, e⟩ := p
    intro F he hF
    have he' : EnvOk U r env := fun p hp => he p (List.mem_cons_of_mem _ hp)
    have hi : r i = e.ev U r := he (i, e) (List.mem_cons_self ..)
    have step : ∀ {k : FloatKind} {a b : E}, (IsNum k (r i).toF → IsNum k (a.ev U r).toF ∧ IsNum k (b.ev U r).toF) →
        Fins U r (if F.any (fun q => q.1 = k && E.same q.2 (.v i)) then close env ((k, a) :: (k, b) :: F) else close env F) := by
      intro k a b hop
      split
      · rename_i hany
        rw [List.any_eq_true] at hany
        obtain ⟨q, hq, h2⟩ := hany
        simp only [Bool.and_eq_true, decide_eq_true_eq] at h2
        have hn := hF q hq
        rw [E.same_eq h2.2, h2.1] at hn
        obtain ⟨h3, h4⟩ := hop hn
        refine ih he' (fun x hx => ?_)
        rcases List.mem_cons.1 hx with rfl | hx
        · exact h3
        · rcases List.mem_cons.1 hx with rfl | hx
          · exact h4
          · exact hF x hx
      · exact ih he' hF
    unfold close
    split
    · exact step (fun hn => by rw [hi] at hn; exact add_num hn)
    · exact step (fun hn => by rw [hi] at hn; exact sub_num hn)
    · exact step (fun hn => by rw [hi] at hn; exact mul_num hn)
    · exact step (fun hn => by rw [hi] at hn; exact ⟨div_num hn, div_num hn⟩)
    · exact ih he' hF

theorem hit_ok {F N : List (FloatKind × E)} (h : hit F N = true) (hF : Fins U r F) (hN : ∀ q ∈ N, ¬ IsNum q.1 (q.2.ev U r).toF) : False := by
  unfold hit at h
  rw [List.any_eq_true] at h
  obtain ⟨p, hp, h⟩ := h
  rw [List.any_eq_true] at h
  obtain ⟨q, hq, h⟩ := h
  simp only [Bool.and_eq_true, decide_eq_true_eq] at h
  have := hF p hp
  rw [h.1, E.same_eq h.2] at this
  exact hN q hq this

/-- All variables are old: a new one turns nothing. -/
def EnvUnder (m : Nat) (env : List (Nat × E)) : Prop := ∀ p ∈ env, p.1 < m ∧ p.2.under m = true

theorem under_mono {m m' : Nat} (h : m ≤ m') : ∀ {e : E}, e.under m = true → e.under m' = true := by
  intro e
  induction e with
  | v n => intro hu; simp [E.under] at hu ⊢; omega
  | b x => intro _; rfl
  | i x => intro _; rfl
  | f x => intro _; rfl
  | s x => intro _; rfl
  | o1 o x ih => intro hu; exact ih hu
  | app n x ih => intro hu; exact ih hu
  | o2 o x y ihx ihy => intro hu; simp [E.under] at hu ⊢; exact ⟨ihx hu.1, ihy hu.2⟩
  | o3 o x y z ihx ihy ihz => intro hu; simp [E.under] at hu ⊢; exact ⟨ihx hu.1, ihy hu.2.1, ihz hu.2.2⟩

theorem upd_under {m i : Nat} {d : D} (h : m ≤ i) {e : E} (hu : e.under m = true) : e.ev U (Tree.upd r i d) = e.ev U r :=
  E.ev_under U (fun n hn => by unfold Tree.upd; rw [if_neg (by omega)]) hu

theorem close_under {m : Nat} : ∀ {env : List (Nat × E)} {F : List (FloatKind × E)}, EnvUnder m env → (∀ q ∈ F, q.2.under m = true) → ∀ q ∈ close env F, q.2.under m = true := by
  intro env
  induction env with
  | nil => intro F _ hF; exact hF
  | cons p env ih =>
    obtain ⟨i, e⟩ := p
    intro F he hF
    have he' : EnvUnder m env := fun p hp => he p (List.mem_cons_of_mem _ hp)
    have hi : e.under m = true := (he (i, e) (List.mem_cons_self ..)).2
    have step : ∀ {k : FloatKind} {a b : E}, a.under m = true → b.under m = true →
        ∀ q ∈ (if F.any (fun q => q.1 = k && E.same q.2 (.v i)) then close env ((k, a) :: (k, b) :: F) else close env F), q.2.under m = true := by
      intro k a b ha hb
      split
      · refine ih he' (fun x hx => ?_)
        rcases List.mem_cons.1 hx with rfl | hx
        · exact ha
        · rcases List.mem_cons.1 hx with rfl | hx
          · exact hb
          · exact hF x hx
      · exact ih he' hF
    unfold close
    split
    · simp only [E.under, Bool.and_eq_true] at hi; exact step hi.1 hi.2
    · simp only [E.under, Bool.and_eq_true] at hi; exact step hi.1 hi.2
    · simp only [E.under, Bool.and_eq_true] at hi; exact step hi.1 hi.2
    · simp only [E.under, Bool.and_eq_true] at hi; exact step hi.1 hi.1
    · exact ih he' hF

theorem isFin?_under {env : List (Nat × E)} {m : Nat} (he : EnvUnder m env) {e a : E} {k : FloatKind} (hu : e.under m = true) (h : isFin? env e = some (k, a)) : a.under m = true := by
  unfold isFin? at h
  split at h
  · rename_i k0 x
    simp only [E.under, Bool.and_eq_true] at hu
    have hx' : (unName env x).under m = true := by
      cases x with
      | v n =>
        show ((lkM n env).getD (.v n)).under m = true
        cases h : lkM n env with
        | none => exact hu.1
        | some y => exact (he _ (lkM_mem h)).2
      | _ => exact hu.1
    split at h
    · rename_i k' a' b' hx
      split at h
      · cases h
        rw [hx] at hx'
        simp only [E.under, Bool.and_eq_true] at hx'
        exact hx'.1
      · cases h
    · cases h
  · cases h

theorem allTrueF_lets (hK : ∀ w', Frm (fun _ => False) w w' → K (.bool true) w') : ∀ {t : Tree SV} {m : Nat} {env : List (Nat × E)} {F N : List (FloatKind × E)} {r : Nat → D}, allTrueF m env F N t = true →
    EnvOk U r env → EnvUnder m env → Fins U r F → (∀ q ∈ F, q.2.under m = true) → (∀ q ∈ N, ¬ IsNum q.1 (q.2.ev U r).toF) → (∀ q ∈ N, q.2.under m = true) → Lets U K w m r t := by
  intro t
  induction t with
  | ret x =>
    intro m env F N r h
    unfold allTrueF at h
    split at h
    · rename_i h'
      cases h'
      intro _ _ _ _ _ _ g' L' v w' hf hd
      simp only [SV.den, E.ev, D.toB] at hd
      subst hd
      exact hK w' hf
    all_goals first | cases h | (rename_i h'; cases h')
  | ite c t e iht ihe =>
    intro m env F N r h he hu hF hFu hN hNu
    simp only [allTrueF, Bool.and_eq_true] at h
    obtain ⟨hc, h⟩ := h
    refine ⟨hc, ?_⟩
    cases hfin : isFin? env c with
    | some q =>
      obtain ⟨k, x⟩ := q
      rw [hfin] at h
      have hnum := isFin?_ok he hfin
      have hxu := isFin?_under hu hc hfin
      simp only [Bool.and_eq_true, Bool.or_eq_true] at h
      constructor
      · intro hb
        have hx : IsNum k (x.ev U r).toF := (finF_iff k _).1 (hnum ▸ hb)
        have hF' : Fins U r (close env [(k, x)]) := close_ok he (fun q hq => by
          rcases List.mem_cons.1 hq with rfl | hq
          · exact hx
          · cases hq)
        have hFu' := close_under (F := [(k, x)]) hu (fun q hq => by
          rcases List.mem_cons.1 hq with rfl | hq
          · exact hxu
          · cases hq)
        rcases h.1 with h1 | h1
        · exact (hit_ok h1 hF' hN).elim
        · refine iht h1 he hu (fun q hq => ?_) (fun q hq => ?_) hN hNu
          · rcases List.mem_append.1 hq with hq | hq
            · exact hF' q hq
            · exact hF q hq
          · rcases List.mem_append.1 hq with hq | hq
            · exact hFu' q hq
            · exact hFu q hq
      · intro hb
        have hx : ¬ IsNum k (x.ev U r).toF := fun hx => by rw [hnum, (finF_iff k _).2 hx] at hb; cases hb
        rcases h.2 with h1 | h1
        · exact (hit_ok h1 hF (fun q hq => by
            rcases List.mem_cons.1 hq with rfl | hq
            · exact hx
            · cases hq)).elim
        · refine ihe h1 he hu hF hFu (fun q hq => ?_) (fun q hq => ?_)
          · rcases List.mem_cons.1 hq with rfl | hq
            · exact hx
            · exact hN q hq
          · rcases List.mem_cons.1 hq with rfl | hq
            · exact hxu
            · exact hNu q hq
    | none =>
      rw [hfin] at h
      simp only [Bool.and_eq_true] at h
      exact ⟨fun _ => iht h.1 he hu hF hFu hN hNu, fun _ => ihe h.2 he hu hF hFu hN hNu⟩
  | chk c t ih =>
    intro m env F N r h
    unfold allTrueF at h
    split at h
    · rename_i h'; cases h'
    · rename_i h'; cases h'
    · rename_i m' env' F' N' i e t' h'
      cases h'
      intro he hu hF hFu hN hNu
      simp only [Bool.and_eq_true] at h
      have hm := Nat.le_of_ble_eq_true h.1
      refine ⟨i, e, rfl, hm, h.2.1, ih h.2.2 ?_ ?_ ?_ ?_ ?_ ?_⟩
      · intro p hp
        rcases List.mem_cons.1 hp with rfl | hp
        · show Tree.upd r i (e.ev U r) i = _
          rw [upd_under hm h.2.1]; unfold Tree.upd; rw [if_pos rfl]
        · have h1 := hu p hp
          rw [upd_under hm h1.2]
          unfold Tree.upd
          rw [if_neg (by omega)]
          exact he p hp
      · intro p hp
        rcases List.mem_cons.1 hp with rfl | hp
        · exact ⟨Nat.lt_succ_self _, under_mono (Nat.le_succ_of_le hm) h.2.1⟩
        · exact ⟨by have := (hu p hp).1; omega, under_mono (Nat.le_succ_of_le hm) (hu p hp).2⟩
      · intro q hq
        rw [upd_under hm (hFu q hq)]; exact hF q hq
      · intro q hq; exact under_mono (Nat.le_succ_of_le hm) (hFu q hq)
      · intro q hq
        rw [upd_under hm (hNu q hq)]; exact hN q hq
      · intro q hq; exact under_mono (Nat.le_succ_of_le hm) (hNu q hq)
    · cases h
  | all i t ih => intro m env F N r h; simp [allTrueF] at h
  | asm e t ih => intro m env F N r h; simp [allTrueF] at h
  | bad => intro m env F N r h; simp [allTrueF] at h

theorem law_of_F {T : Tree SV} {ps : List Pt} (h : allTrueF 1000 [] [] [] T = true) : LawOk U T ps := fun _ _ _ _ hK =>
  allTrueF_lets hK h (fun _ h => by cases h) (fun _ h => by cases h) (fun _ h => by cases h) (fun _ h => by cases h) (fun _ h => by cases h) (fun _ h => by cases h)
end
end Go.Sx

/-
  Sx, part X: contracts of the functions without a text: roots, bits.
-/
namespace Go.Sx
open Ieee
open E (mk1 mk2 mkIte mk1_ev mk2_ev mkIte_ev)

/-- A function of the program that has no text: its row in the model. -/
structure ExtAt (P : Program) (f : FuncId) (row : Array Value → Sem Value) : Prop where
  at_ : ∃ fn, P.funcs[f]? = some fn ∧ (fn.name == "runtime.NumGoroutine") = false ∧ fn.body.isNone = true ∧ (Extern.findNext fn).isNone = true ∧ Extern.find fn = some row

section
variable {U : Nat → D → D} {r : Nat → D} {g : Gh} {L : Nat → Prop} {c : Cx} {w : World} {P : Program} {K : Value → World → Prop}

theorem ext_goal {f : FuncId} {row : Array Value → Sem Value} (h : ExtAt P f row) {vs : Array Value} {v : Value} {w' : World} (hrun : (row vs).run P w = .ok v w') (hK : K v w') : CallGoal P f vs w K := by
  obtain ⟨fn, h1, h2, h3, h4, h5⟩ := h.at_
  have h4 : Extern.findNext fn = none := by
    cases hx : Extern.findNext fn with
    | none => rfl
    | some x => rw [hx] at h4; cases h4
  have : (callFunc f vs).run P w = .ok (.value v) w' := by
    unfold callFunc
    simp only [Sem.run_bind, run_program, Result.andThen_ok, h1, h2, Bool.false_eq_true, if_false, h3, if_true, run_mark, h4, h5, hrun]
    rfl
  unfold CallGoal
  rw [this]
  exact hK

def sqrtRun : List SV → Cx → Tree (SV × Cx)
  | [.flt .f64 a], c => .ret (.flt .f64 (mk1 .sqrt a), c)
  | _, _ => .bad

theorem one_arg {s : SV} {vs : Array Value} (h : SV.denL U r g L [s] vs.toList) : ∃ v, vs = #[v] ∧ s.den U r g L v := by
  obtain ⟨l⟩ := vs
  match l, h with
  | [v], h => simp only [SV.denL] at h; exact ⟨v, rfl, h.1⟩
  | [], h => simp [SV.denL] at h
  | a :: b :: l, h => simp [SV.denL] at h

theorem sqrt_entry {f : FuncId} (h : ExtAt P f Extern.MathSqrt.sqrt) : EntryOk U P f sqrtRun := by
  intro args c L r g w vs K hh hp hd hs
  unfold sqrtRun at hs
  split at hs
  · rename_i a
    obtain ⟨v, rfl, hv⟩ := one_arg hd
    simp only [SV.den] at hv
    obtain ⟨b, rfl, hb1, hb2⟩ := hv
    have hsq := sqrt_cn b
    rw [hb2] at hsq
    cases hr : FloatKind.f64.format.sqrt b with
    | some x =>
      have e : Extern.MathSqrt.sqrt #[.float .f64 b] = pure (.float .f64 x) := by
        show (match FloatKind.f64.format.sqrt b with | some r => (pure (Value.float .f64 r) : Sem Value) | none => do pure (Value.float .f64 (← choose (.nanBits .f64 b b)))) = _
        rw [hr]
      refine ext_goal h (v := .float .f64 x) (w' := w) (by rw [e]; rfl) ?_
      refine hs g _ w (Ext.refl hh hp) ?_
      simp only [SV.den, mk1_ev, O1.ev]
      refine ⟨x, rfl, FloatKind.f64.format.sqrt_lt hr, ?_⟩
      show cn .f64 x = Fl.sqrt (a.ev U r).toF
      rw [hsq, hr]
      exact cn_of_not (map_write_not_nan (fun _ hd => root_not_nan hd) hr)
    | none =>
      obtain ⟨h1, h2, h3⟩ := nan_drawn (.nanBits .f64 b b) .f64 (.inl ⟨b, b, rfl⟩) (w.tape w.drawn (.nanBits .f64 b b))
      have e : Extern.MathSqrt.sqrt #[.float .f64 b] = (do pure (.float .f64 (← choose (.nanBits .f64 b b)))) := by
        show (match FloatKind.f64.format.sqrt b with | some r => (pure (Value.float .f64 r) : Sem Value) | none => do pure (Value.float .f64 (← choose (.nanBits .f64 b b)))) = _
        rw [hr]
      refine ext_goal h (v := .float .f64 ((Question.nanBits .f64 b b).cut (w.tape w.drawn (.nanBits .f64 b b)))) (w' := { w with drawn := w.drawn + 1 }) (by rw [e]; simp [h1]) ?_
      refine hs g _ _ (ext_same hh hp ⟨rfl, rfl, rfl, rfl⟩) ?_
      simp only [SV.den, mk1_ev, O1.ev]
      refine ⟨_, rfl, h2, ?_⟩
      rw [h3]
      show none = Fl.sqrt (a.ev U r).toF
      rw [hsq, hr]
  · exact hs.elim

def bitsRun (k : FloatKind) : List SV → Cx → Tree (SV × Cx)
  | [.flt k' a], c => if k = k' then
      (match look (.o2 (.feq k) a a) c.pc with
      | some true => .ret (.int (ukOf k) (mk1 .bits a), c)
      | _ => .ret (.fb k a, c))
    else .bad
  | _, _ => .bad

def fromRun (k : FloatKind) : List SV → Cx → Tree (SV × Cx)
  | [.fb k' a], c => if k = k' then .ret (.flt k a, c) else .bad
  | [.int k' a], c => if ukOf k = k' then
      br c (mk2 .ile (.i 0) a) (fun c => br c (mk2 .ilt a (.i (2 ^ k.format.width : Nat))) (fun c => .ret (.flt k (mk1 (.ofBits k) a), c)) (fun _ => .bad)) (fun _ => .bad)
    else .bad
  | _, _ => .bad

def bitsRow : FloatKind → Array Value → Sem Value
  | .f32 => Extern.MathFloatBits.float32bits
  | .f64 => Extern.MathFloatBits.float64bits
def fromRow : FloatKind → Array Value → Sem Value
  | .f32 => Extern.MathFloatBits.float32frombits
  | .f64 => Extern.MathFloatBits.float64frombits

theorem self_eq {k : FloatKind} {b : Nat} {x : Fl} (hx : cn k b = x) (h : Fl.eq k x x = true) : x = some b := by
  cases hn : isNanW k b with
  | true => rw [cn_of_nan hn] at hx; subst hx; cases h
  | false => rw [cn_of_not hn] at hx; exact hx.symm

theorem bits_entry {k : FloatKind} {f : FuncId} (h : ExtAt P f (bitsRow k)) : EntryOk U P f (bitsRun k) := by
  intro args c L r g w vs K hh hp hd hs
  unfold bitsRun at hs
  split at hs
  · rename_i k' a
    split at hs
    · rename_i hk
      subst hk
      obtain ⟨v, rfl, hv⟩ := one_arg hd
      simp only [SV.den] at hv
      obtain ⟨b, rfl, hb1, hb2⟩ := hv
      have hrun : (bitsRow k #[.float k b]).run P w = .ok (.int (ukOf k) b) w := by cases k <;> rfl
      refine ext_goal h hrun ?_
      split at hs
      · rename_i hl
        have hl := look_ok hp hl
        refine hs g _ w (Ext.refl hh hp) ?_
        simp only [SV.den, mk1_ev, O1.ev]
        have := self_eq hb2 (by simpa [E.ev, O2.ev, D.toB_b] using hl)
        rw [this]; rfl
      · refine hs g _ w (Ext.refl hh hp) ?_
        simp only [SV.den]
        exact ⟨b, rfl, hb1, hb2⟩
    · exact hs.elim
  · exact hs.elim

theorem from_entry {k : FloatKind} {f : FuncId} (h : ExtAt P f (fromRow k)) : EntryOk U P f (fromRun k) := by
  intro args c L r g w vs K hh hp hd hs
  unfold fromRun at hs
  have hrun : ∀ n : Int, (fromRow k #[.int (ukOf k) n]).run P w = .ok (.float k n.toNat) w := by intro n; cases k <;> rfl
  split at hs
  · rename_i k' a
    split at hs
    · rename_i hk
      subst hk
      obtain ⟨v, rfl, hv⟩ := one_arg hd
      simp only [SV.den] at hv
      obtain ⟨b, rfl, hb1, hb2⟩ := hv
      refine ext_goal h (hrun b) ?_
      refine hs g _ w (Ext.refl hh hp) ?_
      simp only [SV.den]
      exact ⟨b, rfl, hb1, hb2⟩
    · exact hs.elim
  · rename_i k' a
    split at hs
    · rename_i hk
      subst hk
      obtain ⟨v, rfl, hv⟩ := one_arg hd
      simp only [SV.den] at hv
      subst hv
      refine ext_goal h (hrun _) ?_
      obtain ⟨pc, hp', hs | hs⟩ := br_sat hp hs
      · obtain ⟨pc', hp'', hs2 | hs2⟩ := br_sat (c := { c with pc := pc }) hp' hs.2
        · refine hs2.2 g _ w (Ext.refl hh hp |>.mint (c'' := { c with pc := pc' }) rfl (Nat.le_refl _) hp'') ?_
          have h0 : (0 : Int) ≤ (a.ev U r).toI := by have := hs.1; rw [mk2_ev] at this; exact of_decide_eq_true this
          have h1 : (a.ev U r).toI < (2 ^ k.format.width : Nat) := by have := hs2.1; rw [mk2_ev] at this; exact of_decide_eq_true this
          simp only [SV.den, mk1_ev, O1.ev]
          exact ⟨_, rfl, by omega, rfl⟩
        · exact hs2.2.elim
      · exact hs.2.elim
    · exact hs.elim
  · exact hs.elim
end
end Go.Sx
