/-
  Sx, part Px: a loop that is told by another one's word, with a tag and values of its own.
-/
import Derived.Test.YtagchccdnpofaaaSxPu
namespace Go.Sx
open E (mk1 mk2 mkIte mk1_ev mk2_ev mkIte_ev)

/-- What a way out leaves: what stood at a variable, a literal, or an expression of the word's tag (0), its values (1 ..), and what is kept. -/
inductive OutX where
  | same (c : Nat)
  | lit (e : E)
  | exp (e : E)
def OutX.toW : OutX → OutW
  | .same c => .same c
  | .lit e => .lit e
  | .exp _ => .val 0
def outsW (outs : List (List OutX)) : List (List OutW) := outs.map fun l => l.map OutX.toW

/-- Tag, values, and what is kept. -/
def envE (n m : Nat) (ws : List E) (C : List Nat) (es : List E) : List E := tagW n ws :: ((List.range m).map (valW n ws) ++ C.map (nmOf es))
def fillX (L : List E) (e : E) : E := (e.sub (numbered 0 L)).getD (.b false)
/-- A loop that is another one's word, turned. -/
def xRun (A : LoopT) (n m : Nat) (rho : List E) (C : List Nat) (tx : E) (outs : List (List OutX)) : LRun :=
  ⟨A, fun es => fillX (envE n m (rhoAt rho es) C es) tx, fun k es => (outs.getD k []).map fun o => match o with
    | .same c => nmOf es c
    | .lit e => e
    | .exp e => fillX (envE n m (rhoAt rho es) C es) e, [], none, fun _ _ => []⟩

/-- A choice by what is known. -/
def rsvK (K : Ks) : E → E
  | .o3 .ite c a b => (match decP K c with
    | some true => rsvK K a
    | some false => rsvK K b
    | none => .o3 .ite c a b)
  | e => e
def xLeafK (m : Nat) (C : List Nat) (tx : E) (rho : List E) (outs : List (List OutX)) (x2 : LRes) (K : Ks) (mm : List (Nat × E)) (x1 : LRes) : Bool :=
  match x1, x2 with
  | .next es1, .next es2 => (match subAll mm es1, subAll (numbered 0 es2) rho with
    | some a, some b => eqsK K a b
    | _, _ => false)
  | .done k1 os1, .done k2 os2 => (match subAll mm ((List.range m).map (nmOf os1)) with
    | some a => (match tx.sub (numbered 0 (.i k1 :: (a ++ C.map E.v))) with
      | some t => eqK K (rsvK K t) (.i k2)
      | none => false) && (match outs[k2]? with
      | some l => Nat.beq l.length os2.length && (List.range l.length).all fun j => (match l[j]? with
        | some (.exp e) => (match e.sub (numbered 0 (.i k1 :: (a ++ C.map E.v))) with
          | some e' => eqK K (rsvK K e') (nmOf os2 j)
          | none => false)
        | _ => true)
      | none => false)
    | none => false)
  | _, _ => false
def xLeaf (m : Nat) (C : List Nat) (tx : E) (rho : List E) (outs : List (List OutX)) (T1 : Tree LRes) (n : Nat) (K : Ks) (x2 : LRes) : Bool :=
  underR n x2 && simK1 (xLeafK m C tx rho outs x2) n K (numbered 0 rho) T1
def xOkK (m : Nat) (C : List Nat) (tx : E) (inv1 inv2 rho : List E) (outs : List (List OutX)) (T1 T2 : Tree LRes) : Bool :=
  chkT (xLeaf m C tx rho outs T1) 1000 (headK inv2) T2 && simB inv1 inv2 rho
def xI (m : Nat) (C : List Nat) (tx : E) (inv2 rho : List E) (outs : List (List OutX)) (T1 T2 : Tree LRes) (i : Nat) : Bool :=
  chkI (xLeaf m C tx rho outs T1) i 1000 (headK inv2) T2
theorem xI_join {m : Nat} {C : List Nat} {tx : E} {inv1 inv2 rho : List E} {outs : List (List OutX)} {T1 T2 : Tree LRes} (hb : simB inv1 inv2 rho = true) (h : ∀ i, i < leavesN T2 → xI m C tx inv2 rho outs T1 T2 i = true) : xOkK m C tx inv1 inv2 rho outs T1 T2 = true := by
  unfold xOkK
  rw [Bool.and_eq_true]
  exact ⟨chkI_join h, hb⟩

section
variable {U : Nat → D → D}
theorem rsvK_ev {r : Nat → D} {n : Nat} {K : Ks} (hK : KsOk U r n K) : ∀ e : E, (rsvK K e).ev U r = e.ev U r := by
  intro e
  induction e with
  | o3 o c a b _ iha ihb =>
    cases o
    case ite =>
      simp only [rsvK]
      split
      · rename_i hl; rw [iha]; simp only [E.ev, O3.ev, decP_ok hK hl, if_true]
      · rename_i hl; rw [ihb]; simp only [E.ev, O3.ev, decP_ok hK hl]; rfl
      · rfl
    all_goals rfl
  | _ => rfl

def envD (m : Nat) (C : List Nat) (k : Nat) (os ds : List D) : List D := .i k :: ((List.range m).map (rOf os) ++ C.map (rOf ds))

theorem x_loop {m : Nat} {C : List Nat} {tx mu : E} {cnt : Nat} {inv1 inv2 rho : List E} {outs : List (List OutX)} {T1 T2 : Tree LRes} (hs : xOkK m C tx inv1 inv2 rho outs T1 T2 = true) (hr : roundK C (outsW outs) cnt inv2 mu T2 = true) {ds : List D} {k : Nat} {os : List D} (h : LoopTo U inv2 T2 ds k os) :
    ∃ k1 os1, LoopTo U inv1 T1 (rho.map (E.ev U (rOf ds))) k1 os1 ∧ (tx.ev U (rOf (envD m C k1 os1 ds))).toI = k ∧ ∀ l, outs[k]? = some l → ∀ (j : Nat) (e : E), l[j]? = some (.exp e) → rOf os j = e.ev U (rOf (envD m C k1 os1 ds)) := by
  have hr0 := hr
  simp only [roundK, Bool.and_eq_true, List.all_eq_true] at hr0
  have hC : ∀ c ∈ C, c < 1000 := fun c hc => by have := hr0.2.2.1 c hc; rwa [Nat.blt_eq] at this
  simp only [xOkK, simB, Bool.and_eq_true, List.all_eq_true] at hs
  obtain ⟨hchk, hinv, hrho, hu⟩ := hs
  have hold : ∀ {ds : List D}, HoldI U inv2 ds → HoldI U inv1 (rho.map (E.ev U (rOf ds))) := by
    intro ds hI e he
    have := hinv e he
    split at this
    · rename_i e' he'
      have h1 := decP_ok (headK_ok hu hI) (beq_iff_eq.1 this)
      rw [E.sub_ev (fills_rOf rho) he'] at h1
      exact h1
    · cases this
  have hm : ∀ {n : Nat}, 1000 ≤ n → ∀ p ∈ numbered 0 rho, p.2.under n = true := by
    intro n hn p hp
    have mem : ∀ (l : List E) (i : Nat), p ∈ numbered i l → p.2 ∈ l := by
      intro l
      induction l with
      | nil => intro i h; cases h
      | cons a l ih =>
        intro i h
        rcases List.mem_cons.1 h with rfl | h
        · exact List.mem_cons_self ..
        · exact List.mem_cons_of_mem _ (ih _ h)
    exact under_le hn (hrho p.2 (mem rho 0 hp))
  have same : ∀ {ds : List D} {r' : Nat → D}, (∀ n, n < 1000 → r' n = rOf ds n) → rho.map (E.ev U r') = rho.map (E.ev U (rOf ds)) := fun hr => List.map_congr_left fun e he => E.ev_under U hr (hrho e he)
  induction h with
  | @done ds k es r' hI he =>
    obtain ⟨x, r2, m2, K2, q1, q2, q3, q4, q5⟩ := chkT_ok hchk (headK_ok hu hI)
    rw [he] at q1
    cases q1
    unfold xLeaf at q5
    rw [Bool.and_eq_true] at q5
    obtain ⟨q6, q5⟩ := q5
    have hf : Fills U r' (rOf (rho.map (E.ev U (rOf ds)))) (numbered 0 rho) := by rw [← same q2]; exact fills_rOf rho
    obtain ⟨x1, r1', r3, n3, K3, m3, p1, p2, p3, p4, p5, p6⟩ := simK1_ok q5 q4 hf (hm q3)
    cases x1 with
    | next es1 => cases p6
    | stuck => cases p6
    | done k1 os1 =>
      simp only [xLeafK] at p6
      split at p6
      · rename_i a ha
        rw [Bool.and_eq_true] at p6
        obtain ⟨h1, h2⟩ := p6
        have hL : (E.i k1 :: (a ++ C.map E.v)).map (E.ev U r3) = envD m C k1 (os1.map (E.ev U r1')) ds := by
          have e1 := subAll_ev p5 ha
          unfold envD
          rw [List.map_cons, List.map_append, e1]
          congr 1
          congr 1
          · rw [List.map_map]
            exact List.map_congr_left fun i _ => by rw [evs_rOf]; rfl
          · rw [List.map_map]
            refine List.map_congr_left fun c hc => ?_
            show r3 c = rOf ds c
            rw [p2 c (by have := hC c hc; omega)]
            exact q2 c (hC c hc)
        have hfl := fills_rOf (U := U) (r := r3) (E.i k1 :: (a ++ C.map E.v))
        rw [hL] at hfl
        refine ⟨_, _, .done (hold hI) p1, ?_, fun l hl j e hj => ?_⟩
        · split at h1
          · rename_i t ht
            have := eqK_ok p4 h1
            rw [rsvK_ev p4, E.sub_ev hfl ht] at this
            rw [this]; rfl
          · cases h1
        · rw [hl] at h2
          dsimp only at h2
          rw [Bool.and_eq_true, List.all_eq_true] at h2
          have hjl := (List.getElem?_eq_some_iff.1 hj).1
          have h3 := h2.2 j (List.mem_range.2 hjl)
          rw [hj] at h3
          dsimp only at h3
          split at h3
          · rename_i e' he'
            rw [← E.sub_ev hfl he', ← rsvK_ev p4, eqK_ok p4 h3, evs_rOf]
            refine (E.ev_under U (m := m2) p2 ?_).symm
            have : ∀ e ∈ es, e.under m2 = true := List.all_eq_true.1 q6
            unfold nmOf
            rw [List.getD_eq_getElem?_getD]
            cases hx : es[j]? with
            | none => rfl
            | some e => exact this e (List.mem_of_getElem? hx)
          · cases h3
      · cases p6
  | @next ds es r' k os hI he hto ih =>
    obtain ⟨xr, rr, k1, k2⟩ := round_at hr hI
    rw [he] at k1
    cases k1
    have hkeep := k2.2
    obtain ⟨x, r2, m2, K2, q1, q2, q3, q4, q5⟩ := chkT_ok hchk (headK_ok hu hI)
    rw [he] at q1
    cases q1
    unfold xLeaf at q5
    rw [Bool.and_eq_true] at q5
    obtain ⟨q6, q5⟩ := q5
    have hf : Fills U r' (rOf (rho.map (E.ev U (rOf ds)))) (numbered 0 rho) := by rw [← same q2]; exact fills_rOf rho
    obtain ⟨x1, r1', r3, n3, K3, m3, p1, p2, p3, p4, p5, p6⟩ := simK1_ok q5 q4 hf (hm q3)
    cases x1 with
    | done k1 os1 => cases p6
    | stuck => cases p6
    | next es1 =>
      simp only [xLeafK] at p6
      split at p6
      · rename_i a b ha hb
        have e1 := eqsK_ok p4 p6
        have e2 := subAll_ev p5 ha
        have e3 := subAll_ev (fills_rOf (U := U) (r := r3) es) hb
        have e4 : es.map (E.ev U r3) = es.map (E.ev U r') := List.map_congr_left fun e he => E.ev_under U p2 (List.all_eq_true.1 q6 e he)
        rw [e4] at e3
        have e5 : es1.map (E.ev U r1') = rho.map (E.ev U (rOf (es.map (E.ev U r')))) := e2.symm.trans (e1.trans e3)
        obtain ⟨k1, os1, h1, h2, h3⟩ := ih
        rw [← e5] at h1
        have hE : envD m C k1 os1 (es.map (E.ev U r')) = envD m C k1 os1 ds := by
          unfold envD
          congr 2
          exact List.map_congr_left fun c hc => by rw [evs_rOf]; exact hkeep c hc
        rw [hE] at h2 h3
        exact ⟨k1, os1, .next (hold hI) p1 h1, h2, h3⟩
      · cases p6

theorem fillX_ev {r : Nat → D} {L : List E} {e : E} (h : e.under L.length = true) : (fillX L e).ev U r = e.ev U (rOf (L.map (E.ev U r))) := by
  obtain ⟨l, hl⟩ := subAll_total (es := L) (l := [e]) (by simpa using h)
  simp only [subAll] at hl
  unfold fillX
  cases he : e.sub (numbered 0 L) with
  | none => rw [he] at hl; cases hl
  | some x => exact E.sub_ev (fills_rOf L) he

def expsU (N : Nat) (outs : List (List OutX)) : Bool := outs.all fun l => l.all fun o => match o with
  | .exp e => e.under N
  | _ => true

theorem xRes_get (A : LoopT) (n m : Nat) (rho : List E) (C : List Nat) (tx : E) (outs : List (List OutX)) (k : Nat) (es : List E) {l : List OutX} (hl : outs[k]? = some l) (j : Nat) :
    nmOf ((xRun A n m rho C tx outs).res k es) j = match l[j]? with
    | some (.same c) => nmOf es c
    | some (.lit e) => e
    | some (.exp e) => fillX (envE n m (rhoAt rho es) C es) e
    | none => .b false := by
  unfold nmOf xRun
  dsimp only
  rw [List.getD_eq_getElem?_getD (l := outs), hl]
  show (List.map _ l).getD j _ = _
  rw [List.getD_eq_getElem?_getD, List.getElem?_map]
  cases hx : l[j]? with
  | none => rfl
  | some o => cases o <;> rfl

/-- A LOOP AS ANOTHER ONE'S WORD, TURNED. -/
theorem x_told {A : LoopT} {n m : Nat} {rho inv1 : List E} {tx : E} {outs : List (List OutX)} {C : List Nat} {mu : E} {T1 T2 : Tree LRes} (hU : ∀ d, U n d = loopVal U inv1 T1 d) (hr : roundK C (outsW outs) A.t.cnt A.inv mu T2 = true)
    (hs : xOkK m C tx inv1 A.inv rho outs T1 T2 = true) (hrho : (rho.all fun e => e.under A.t.cnt) = true) (hx : (tx.under (1 + (m + C.length)) && expsU (1 + (m + C.length)) outs) = true) : Told U T2 (xRun A n m rho C tx outs) := by
  intro r es hlen hI _ _
  obtain ⟨k, os, hto⟩ := round_ends hr (ds := es.map (E.ev U r)) hI
  obtain ⟨k1, os1, hto1, htag, hval⟩ := x_loop hs hr hto
  obtain ⟨ws, hws⟩ := subAll_total (es := es) (l := rho) (by rw [hlen]; exact hrho)
  have hat : rhoAt rho es = ws := by unfold rhoAt; rw [hws]; rfl
  have hev : ws.map (E.ev U r) = rho.map (E.ev U (rOf (es.map (E.ev U r)))) := subAll_ev (fills_rOf es) hws
  rw [← hev] at hto1
  obtain ⟨_, h2⟩ := word_ev hU hto1
  have h1 : (tagW n ws).ev U r = .i k1 := by
    have hv : E.ev U r (.app n (elemE ws)) = .p (.i k1) (.l os1) := by
      show U n ((elemE ws).ev U r) = _
      rw [hU, elemE_ev, loopVal_eq hto1]
    show O1.fst.ev (E.ev U r (.app n (elemE ws))) = _
    rw [hv]; rfl
  have hlenE : (envE n m ws C es).length = 1 + (m + C.length) := by unfold envE; simp; omega
  have henv : (envE n m ws C es).map (E.ev U r) = envD m C k1 os1 (es.map (E.ev U r)) := by
    unfold envE envD
    rw [List.map_cons, List.map_append, h1, List.map_map, List.map_map]
    congr 1
    congr 1
    · exact List.map_congr_left fun i _ => h2 i
    · exact List.map_congr_left fun c _ => by rw [evs_rOf]; rfl
  rw [Bool.and_eq_true] at hx
  have fill : ∀ {e : E}, e.under (1 + (m + C.length)) = true → (fillX (envE n m ws C es) e).ev U r = e.ev U (rOf (envD m C k1 os1 (es.map (E.ev U r)))) := by
    intro e he
    rw [fillX_ev (by rw [hlenE]; exact he), henv]
  refine ⟨k, os, hto, ?_, (fun _ hx => by cases hx), fun _ _ _ j => .of_eqv ?_⟩
  · show ((fillX (envE n m (rhoAt rho es) C es) tx).ev U r).toI = k
    rw [hat, fill hx.1]; exact htag
  · obtain ⟨l, q1, q2, q3⟩ := round_keeps hr hto
    unfold outsW at q1
    rw [List.getElem?_map, Option.map_eq_some_iff] at q1
    obtain ⟨l0, hl0, rfl⟩ := q1
    rw [xRes_get A n m rho C tx outs k es hl0 j]
    have q3 := fun o h => q3 j o h
    cases hx0 : l0[j]? with
    | none =>
      rw [rOf_none (by rw [← q2, List.length_map]; exact List.getElem?_eq_none_iff.1 hx0)]
      exact D.eqv.refl _
    | some o =>
      have h4 := q3 o.toW (by rw [List.getElem?_map, hx0]; rfl)
      cases o with
      | same c => simp only [OutX.toW] at h4 ⊢; rw [h4.2, evs_rOf]; exact D.eqv.refl _
      | lit e => simp only [OutX.toW] at h4 ⊢; rw [h4 r]; exact D.eqv.refl _
      | exp e =>
        dsimp only
        have hxu : e.under (1 + (m + C.length)) = true := by
          have := List.all_eq_true.1 hx.2 l0 (List.mem_of_getElem? hl0)
          exact List.all_eq_true.1 this _ (List.mem_of_getElem? hx0)
        rw [hat, fill hxu, hval l0 hl0 j e hx0]; exact D.eqv.refl _
end

/-! ### A law's tree: its questions by the names that are there -/

def allTrueJ : Nat → Ks → Tree SV → Bool
  | _, _, .ret (.bool (.b true)) => true
  | m, K, .ite c t e => c.under m && ((c.fold K.env).under m && (match decP K (c.fold K.env) with
      | some b => bif b then allTrueJ m K t else allTrueJ m K e
      | none => (noWay K (c.fold K.env) true || allTrueJ m (K.learn (K.grow (c.fold K.env) true)) t) && (noWay K (c.fold K.env) false || allTrueJ m (K.learn (K.grow (c.fold K.env) false)) e)))
  | m, K, .chk (.o2 .fsame (.v i) e) t => Nat.ble m i && (e.under m && allTrueJ (i + 1) (K.name i e) t)
  | _, _, _ => false
section
variable {U : Nat → D → D} {w : World} {Q : Value → World → Prop}
theorem allTrueJ_ret {m : Nat} {K : Ks} {x : SV} (h : allTrueJ m K (.ret x) = true) : x = .bool (.b true) := by
  unfold allTrueJ at h
  split at h <;> first | rfl | cases h | (rename_i heq; cases heq)
  rename_i heq; cases heq; rfl
theorem allTrueJ_chk {m : Nat} {K : Ks} {c : E} {t : Tree SV} (h : allTrueJ m K (.chk c t) = true) : ∃ i e, c = .o2 .fsame (.v i) e ∧ m ≤ i ∧ e.under m = true ∧ allTrueJ (i + 1) (K.name i e) t = true := by
  unfold allTrueJ at h
  split at h
  · cases ‹Tree.chk c t = _›
  · cases ‹Tree.chk c t = _›
  · rename_i i e t' heq
    cases heq
    simp only [Bool.and_eq_true] at h
    exact ⟨i, e, rfl, Nat.le_of_ble_eq_true h.1, h.2.1, h.2.2⟩
  · cases h
theorem allTrueJ_lets (hQ : ∀ w', Frm (fun _ => False) w w' → Q (.bool true) w') : ∀ {t : Tree SV} {m : Nat} {K : Ks} {r : Nat → D}, allTrueJ m K t = true → KsOk U r m K → Lets U Q w m r t := by
  intro t
  induction t with
  | ret x =>
    intro m K r h _ g' L' v w' hf hd
    obtain rfl := allTrueJ_ret h
    simp only [SV.den, E.ev, D.toB] at hd
    subst hd
    exact hQ w' hf
  | ite c t e iht ihe =>
    intro m K r h hK
    unfold allTrueJ at h
    simp only [Bool.and_eq_true] at h
    obtain ⟨hc, hc', h⟩ := h
    refine ⟨hc, ?_⟩
    have hev : ((c.fold K.env).ev U r).toB = (c.ev U r).toB := by rw [E.fold_ev hK.env]
    cases ha : decP K (c.fold K.env) with
    | some b =>
      rw [ha] at h
      dsimp only at h
      have hb := decP_ok hK ha
      rw [hev] at hb
      rw [hb]
      cases b with
      | true => exact ⟨fun _ => iht h hK, fun h' => (by cases h')⟩
      | false => exact ⟨fun h' => (by cases h'), fun _ => ihe h hK⟩
    | none =>
      rw [ha] at h
      dsimp only at h
      simp only [Bool.and_eq_true, Bool.or_eq_true] at h
      constructor
      · intro hb
        rw [← hev] at hb
        rcases h.1 with h1 | h1
        · exact (noWay_ok hK hb h1).elim
        · exact iht h1 (learn_ok hK (grow_ok hK hb) (grow_under hK hc'))
      · intro hb
        rw [← hev] at hb
        rcases h.2 with h1 | h1
        · exact (noWay_ok hK hb h1).elim
        · exact ihe h1 (learn_ok hK (grow_ok hK hb) (grow_under hK hc'))
  | chk c t ih =>
    intro m K r h hK
    obtain ⟨i, e, hc, hm, hu, h⟩ := allTrueJ_chk h
    exact ⟨i, e, hc, hm, hu, ih h (name_ok hK hm hu)⟩
  | all i t _ => intro m K r h _; cases h
  | asm c t _ => intro m K r h _; cases h
  | bad => intro m K r h _; cases h
theorem law_of_J {T : Tree SV} (h : allTrueJ 1000 ⟨[], [], [], [], []⟩ T = true) : LawIsA U T :=
  ⟨fun _ _ _ hK => allTrueJ_lets hK h ⟨fun _ h => (by cases h), fun _ h => (by cases h), fun _ h => (by cases h), fun _ h => (by cases h), TOk.nil, TUnder.nil, fun _ h => (by cases h), fun _ h => (by cases h), TOk.nil, TUnder.nil⟩⟩
end
end Go.Sx
