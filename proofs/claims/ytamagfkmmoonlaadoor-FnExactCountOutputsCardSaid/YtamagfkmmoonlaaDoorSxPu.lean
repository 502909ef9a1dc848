/-
  Sx, part Pu: one loop does what another does, by what is known on the way.
-/
import Derived.Test.YtamagfkmmoonlaaDoorSxPt
namespace Go.Sx
open E (mk1 mk2 mkIte mk1_ev mk2_ev mkIte_ev)

/-- Filled in, and its sums put together. -/
def E.subN (e : E) (m : List (Nat × E)) : Option E := (e.sub m).map E.nrm
theorem E.subN_ev {U : Nat → D → D} {r r' : Nat → D} {m : List (Nat × E)} (hf : Fills U r r' m) {e e' : E} (h : e.subN m = some e') : e'.ev U r = e.ev U r' := by
  unfold E.subN at h
  obtain ⟨x, hx, rfl⟩ := Option.map_eq_some_iff.1 h
  rw [E.nrm_ev]; exact E.sub_ev hf hx

/-- The other loop's round, walked where this one's has come to; its names are found, or new. -/
def simK1 (leaf : Ks → List (Nat × E) → LRes → Bool) : Nat → Ks → List (Nat × E) → Tree LRes → Bool
  | _, K, m, .ret x => leaf K m x
  | n, K, m, .ite c t e => (match c.subN m with
    | some c' => c'.under n && (match decP K c' with
      | some b => bif b then simK1 leaf n K m t else simK1 leaf n K m e
      | none => (noWay K c' true || simK1 leaf n (K.learn (K.grow c' true)) m t) && (noWay K c' false || simK1 leaf n (K.learn (K.grow c' false)) m e))
    | none => false)
  | n, K, m, .chk (.o2 .fsame (.v i) d) t => (match lkM i m, d.subN m with
    | none, some d' => (d'.fold K.env).under n && (if atomE (d'.fold K.env) then simK1 leaf n K ((i, d'.fold K.env) :: m) t
        else simK1 leaf (n + 1) (K.name n (d'.fold K.env)) ((i, .v n) :: m) t)
    | _, _ => false)
  | _, _, _, _ => false
section
variable {U : Nat → D → D}
theorem simK1_ok {leaf : Ks → List (Nat × E) → LRes → Bool} : ∀ {t : Tree LRes} {n : Nat} {K : Ks} {m : List (Nat × E)} {r r1 : Nat → D}, simK1 leaf n K m t = true → KsOk U r n K → Fills U r r1 m → (∀ p ∈ m, p.2.under n = true) →
    ∃ x1 r1' r' n' K' m', evA U t r1 = some (x1, r1') ∧ (∀ q, q < n → r' q = r q) ∧ n ≤ n' ∧ KsOk U r' n' K' ∧ Fills U r' r1' m' ∧ leaf K' m' x1 = true := by
  intro t
  induction t with
  | ret x => intro n K m r r1 h hK hf _; exact ⟨x, r1, r, n, K, m, rfl, fun _ _ => rfl, Nat.le_refl _, hK, hf, h⟩
  | ite c t e iht ihe =>
    intro n K m r r1 h hK hf hm
    simp only [simK1] at h
    split at h
    · rename_i c' hc
      rw [Bool.and_eq_true] at h
      obtain ⟨hu, h⟩ := h
      have hev := E.subN_ev hf hc
      cases ha : decP K c' with
      | some b =>
        rw [ha] at h
        dsimp only at h
        have hb := decP_ok hK ha
        rw [hev] at hb
        cases b with
        | true =>
          obtain ⟨x1, r1', r', n', K', m', q1, q2⟩ := iht h hK hf hm
          exact ⟨x1, r1', r', n', K', m', by simp only [evA, hb, if_true]; exact q1, q2⟩
        | false =>
          obtain ⟨x1, r1', r', n', K', m', q1, q2⟩ := ihe h hK hf hm
          exact ⟨x1, r1', r', n', K', m', by simp only [evA, hb]; exact q1, q2⟩
      | none =>
        rw [ha] at h
        dsimp only at h
        simp only [Bool.and_eq_true, Bool.or_eq_true] at h
        cases hb : (c'.ev U r).toB with
        | true =>
          have hb1 := hb
          rw [hev] at hb1
          rcases h.1 with h1 | h1
          · exact (noWay_ok hK hb h1).elim
          · obtain ⟨x1, r1', r', n', K', m', q1, q2⟩ := iht h1 (learn_ok hK (grow_ok hK hb) (grow_under hK hu)) hf hm
            exact ⟨x1, r1', r', n', K', m', by simp only [evA, hb1, if_true]; exact q1, q2⟩
        | false =>
          have hb1 := hb
          rw [hev] at hb1
          rcases h.2 with h1 | h1
          · exact (noWay_ok hK hb h1).elim
          · obtain ⟨x1, r1', r', n', K', m', q1, q2⟩ := ihe h1 (learn_ok hK (grow_ok hK hb) (grow_under hK hu)) hf hm
            exact ⟨x1, r1', r', n', K', m', by simp only [evA, hb1]; exact q1, q2⟩
    · cases h
  | chk c t ih =>
    intro n K m r r1 h hK hf hm
    unfold simK1 at h
    split at h
    · cases ‹Tree.chk c t = _›
    · cases ‹Tree.chk c t = _›
    · rename_i n K m _ _ _ _ i d t' heq
      cases heq
      split at h
      · rename_i d' hi hd
        rw [Bool.and_eq_true] at h
        obtain ⟨hu, h⟩ := h
        have hev : (d'.fold K.env).ev U r = d.ev U r1 := by rw [E.fold_ev hK.env, E.subN_ev hf hd]
        have other : ∀ {q : Nat} {x : E}, lkM q m = some x → q ≠ i := fun hq he => by rw [he, hi] at hq; cases hq
        split at h
        · have hf' : Fills U r (Tree.upd r1 i (d.ev U r1)) ((i, d'.fold K.env) :: m) := by
            intro q x hq
            unfold lkM at hq
            cases hb : Nat.beq i q with
            | true =>
              rw [hb] at hq
              simp only [cond_true, Option.some.injEq] at hq
              subst hq
              rw [← Nat.eq_of_beq_eq_true hb, hev]
              unfold Tree.upd; rw [if_pos rfl]
            | false =>
              rw [hb] at hq
              simp only [cond_false] at hq
              unfold Tree.upd
              rw [if_neg (other hq)]
              exact hf q x hq
          obtain ⟨x1, r1', r', n', K', m', q1, q2⟩ := ih h hK hf' (fun p hp => by
            rcases List.mem_cons.1 hp with rfl | hp
            · exact hu
            · exact hm p hp)
          exact ⟨x1, r1', r', n', K', m', q1, q2⟩
        · have old : ∀ {x : E}, x.under n = true → x.ev U (Tree.upd r n ((d'.fold K.env).ev U r)) = x.ev U r := fun hx => E.ev_under U (m := n) (fun q hq => upd_low hq) hx
          have hf' : Fills U (Tree.upd r n ((d'.fold K.env).ev U r)) (Tree.upd r1 i (d.ev U r1)) ((i, .v n) :: m) := by
            intro q x hq
            unfold lkM at hq
            cases hb : Nat.beq i q with
            | true =>
              rw [hb] at hq
              simp only [cond_true, Option.some.injEq] at hq
              subst hq
              rw [← Nat.eq_of_beq_eq_true hb]
              simp only [E.ev]
              unfold Tree.upd
              rw [if_pos rfl, if_pos rfl, hev]
            | false =>
              rw [hb] at hq
              simp only [cond_false] at hq
              rw [old (hm _ (lkM_mem hq))]
              unfold Tree.upd
              rw [if_neg (other hq)]
              exact hf q x hq
          obtain ⟨x1, r1', r', n', K', m', q1, q2, q3, q4⟩ := ih h (name_ok hK (Nat.le_refl _) hu) hf' (fun p hp => by
            rcases List.mem_cons.1 hp with rfl | hp
            · simp [E.under]
            · exact under_le (Nat.le_succ _) (hm p hp))
          exact ⟨x1, r1', r', n', K', m', q1, fun q hq => by rw [q2 q (by omega)]; exact upd_low hq, by omega, q4⟩
      · cases h
    · cases h
  | all i t _ => intro n K m r r1 h _ _ _; cases h
  | asm c t _ => intro n K m r r1 h _ _ _; cases h
  | bad => intro n K m r r1 h _ _ _; cases h

def eqK (K : Ks) (a b : E) : Bool := (a.fold K.env).nrm.same (b.fold K.env).nrm
def eqsK (K : Ks) : List E → List E → Bool
  | [], [] => true
  | a :: l, b :: m => eqK K a b && eqsK K l m
  | _, _ => false
theorem eqK_ok {r : Nat → D} {n : Nat} {K : Ks} (hK : KsOk U r n K) {a b : E} (h : eqK K a b = true) : a.ev U r = b.ev U r := by
  rw [← E.fold_ev hK.env a, ← E.fold_ev hK.env b, ← E.nrm_ev (a.fold K.env), ← E.nrm_ev (b.fold K.env), E.same_eq h]
theorem eqsK_ok {r : Nat → D} {n : Nat} {K : Ks} (hK : KsOk U r n K) : ∀ {a b : List E}, eqsK K a b = true → a.map (E.ev U r) = b.map (E.ev U r)
  | [], [], _ => rfl
  | [], _ :: _, h => by cases h
  | _ :: _, [], h => by cases h
  | a :: l, b :: m, h => by
    simp only [eqsK, Bool.and_eq_true] at h
    rw [List.map_cons, List.map_cons, eqK_ok hK h.1, eqsK_ok hK h.2]

def simLeafK (rho : List E) (outs : List (List OutW)) (x2 : LRes) (K : Ks) (m : List (Nat × E)) (x1 : LRes) : Bool :=
  match x1, x2 with
  | .next es1, .next es2 => (match subAll m es1, subAll (numbered 0 es2) rho with
    | some a, some b => eqsK K a b
    | _, _ => false)
  | .done k1 os1, .done k2 os2 => Nat.beq k1 k2 && (match outs[k2]? with
    | some l => Nat.beq l.length os2.length && (List.range l.length).all fun j => (match l[j]? with
      | some (.val i) => (match (nmOf os1 i).sub m with
        | some e => eqK K e (nmOf os2 j)
        | none => false)
      | _ => true)
    | none => false)
  | _, _ => false
def underR (n : Nat) : LRes → Bool
  | .next es => es.all fun e => e.under n
  | .done _ es => es.all fun e => e.under n
  | .stuck => false
/-- One loop does what another does, whose variables are 'rho' of its own. -/
def simOkK (inv1 inv2 rho : List E) (outs : List (List OutW)) (T1 T2 : Tree LRes) : Bool :=
  chkT (fun n K x2 => underR n x2 && simK1 (simLeafK rho outs x2) n K (numbered 0 rho) T1) 1000 (headK inv2) T2 && ((inv1.all fun e => match e.sub (numbered 0 rho) with
    | some e' => decP (headK inv2) e' == some true
    | none => false) && ((rho.all fun e => e.under 1000) && inv2.all fun e => e.under 1000))
theorem simK_loop {inv1 inv2 rho : List E} {outs : List (List OutW)} {T1 T2 : Tree LRes} (hs : simOkK inv1 inv2 rho outs T1 T2 = true) {ds : List D} {k : Nat} {os : List D} (h : LoopTo U inv2 T2 ds k os) :
    ∃ os1, LoopTo U inv1 T1 (rho.map (E.ev U (rOf ds))) k os1 ∧ ∀ l, outs[k]? = some l → ∀ (j i : Nat), l[j]? = some (.val i) → rOf os j = rOf os1 i := by
  simp only [simOkK, Bool.and_eq_true, List.all_eq_true] at hs
  obtain ⟨hchk, hinv, hrho, hu⟩ := hs
  have hold : ∀ {ds : List D}, HoldI U inv2 ds → HoldI U inv1 (rho.map (E.ev U (rOf ds))) := by
    intro ds hI e he
    have := hinv e he
    split at this
    · rename_i e' he'
      have h1 := decP_ok (headK_ok hu hI) (beq_iff_eq.1 this)
      rw [E.sub_ev (fills_rOf rho) he'] at h1
      exact h1
    · cases this
  have hm : ∀ {n : Nat}, 1000 ≤ n → ∀ p ∈ numbered 0 rho, p.2.under n = true := by
    intro n hn p hp
    have mem : ∀ (l : List E) (i : Nat), p ∈ numbered i l → p.2 ∈ l := by
      intro l
      induction l with
      | nil => intro i h; cases h
      | cons a l ih =>
        intro i h
        rcases List.mem_cons.1 h with rfl | h
        · exact List.mem_cons_self ..
        · exact List.mem_cons_of_mem _ (ih _ h)
    exact under_le hn (hrho p.2 (mem rho 0 hp))
  have same : ∀ {ds : List D} {r' : Nat → D}, (∀ n, n < 1000 → r' n = rOf ds n) → rho.map (E.ev U r') = rho.map (E.ev U (rOf ds)) := fun hr => List.map_congr_left fun e he => E.ev_under U hr (hrho e he)
  induction h with
  | @done ds k es r' hI he =>
    obtain ⟨x, r2, m2, K2, q1, q2, q3, q4, q5⟩ := chkT_ok hchk (headK_ok hu hI)
    rw [he] at q1
    cases q1
    rw [Bool.and_eq_true] at q5
    obtain ⟨q6, q5⟩ := q5
    have hf : Fills U r' (rOf (rho.map (E.ev U (rOf ds)))) (numbered 0 rho) := by rw [← same q2]; exact fills_rOf rho
    obtain ⟨x1, r1', r3, n3, K3, m3, p1, p2, p3, p4, p5, p6⟩ := simK1_ok q5 q4 hf (hm q3)
    cases x1 with
    | next es1 => cases p6
    | stuck => cases p6
    | done k1 os1 =>
      simp only [simLeafK, Bool.and_eq_true] at p6
      obtain ⟨h1, h2⟩ := p6
      have := Nat.eq_of_beq_eq_true h1
      subst this
      refine ⟨_, .done (hold hI) p1, fun l hl j i hj => ?_⟩
      rw [hl] at h2
      dsimp only at h2
      rw [Bool.and_eq_true, List.all_eq_true] at h2
      have hjl := (List.getElem?_eq_some_iff.1 hj).1
      have h3 := h2.2 j (List.mem_range.2 hjl)
      rw [hj] at h3
      dsimp only at h3
      split at h3
      · rename_i e he'
        rw [evs_rOf, evs_rOf, ← E.sub_ev p5 he', eqK_ok p4 h3]
        refine (E.ev_under U (m := m2) p2 ?_).symm
        have : ∀ e ∈ es, e.under m2 = true := List.all_eq_true.1 q6
        unfold nmOf
        rw [List.getD_eq_getElem?_getD]
        cases hx : es[j]? with
        | none => rfl
        | some e => exact this e (List.mem_of_getElem? hx)
      · cases h3
  | @next ds es r' k os hI he hto ih =>
    obtain ⟨x, r2, m2, K2, q1, q2, q3, q4, q5⟩ := chkT_ok hchk (headK_ok hu hI)
    rw [he] at q1
    cases q1
    rw [Bool.and_eq_true] at q5
    obtain ⟨q6, q5⟩ := q5
    have hf : Fills U r' (rOf (rho.map (E.ev U (rOf ds)))) (numbered 0 rho) := by rw [← same q2]; exact fills_rOf rho
    obtain ⟨x1, r1', r3, n3, K3, m3, p1, p2, p3, p4, p5, p6⟩ := simK1_ok q5 q4 hf (hm q3)
    cases x1 with
    | done k1 os1 => cases p6
    | stuck => cases p6
    | next es1 =>
      simp only [simLeafK] at p6
      split at p6
      · rename_i a b ha hb
        have e1 := eqsK_ok p4 p6
        have e2 := subAll_ev p5 ha
        have e3 := subAll_ev (fills_rOf (U := U) (r := r3) es) hb
        have e4 : es.map (E.ev U r3) = es.map (E.ev U r') := List.map_congr_left fun e he => E.ev_under U p2 (List.all_eq_true.1 q6 e he)
        rw [e4] at e3
        have e5 : es1.map (E.ev U r1') = rho.map (E.ev U (rOf (es.map (E.ev U r')))) := e2.symm.trans (e1.trans e3)
        obtain ⟨os1, h1, h2⟩ := ih
        rw [← e5] at h1
        exact ⟨os1, .next (hold hI) p1 h1, h2⟩
      · cases p6

/-! ### Rounds that are sure by what is known -/

/-- The length of a list to which something was put. -/
def lenOf : E → E
  | .o2 .lpush x _ => .o2 .iadd (lenOf x) (.i 1)
  | x => .o1 .llen x
def E.lens : E → E
  | .o1 .llen x => lenOf x
  | .o1 o x => .o1 o x.lens
  | .o2 o x y => .o2 o x.lens y.lens
  | e => e
theorem lenOf_ev {r : Nat → D} : ∀ {x : E}, (lenOf x).ev U r = .i ((x.ev U r).toL.length : Nat) := by
  intro x
  induction x with
  | o2 o a b iha _ =>
    cases o
    case lpush =>
      simp only [lenOf, E.ev, iha, O2.ev]
      show D.i _ = D.i _
      congr 1
      show ((a.ev U r).toL.length : Int) + 1 = (((a.ev U r).toL ++ [b.ev U r]).length : Nat)
      rw [List.length_append]; rfl
    all_goals rfl
  | _ => rfl
theorem E.lens_ev {r : Nat → D} : ∀ {x : E}, x.lens.ev U r = x.ev U r := by
  intro x
  induction x with
  | o1 o a ih =>
    cases o
    case llen => simp only [E.lens, lenOf_ev]; rfl
    all_goals simp only [E.lens, E.ev, ih]
  | o2 o a b iha ihb => simp only [E.lens, E.ev, iha, ihb]
  | _ => rfl
def holdK (K : Ks) (inv es : List E) : Bool := inv.all fun e => match e.sub (numbered 0 es) with
  | some e' => decP K e'.lens == some true || decA K (e'.lens.fold K.env) == some true
  | none => false
def roundLeaf (C : List Nat) (outs : List (List OutW)) (cnt : Nat) (inv : List E) (mu : E) (K : Ks) (x : LRes) : Bool :=
  keepsT C outs (.ret x) && (match x with
    | .next es => Nat.beq es.length cnt && (holdK K inv es && (match mu.sub (numbered 0 es) with
      | some mu' => decP K (.o2 .ile (.i 0) mu') == some true && decP K (.o2 .ilt mu' mu) == some true
      | none => false))
    | _ => true)
/-- Every way of a round is sure: it goes out as told, or what holds at the head holds again, the measure has fallen, and what is kept is kept. -/
def roundK (C : List Nat) (outs : List (List OutW)) (cnt : Nat) (inv : List E) (mu : E) (T : Tree LRes) : Bool :=
  chkT (fun n K x => underR n x && roundLeaf C outs cnt inv mu K x) 1000 (headK inv) T && (mu.under 1000 && ((C.all fun c => Nat.blt c 1000) && inv.all fun e => e.under 1000))
theorem holdK_ok {r : Nat → D} {n : Nat} {K : Ks} (hK : KsOk U r n K) {inv es : List E} (h : holdK K inv es = true) : HoldI U inv (es.map (E.ev U r)) := by
  intro e he
  unfold holdK at h
  rw [List.all_eq_true] at h
  have := h e he
  split at this
  · rename_i e' hs
    rw [← E.sub_ev (fills_rOf es) hs, ← E.lens_ev]
    rw [Bool.or_eq_true] at this
    rcases this with this | this
    · exact decP_ok hK (eq_of_beq this)
    · rw [← E.fold_ev hK.env]; exact decA_ok hK (eq_of_beq this)
  · cases this
theorem round_at {C : List Nat} {outs : List (List OutW)} {cnt : Nat} {inv : List E} {mu : E} {T : Tree LRes} (h : roundK C outs cnt inv mu T = true) {ds : List D} (hI : HoldI U inv ds) :
    ∃ x r', evA U T (rOf ds) = some (x, r') ∧ (match x with
      | .next es => (es.length = cnt ∧ HoldI U inv (es.map (E.ev U r')) ∧ 0 ≤ (mu.ev U (rOf (es.map (E.ev U r')))).toI ∧ (mu.ev U (rOf (es.map (E.ev U r')))).toI < (mu.ev U (rOf ds)).toI) ∧ ∀ c ∈ C, (nmOf es c).ev U r' = rOf ds c
      | .done k os => KeptAt U C outs ds k (os.map (E.ev U r'))
      | .stuck => False) := by
  simp only [roundK, Bool.and_eq_true, List.all_eq_true] at h
  obtain ⟨h1, h2, h3, h4⟩ := h
  obtain ⟨x, r', m', K', q1, q2, q3, q4, q5⟩ := chkT_ok h1 (headK_ok h4 hI)
  have hC : ∀ c ∈ C, c < 1000 := fun c hc => by have := h3 c hc; rwa [Nat.blt_eq] at this
  refine ⟨x, r', q1, ?_⟩
  simp only [Bool.and_eq_true, roundLeaf] at q5
  obtain ⟨q6, q7, q8⟩ := q5
  cases x with
  | stuck => simp [keepsT] at q7
  | done k os =>
    have hu : okA m' (.ret (.done k os) : Tree LRes) = true := rfl
    obtain ⟨l, a1, a2, a3⟩ := keepsT_ok hC q3 hu q7 (U := U) (r := r') (x := .done k os) (r' := r') rfl
    refine ⟨l, a1, by simp [a2], fun j o hj => ?_⟩
    have a4 := a3 j o hj
    cases o with
    | same c => exact ⟨a4.1, by rw [evs_rOf, a4.2]; exact q2 c (hC c a4.1)⟩
    | lit e => exact fun r => by rw [evs_rOf, a4.2]; exact E.ev_under U (m := 0) (fun n hn => by omega) a4.1
    | val _ => trivial
  | next es =>
    have hu : okA m' (.ret (.next es) : Tree LRes) = true := rfl
    have a1 := keepsT_ok hC q3 hu q7 (U := U) (r := r') (x := .next es) (r' := r') rfl
    dsimp only at q8 a1 ⊢
    simp only [Bool.and_eq_true] at q8
    obtain ⟨p1, p2, p3⟩ := q8
    split at p3
    · rename_i mu' hs
      rw [Bool.and_eq_true] at p3
      have k1 := decP_ok q4 (eq_of_beq p3.1)
      have k2 := decP_ok q4 (eq_of_beq p3.2)
      have k1 : (0 : Int) ≤ (mu'.ev U r').toI := of_decide_eq_true k1
      have k2 : (mu'.ev U r').toI < (mu.ev U r').toI := of_decide_eq_true k2
      have e := E.sub_ev (fills_rOf (U := U) (r := r') es) hs
      have e2 : mu.ev U r' = mu.ev U (rOf ds) := E.ev_under U q2 h2
      rw [e] at k1 k2
      rw [e2] at k2
      exact ⟨⟨Nat.eq_of_beq_eq_true p1, holdK_ok q4 p2, k1, k2⟩, fun c hc => by rw [a1 c hc]; exact q2 c (hC c hc)⟩
    · cases p3
theorem round_ends {C : List Nat} {outs : List (List OutW)} {cnt : Nat} {inv : List E} {mu : E} {T : Tree LRes} (h : roundK C outs cnt inv mu T = true) {ds : List D} (hI : HoldI U inv ds) : ∃ k os, LoopTo U inv T ds k os := by
  have key : ∀ (n : Nat) (ds : List D), HoldI U inv ds → (mu.ev U (rOf ds)).toI.toNat ≤ n → ∃ k os, LoopTo U inv T ds k os := by
    intro n
    induction n with
    | zero =>
      intro ds hI hn
      obtain ⟨x, r', k1, k3⟩ := round_at h hI
      cases x with
      | stuck => exact k3.elim
      | done k os => exact ⟨k, _, .done hI k1⟩
      | next es => obtain ⟨⟨_, _, q1, q2⟩, _⟩ := k3; omega
    | succ n ih =>
      intro ds hI hn
      obtain ⟨x, r', k1, k3⟩ := round_at h hI
      cases x with
      | stuck => exact k3.elim
      | done k os => exact ⟨k, _, .done hI k1⟩
      | next es =>
        obtain ⟨⟨q0, q1, q2, q3⟩, _⟩ := k3
        obtain ⟨k, os, hk⟩ := ih (es.map (E.ev U r')) q1 (by omega)
        exact ⟨k, os, .next hI k1 hk⟩
  exact key _ ds hI (Nat.le_refl _)
theorem round_keeps {C : List Nat} {outs : List (List OutW)} {cnt : Nat} {inv : List E} {mu : E} {T : Tree LRes} (h : roundK C outs cnt inv mu T = true) {ds : List D} {k : Nat} {os : List D} (hto : LoopTo U inv T ds k os) : KeptAt U C outs ds k os := by
  induction hto with
  | @done ds k es r' hI he =>
    obtain ⟨x, r2, q1, q2⟩ := round_at h hI
    rw [he] at q1
    cases q1
    exact q2
  | @next ds es r' k os hI he _ ih =>
    obtain ⟨x, r2, q1, q2⟩ := round_at h hI
    rw [he] at q1
    cases q1
    obtain ⟨l, h1, h2, h3⟩ := ih
    refine ⟨l, h1, h2, fun j o hj => ?_⟩
    have h4 := h3 j o hj
    cases o with
    | same c => exact ⟨h4.1, by rw [h4.2, evs_rOf]; exact q2.2 c h4.1⟩
    | lit e => exact h4
    | val _ => trivial

/-- A LOOP AS A WORD, sure by what is known. -/
theorem wordK_told {A : LoopT} {n : Nat} {outs : List (List OutW)} {C : List Nat} {mu : E} {T : Tree LRes} (hU : ∀ d, U n d = loopVal U A.inv T d) (hr : roundK C outs A.t.cnt A.inv mu T = true) (hown : outs.all (ownVals 0) = true) : Told U T (wordRun A n outs) := by
  intro r es hlen hI _ _
  obtain ⟨k, os, hto⟩ := round_ends hr (ds := es.map (E.ev U r)) hI
  obtain ⟨h1, h2⟩ := word_ev hU hto
  refine ⟨k, os, hto, h1, (fun _ hx => by cases hx), fun _ _ _ j => .of_eqv ?_⟩
  obtain ⟨l, q1, q2, q3⟩ := round_keeps hr hto
  show D.eqv (rOf os j) ((nmOf (resW n outs es k es) j).ev U r)
  rw [resW_get n outs es k es q1 j]
  cases hx : l[j]? with
  | none =>
    rw [rOf_none (by rw [← q2]; exact List.getElem?_eq_none_iff.1 hx)]
    exact D.eqv.refl _
  | some o =>
    have h4 := q3 j o hx
    cases o with
    | same c => dsimp only at h4 ⊢; rw [h4.2, evs_rOf]; exact D.eqv.refl _
    | lit e => dsimp only at h4 ⊢; rw [h4 r]; exact D.eqv.refl _
    | val i =>
      dsimp only
      rw [h2 i]
      have : i = j := by
        rw [List.all_eq_true] at hown
        have := ownVals_get (hown l (List.mem_of_getElem? q1)) hx
        omega
      rw [this]; exact D.eqv.refl _

/-! ### A check in pieces: one leaf at a time -/

def leavesN : Tree LRes → Nat
  | .ret _ => 1
  | .ite _ t e => leavesN t + leavesN e
  | .chk _ t => leavesN t
  | _ => 1
/-- Only the leaf of number 'i' is looked at. -/
def chkI (f : Nat → Ks → LRes → Bool) : Nat → Nat → Ks → Tree LRes → Bool
  | _, m, K, .ret x => f m K x
  | i, m, K, .ite c t e => c.under m && (if Nat.blt i (leavesN t) then (match decP K c with
      | some b => bif b then chkI f i m K t else true
      | none => noWay K c true || chkI f i m (K.learn (K.grow c true)) t)
    else (match decP K c with
      | some b => bif b then true else chkI f (i - leavesN t) m K e
      | none => noWay K c false || chkI f (i - leavesN t) m (K.learn (K.grow c false)) e))
  | i, m, K, .chk (.o2 .fsame (.v j) e) t => Nat.ble m j && (e.under m && chkI f i (j + 1) (K.name j e) t)
  | _, _, _, _ => false
theorem leavesN_pos : ∀ {t : Tree LRes}, 0 < leavesN t := by
  intro t
  induction t with
  | ret x => exact Nat.one_pos
  | ite c t e iht _ => simp only [leavesN]; omega
  | chk c t ih => exact ih
  | all i t _ => exact Nat.one_pos
  | asm c t _ => exact Nat.one_pos
  | bad => exact Nat.one_pos
theorem chkI_join {f : Nat → Ks → LRes → Bool} : ∀ {t : Tree LRes} {m : Nat} {K : Ks}, (∀ i, i < leavesN t → chkI f i m K t = true) → chkT f m K t = true := by
  intro t
  induction t with
  | ret x => intro m K h; exact h 0 Nat.one_pos
  | ite c t e iht ihe =>
    intro m K h
    have hp := leavesN_pos (t := t)
    have hq := leavesN_pos (t := e)
    have h0 := h 0 (by simp only [leavesN]; omega)
    unfold chkI at h0
    rw [Bool.and_eq_true] at h0
    unfold chkT
    rw [Bool.and_eq_true]
    refine ⟨h0.1, ?_⟩
    have ht : ∀ i, i < leavesN t → (match decP K c with
      | some b => bif b then chkI f i m K t else true
      | none => noWay K c true || chkI f i m (K.learn (K.grow c true)) t) = true := by
      intro i hi
      have h1 := h i (by simp only [leavesN]; omega)
      unfold chkI at h1
      rw [Bool.and_eq_true, if_pos (by rw [Nat.blt_eq]; exact hi)] at h1
      exact h1.2
    have he : ∀ i, i < leavesN e → (match decP K c with
      | some b => bif b then true else chkI f i m K e
      | none => noWay K c false || chkI f i m (K.learn (K.grow c false)) e) = true := by
      intro i hi
      have h1 := h (leavesN t + i) (by simp only [leavesN]; omega)
      unfold chkI at h1
      rw [Bool.and_eq_true, if_neg (by rw [Nat.blt_eq]; omega), Nat.add_sub_cancel_left] at h1
      exact h1.2
    cases ha : decP K c with
    | some b =>
      rw [ha] at ht he
      cases b with
      | true => exact iht ht
      | false => exact ihe he
    | none =>
      rw [ha] at ht he
      dsimp only at ht he ⊢
      rw [Bool.and_eq_true]
      refine ⟨?_, ?_⟩
      · cases hn : noWay K c true with
        | true => rfl
        | false =>
          rw [Bool.false_or]
          exact iht fun i hi => by have := ht i hi; rwa [hn, Bool.false_or] at this
      · cases hn : noWay K c false with
        | true => rfl
        | false =>
          rw [Bool.false_or]
          exact ihe fun i hi => by have := he i hi; rwa [hn, Bool.false_or] at this
  | chk c t ih =>
    intro m K h
    have h0 := h 0 leavesN_pos
    unfold chkI at h0
    split at h0
    · cases ‹Tree.chk c t = _›
    · cases ‹Tree.chk c t = _›
    · rename_i _ _ _ _ j d t' heq
      cases heq
      rw [Bool.and_eq_true, Bool.and_eq_true] at h0
      unfold chkT
      rw [Bool.and_eq_true, Bool.and_eq_true]
      refine ⟨h0.1, h0.2.1, ih fun i hi => ?_⟩
      have h1 := h i hi
      simp only [chkI, Bool.and_eq_true] at h1
      exact h1.2.2
    · cases h0
  | all i t _ => intro m K h; exact absurd (h 0 Nat.one_pos) (by simp [chkI])
  | asm c t _ => intro m K h; exact absurd (h 0 Nat.one_pos) (by simp [chkI])
  | bad => intro m K h; exact absurd (h 0 Nat.one_pos) (by simp [chkI])

/-- What 'simOkK' asks of one leaf. -/
def simI (inv2 rho : List E) (outs : List (List OutW)) (T1 T2 : Tree LRes) (i : Nat) : Bool :=
  chkI (fun n K x2 => underR n x2 && simK1 (simLeafK rho outs x2) n K (numbered 0 rho) T1) i 1000 (headK inv2) T2
/-- And what it asks besides. -/
def simB (inv1 inv2 rho : List E) : Bool := (inv1.all fun e => match e.sub (numbered 0 rho) with
    | some e' => decP (headK inv2) e' == some true
    | none => false) && ((rho.all fun e => e.under 1000) && inv2.all fun e => e.under 1000)
theorem simI_join {inv1 inv2 rho : List E} {outs : List (List OutW)} {T1 T2 : Tree LRes} (hb : simB inv1 inv2 rho = true) (h : ∀ i, i < leavesN T2 → simI inv2 rho outs T1 T2 i = true) : simOkK inv1 inv2 rho outs T1 T2 = true := by
  unfold simOkK
  rw [Bool.and_eq_true]
  exact ⟨chkI_join h, hb⟩

/-- A LOOP AS ANOTHER ONE'S WORD. -/
theorem simK_told {A : LoopT} {n : Nat} {rho inv1 : List E} {outs : List (List OutW)} {C : List Nat} {mu : E} {T1 T2 : Tree LRes} (hU : ∀ d, U n d = loopVal U inv1 T1 d) (hr : roundK C outs A.t.cnt A.inv mu T2 = true)
    (hs : simOkK inv1 A.inv rho outs T1 T2 = true) (hrho : (rho.all fun e => e.under A.t.cnt) = true) : Told U T2 (simRun A n rho outs) := by
  intro r es hlen hI _ _
  obtain ⟨k, os, hto⟩ := round_ends hr (ds := es.map (E.ev U r)) hI
  obtain ⟨os1, hto1, hval⟩ := simK_loop hs hto
  obtain ⟨ws, hws⟩ := subAll_total (es := es) (l := rho) (by rw [hlen]; exact hrho)
  have hat : rhoAt rho es = ws := by unfold rhoAt; rw [hws]; rfl
  have hev : ws.map (E.ev U r) = rho.map (E.ev U (rOf (es.map (E.ev U r)))) := subAll_ev (fills_rOf es) hws
  rw [← hev] at hto1
  obtain ⟨h1, h2⟩ := word_ev hU hto1
  refine ⟨k, os, hto, by show ((tagW n (rhoAt rho es)).ev U r).toI = k; rw [hat]; exact h1, (fun _ hx => by cases hx), fun _ _ _ j => .of_eqv ?_⟩
  obtain ⟨l, q1, q2, q3⟩ := round_keeps hr hto
  show D.eqv (rOf os j) ((nmOf (resW n outs (rhoAt rho es) k es) j).ev U r)
  rw [hat, resW_get n outs ws k es q1 j]
  cases hx : l[j]? with
  | none =>
    rw [rOf_none (by rw [← q2]; exact List.getElem?_eq_none_iff.1 hx)]
    exact D.eqv.refl _
  | some o =>
    have h4 := q3 j o hx
    cases o with
    | same c => dsimp only at h4 ⊢; rw [h4.2, evs_rOf]; exact D.eqv.refl _
    | lit e => dsimp only at h4 ⊢; rw [h4 r]; exact D.eqv.refl _
    | val i =>
      dsimp only
      rw [h2 i, hval l q1 j i hx]; exact D.eqv.refl _
end
end Go.Sx
