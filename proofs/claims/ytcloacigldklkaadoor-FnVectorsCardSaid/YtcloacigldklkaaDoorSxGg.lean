/-
  Sx, parts Zk, Zl.
-/
import Derived.Test.YtcloacigldklkaaDoorSxGf
/-
  Sx, part Zk: functions taken as one word: what they answer is what one tree answers.
-/
namespace Go.Sx
open Ieee
open E (mk1 mk2 mkIte mk1_ev mk2_ev mkIte_ev)

/-! ### A tree reckoned -/

/-- The leaf of a tree, its names let in. -/
def evT (U : Nat → D → D) : Tree SV → (Nat → D) → Option (SV × (Nat → D))
  | .ret s, r => some (s, r)
  | .ite c t e, r => if (c.ev U r).toB then evT U t r else evT U e r
  | .chk c t, r => match c with
    | .o2 .fsame (.v i) e => evT U t (Tree.upd r i (e.ev U r))
    | _ => none
  | _, _ => none

/-- No table is asked. -/
def E.noApp : E → Bool
  | .app _ _ => false
  | .o1 _ x => x.noApp
  | .o2 _ x y => x.noApp && y.noApp
  | .o3 _ x y z => x.noApp && (y.noApp && z.noApp)
  | _ => true

/-- The names and tests of a tree are over older variables, and no table is asked. -/
def okT (out : SV → Option (List E)) : Nat → Tree SV → Bool
  | _, .ret s => match out s with
    | some es => es.all fun e => e.noApp
    | none => false
  | m, .ite c t e => c.under m && (c.noApp && (okT out m t && okT out m e))
  | m, .chk (.o2 .fsame (.v i) e) t => Nat.ble m i && (e.under m && (e.noApp && okT out (i + 1) t))
  | _, .bad => true
  | _, _ => false

section
variable {U U' : Nat → D → D} {r : Nat → D} {w : World} {Q : Value → World → Prop}

theorem E.ev_noApp {e : E} (h : e.noApp = true) : e.ev U r = e.ev U' r := by
  induction e with
  | v n => rfl
  | b x => rfl
  | i x => rfl
  | f x => rfl
  | s x => rfl
  | o1 o x ih => simp only [E.noApp] at h; simp only [E.ev, ih h]
  | o2 o x y ihx ihy => simp only [E.noApp, Bool.and_eq_true] at h; simp only [E.ev, ihx h.1, ihy h.2]
  | o3 o x y z ihx ihy ihz => simp only [E.noApp, Bool.and_eq_true] at h; simp only [E.ev, ihx h.1, ihy h.2.1, ihz h.2.2]
  | app n x ih => simp [E.noApp] at h

theorem evT_noApp {out : SV → Option (List E)} : ∀ {t : Tree SV} {m : Nat} {r : Nat → D}, okT out m t = true → evT U t r = evT U' t r := by
  intro t
  induction t with
  | ret x => intro m r _; rfl
  | ite c t e iht ihe =>
    intro m r h
    simp only [okT, Bool.and_eq_true] at h
    simp only [evT]
    rw [E.ev_noApp (U := U) (U' := U') h.2.1, iht h.2.2.1, ihe h.2.2.2]
  | chk c t ih =>
    intro m r h
    unfold okT at h
    split at h
    · rename_i h'; cases h'
    · rename_i h'; cases h'
    · rename_i i e t' h'
      cases h'
      simp only [Bool.and_eq_true] at h
      simp only [evT]
      rw [E.ev_noApp (U := U) (U' := U') h.2.2.1, ih h.2.2.2]
    · rename_i h'; cases h'
    · cases h
  | all i t ih => intro m r h; simp [okT] at h
  | asm e t ih => intro m r h; simp [okT] at h
  | bad => intro m r h; rfl

theorem evT_words {out : SV → Option (List E)} : ∀ {t : Tree SV} {m : Nat} {r : Nat → D} {s : SV} {r' : Nat → D} {es : List E}, okT out m t = true → evT U t r = some (s, r') → out s = some es → ∀ e ∈ es, e.noApp = true := by
  intro t
  induction t with
  | ret x =>
    intro m r s r' es h he ho
    simp only [evT, Option.some.injEq, Prod.mk.injEq] at he
    obtain ⟨rfl, rfl⟩ := he
    simp only [okT, ho, List.all_eq_true] at h
    exact h
  | ite c t e iht ihe =>
    intro m r s r' es h he ho
    simp only [okT, Bool.and_eq_true] at h
    simp only [evT] at he
    split at he
    · exact iht h.2.2.1 he ho
    · exact ihe h.2.2.2 he ho
  | chk c t ih =>
    intro m r s r' es h he ho
    unfold okT at h
    split at h
    · rename_i h'; cases h'
    · rename_i h'; cases h'
    · rename_i i e t' h'
      cases h'
      simp only [Bool.and_eq_true] at h
      simp only [evT] at he
      exact ih h.2.2.2 he ho
    · rename_i h'; cases h'
    · cases h
  | all i t ih => intro m r s r' es h; simp [okT] at h
  | asm e t ih => intro m r s r' es h; simp [okT] at h
  | bad => intro m r s r' es h he; cases he

/-- A tree that is reckoned says what its leaf says. -/
theorem evT_lets {out : SV → Option (List E)} : ∀ {t : Tree SV} {m : Nat} {r : Nat → D} {s : SV} {r' : Nat → D}, okT out m t = true → evT U t r = some (s, r') → (∀ g' L' v w', Frm (fun _ => False) w w' → s.den U r' g' L' v → Q v w') → Lets U Q w m r t := by
  intro t
  induction t with
  | ret x =>
    intro m r s r' _ h hQ
    simp only [evT, Option.some.injEq, Prod.mk.injEq] at h
    obtain ⟨rfl, rfl⟩ := h
    exact hQ
  | ite c t e iht ihe =>
    intro m r s r' h he hQ
    simp only [okT, Bool.and_eq_true] at h
    simp only [evT] at he
    refine ⟨h.1, fun hc => ?_, fun hc => ?_⟩
    · rw [if_pos hc] at he; exact iht h.2.2.1 he hQ
    · rw [if_neg (by rw [hc]; decide)] at he; exact ihe h.2.2.2 he hQ
  | chk c t ih =>
    intro m r s r' h he hQ
    unfold okT at h
    split at h
    · rename_i h'; cases h'
    · rename_i h'; cases h'
    · rename_i i e t' h'
      cases h'
      simp only [Bool.and_eq_true] at h
      simp only [evT] at he
      exact ⟨i, e, rfl, Nat.le_of_ble_eq_true h.1, h.2.1, ih h.2.2.2 he hQ⟩
    · rename_i h'; cases h'
    · cases h
  | all i t ih => intro m r s r' h; simp [okT] at h
  | asm e t ih => intro m r s r' h; simp [okT] at h
  | bad => intro m r s r' h he; cases he

/-! ### What is known, at a leaf -/

/-- Every way that can be ends in a leaf of which 'ok' is true. -/
def allI (ok : Nat → Ks → SV → Bool) : Nat → Ks → Tree SV → Bool
  | m, K, .ret x => ok m K x
  | m, K, .ite c t e => c.under m && (match K.ask (normP K.env c).1 with
      | some b => bif b == (normP K.env c).2 then allI ok m K t else allI ok m K e
      | none => (against (implied K.env (normP K.env c).1 (normP K.env c).2) K.cs || allI ok m (K.learn (implied K.env (normP K.env c).1 (normP K.env c).2)) t) &&
        (against (implied K.env (normP K.env c).1 (!(normP K.env c).2)) K.cs || allI ok m (K.learn (implied K.env (normP K.env c).1 (!(normP K.env c).2))) e))
  | m, K, .chk (.o2 .fsame (.v i) e) t => Nat.ble m i && (e.under m && allI ok (i + 1) (K.name i e) t)
  | _, _, _ => false

theorem allI_chk {ok : Nat → Ks → SV → Bool} {m : Nat} {K : Ks} {c : E} {t : Tree SV} (h : allI ok m K (.chk c t) = true) : ∃ i e, c = .o2 .fsame (.v i) e ∧ m ≤ i ∧ e.under m = true ∧ allI ok (i + 1) (K.name i e) t = true := by
  unfold allI at h
  split at h
  · rename_i h'; cases h'
  · rename_i h'; cases h'
  · rename_i i e t' h'
    cases h'
    rw [Bool.and_eq_true, Bool.and_eq_true] at h
    exact ⟨i, e, rfl, Nat.le_of_ble_eq_true h.1, h.2.1, h.2.2⟩
  · cases h

theorem allI_ev {ok : Nat → Ks → SV → Bool} : ∀ {t : Tree SV} {m : Nat} {K : Ks} {r : Nat → D}, allI ok m K t = true → KsOk U r m K →
    ∃ s r' m' K', evT U t r = some (s, r') ∧ m ≤ m' ∧ KsOk U r' m' K' ∧ ok m' K' s = true ∧ ∀ n, n < m → r' n = r n := by
  intro t
  induction t with
  | ret x => intro m K r h hK; exact ⟨x, r, m, K, rfl, Nat.le_refl _, hK, h, fun _ _ => rfl⟩
  | ite c t e iht ihe =>
    intro m K r h hK
    unfold allI at h
    rw [Bool.and_eq_true] at h
    obtain ⟨hc, h⟩ := h
    have hn := normP_ok hK.env c
    have hnu := normP_under hK.envU hc
    generalize hx0 : normP K.env c = xs at h hn hnu
    obtain ⟨x, s⟩ := xs
    dsimp only at h hn hnu
    simp only [evT]
    cases ha : K.ask x with
    | some b =>
      rw [ha] at h
      dsimp only at h
      have hb := ask_ok hK ha
      rw [hb] at hn
      rw [hn]
      cases hbs : b == s with
      | true => rw [hbs] at h; rw [if_pos rfl]; exact iht h hK
      | false => rw [hbs] at h; rw [if_neg (by decide)]; exact ihe h hK
    | none =>
      rw [ha] at h
      dsimp only at h
      simp only [Bool.and_eq_true, Bool.or_eq_true] at h
      cases hb : (c.ev U r).toB with
      | true =>
        rw [if_pos rfl]
        have hx : (x.ev U r).toB = s := by rw [hn] at hb; simpa using hb
        have hi := implied_ok hK hx
        rcases h.1 with h1 | h1
        · exact (against_ok hK hi h1).elim
        · exact iht h1 (learn_ok hK hi (implied_under hK hnu))
      | false =>
        rw [if_neg (by decide)]
        have hx : (x.ev U r).toB = !s := by
          rw [hn] at hb
          cases h1 : (x.ev U r).toB <;> cases s <;> rw [h1] at hb <;> first | rfl | cases hb
        have hi := implied_ok hK hx
        rcases h.2 with h1 | h1
        · exact (against_ok hK hi h1).elim
        · exact ihe h1 (learn_ok hK hi (implied_under hK hnu))
  | chk c t ih =>
    intro m K r h hK
    obtain ⟨i, e, rfl, hm, hu, h⟩ := allI_chk h
    obtain ⟨s, r', m', K', h1, h2, h3, h4, h5⟩ := ih h (name_ok hK hm hu)
    refine ⟨s, r', m', K', h1, by omega, h3, h4, fun n hn => ?_⟩
    rw [h5 n (by omega), upd_low (by omega)]
  | all i t ih => intro m K r h; simp [allI] at h
  | asm e t ih => intro m K r h; simp [allI] at h
  | bad => intro m K r h; simp [allI] at h

/-! ### Two trees, one answer -/

/-- The name of an expression, among what is known. -/
def nameOf (e : E) : List (Nat × E) → Option Nat
  | [] => none
  | (i, x) :: l => if x.same e then some i else nameOf e l

theorem nameOf_ok {e : E} {i : Nat} : ∀ {env : List (Nat × E)}, EnvOk U r env → nameOf e env = some i → r i = e.ev U r := by
  intro env
  induction env with
  | nil => intro _ h; cases h
  | cons p l ih =>
    obtain ⟨j, x⟩ := p
    intro he h
    unfold nameOf at h
    split at h
    · rename_i hs
      cases h
      rw [← E.same_eq hs]
      exact he (i, x) (List.mem_cons_self ..)
    · exact ih (fun q hq => he q (List.mem_cons_of_mem _ hq)) h

/-- A second tree, read at the end of a first: its leaf's words are the given ones. -/
def walk2 (out : SV → Option (List E)) (xs : List E) : Nat → Ks → List (Nat × E) → Tree SV → Bool
  | _, _, σ, .ret y => match out y with
    | some ys => (ys.length == xs.length) && (ys.zip xs).all fun p => match p.1.sub σ with
      | some y' => y'.same p.2
      | none => false
    | none => false
  | m, K, σ, .ite c0 t e => match c0.sub σ with
    | none => false
    | some c => c.under m && (match K.ask (normP K.env c).1 with
      | some b => bif b == (normP K.env c).2 then walk2 out xs m K σ t else walk2 out xs m K σ e
      | none => (against (implied K.env (normP K.env c).1 (normP K.env c).2) K.cs || walk2 out xs m (K.learn (implied K.env (normP K.env c).1 (normP K.env c).2)) σ t) &&
        (against (implied K.env (normP K.env c).1 (!(normP K.env c).2)) K.cs || walk2 out xs m (K.learn (implied K.env (normP K.env c).1 (!(normP K.env c).2))) σ e))
  | m, K, σ, .chk (.o2 .fsame (.v i) e0) t => match e0.sub σ with
    | none => false
    | some e => e.under m && (if atomE e then walk2 out xs m K ((i, e) :: σ) t
      else match nameOf e K.env with
        | some j => walk2 out xs m K ((i, .v j) :: σ) t
        | none => walk2 out xs (m + 1) (K.name m e) ((i, .v m) :: σ) t)
  | _, _, _, _ => false

theorem nameOf_mem {e : E} {i : Nat} : ∀ {env : List (Nat × E)}, nameOf e env = some i → ∃ x, (i, x) ∈ env := by
  intro env
  induction env with
  | nil => intro h; cases h
  | cons p l ih =>
    obtain ⟨j, x⟩ := p
    intro h
    unfold nameOf at h
    split at h
    · cases h; exact ⟨x, List.mem_cons_self ..⟩
    · obtain ⟨y, hy⟩ := ih h; exact ⟨y, List.mem_cons_of_mem _ hy⟩

theorem fills_cons {r r2 : Nat → D} {σ : List (Nat × E)} (hf : Fills U r r2 σ) {i : Nat} {e : E} {d : D} (hd : d = e.ev U r) : Fills U r (Tree.upd r2 i d) ((i, e) :: σ) := by
  intro n x h
  unfold lkM at h
  unfold Tree.upd
  cases hb : Nat.beq i n with
  | true =>
    rw [hb] at h
    simp only [cond_true, Option.some.injEq] at h
    rw [if_pos (Nat.eq_of_beq_eq_true hb).symm, hd, h]
  | false =>
    rw [hb] at h
    have : n ≠ i := fun e => by rw [e, Nat.beq_refl] at hb; cases hb
    rw [if_neg this]
    exact hf n x h

theorem zip_same {r r2 : Nat → D} {σ : List (Nat × E)} (hf : Fills U r r2 σ) : ∀ {ys xs : List E}, ys.length = xs.length → ((ys.zip xs).all fun p => match p.1.sub σ with
      | some y' => y'.same p.2
      | none => false) = true → ys.map (·.ev U r2) = xs.map (·.ev U r) := by
  intro ys
  induction ys with
  | nil => intro xs h _; cases xs with
    | nil => rfl
    | cons a b => simp at h
  | cons y ys ih =>
    intro xs h ha
    cases xs with
    | nil => simp at h
    | cons x xs =>
      simp only [List.zip_cons_cons, List.all_cons, Bool.and_eq_true] at ha
      simp only [List.map_cons]
      rw [ih (by simpa using h) ha.2]
      congr 1
      have h1 := ha.1
      split at h1
      · rename_i y' hy
        rw [← E.sub_ev hf hy, E.same_eq h1]
      · cases h1

theorem walk2_chk {out : SV → Option (List E)} {xs : List E} {m : Nat} {K : Ks} {σ : List (Nat × E)} {c : E} {t : Tree SV} (h : walk2 out xs m K σ (.chk c t) = true) :
    ∃ i e0 e, c = .o2 .fsame (.v i) e0 ∧ e0.sub σ = some e ∧ e.under m = true ∧ (if atomE e then walk2 out xs m K ((i, e) :: σ) t
      else match nameOf e K.env with
        | some j => walk2 out xs m K ((i, .v j) :: σ) t
        | none => walk2 out xs (m + 1) (K.name m e) ((i, .v m) :: σ) t) = true := by
  unfold walk2 at h
  split at h
  · rename_i h'; cases h'
  · rename_i h'; cases h'
  · rename_i i e0 t' h'
    cases h'
    split at h
    · cases h
    · rename_i e he
      rw [Bool.and_eq_true] at h
      exact ⟨i, e0, e, rfl, he, h.1, h.2⟩
  · cases h

theorem walk2_ok {out : SV → Option (List E)} {xs : List E} : ∀ {t : Tree SV} {m : Nat} {K : Ks} {σ : List (Nat × E)} {r r2 : Nat → D}, walk2 out xs m K σ t = true → KsOk U r m K → Fills U r r2 σ → (∀ p ∈ σ, p.2.under m = true) →
    (∀ x ∈ xs, x.under m = true) → ∃ y r2' ys, evT U t r2 = some (y, r2') ∧ out y = some ys ∧ ys.map (·.ev U r2') = xs.map (·.ev U r) := by
  intro t
  induction t with
  | ret y =>
    intro m K σ r r2 h hK hf _ _
    unfold walk2 at h
    split at h
    · rename_i ys hy
      rw [Bool.and_eq_true] at h
      exact ⟨y, r2, ys, rfl, hy, zip_same hf (by simpa using h.1) h.2⟩
    · cases h
  | ite c0 t e iht ihe =>
    intro m K σ r r2 h hK hf hσ hx
    unfold walk2 at h
    cases hc0 : c0.sub σ with
    | none => rw [hc0] at h; cases h
    | some c =>
      rw [hc0] at h
      dsimp only at h
      rw [Bool.and_eq_true] at h
      obtain ⟨hc, h⟩ := h
      have hcc := E.sub_ev hf hc0
      have hn := normP_ok hK.env c
      have hnu := normP_under hK.envU hc
      generalize hx0 : normP K.env c = ps at h hn hnu
      obtain ⟨x, s⟩ := ps
      dsimp only at h hn hnu
      simp only [evT]
      rw [← hcc]
      cases ha : K.ask x with
      | some b =>
        rw [ha] at h
        dsimp only at h
        have hb := ask_ok hK ha
        rw [hb] at hn
        rw [hn]
        cases hbs : b == s with
        | true => rw [hbs] at h; rw [if_pos rfl]; exact iht h hK hf hσ hx
        | false => rw [hbs] at h; rw [if_neg (by decide)]; exact ihe h hK hf hσ hx
      | none =>
        rw [ha] at h
        dsimp only at h
        simp only [Bool.and_eq_true, Bool.or_eq_true] at h
        cases hb : (c.ev U r).toB with
        | true =>
          rw [if_pos rfl]
          have hx' : (x.ev U r).toB = s := by rw [hn] at hb; simpa using hb
          have hi := implied_ok hK hx'
          rcases h.1 with h1 | h1
          · exact (against_ok hK hi h1).elim
          · exact iht h1 (learn_ok hK hi (implied_under hK hnu)) hf hσ hx
        | false =>
          rw [if_neg (by decide)]
          have hx' : (x.ev U r).toB = !s := by
            rw [hn] at hb
            cases h1 : (x.ev U r).toB <;> cases s <;> rw [h1] at hb <;> first | rfl | cases hb
          have hi := implied_ok hK hx'
          rcases h.2 with h1 | h1
          · exact (against_ok hK hi h1).elim
          · exact ihe h1 (learn_ok hK hi (implied_under hK hnu)) hf hσ hx
  | chk c t ih =>
    intro m K σ r r2 h hK hf hσ hx
    obtain ⟨i, e0, e, rfl, he0, hu, h⟩ := walk2_chk h
    have hee := E.sub_ev hf he0
    simp only [evT]
    split at h
    · refine ih h hK (fills_cons hf hee.symm) (fun p hp => ?_) hx
      rcases List.mem_cons.1 hp with rfl | hp
      · exact hu
      · exact hσ p hp
    · split at h
      · rename_i j hj
        have hj' : r j = e.ev U r := nameOf_ok hK.env hj
        refine ih h hK (fills_cons hf (by rw [← hee]; exact hj'.symm)) (fun p hp => ?_) hx
        rcases List.mem_cons.1 hp with rfl | hp
        · obtain ⟨x, hx⟩ := nameOf_mem hj
          simpa [E.under] using (hK.envU _ hx).1
        · exact hσ p hp
      · have hK' := name_ok hK (Nat.le_refl m) hu
        have hm : Tree.upd r m (e.ev U r) m = e.ev U r := by unfold Tree.upd; rw [if_pos rfl]
        have hf' : Fills U (Tree.upd r m (e.ev U r)) (Tree.upd r2 i (e0.ev U r2)) ((i, .v m) :: σ) := by
          refine fills_cons (fun n x hn => ?_) (by rw [← hee]; exact hm.symm)
          rw [upd_under (Nat.le_refl m) (hσ (n, x) (lkM_mem hn))]
          exact hf n x hn
        obtain ⟨y, r2', ys, h1, h2, h3⟩ := ih h hK' hf' (fun p hp => by
          rcases List.mem_cons.1 hp with rfl | hp
          · simp [E.under]
          · exact under_mono (Nat.le_succ m) (hσ p hp)) (fun x hx' => under_mono (Nat.le_succ m) (hx x hx'))
        refine ⟨y, r2', ys, h1, h2, h3.trans ?_⟩
        exact List.map_congr_left fun x hx' => upd_under (Nat.le_refl m) (hx x hx')
  | all i t ih => intro m K σ r r2 h; simp [walk2] at h
  | asm e t ih => intro m K σ r r2 h; simp [walk2] at h
  | bad => intro m K σ r r2 h; simp [walk2] at h

/-! ### What is answered, in a row of words -/

inductive Rp where
  | one (p : Pt)
  | tup (ps : List Pt)

def Rp.out : Rp → SV → Option (List E)
  | .one p, s => ptE [p] [s]
  | .tup ps, .tup vs => ptE ps vs
  | _, _ => none

def skMk : List Sk → List E → List SV
  | k :: ks, e :: es => skSV k e :: skMk ks es
  | _, _ => []

def ptMk : List Pt → List E → List SV
  | [], _ => []
  | .one k :: l, e :: es => skSV k e :: ptMk l es
  | .ag ks :: l, es => .agg (skMk ks es) :: ptMk l (es.drop ks.length)
  | .one _ :: _, [] => [.any]

def Rp.back : Rp → List E → SV
  | .one p, es => (ptMk [p] es).headD .any
  | .tup ps, es => .tup (ptMk ps es)

def Rp.pts : Rp → List Pt
  | .one p => [p]
  | .tup ps => ps

theorem skMk_den {g g' : Gh} {L L' : Nat → Prop} {r ρ : Nat → D} : ∀ {ks : List Sk} {es : List E} {vs : List Value} {i : Nat}, SV.denL U' ρ g L (skGo i ks) vs → ks.length ≤ es.length → (∀ j (e : E), es[j]? = some e → e.ev U r = ρ (i + j)) →
    SV.denL U r g' L' (skMk ks es) vs := by
  intro ks
  induction ks with
  | nil => intro es vs i h _ _; cases vs <;> simp_all [skGo, SV.denL, skMk]
  | cons k ks ih =>
    intro es vs i h hl he
    cases es with
    | nil => simp at hl
    | cons e es =>
      cases vs with
      | nil => simp [skGo, SV.denL] at h
      | cons v vs =>
        simp only [skGo, SV.denL] at h
        simp only [skMk, SV.denL]
        refine ⟨?_, ih h.2 (by simpa using hl) fun j x hx => by have := he (j + 1) x (by simpa using hx); rw [this]; congr 1; omega⟩
        have h0 := he 0 e rfl
        have h1 := h.1
        cases k <;> simp only [skSV, SV.den, E.ev, h0] at h1 ⊢ <;> exact h1

def ptCount : List Pt → Nat
  | [] => 0
  | .one _ :: l => ptCount l + 1
  | .ag ks :: l => ks.length + ptCount l

theorem ptMk_den {g g' : Gh} {L L' : Nat → Prop} {r ρ : Nat → D} : ∀ {ps : List Pt} {es : List E} {vs : List Value} {i : Nat}, SV.denL U' ρ g L (ptGo i ps) vs → ptCount ps ≤ es.length → (∀ j (e : E), es[j]? = some e → e.ev U r = ρ (i + j)) →
    SV.denL U r g' L' (ptMk ps es) vs := by
  intro ps
  induction ps with
  | nil => intro es vs i h _ _; cases vs <;> simp_all [ptGo, SV.denL, ptMk]
  | cons p ps ih =>
    intro es vs i h hl he
    cases p with
    | one k =>
      cases es with
      | nil => simp [ptCount] at hl
      | cons e es =>
        cases vs with
        | nil => simp [ptGo, SV.denL] at h
        | cons v vs =>
          simp only [ptGo, SV.denL] at h
          simp only [ptMk, SV.denL]
          refine ⟨?_, ih h.2 (by simp [ptCount] at hl; omega) fun j x hx => by have := he (j + 1) x (by simpa using hx); rw [this]; congr 1; omega⟩
          have h0 := he 0 e rfl
          have h1 := h.1
          cases k <;> simp only [skSV, SV.den, E.ev, h0] at h1 ⊢ <;> exact h1
    | ag ks =>
      cases vs with
      | nil => simp [ptGo, SV.denL] at h
      | cons v vs =>
        simp only [ptGo, SV.denL, SV.den] at h
        obtain ⟨⟨ys, hv, h1⟩, h2⟩ := h
        have hm : ptMk (.ag ks :: ps) es = .agg (skMk ks es) :: ptMk ps (es.drop ks.length) := by cases es <;> rfl
        rw [hm]
        simp only [SV.denL, SV.den]
        refine ⟨⟨ys, hv, skMk_den h1 (by simp [ptCount] at hl; omega) he⟩, ih h2 (by simp [ptCount] at hl ⊢; omega) fun j x hx => ?_⟩
        have := he (ks.length + j) x (by rw [List.getElem?_drop] at hx; exact hx)
        rw [this]; congr 1; omega

/-! ### Rows as one word -/

def tupE : List E → E
  | [] => .b false
  | [e] => e
  | e :: l => .o2 .pair e (tupE l)

def tupD : List D → D
  | [] => .b false
  | [d] => d
  | d :: l => .p d (tupD l)

def unT : Nat → D → List D
  | 0, _ => []
  | 1, d => [d]
  | n + 2, d => d.fst :: unT (n + 1) d.snd

def projs : Nat → E → List E
  | 0, _ => []
  | 1, e => [e]
  | n + 2, e => mk1 .fst e :: projs (n + 1) (mk1 .snd e)

theorem tupE_ev {r : Nat → D} : ∀ {l : List E}, (tupE l).ev U r = tupD (l.map (·.ev U r)) := by
  intro l
  induction l with
  | nil => rfl
  | cons e l ih =>
    cases l with
    | nil => rfl
    | cons e' l => simp only [tupE, List.map_cons, tupD, E.ev, O2.ev]; rw [ih]; rfl

theorem unT_tup : ∀ {l : List D}, unT l.length (tupD l) = l := by
  intro l
  induction l with
  | nil => rfl
  | cons d l ih =>
    cases l with
    | nil => rfl
    | cons d' l => simp only [List.length_cons, unT, tupD, D.fst, D.snd]; simp only [List.length_cons] at ih; rw [ih]

theorem projs_ev {r : Nat → D} : ∀ {n : Nat} {e : E}, (projs n e).map (·.ev U r) = unT n (e.ev U r) := by
  intro n
  induction n with
  | zero => intro e; rfl
  | succ n ih =>
    intro e
    cases n with
    | zero => rfl
    | succ n => simp only [projs, List.map_cons, unT, mk1_ev, O1.ev]; rw [ih, mk1_ev]; rfl

theorem projs_length {n : Nat} : ∀ {e : E}, (projs n e).length = n := by
  induction n with
  | zero => intro e; rfl
  | succ n ih =>
    intro e
    cases n with
    | zero => rfl
    | succ n => simp only [projs, List.length_cons, ih]

/-- What a tree answers, as one word. -/
def opVal (T : Tree SV) (n : Nat) (rp : Rp) (d : D) : D :=
  match evT (fun _ d => d) T (valOf (unT n d) 0) with
  | some (s, r') => match rp.out s with
    | some es => tupD (es.map (·.ev (fun _ d => d) r'))
    | none => .b false
  | none => .b false

/-- A call as one word. -/
def opRun (n : Nat) (ps : List Pt) (rp : Rp) (args : List SV) (c : Cx) : Tree (SV × Cx) :=
  match ptE ps args with
  | some es => .ret (rp.back (projs (ptCount rp.pts) (.app n (tupE es))), c)
  | none => .bad

end
end Go.Sx

/-
  Sx, part Zl: a contract that takes a function as one word.
-/
namespace Go.Sx
open Ieee
open E (mk1 mk2 mkIte mk1_ev mk2_ev mkIte_ev)

def idGo : Nat → Nat → List (Nat × E)
  | _, 0 => []
  | i, n + 1 => (i, .v i) :: idGo (i + 1) n

theorem idGo_look : ∀ {n i k : Nat} {e : E}, lkM k (idGo i n) = some e → e = .v k ∧ k < i + n := by
  intro n
  induction n with
  | zero => intro i k e h; cases h
  | succ n ih =>
    intro i k e h
    unfold idGo lkM at h
    cases hb : Nat.beq i k with
    | true =>
      rw [hb] at h
      simp only [cond_true, Option.some.injEq] at h
      have := Nat.eq_of_beq_eq_true hb
      subst this
      exact ⟨h.symm, by omega⟩
    | false =>
      rw [hb] at h
      have := ih h
      exact ⟨this.1, by omega⟩

/-- At each leaf of the first tree the second answers the same. -/
def opLeaf (ps : List Pt) (rp : Rp) (T2 : Tree SV) (m : Nat) (K : Ks) (s : SV) : Bool :=
  match rp.out s with
  | some xs => (xs.all fun x => x.under m) && ((xs.length == ptCount rp.pts) && walk2 rp.out xs m K (idGo 0 (ptCount ps)) T2)
  | none => false

def opOk (ps : List Pt) (rp : Rp) (T1 T2 : Tree SV) : Bool :=
  lowWf (ptWf 0 ps) && (Nat.ble (ptCount ps) 1000 && (okT rp.out 1000 T1 && (okT rp.out 1000 T2 && allI (opLeaf ps rp T2) 1000 ⟨[], ptWf 0 ps, [], [], []⟩ T1)))

theorem ks0 {U : Nat → D → D} {r : Nat → D} {g : Gh} {L : Nat → Prop} {ps : List Pt} {vs : List Value} (hl : lowWf (ptWf 0 ps) = true) (hd : SV.denL U r g L (ptGo 0 ps) vs) : KsOk U r 1000 ⟨[], ptWf 0 ps, [], [], []⟩ :=
  ⟨fun _ h => (by cases h), fun _ h => (by cases h), ptWf_ok hd, fun p hp => (by
    unfold lowWf at hl
    rw [List.all_eq_true] at hl
    have := hl p hp
    rwa [Nat.blt_eq] at this), TOk.nil, TUnder.nil, fun _ h => (by cases h), fun _ h => (by cases h), TOk.nil, TUnder.nil⟩

section
variable {U : Nat → D → D} {P : Program} {cf : FuncId → List SV → Cx → Tree (SV × Cx)}

theorem out_den {g g' : Gh} {L L' : Nat → Prop} {r ρ : Nat → D} {rp : Rp} {s : SV} {xs es : List E} {v : Value} (ho : rp.out s = some xs) (hd : s.den U ρ g L v) (hl : xs.length = ptCount rp.pts) (he : es.map (·.ev U r) = xs.map (·.ev U ρ)) :
    (rp.back es).den U r g' L' v := by
  have hlen : es.length = xs.length := by simpa using congrArg List.length he
  have hget : ∀ j (e : E), es[j]? = some e → e.ev U r = valOf (xs.map (·.ev U ρ)) 0 (0 + j) := by
    intro j e h
    have h1 : (es.map (·.ev U r))[j]? = some (e.ev U r) := by rw [List.getElem?_map, h]; rfl
    rw [he] at h1
    simp only [valOf, Nat.zero_add, Nat.sub_zero, List.getD_eq_getElem?_getD, h1, Option.getD_some]
  have hx : ∀ (j : Nat) (e : E), xs[j]? = some e → valOf (xs.map (·.ev U ρ)) 0 (0 + j) = e.ev U ρ := by
    intro j e h
    simp only [valOf, Nat.zero_add, Nat.sub_zero, List.getD_eq_getElem?_getD, List.getElem?_map, h, Option.map_some, Option.getD_some]
  cases rp with
  | one p =>
    have hd' : SV.denL U ρ g L [s] [v] := by simp only [SV.denL]; exact ⟨hd, trivial⟩
    have h1 := ptE_den (g' := g) (L' := L) (r' := valOf (xs.map (·.ev U ρ)) 0) ho hx hd'
    have h2 := ptMk_den (U' := U) (g' := g') (L' := L') (r := r) (es := es) h1 (by simp only [Rp.pts] at hl; omega) hget
    show ((ptMk [p] es).headD .any).den U r g' L' v
    generalize ptMk [p] es = q at h2
    match q, h2 with
    | [x], h2 => simp only [SV.denL] at h2; exact h2.1
    | [], h2 => simp [SV.denL] at h2
    | _ :: _ :: _, h2 => simp [SV.denL] at h2
  | tup ps =>
    cases s with
    | tup vs =>
      simp only [SV.den] at hd
      obtain ⟨ys, rfl, hd⟩ := hd
      have h1 := ptE_den (g' := g) (L' := L) (r' := valOf (xs.map (·.ev U ρ)) 0) ho hx hd
      have h2 := ptMk_den (U' := U) (g' := g') (L' := L') (r := r) (es := es) h1 (by simp only [Rp.pts] at hl; omega) hget
      simp only [Rp.back, SV.den]
      exact ⟨ys, rfl, h2⟩
    | _ => simp [Rp.out] at ho

/-- A CALL AS ONE WORD. -/
theorem op_entry (hcf : CallsOk U P cf) (f : FuncId) (ps : List Pt) (rp : Rp) (n : Nat) (hu : SV.underL 1000 (ptGo 0 ps) = true) {T2 : Tree SV} (h2 : opOk ps rp (resT (cf f (ptGo 0 ps) cx0)) T2 = true)
    (hU : ∀ d, U n d = opVal T2 (ptCount ps) rp d) : EntryOk U P f (opRun n ps rp) := by
  intro args c L r g w vs K hh hp hd h
  unfold opRun at h
  split at h
  · rename_i es hes
    unfold opOk at h2
    simp only [Bool.and_eq_true] at h2
    obtain ⟨q1, q2, q3, q4, q5⟩ := h2
    have hq2 := Nat.le_of_ble_eq_true q2
    have hden : SV.denL U (valOf (es.map (·.ev U r)) 0) g (fun _ => False) (ptGo 0 ps) vs.toList := by
      refine ptE_den (r := r) hes (fun j e he => ?_) hd
      simp only [valOf, Nat.zero_add, Nat.sub_zero, List.getD_eq_getElem?_getD, List.getElem?_map, he, Option.map_some, Option.getD_some]
    have hcount : es.length = ptCount ps := by
      have : ∀ {ps : List Pt} {args : List SV} {es : List E} {vs : List Value}, ptE ps args = some es → SV.denL U r g L args vs → es.length = ptCount ps := by
        intro ps
        induction ps with
        | nil => intro args es vs h _; cases args with
          | nil => simp only [ptE, Option.some.injEq] at h; subst h; rfl
          | cons a b => simp [ptE] at h
        | cons p ps ih =>
          intro args es vs h hd
          cases args with
          | nil => cases p <;> simp [ptE] at h
          | cons a args =>
            cases vs with
            | nil => simp [SV.denL] at hd
            | cons v vs =>
              simp only [SV.denL] at hd
              cases p with
              | one k =>
                simp only [ptE] at h
                split at h
                · rename_i e es' h1 h2
                  cases h
                  simp [ptCount, ih h2 hd.2]
                · cases h
              | ag ks =>
                cases a with
                | agg cs =>
                  simp only [ptE] at h
                  split at h
                  · rename_i e1 e2 h1 h2
                    cases h
                    have hd1 := hd.1
                    simp only [SV.den] at hd1
                    obtain ⟨xs, _, hc⟩ := hd1
                    have := (skL_den (r' := valOf (e1.map (·.ev U r)) 0) (g' := g) (L' := L) (i := 0) h1 (fun j e he => by
                      simp only [valOf, Nat.zero_add, Nat.sub_zero, List.getD_eq_getElem?_getD, List.getElem?_map, he, Option.map_some, Option.getD_some]) hc).1
                    simp [ptCount, ih h2 hd.2, this]
                  · cases h
                | _ => simp [ptE] at h
      exact this hes hd
    obtain ⟨s, r', m', K', e1, e2, e3, e4, e5⟩ := allI_ev q5 (ks0 q1 hden)
    unfold opLeaf at e4
    split at e4
    · rename_i xs hxs
      simp only [Bool.and_eq_true] at e4
      obtain ⟨x1, x2, x3⟩ := e4
      rw [List.all_eq_true] at x1
      have hf : Fills U r' (valOf (es.map (·.ev U r)) 0) (idGo 0 (ptCount ps)) := by
        intro k e hk
        obtain ⟨rfl, hlt⟩ := idGo_look hk
        show _ = r' k
        rw [e5 k (by omega)]
      have hσ : ∀ p ∈ idGo 0 (ptCount ps), p.2.under m' = true := by
        have : ∀ n i, i + n ≤ 1000 → ∀ p ∈ idGo i n, p.2.under m' = true := by
          intro n
          induction n with
          | zero => intro i _ p hp; cases hp
          | succ n ih =>
            intro i hi p hp
            rcases List.mem_cons.1 hp with rfl | hp
            · simp [E.under]; omega
            · exact ih (i + 1) (by omega) p hp
        exact this _ 0 (by omega)
      obtain ⟨y, r2', ys, y1, y2, y3⟩ := walk2_ok x3 e3 hf hσ x1
      refine closed_lets hcf hu hden (evT_lets q3 e1 fun g' L' v w' hfr hv => ?_)
      refine h g v w' (ext_frame hh rfl (Nat.le_refl _) hp hfr) ?_
      refine out_den (U := U) hxs hv (by simpa using x2) ?_
      rw [projs_ev]
      have hword : (E.app n (tupE es)).ev U r = tupD (xs.map (·.ev U r')) := by
        show U n ((tupE es).ev U r) = _
        rw [hU, tupE_ev]
        unfold opVal
        rw [show unT (ptCount ps) (tupD (es.map (·.ev U r))) = es.map (·.ev U r) by
          have := unT_tup (l := es.map (·.ev U r)); rwa [List.length_map, hcount] at this]
        rw [evT_noApp (U := fun _ d => d) (U' := U) q4, y1]
        dsimp only
        rw [y2]
        dsimp only
        rw [← y3]
        congr 1
        exact List.map_congr_left fun e he => E.ev_noApp (evT_words q4 y1 y2 e he)
      rw [hword]
      have hx2 : xs.length = ptCount rp.pts := by simpa using x2
      have := unT_tup (l := xs.map (·.ev U r'))
      rwa [List.length_map, hx2] at this
    · cases e4
  · exact h.elim
end
end Go.Sx
