/-
  Sx, part Pt: a check of a loop's round that knows the way to each leaf; loops that ask whether all elements of rows are good.
-/
import Derived.Test.YtamagfkmmoonlaaDoorSxPs
namespace Go.Sx
open E (mk1 mk2 mkIte mk1_ev mk2_ev mkIte_ev)

/-! ### Words by the names that are there -/

def findEnv (e : E) : List (Nat × E) → Option Nat
  | [] => none
  | p :: l => if p.2.same e then some p.1 else findEnv e l
def foldN (env : List (Nat × E)) (e : E) : E := match findEnv e env with
  | some i => .v i
  | none => e
def E.fold (env : List (Nat × E)) : E → E
  | .o1 o x => foldN env (.o1 o (x.fold env))
  | .o2 o x y => foldN env (.o2 o (x.fold env) (y.fold env))
  | .o3 o x y z => foldN env (.o3 o (x.fold env) (y.fold env) (z.fold env))
  | .app n x => foldN env (.app n (x.fold env))
  | e => e
section
variable {U : Nat → D → D} {r : Nat → D}
theorem findEnv_ok {e : E} {i : Nat} : ∀ {env : List (Nat × E)}, EnvOk U r env → findEnv e env = some i → r i = e.ev U r := by
  intro env
  induction env with
  | nil => intro _ h; cases h
  | cons p l ih =>
    intro he h
    unfold findEnv at h
    split at h
    · rename_i hs
      cases h
      rw [he p (List.mem_cons_self ..), E.same_eq hs]
    · exact ih (fun q hq => he q (List.mem_cons_of_mem _ hq)) h
theorem foldN_ev {env : List (Nat × E)} (he : EnvOk U r env) (e : E) : (foldN env e).ev U r = e.ev U r := by
  unfold foldN
  split
  · rename_i i hi; exact findEnv_ok he hi
  · rfl
theorem E.fold_ev {env : List (Nat × E)} (he : EnvOk U r env) : ∀ e : E, (e.fold env).ev U r = e.ev U r := by
  intro e
  induction e with
  | o1 o x ih => simp only [E.fold, foldN_ev he, E.ev, ih]
  | o2 o x y ihx ihy => simp only [E.fold, foldN_ev he, E.ev, ihx, ihy]
  | o3 o x y z ihx ihy ihz => simp only [E.fold, foldN_ev he, E.ev, ihx, ihy, ihz]
  | app n x ih => simp only [E.fold, foldN_ev he, E.ev, ih]
  | _ => rfl
end

/-! ### What is known of a test -/

/-- Orders of floats, by what is known of the order the other way round. -/
def askF (cs : List (E × Bool)) : E → Option Bool
  | .o2 (.flt k) a b => match lookS (.o2 (.fle k) b a) cs with
    | some true => some false
    | some false => if numE cs k a && numE cs k b then some true else none
    | none => none
  | .o2 (.fle k) a b => match lookS (.o2 (.flt k) b a) cs with
    | some true => some false
    | some false => if numE cs k a && numE cs k b then some true else none
    | none => none
  | _ => none
def finK (K : Ks) (k : FloatKind) (a : E) : Bool := match lookS (norm K.env (finE k a)) K.cs with
  | some b => b
  | none => false
/-- A number, or finite. -/
def numK (K : Ks) (k : FloatKind) (a : E) : Bool := numE K.cs k a || finK K k a
/-- What is left of a number, when something finite is taken. -/
def subNum (K : Ks) (k : FloatKind) : E → Bool
  | .o2 (.fsub q) a b => decide (q = k) && (numK K k a && finK K k b)
  | _ => false
/-- Orders of floats of which it is known that they are numbers. -/
def nanK (K : Ks) : E → Option Bool
  | .o2 (.feq k) x y => if x.same y && (numK K k x || subNum K k (unName K.env x)) then some true else none
  | .o2 (.flt k) a b => match lookS (.o2 (.fle k) b a) K.cs with
    | some false => if numK K k a && numK K k b then some true else none
    | _ => none
  | .o2 (.fle k) a b => match lookS (.o2 (.flt k) b a) K.cs with
    | some false => if numK K k a && numK K k b then some true else none
    | _ => none
  | _ => none
def decA (K : Ks) (e : E) : Option Bool :=
  match K.ask (normP K.env e).1 with
  | some b => some (b == (normP K.env e).2)
  | none => match askF K.cs e with
    | some b => some b
    | none => nanK K e
/-- The truth of a word, out of what is known. -/
def decP (K : Ks) : E → Option Bool
  | .b x => some x
  | .o1 .not x => (decP K x).map (!·)
  | .o2 .band x y => match decP K x, decP K y with
    | some false, _ => some false
    | _, some false => some false
    | some true, some true => some true
    | _, _ => none
  | .o2 .bor x y => match decP K x, decP K y with
    | some true, _ => some true
    | _, some true => some true
    | some false, some false => some false
    | _, _ => none
  | e => decA K (e.fold K.env)

section
variable {U : Nat → D → D} {r : Nat → D} {m : Nat}
theorem lt_flip {k : FloatKind} {x y : Fl} (hx : IsN k x) (hy : IsN k y) (h : Fl.le k y x = false) : Fl.lt k x y = true := by
  obtain ⟨o, ho⟩ := ord_of_num hx hy
  have hs := ord_swap k x y
  unfold Fl.le at h
  unfold Fl.lt
  rw [hs, ho] at h
  rw [ho]
  cases o <;> simp_all [Ordering.swap]
theorem le_flip {k : FloatKind} {x y : Fl} (hx : IsN k x) (hy : IsN k y) (h : Fl.lt k y x = false) : Fl.le k x y = true := by
  obtain ⟨o, ho⟩ := ord_of_num hx hy
  have hs := ord_swap k x y
  unfold Fl.lt at h
  unfold Fl.le
  rw [hs, ho] at h
  rw [ho]
  cases o <;> simp_all [Ordering.swap]
theorem lt_not {k : FloatKind} {x y : Fl} (h : Fl.le k y x = true) : Fl.lt k x y = false := by
  have hs := ord_swap k x y
  unfold Fl.le at h
  unfold Fl.lt
  rw [hs] at h
  cases ho : Fl.ord k x y with
  | none => rfl
  | some o => rw [ho] at h; cases o <;> simp_all [Ordering.swap]
theorem le_not {k : FloatKind} {x y : Fl} (h : Fl.lt k y x = true) : Fl.le k x y = false := by
  have hs := ord_swap k x y
  unfold Fl.lt at h
  unfold Fl.le
  rw [hs] at h
  cases ho : Fl.ord k x y with
  | none => rfl
  | some o => rw [ho] at h; cases o <;> simp_all [Ordering.swap]
theorem askF_ok {cs : List (E × Bool)} (hp : PcOk U r cs) {e : E} {b : Bool} (h : askF cs e = some b) : (e.ev U r).toB = b := by
  unfold askF at h
  split at h
  · rename_i k x y
    simp only [E.ev, O2.ev, D.toB_b]
    split at h
    · rename_i hl
      cases h
      have := lookS_ok hp hl
      simp only [E.ev, O2.ev, D.toB_b] at this
      exact lt_not this
    · rename_i hl
      split at h
      · rename_i hn
        cases h
        rw [Bool.and_eq_true] at hn
        have := lookS_ok hp hl
        simp only [E.ev, O2.ev, D.toB_b] at this
        exact lt_flip (numE_ok hp hn.1) (numE_ok hp hn.2) this
      · cases h
    · cases h
  · rename_i k x y
    simp only [E.ev, O2.ev, D.toB_b]
    split at h
    · rename_i hl
      cases h
      have := lookS_ok hp hl
      simp only [E.ev, O2.ev, D.toB_b] at this
      exact le_not this
    · rename_i hl
      split at h
      · rename_i hn
        cases h
        rw [Bool.and_eq_true] at hn
        have := lookS_ok hp hl
        simp only [E.ev, O2.ev, D.toB_b] at this
        exact le_flip (numE_ok hp hn.1) (numE_ok hp hn.2) this
      · cases h
    · cases h
  · cases h
theorem finK_ok {K : Ks} (hK : KsOk U r m K) {k : FloatKind} {a : E} (h : finK K k a = true) : IsNum k (a.ev U r).toF := by
  unfold finK at h
  split at h
  · rename_i b hl
    have := lookS_ok hK.cs hl
    rw [norm_ok hK.env, finE_ev] at this
    rw [h] at this
    exact (finF_iff _ _).1 this
  · cases h
theorem isN_of_num {k : FloatKind} {x : Fl} (h : IsNum k x) : IsN k x := by
  obtain ⟨w, h1, s, q, p, h2⟩ := h
  exact ⟨w, h1, by rw [h2]; rfl⟩
theorem numK_ok {K : Ks} (hK : KsOk U r m K) {k : FloatKind} {a : E} (h : numK K k a = true) : IsN k (a.ev U r).toF := by
  unfold numK at h
  rw [Bool.or_eq_true] at h
  exact h.elim (fun h => numE_ok hK.cs h) (fun h => isN_of_num (finK_ok hK h))
theorem write_num (k : FloatKind) (s : Bool) (q : Nat) (p : Int) : (k.format.read (k.format.write (.number s q p))).isNaN = false := write_not_nan k rfl
theorem sub_isN {k : FloatKind} {x y : Fl} (hx : IsN k x) (hy : IsNum k y) : IsN k (Fl.sub k x y) := by
  obtain ⟨a, rfl, ha⟩ := hx
  obtain ⟨b, rfl, s, q, p, hb⟩ := hy
  show IsN k (((k.format.read a).sum (k.format.read b).opposite).map k.format.write)
  rw [hb]
  cases hr : k.format.read a with
  | nan s t => rw [hr] at ha; cases ha
  | infinity t =>
    obtain ⟨t', ht⟩ := read_word_inf k t
    exact ⟨_, rfl, by show (k.format.read (k.format.word t k.format.infRung)).isNaN = false; rw [ht]; rfl⟩
  | number t n j => exact ⟨_, rfl, write_num k _ _ _⟩
theorem nanK_ok {K : Ks} (hK : KsOk U r m K) {e : E} {b : Bool} (h : nanK K e = some b) : (e.ev U r).toB = b := by
  unfold nanK at h
  split at h
  · rename_i k x y
    split at h
    · rename_i hc
      cases h
      rw [Bool.and_eq_true, Bool.or_eq_true] at hc
      obtain ⟨hs, hc⟩ := hc
      rw [← E.same_eq hs]
      simp only [E.ev, O2.ev, D.toB_b]
      refine self_num ?_
      rcases hc with hc | hc
      · exact numK_ok hK hc
      · rw [← unName_ev hK.env x]
        generalize unName K.env x = z at hc ⊢
        unfold subNum at hc
        split at hc
        · simp only [Bool.and_eq_true, decide_eq_true_eq] at hc
          obtain ⟨rfl, h1, h2⟩ := hc
          exact sub_isN (numK_ok hK h1) (finK_ok hK h2)
        · cases hc
    · cases h
  · rename_i k x y
    split at h
    · rename_i hl
      split at h
      · rename_i hn
        cases h
        rw [Bool.and_eq_true] at hn
        have := lookS_ok hK.cs hl
        simp only [E.ev, O2.ev, D.toB_b] at this ⊢
        exact lt_flip (numK_ok hK hn.1) (numK_ok hK hn.2) this
      · cases h
    · cases h
  · rename_i k x y
    split at h
    · rename_i hl
      split at h
      · rename_i hn
        cases h
        rw [Bool.and_eq_true] at hn
        have := lookS_ok hK.cs hl
        simp only [E.ev, O2.ev, D.toB_b] at this ⊢
        exact le_flip (numK_ok hK hn.1) (numK_ok hK hn.2) this
      · cases h
    · cases h
  · cases h
theorem decA_ok {K : Ks} (hK : KsOk U r m K) {e : E} {b : Bool} (h : decA K e = some b) : (e.ev U r).toB = b := by
  unfold decA at h
  split at h
  · rename_i b' hb
    cases h
    rw [normP_ok hK.env e, ask_ok hK hb]
  · split at h
    · rename_i b' hb
      cases h
      exact askF_ok hK.cs hb
    · exact nanK_ok hK h
theorem decP_ok {K : Ks} (hK : KsOk U r m K) : ∀ {e : E} {b : Bool}, decP K e = some b → (e.ev U r).toB = b := by
  intro e
  have other : ∀ (e : E) (b : Bool), decA K (e.fold K.env) = some b → (e.ev U r).toB = b := fun e b h => by
    rw [← E.fold_ev hK.env e]; exact decA_ok hK h
  induction e with
  | b x => intro b h; cases h; rfl
  | o1 o x ih =>
    intro b h
    cases o
    case not =>
      simp only [decP, Option.map_eq_some_iff] at h
      obtain ⟨a, ha, rfl⟩ := h
      simp only [E.ev, O1.ev, D.toB_b, ih ha]
    all_goals exact other _ b h
  | o2 o x y ihx ihy =>
    intro b h
    cases o
    case band =>
      simp only [decP] at h
      simp only [E.ev, O2.ev, D.toB_b]
      split at h
      · rename_i h1; cases h; rw [ihx h1]; rfl
      · rename_i h1 _; cases h; rw [ihy h1, Bool.and_false]
      · rename_i h1 h2; cases h; rw [ihx h1, ihy h2]; rfl
      · cases h
    case bor =>
      simp only [decP] at h
      simp only [E.ev, O2.ev, D.toB_b]
      split at h
      · rename_i h1; cases h; rw [ihx h1]; rfl
      · rename_i h1 _; cases h; rw [ihy h1, Bool.or_true]
      · rename_i h1 h2; cases h; rw [ihx h1, ihy h2]; rfl
      · cases h
    all_goals exact other _ b h
  | v n => intro b h; exact other _ b h
  | i n => intro b h; exact other _ b h
  | f n => intro b h; exact other _ b h
  | s n => intro b h; exact other _ b h
  | o3 o x y z => intro b h; exact other _ b h
  | app n x => intro b h; exact other _ b h

/-! ### A round's tree, each leaf with what is known there -/

/-- As 'close', without what is known. -/
def addK (kn : FloatKind × E → Bool) (x : FloatKind × E) (F : List (FloatKind × E)) : List (FloatKind × E) := match x.2 with
  | .v i => if (F.any fun q => q.1 = x.1 && E.same q.2 (.v i)) || kn x then F else x :: F
  | _ => F
def closeK (kn : FloatKind × E → Bool) : List (Nat × E) → List (FloatKind × E) → List (FloatKind × E)
  | [], F => F
  | (i, e) :: env, F =>
    match e with
    | .o2 (.fadd k) a b => if F.any (fun q => q.1 = k && E.same q.2 (.v i)) then closeK kn env (addK kn (k, a) (addK kn (k, b) F)) else closeK kn env F
    | .o2 (.fsub k) a b => if F.any (fun q => q.1 = k && E.same q.2 (.v i)) then closeK kn env (addK kn (k, a) (addK kn (k, b) F)) else closeK kn env F
    | .o2 (.fmul k) a b => if F.any (fun q => q.1 = k && E.same q.2 (.v i)) then closeK kn env (addK kn (k, a) (addK kn (k, b) F)) else closeK kn env F
    | .o2 (.fdiv k) a _ => if F.any (fun q => q.1 = k && E.same q.2 (.v i)) then closeK kn env (addK kn (k, a) F) else closeK kn env F
    | _ => closeK kn env F
theorem addK_mem {kn : FloatKind × E → Bool} {x q : FloatKind × E} {F : List (FloatKind × E)} (h : q ∈ addK kn x F) : q = x ∨ q ∈ F := by
  unfold addK at h
  split at h
  · split at h
    · exact .inr h
    · exact List.mem_cons.1 h
  · exact .inr h
theorem closeK_ok {kn : FloatKind × E → Bool} : ∀ {env : List (Nat × E)} {F : List (FloatKind × E)}, EnvOk U r env → Fins U r F → Fins U r (closeK kn env F) := by
  intro env
  induction env with
  | nil => intro F _ hF; exact hF
  | cons p env ih =>
    obtain ⟨i, e⟩ := p
    intro F he hF
    have he' : EnvOk U r env := fun p hp => he p (List.mem_cons_of_mem _ hp)
    have hi : r i = e.ev U r := he (i, e) (List.mem_cons_self ..)
    have at_ : ∀ {k : FloatKind}, F.any (fun q => q.1 = k && E.same q.2 (.v i)) = true → IsNum k (r i).toF := by
      intro k hany
      rw [List.any_eq_true] at hany
      obtain ⟨q, hq, h2⟩ := hany
      simp only [Bool.and_eq_true, decide_eq_true_eq] at h2
      have hn := hF q hq
      rwa [E.same_eq h2.2, h2.1] at hn
    have one : ∀ {k : FloatKind} {a : E} {G : List (FloatKind × E)}, IsNum k (a.ev U r).toF → Fins U r G → Fins U r (addK kn (k, a) G) := by
      intro k a G ha hG q hq
      rcases addK_mem hq with rfl | hq
      · exact ha
      · exact hG q hq
    have step : ∀ {k : FloatKind} {a b : E}, (IsNum k (r i).toF → IsNum k (a.ev U r).toF ∧ IsNum k (b.ev U r).toF) →
        Fins U r (if F.any (fun q => q.1 = k && E.same q.2 (.v i)) then closeK kn env (addK kn (k, a) (addK kn (k, b) F)) else closeK kn env F) := by
      intro k a b hop
      split
      · rename_i hany
        obtain ⟨h3, h4⟩ := hop (at_ hany)
        exact ih he' (one h3 (one h4 hF))
      · exact ih he' hF
    unfold closeK
    split
    · exact step (fun hn => by rw [hi] at hn; exact add_num hn)
    · exact step (fun hn => by rw [hi] at hn; exact sub_num hn)
    · exact step (fun hn => by rw [hi] at hn; exact mul_num hn)
    · split
      · rename_i hany
        have hn := at_ hany
        rw [hi] at hn
        exact ih he' (one (div_num hn) hF)
      · exact ih he' hF
    · exact ih he' hF
theorem closeK_under {kn : FloatKind × E → Bool} : ∀ {env : List (Nat × E)} {F : List (FloatKind × E)}, EnvUnder m env → (∀ q ∈ F, q.2.under m = true) → ∀ q ∈ closeK kn env F, q.2.under m = true := by
  intro env
  induction env with
  | nil => intro F _ hF; exact hF
  | cons p env ih =>
    obtain ⟨i, e⟩ := p
    intro F he hF
    have he' : EnvUnder m env := fun p hp => he p (List.mem_cons_of_mem _ hp)
    have hi : e.under m = true := (he (i, e) (List.mem_cons_self ..)).2
    have one : ∀ {k : FloatKind} {a : E} {G : List (FloatKind × E)}, a.under m = true → (∀ q ∈ G, q.2.under m = true) → ∀ q ∈ addK kn (k, a) G, q.2.under m = true := by
      intro k a G ha hG q hq
      rcases addK_mem hq with rfl | hq
      · exact ha
      · exact hG q hq
    have step : ∀ {k : FloatKind} {a b : E}, a.under m = true → b.under m = true →
        ∀ q ∈ (if F.any (fun q => q.1 = k && E.same q.2 (.v i)) then closeK kn env (addK kn (k, a) (addK kn (k, b) F)) else closeK kn env F), q.2.under m = true := by
      intro k a b ha hb
      split
      · exact ih he' (one ha (one hb hF))
      · exact ih he' hF
    unfold closeK
    split
    · simp only [E.under, Bool.and_eq_true] at hi; exact step hi.1 hi.2
    · simp only [E.under, Bool.and_eq_true] at hi; exact step hi.1 hi.2
    · simp only [E.under, Bool.and_eq_true] at hi; exact step hi.1 hi.2
    · simp only [E.under, Bool.and_eq_true] at hi
      split
      · exact ih he' (one hi.1 hF)
      · exact ih he' hF
    · exact ih he' hF

/-- What a test tells besides, of what is not known. -/
def impliedK (K : Ks) (x : E) (b : Bool) : List (E × Bool) :=
  (x, b) :: (match isFin? [] x with
    | some p => if b then ((closeK (fun q => match lookS (norm K.env (finE q.1 q.2)) K.cs with
        | some b => b
        | none => false) K.env [p]).map fun q => (norm K.env (finE q.1 q.2), true)) else []
    | none => [])
theorem impliedK_ok {K : Ks} (h : KsOk U r m K) {x : E} {b : Bool} (hx : (x.ev U r).toB = b) : PcOk U r (impliedK K x b) := by
  intro p hp
  unfold impliedK at hp
  rcases List.mem_cons.1 hp with rfl | hp'
  · exact hx
  · cases hf : isFin? [] x with
    | none => rw [hf] at hp'; cases hp'
    | some q0 =>
      obtain ⟨k, a⟩ := q0
      rw [hf] at hp'
      dsimp only at hp'
      split at hp'
      · rename_i hb
        subst hb
        rw [List.mem_map] at hp'
        obtain ⟨q, hq, rfl⟩ := hp'
        rw [isFin?_ok (U := U) (r := r) (env := []) (fun _ h => by cases h) hf, finF_iff] at hx
        have := closeK_ok (U := U) (r := r) (env := K.env) (F := [(k, a)]) h.env (fun y hy => by
          rcases List.mem_cons.1 hy with rfl | hy
          · exact hx
          · cases hy) q hq
        show ((norm K.env (finE q.1 q.2)).ev U r).toB = true
        rw [norm_ok h.env, finE_ev, finF_iff]
        exact this
      · cases hp'
theorem impliedK_under {K : Ks} (h : KsOk U r m K) {x : E} {b : Bool} (hx : x.under m = true) : ∀ p ∈ impliedK K x b, p.1.under m = true := by
  intro p hp
  unfold impliedK at hp
  rcases List.mem_cons.1 hp with rfl | hp'
  · exact hx
  · cases hf : isFin? [] x with
    | none => rw [hf] at hp'; cases hp'
    | some q0 =>
      obtain ⟨k, a⟩ := q0
      rw [hf] at hp'
      dsimp only at hp'
      split at hp'
      · rw [List.mem_map] at hp'
        obtain ⟨q, hq, rfl⟩ := hp'
        have ha : a.under m = true := isFin?_under (env := []) (fun _ h => by cases h) hx hf
        exact norm_under h.envU (finE_under (closeK_under (F := [(k, a)]) h.envU (fun y hy => by
          rcases List.mem_cons.1 hy with rfl | hy
          · exact ha
          · cases hy) q hq))
      · cases hp'
def growP (K : Ks) (x : E) (b : Bool) : List (E × Bool) := match lookS x K.cs with
  | some b' => if b' == b then [] else impliedK K x b
  | none => impliedK K x b
/-- What a test tells. -/
def Ks.grow (K : Ks) (c : E) (b : Bool) : List (E × Bool) := (splitB c b).flatMap fun p => growP K (normP K.env p.1).1 ((normP K.env p.1).2 == p.2)
theorem growP_mem {K : Ks} {x : E} {b : Bool} {q : E × Bool} (h : q ∈ growP K x b) : q ∈ impliedK K x b := by
  unfold growP at h
  split at h
  · split at h
    · cases h
    · exact h
  · exact h
/-- Truths of which one contradicts its parts. -/
def contraD (cs : List (E × Bool)) : Bool := cs.any fun p => match p.1 with
  | .o2 .band x y => (match triE (look1 cs) x, triE (look1 cs) y with
    | some true, some true => !p.2
    | some false, _ => p.2
    | _, some false => p.2
    | _, _ => false)
  | .o2 .bor x y => (match triE (look1 cs) x, triE (look1 cs) y with
    | some false, some false => p.2
    | some true, _ => !p.2
    | _, some true => !p.2
    | _, _ => false)
  | _ => false
def noWay (K : Ks) (c : E) (b : Bool) : Bool := against (K.grow c b) K.cs || contraD (K.grow c b ++ K.cs)
theorem grow_ok {K : Ks} (hK : KsOk U r m K) {c : E} {b : Bool} (h : (c.ev U r).toB = b) : PcOk U r (K.grow c b) := by
  intro x hx
  obtain ⟨p, hp, hx⟩ := List.mem_flatMap.1 hx
  have h1 := splitB_ok h p hp
  refine impliedK_ok hK ?_ x (growP_mem hx)
  have h2 := normP_ok hK.env p.1
  rw [h1] at h2
  cases hb : ((normP K.env p.1).1.ev U r).toB <;> cases hs : (normP K.env p.1).2 <;> rw [hb, hs] at h2 <;> rw [h2] <;> rfl
theorem grow_under {K : Ks} (hK : KsOk U r m K) {c : E} {b : Bool} (h : c.under m = true) : ∀ p ∈ K.grow c b, p.1.under m = true := by
  intro x hx
  obtain ⟨p, hp, hx⟩ := List.mem_flatMap.1 hx
  exact impliedK_under hK (normP_under hK.envU (splitB_under h p hp)) x (growP_mem hx)
theorem contraD_ok {cs : List (E × Bool)} (hp : PcOk U r cs) (h : contraD cs = true) : False := by
  unfold contraD at h
  obtain ⟨p, hm, h⟩ := List.any_eq_true.1 h
  have hv := hp p hm
  obtain ⟨e, b⟩ := p
  have ok : ∀ {e : E} {b : Bool}, triE (look1 cs) e = some b → (e.ev U r).toB = b := fun h => triE_ok (fun _ _ h => look1_ok hp h) h
  dsimp only at h hv
  split at h
  · simp only [E.ev, O2.ev, D.toB_b] at hv
    split at h
    · rename_i h1 h2; rw [ok h1, ok h2] at hv; rw [← hv] at h; cases h
    · rename_i h1; rw [ok h1] at hv; rw [← hv] at h; cases h
    · rename_i h1 _; rw [ok h1, Bool.and_false] at hv; rw [← hv] at h; cases h
    · cases h
  · simp only [E.ev, O2.ev, D.toB_b] at hv
    split at h
    · rename_i h1 h2; rw [ok h1, ok h2] at hv; rw [← hv] at h; cases h
    · rename_i h1; rw [ok h1] at hv; rw [← hv] at h; cases h
    · rename_i h1 _; rw [ok h1, Bool.or_true] at hv; rw [← hv] at h; cases h
    · cases h
  · cases h
theorem noWay_ok {K : Ks} (hK : KsOk U r m K) {c : E} {b : Bool} (h : (c.ev U r).toB = b) (hn : noWay K c b = true) : False := by
  unfold noWay at hn
  rw [Bool.or_eq_true] at hn
  rcases hn with hn | hn
  · exact against_ok hK (grow_ok hK h) hn
  · exact contraD_ok (fun x hx => (List.mem_append.1 hx).elim (grow_ok hK h x) (hK.cs x)) hn

def chkT (f : Nat → Ks → LRes → Bool) : Nat → Ks → Tree LRes → Bool
  | m, K, .ret x => f m K x
  | m, K, .ite c t e => c.under m && (match decP K c with
      | some b => bif b then chkT f m K t else chkT f m K e
      | none => (noWay K c true || chkT f m (K.learn (K.grow c true)) t) && (noWay K c false || chkT f m (K.learn (K.grow c false)) e))
  | m, K, .chk (.o2 .fsame (.v i) e) t => Nat.ble m i && (e.under m && chkT f (i + 1) (K.name i e) t)
  | _, _, _ => false
theorem chkT_ok {f : Nat → Ks → LRes → Bool} : ∀ {t : Tree LRes} {m : Nat} {K : Ks} {r : Nat → D}, chkT f m K t = true → KsOk U r m K →
    ∃ x r' m' K', evA U t r = some (x, r') ∧ (∀ n, n < m → r' n = r n) ∧ m ≤ m' ∧ KsOk U r' m' K' ∧ f m' K' x = true := by
  intro t
  induction t with
  | ret x => intro m K r h hK; exact ⟨x, r, m, K, rfl, fun _ _ => rfl, Nat.le_refl _, hK, h⟩
  | ite c t e iht ihe =>
    intro m K r h hK
    unfold chkT at h
    rw [Bool.and_eq_true] at h
    obtain ⟨hc, h⟩ := h
    cases ha : decP K c with
    | some b =>
      rw [ha] at h
      dsimp only at h
      have hb := decP_ok hK ha
      cases b with
      | true =>
        obtain ⟨y, r', m', K', h1, h2⟩ := iht h hK
        exact ⟨y, r', m', K', by simp only [evA, hb, if_true]; exact h1, h2⟩
      | false =>
        obtain ⟨y, r', m', K', h1, h2⟩ := ihe h hK
        exact ⟨y, r', m', K', by simp only [evA, hb]; exact h1, h2⟩
    | none =>
      rw [ha] at h
      dsimp only at h
      simp only [Bool.and_eq_true, Bool.or_eq_true] at h
      cases hb : (c.ev U r).toB with
      | true =>
        rcases h.1 with h1 | h1
        · exact (noWay_ok hK hb h1).elim
        · obtain ⟨y, r', m', K', h1, h2⟩ := iht h1 (learn_ok hK (grow_ok hK hb) (grow_under hK hc))
          exact ⟨y, r', m', K', by simp only [evA, hb, if_true]; exact h1, h2⟩
      | false =>
        rcases h.2 with h1 | h1
        · exact (noWay_ok hK hb h1).elim
        · obtain ⟨y, r', m', K', h1, h2⟩ := ihe h1 (learn_ok hK (grow_ok hK hb) (grow_under hK hc))
          exact ⟨y, r', m', K', by simp only [evA, hb]; exact h1, h2⟩
  | chk c t ih =>
    intro m K r h hK
    unfold chkT at h
    split at h
    · cases ‹Tree.chk c t = _›
    · cases ‹Tree.chk c t = _›
    · rename_i i e t' heq
      cases heq
      simp only [Bool.and_eq_true] at h
      obtain ⟨h1, h2, h3⟩ := h
      have hmi := Nat.le_of_ble_eq_true h1
      obtain ⟨y, r', m', K', q1, q2, q3, q4⟩ := ih h3 (name_ok hK hmi h2)
      exact ⟨y, r', m', K', q1, fun n hn => by rw [q2 n (by omega)]; exact upd_low (by omega), by omega, q4⟩
    · cases h
  | all i t _ => intro m K r h _; cases h
  | asm c t _ => intro m K r h _; cases h
  | bad => intro m K r h _; cases h
end

/-! ### Loops that ask whether all elements are good -/

/-- What is asked of each element of a row: the word; the row; how many fields; what goes with it; the test over the fields, and what goes with them. -/
structure AllS where
  n : Nat
  row : Nat
  k : Nat
  xs : List E
  P : E
def AllS.elem (s : AllS) (idx : Nat) : List E := ((List.range s.k).map fun f => .o2 .sel (.o2 .sel (.v s.row) (.v idx)) (.i f)) ++ s.xs
def AllS.good (s : AllS) (idx : Nat) : Option E := s.P.sub (numbered 0 (s.elem idx))
/-- Is it good? -/
def goodD (k : Nat) (P : E) (el : D) (xs : Nat → D) : Bool := (P.ev (fun _ d => d) fun j => if j < k then el.at_ j else xs (j - k)).toB
def allVal (k : Nat) (P : E) (d : D) : D := .b ((d.at_ 0).toL.all fun el => goodD k P el fun j => d.at_ (j + 1))
def subX (es : List E) (x : E) : E := (x.sub (numbered 0 es)).getD (.b false)
def AllS.word (s : AllS) (es : List E) : E := .app s.n (elemE (nmOf es s.row :: s.xs.map (subX es)))
def allRun (A : LoopT) (n0 : Nat) (ss : List AllS) (idx : Nat) (outs : List (List OutW)) : LRun := ⟨A, fun _ => .b false, fun k es => resW n0 outs es k es, [.o2 .ieq (.v idx) (.i 0)], some fun es => ss.map fun s => s.word es, fun _ _ => []⟩
def noVals (outs : List (List OutW)) : Bool := outs.all fun l => l.all fun o => match o with
  | .val _ => false
  | _ => true

def E.varsIn (C : List Nat) : E → Bool
  | .v n => C.any fun c => Nat.beq c n
  | .o1 _ x | .app _ x => x.varsIn C
  | .o2 _ x y => x.varsIn C && y.varsIn C
  | .o3 _ x y z => x.varsIn C && (y.varsIn C && z.varsIn C)
  | _ => true
theorem E.ev_varsIn {U : Nat → D → D} {C : List Nat} {r r' : Nat → D} (h : ∀ c ∈ C, r' c = r c) : ∀ {e : E}, e.varsIn C = true → e.ev U r' = e.ev U r := by
  intro e
  induction e with
  | v n =>
    intro hv
    simp only [E.varsIn, List.any_eq_true] at hv
    obtain ⟨c, hc, hb⟩ := hv
    rw [← Nat.eq_of_beq_eq_true hb]
    exact h c hc
  | o1 o x ih => intro hv; simp only [E.ev, ih hv]
  | app n x ih => intro hv; simp only [E.ev, ih hv]
  | o2 o x y ihx ihy => intro hv; simp only [E.varsIn, Bool.and_eq_true] at hv; simp only [E.ev, ihx hv.1, ihy hv.2]
  | o3 o x y z ihx ihy ihz => intro hv; simp only [E.varsIn, Bool.and_eq_true] at hv; simp only [E.ev, ihx hv.1, ihy hv.2.1, ihz hv.2.2]
  | _ => intro _; rfl

def allLeaf (ss : List AllS) (idx : Nat) (lenE : E) (K : Ks) : LRes → Bool
  | .next es => (nmOf es idx).same (.o2 .iadd (.v idx) (.i 1)) && (decP K (.o2 .ilt (.v idx) lenE) == some true && ss.all fun s => match s.good idx with
    | some e => decP K e == some true
    | none => false)
  | .done k _ => if k = 0 then decP K (.o2 .ilt (.v idx) lenE) == some false
    else if k = 1 then decP K (.o2 .ilt (.v idx) lenE) == some true && ss.any fun s => match s.good idx with
      | some e => decP K e == some false
      | none => false
    else false
  | .stuck => false
def headK (inv : List E) : Ks := ⟨[], [], [], headP inv, []⟩
/-- All that is asked of such a loop. -/
def allOk (A : LoopT) (ss : List AllS) (idx : Nat) (lenE : E) (C : List Nat) (T : Tree LRes) : Bool :=
  chkT (fun _ => allLeaf ss idx lenE) 1000 (headK A.inv) T && ((A.inv.all fun e => e.under 1000) && (decP (headK A.inv) (.o2 .ile (.i 0) (.v idx)) == some true && (lenE.varsIn C && (Nat.blt idx 1000 &&
    ss.all fun s => decP (headK A.inv) (.o2 .ieq (.o1 .llen (.v s.row)) lenE) == some true && ((C.any fun c => Nat.beq c s.row) && ((s.xs.all fun x => x.varsIn C && (x.under A.t.cnt && x.under 1000)) && (s.P.lowW 0 && Nat.blt s.row 1000)))))))
section
variable {U : Nat → D → D} {r : Nat → D}
theorem headK_ok {inv : List E} {ds : List D} (hu : ∀ e ∈ inv, e.under 1000 = true) (h : HoldI U inv ds) : KsOk U (rOf ds) 1000 (headK inv) := by
  refine ⟨fun p hp => (by cases hp), fun p hp => (by cases hp), fun p hp => (by cases hp), fun p hp => (by cases hp), fun p hp => (by cases hp), fun p hp => (by cases hp), headP_ok h, headP_under hu, fun p hp => (by cases hp), fun p hp => (by cases hp)⟩

/-- What is asked of an element, at what stands at a loop's head. -/
def AllS.at_ (s : AllS) (U : Nat → D → D) (ds : List D) (j : Nat) : Bool := goodD s.k s.P ((rOf ds s.row).at_ j) fun q => (s.xs.map (E.ev U (rOf ds))).getD q (.b false)
theorem numbered_fill (l : List E) (q : Nat) : lkM q (numbered 0 l) = l[q]? := by
  cases h : l[q]? with
  | some e => have := lkM_numbered (i := 0) h; rwa [Nat.zero_add] at this
  | none =>
    cases hl : lkM q (numbered 0 l) with
    | none => rfl
    | some e =>
      obtain ⟨j, h1, h2⟩ := lkM_back hl
      rw [Nat.zero_add] at h1
      subst h1
      rw [h] at h2; cases h2
/-- The test at a loop's index is what is asked of that element. -/
theorem good_at {s : AllS} {idx : Nat} {e : E} {ds : List D} {r' : Nat → D} (he : s.good idx = some e) (hP : s.P.lowW 0 = true) (hrow : r' s.row = rOf ds s.row) (hidx : r' idx = rOf ds idx) (hx : ∀ x ∈ s.xs, x.ev U r' = x.ev U (rOf ds)) :
    (e.ev U r').toB = s.at_ U ds (rOf ds idx).toI.toNat := by
  unfold AllS.good at he
  let q : Nat → D := fun j => if j < s.k then ((rOf ds s.row).at_ (rOf ds idx).toI.toNat).at_ j else (s.xs.map (E.ev U (rOf ds))).getD (j - s.k) (.b false)
  have hf : Fills U r' q (numbered 0 (s.elem idx)) := by
    intro j x hj
    rw [numbered_fill] at hj
    show (if j < s.k then _ else _) = _
    unfold AllS.elem at hj
    by_cases hk : j < s.k
    · rw [if_pos hk]
      rw [List.getElem?_append_left (by simpa using hk), List.getElem?_map, List.getElem?_range hk] at hj
      simp only [Option.map_some, Option.some.injEq] at hj
      subst hj
      simp only [E.ev, O2.ev, D.toI_i, hrow, hidx, Int.toNat_natCast]
    · rw [if_neg hk]
      rw [List.getElem?_append_right (by simpa using Nat.le_of_not_lt hk)] at hj
      simp only [List.length_map, List.length_range] at hj
      rw [List.getD_eq_getElem?_getD, List.getElem?_map, hj]
      exact (hx x (List.mem_of_getElem? hj)).symm
  rw [E.sub_ev hf he]
  unfold AllS.at_ goodD
  rw [E.ev_lowW (U' := fun _ d => d) (fun n hn => absurd hn (Nat.not_lt_zero _)) hP]

theorem all_loop {A : LoopT} {ss : List AllS} {idx : Nat} {lenE : E} {C : List Nat} {outs : List (List OutW)} {T : Tree LRes} (hC : ∀ c ∈ C, c < 1000) (hok : okA 1000 T = true) (hk : keepsT C outs T = true) (ha : allOk A ss idx lenE C T = true)
    {ds : List D} {k : Nat} {os : List D} (h : LoopTo U A.inv T ds k os) :
    (k = 0 ∧ ∀ j, (rOf ds idx).toI.toNat ≤ j → (j : Int) < (lenE.ev U (rOf ds)).toI → ∀ s ∈ ss, s.at_ U ds j = true) ∨
    (k = 1 ∧ ∃ j, (rOf ds idx).toI.toNat ≤ j ∧ (j : Int) < (lenE.ev U (rOf ds)).toI ∧ ∃ s ∈ ss, s.at_ U ds j = false) := by
  simp only [allOk, Bool.and_eq_true, beq_iff_eq, Nat.blt_eq] at ha
  obtain ⟨hchk, hinv, h0, hlen, hidx, hss⟩ := ha
  have hu : ∀ e ∈ A.inv, e.under 1000 = true := fun e he => List.all_eq_true.1 hinv e he
  have hS : ∀ s ∈ ss, s.row ∈ C ∧ (∀ x ∈ s.xs, x.varsIn C = true ∧ x.under 1000 = true) ∧ s.P.lowW 0 = true ∧ s.row < 1000 := by
    intro s hs
    have := List.all_eq_true.1 hss s hs
    simp only [Bool.and_eq_true, Nat.blt_eq, List.all_eq_true] at this
    obtain ⟨_, h2, h3, h4, h5⟩ := this
    refine ⟨?_, fun x hx => ⟨(h3 x hx).1, (h3 x hx).2.2⟩, h4, h5⟩
    rw [List.any_eq_true] at h2
    obtain ⟨c, hc, hb⟩ := h2
    rw [← Nat.eq_of_beq_eq_true hb]; exact hc
  -- what a round's leaf tells
  have leafGood : ∀ {ds : List D} {r' : Nat → D} {m' : Nat} {K' : Ks} {s : AllS} {b : Bool}, s ∈ ss → (∀ n, n < 1000 → r' n = rOf ds n) → KsOk U r' m' K' → (match s.good idx with
      | some e => decP K' e == some b
      | none => false) = true → s.at_ U ds (rOf ds idx).toI.toNat = b := by
    intro ds r' m' K' s b hs hr hK hg
    split at hg
    · rename_i e he
      have := decP_ok hK (beq_iff_eq.1 hg)
      obtain ⟨_, h2, h3, h4⟩ := hS s hs
      rw [← this]
      exact (good_at he h3 (hr _ h4) (hr _ hidx) fun x hx => E.ev_under U hr (h2 x hx).2).symm
    · cases hg
  have hlt : ∀ {ds : List D} {r' : Nat → D} {m' : Nat} {K' : Ks} {b : Bool}, (∀ n, n < 1000 → r' n = rOf ds n) → KsOk U r' m' K' → decP K' (.o2 .ilt (.v idx) lenE) = some b → decide ((rOf ds idx).toI < (lenE.ev U (rOf ds)).toI) = b := by
    intro ds r' m' K' b hr hK hd
    have := decP_ok hK hd
    rw [← this]
    simp only [E.ev, O2.ev, D.toB_b, hr _ hidx]
    rw [E.ev_varsIn (C := C) (r' := r') (r := rOf ds) (fun c hc => hr c (hC c hc)) hlen]
  induction h with
  | @done ds k es r' hI he =>
    obtain ⟨x, r1, m1, K1, q1, q2, _, q4, q5⟩ := chkT_ok hchk (headK_ok hu hI)
    rw [he] at q1
    cases q1
    simp only [allLeaf] at q5
    split at q5
    · rename_i hk0
      refine .inl ⟨hk0, fun j h1 h2 => ?_⟩
      have := of_decide_eq_false (hlt q2 q4 (beq_iff_eq.1 q5))
      omega
    · split at q5
      · rename_i hk1
        rw [Bool.and_eq_true, List.any_eq_true] at q5
        obtain ⟨q5, s, hs, hg⟩ := q5
        have hl := of_decide_eq_true (hlt q2 q4 (beq_iff_eq.1 q5))
        have h0' := decP_ok (headK_ok hu hI) h0
        simp only [E.ev, O2.ev, D.toB_b, D.toI_i] at h0'; have h0' := of_decide_eq_true h0'
        exact .inr ⟨hk1, _, Nat.le_refl _, by omega, s, hs, leafGood hs q2 q4 hg⟩
      · cases q5
  | @next ds es r' k os hI he hto ih =>
    obtain ⟨x, r1, m1, K1, q1, q2, _, q4, q5⟩ := chkT_ok hchk (headK_ok hu hI)
    rw [he] at q1
    cases q1
    simp only [allLeaf, Bool.and_eq_true, List.all_eq_true] at q5
    obtain ⟨q5, q6, q7⟩ := q5
    have hkeep := keepsT_ok hC (Nat.le_refl _) hok hk he
    have hsame : ∀ c ∈ C, rOf (es.map (E.ev U r')) c = rOf ds c := fun c hc => by rw [evs_rOf]; exact hkeep c hc
    have hnx : (rOf (es.map (E.ev U r')) idx).toI = (rOf ds idx).toI + 1 := by
      rw [evs_rOf, E.same_eq q5]
      simp only [E.ev, O2.ev, D.toI_i, q2 _ hidx]
    have hat : ∀ s ∈ ss, ∀ j, s.at_ U (es.map (E.ev U r')) j = s.at_ U ds j := fun s hs j => by
      obtain ⟨h1, h2, _⟩ := hS s hs
      unfold AllS.at_
      rw [hsame _ h1, List.map_congr_left (fun x hx => E.ev_varsIn hsame (h2 x hx).1)]
    have hle : lenE.ev U (rOf (es.map (E.ev U r'))) = lenE.ev U (rOf ds) := E.ev_varsIn hsame hlen
    have hl := of_decide_eq_true (hlt q2 q4 (beq_iff_eq.1 q6))
    have h0' := decP_ok (headK_ok hu hI) h0
    simp only [E.ev, O2.ev, D.toB_b, D.toI_i] at h0'; have h0' := of_decide_eq_true h0'
    have hn : (rOf (es.map (E.ev U r')) idx).toI.toNat = (rOf ds idx).toI.toNat + 1 := by rw [hnx]; omega
    rcases ih with ⟨hk0, ih⟩ | ⟨hk1, j, j1, j2, s, hs, j3⟩
    · refine .inl ⟨hk0, fun j h1 h2 s hs => ?_⟩
      by_cases hj : j = (rOf ds idx).toI.toNat
      · subst hj; exact leafGood hs q2 q4 (q7 s hs)
      · rw [← hat s hs]
        exact ih j (by rw [hn]; omega) (by rw [hle]; exact h2) s hs
    · refine .inr ⟨hk1, j, by rw [hn] at j1; omega, by rw [← hle]; exact j2, s, hs, ?_⟩
      rw [← hat s hs]; exact j3

theorem conjE_all : ∀ {l : List E}, ((conjE l).ev U r).toB = l.all fun e => (e.ev U r).toB
  | [] => rfl
  | x :: l => by rw [conjE_ev, conjE_all (l := l), List.all_cons]

/-- A LOOP THAT ASKS WHETHER ALL ELEMENTS ARE GOOD. -/
theorem all_told {A : LoopT} {n0 : Nat} {ss : List AllS} {idx : Nat} {lenE : E} {C : List Nat} {outs : List (List OutW)} {mu : E} {T : Tree LRes} (hU : ∀ s ∈ ss, ∀ d, U s.n d = allVal s.k s.P d) (hends : endsOk A.t.cnt A.inv mu T = true) (hok : okA 1000 T = true)
    (hC : C.all (fun c => Nat.blt c 1000) = true) (hk : keepsT C outs T = true) (hown : outs.all (ownVals 0) = true) (hv : noVals outs = true ∨ ∀ d, U n0 d = loopVal U A.inv T d) (ha : allOk A ss idx lenE C T = true) : Told U T (allRun A n0 ss idx outs) := by
  intro r es hlen hI hent _
  obtain ⟨k, os, hto⟩ := ends_ok hends (ds := es.map (E.ev U r)) (by rw [List.length_map]; exact hlen) hI
  have hC' : ∀ c ∈ C, c < 1000 := fun c hc => by
    rw [List.all_eq_true] at hC
    have := hC c hc
    rwa [Nat.blt_eq] at this
  refine ⟨k, os, hto, ?_, (fun _ hx => by cases hx), fun _ _ _ j => .of_eqv ?_⟩
  · have hloop := all_loop hC' hok hk ha hto
    simp only [allOk, Bool.and_eq_true, beq_iff_eq, Nat.blt_eq] at ha
    obtain ⟨hchk, hinv, h0, hlenC, hidx, hss⟩ := ha
    have hu : ∀ e ∈ A.inv, e.under 1000 = true := fun e he => List.all_eq_true.1 hinv e he
    have hz : (rOf (es.map (E.ev U r)) idx).toI.toNat = 0 := by
      have := hent _ (List.mem_singleton.2 rfl)
      simp only [E.ev, O2.ev, D.toB_b, D.toI_i, beq_iff_eq] at this
      rw [this]; rfl
    rw [hz] at hloop
    show ((conjTag (ss.map fun s => s.word es)).ev U r).toI = k
    -- a word is what is asked of all elements
    have hword : ∀ s ∈ ss, ((s.word es).ev U r).toB = true ↔ ∀ j : Nat, (j : Int) < (lenE.ev U (rOf (es.map (E.ev U r)))).toI → s.at_ U (es.map (E.ev U r)) j = true := by
      intro s hs
      have := List.all_eq_true.1 hss s hs
      simp only [Bool.and_eq_true, Nat.blt_eq, List.all_eq_true, beq_iff_eq] at this
      obtain ⟨h1, h2, h3, h4, h5⟩ := this
      have hl := decP_ok (headK_ok hu hI) h1
      simp only [E.ev, O2.ev, O1.ev, D.toB_b, D.toI_i, beq_iff_eq] at hl
      unfold AllS.word
      simp only [E.ev, hU s hs, allVal, D.toB_b]
      have e0 : ((elemE (nmOf es s.row :: s.xs.map (subX es))).ev U r).at_ 0 = rOf (es.map (E.ev U r)) s.row := by
        rw [elemE_at _ (show (nmOf es s.row :: s.xs.map (subX es))[0]? = some _ by rfl), evs_rOf]
      have eX : (fun j => ((elemE (nmOf es s.row :: s.xs.map (subX es))).ev U r).at_ (j + 1)) = fun q => (s.xs.map (E.ev U (rOf (es.map (E.ev U r))))).getD q (.b false) := by
        funext q
        rw [List.getD_eq_getElem?_getD, List.getElem?_map]
        cases hq : s.xs[q]? with
        | some x =>
          rw [elemE_at _ (show (nmOf es s.row :: s.xs.map (subX es))[q + 1]? = some (subX es x) by rw [List.getElem?_cons_succ, List.getElem?_map, hq]; rfl)]
          have hx := (h3 x (List.mem_of_getElem? hq)).2.1
          obtain ⟨x', hx'⟩ := sub_total (es := es) (e := x) (by rw [hlen]; exact hx)
          unfold subX
          rw [hx']
          exact E.sub_ev (fills_rOf es) hx'
        | none =>
          have : ((elemE (nmOf es s.row :: s.xs.map (subX es))).ev U r).at_ (q + 1) = .b false := by
            unfold elemE D.at_
            rw [foldl_push_ev]
            have : (E.ev U r (.o2 .lrep (.i 0) (.b false))).toL = [] := rfl
            rw [this, List.nil_append, List.getD_eq_getElem?_getD, List.getElem?_map, List.getElem?_cons_succ, List.getElem?_map, hq]; rfl
          rw [this]; rfl
      rw [e0, eX, List.all_eq_true]
      constructor
      · intro h j hj
        unfold AllS.at_
        have hlt : j < (rOf (es.map (E.ev U r)) s.row).toL.length := by omega
        have hm : (rOf (es.map (E.ev U r)) s.row).at_ j ∈ (rOf (es.map (E.ev U r)) s.row).toL := by
          unfold D.at_
          rw [List.getD_eq_getElem?_getD, List.getElem?_eq_getElem hlt]
          exact List.getElem_mem hlt
        exact h _ hm
      · intro h el hel
        obtain ⟨j, hj, rfl⟩ := List.mem_iff_getElem.1 hel
        have := h j (by omega)
        unfold AllS.at_ D.at_ at this
        rw [List.getD_eq_getElem?_getD, List.getElem?_eq_getElem hj] at this
        exact this
    rw [conjTag, mkIte_ev, conjE_all, List.all_map]
    rcases hloop with ⟨hk0, h⟩ | ⟨hk1, j, _, j2, s, hs, j3⟩
    · have : (ss.all ((fun e => (E.ev U r e).toB) ∘ fun s => s.word es)) = true := List.all_eq_true.2 fun s hs => (hword s hs).2 fun j hj => h j (Nat.zero_le _) hj s hs
      rw [this, hk0]; rfl
    · have : (ss.all ((fun e => (E.ev U r e).toB) ∘ fun s => s.word es)) = false := by
        rw [Bool.eq_false_iff]
        intro hall
        have := (hword s hs).1 (List.all_eq_true.1 hall s hs) j j2
        rw [j3] at this; cases this
      rw [this, hk1]; rfl
  · obtain ⟨l, q1, q2, q3⟩ := keeps_loop hC' hok hk hto
    show D.eqv (rOf os j) ((nmOf (resW n0 outs es k es) j).ev U r)
    rw [resW_get n0 outs es k es q1 j]
    cases hx : l[j]? with
    | none =>
      rw [rOf_none (by rw [← q2]; exact List.getElem?_eq_none_iff.1 hx)]
      exact D.eqv.refl _
    | some o =>
      have h4 := q3 j o hx
      cases o with
      | same c => dsimp only at h4 ⊢; rw [h4.2, evs_rOf]; exact D.eqv.refl _
      | lit e => dsimp only at h4 ⊢; rw [h4 r]; exact D.eqv.refl _
      | val i =>
        rcases hv with hv | hv
        · unfold noVals at hv
          rw [List.all_eq_true] at hv
          have := List.all_eq_true.1 (hv l (List.mem_of_getElem? q1)) _ (List.mem_of_getElem? hx)
          cases this
        · dsimp only
          rw [(word_ev hv hto).2 i]
          have : i = j := by
            rw [List.all_eq_true] at hown
            have := ownVals_get (hown l (List.mem_of_getElem? q1)) hx
            omega
          rw [this]; exact D.eqv.refl _
end

/-! ### What is known of what a loop leaves -/

/-- A word of whole numbers over variables; those below 'm' are rows, of which the length alone is asked. -/
def E.flat (m : Nat) : E → Bool
  | .v n => Nat.ble m n
  | .b _ | .i _ => true
  | .o1 o x => (match o, x with
    | .llen, .v _ => true
    | .not, x => x.flat m
    | _, _ => false)
  | .o2 o x y => (match o with
    | .iadd | .isub | .imul | .ieq | .ilt | .ile | .band | .bor => x.flat m && y.flat m
    | _ => false)
  | _ => false
theorem E.flat_ev {U : Nat → D → D} {m : Nat} {r r' : Nat → D} (h : ∀ n, EqAt m n (r n) (r' n)) : ∀ {e : E}, e.flat m = true → (e.ev U r).toB = (e.ev U r').toB ∧ (e.ev U r).toI = (e.ev U r').toI := by
  intro e
  induction e with
  | v n => intro hf; have := (h n).2 (Nat.le_of_ble_eq_true hf); exact ⟨this.1, this.2.1⟩
  | b x => intro _; exact ⟨rfl, rfl⟩
  | i x => intro _; exact ⟨rfl, rfl⟩
  | o1 o x ih =>
    intro hf
    unfold E.flat at hf
    split at hf
    · constructor <;> simp only [E.ev, O1.ev, (h _).1]
    · constructor <;> simp only [E.ev, O1.ev, D.toB_b, (ih hf).1, D.toI]
    · cases hf
  | o2 o x y ihx ihy =>
    intro hf
    have fin : x.flat m = true → y.flat m = true → ((o.ev (x.ev U r) (y.ev U r)).toB = (o.ev (x.ev U r') (y.ev U r')).toB ∧ (o.ev (x.ev U r) (y.ev U r)).toI = (o.ev (x.ev U r') (y.ev U r')).toI) ∨ (match o with | .iadd | .isub | .imul | .ieq | .ilt | .ile | .band | .bor => False | _ => True) := by
      intro hx hy
      obtain ⟨a1, a2⟩ := ihx hx
      obtain ⟨b1, b2⟩ := ihy hy
      cases o <;> first
        | exact .inr trivial
        | (refine .inl ⟨?_, ?_⟩ <;> simp only [O2.ev, a1, a2, b1, b2])
    cases o <;> simp only [E.flat, Bool.and_eq_true, Bool.false_eq_true] at hf <;> exact (fin hf.1 hf.2).elim id (fun h => h.elim)
  | _ => intro hf; cases hf

/-- What holds at each way out, over what it leaves. -/
def postLeaf (pf : List (List E)) (K : Ks) : LRes → Bool
  | .done k os => (pf.getD k []).all fun e => match e.sub (numbered 0 os) with
    | some e' => decP K e' == some true
    | none => false
  | .next _ => true
  | .stuck => false
def postOk (A : LoopT) (pf : List (List E)) (T : Tree LRes) : Bool :=
  chkT (fun _ => postLeaf pf) 1000 (headK A.inv) T && ((A.inv.all fun e => e.under 1000) && (List.range pf.length).all fun k => (pf.getD k []).all fun e => match A.outs[k]? with
    | some o => e.flat o.2.blks.length
    | none => false)
def postRun (R : LRun) (pf : List (List E)) : LRun := { R with post := fun k es => (pf.getD k []).filterMap fun e => (e.sub (numbered 0 (R.res k es))).map (·, true) }
section
variable {U : Nat → D → D} {r : Nat → D}
theorem post_loop {A : LoopT} {pf : List (List E)} {T : Tree LRes} (ha : postOk A pf T = true) {ds : List D} {k : Nat} {os : List D} (h : LoopTo U A.inv T ds k os) : ∀ e ∈ pf.getD k [], (e.ev U (rOf os)).toB = true := by
  simp only [postOk, Bool.and_eq_true] at ha
  obtain ⟨hchk, hinv, _⟩ := ha
  have hu : ∀ e ∈ A.inv, e.under 1000 = true := fun e he => List.all_eq_true.1 hinv e he
  induction h with
  | @done ds k es r' hI he =>
    obtain ⟨x, r1, m1, K1, q1, q2, _, q4, q5⟩ := chkT_ok hchk (headK_ok hu hI)
    rw [he] at q1
    cases q1
    intro e hm
    simp only [postLeaf, List.all_eq_true] at q5
    have := q5 e hm
    split at this
    · rename_i e' he'
      have h2 := decP_ok q4 (beq_iff_eq.1 this)
      rw [E.sub_ev (fills_rOf es) he'] at h2
      exact h2
    · cases this
  | next _ _ _ ih => exact ih

/-- A LOOP THAT IS TOLD, AND WHAT HOLDS BEHIND IT. -/
theorem post_told {R : LRun} {pf : List (List E)} {T : Tree LRes} (ht : Told U T R) (ha : postOk R.loop pf T = true) : Told U T (postRun R pf) := by
  intro r es h1 h2 h3 h4
  obtain ⟨k, os, q1, q2, q3, q4⟩ := ht r es h1 h2 h3 h4
  refine ⟨k, os, q1, q2, ?_, q4⟩
  have hp := post_loop ha q1
  simp only [postOk, Bool.and_eq_true, List.all_eq_true] at ha
  obtain ⟨_, _, hfl⟩ := ha
  intro x hx
  obtain ⟨e, he, hs⟩ := List.mem_filterMap.1 hx
  simp only [Option.map_eq_some_iff] at hs
  obtain ⟨e', he', rfl⟩ := hs
  show (e'.ev U r).toB = true
  have hk : k < pf.length := by
    rcases Nat.lt_or_ge k pf.length with h | h
    · exact h
    · rw [List.getD_eq_getElem?_getD, List.getElem?_eq_none h] at he; cases he
  have := hfl k (List.mem_range.2 hk) e he
  split at this
  · rename_i o ho
    have h5 := q4 o.1 o.2 ho
    have hf := fills_rOf (U := U) (r := r) (R.res k es)
    rw [E.sub_ev hf he']
    have := (E.flat_ev (U := U) (r := rOf os) (r' := rOf ((R.res k es).map (E.ev U r))) (fun n => by rw [evs_rOf]; exact h5 n) this).1
    rw [← this]
    exact hp e he
  · cases this
end

/-! ### Functions with many told loops -/

/-- Told loops: the first region's number in the body, which loop of the text it is, and what is told. -/
def loopsAt (l : List (Nat × Nat × LRun)) : Loops := fun n => (l.find? fun e => Nat.beq e.1 n).map (·.2.2)
def keysOk (body : Code) (l : List (Nat × Nat × LRun)) : Bool := (List.range (loopsOf body).length).all fun i => match firstRegion (bodyOf body i) with
  | some key => (match l.find? fun e => Nat.beq e.1 key with
    | some e => Nat.beq e.2.1 i
    | none => true)
  | none => true
theorem loopsAt_ok {U : Nat → D → D} {P : Program} {body : Code} {l : List (Nat × Nat × LRun)} (hk : keysOk body l = true) (hl : ∀ e ∈ l, LRunOk U P (bodyOf body e.2.1) e.2.2) : LoopsOk U P (loopsAt l) body := by
  intro b hb R hR
  obtain ⟨i, hi, he⟩ := List.mem_iff_getElem.1 hb
  have hbi : b = bodyOf body i := by unfold bodyOf; rw [List.getElem?_eq_getElem hi, ← he]; rfl
  have := List.all_eq_true.1 hk i (List.mem_range.2 hi)
  rw [← hbi] at this
  unfold Loops.at_ at hR
  split at hR
  · rename_i key hkey
    rw [hkey] at this
    unfold loopsAt at hR
    simp only [Option.map_eq_some_iff] at hR
    obtain ⟨e, h1, rfl⟩ := hR
    dsimp only at this
    rw [h1] at this
    dsimp only at this
    have hm := List.mem_of_find?_eq_some h1
    have h2 := hl e hm
    rw [Nat.eq_of_beq_eq_true this, ← hbi] at h2
    exact h2
  · cases hR
/-- A FUNCTION WITH TOLD LOOPS. -/
theorem loopsFn_entry {U : Nat → D → D} {P : Program} {f : FuncId} {fn : Func} {body : Code} {ct : Contracts} {n : Nat} {l : List (Nat × Nat × LRun)} (hm : P.follows .mixedOrders = true) (hn : NamesOk P) (hct : ContractsOk U P ct) (hf : P.funcs[f]? = some fn) (hb : fn.body = some body)
    (hk : keysOk body l = true) (hl : ∀ e ∈ l, LRunOk U P (bodyOf body e.2.1) e.2.2) : EntryOk U P f (textL P ct (loopsAt l) n fn body) := textL_entry hm hn hct hf hb (loopsAt_ok hk hl)
theorem told_ok {U : Nat → D → D} {P : Program} {b : Code} {ct : Contracts} {n : Nat} {R : LRun} (hm : P.follows .mixedOrders = true) (hn : NamesOk P) (hct : ContractsOk U P ct) (hwf : R.loop.wf = true)
    (hok : okA 1000 (mapT R.loop.leaf (execL P ct (fun _ => none) n b R.loop.s0)) = true) (ht : Told U (mapT R.loop.leaf (execL P ct (fun _ => none) n b R.loop.s0)) R) : LRunOk U P b R := lrun_ok (execL_ok hm hn hct n _ loops_none) hwf hok ht
/-- One of two contracts, by what is handed over. -/
def pickRun (q : List SV → Bool) (a b : List SV → Cx → Tree (SV × Cx)) : List SV → Cx → Tree (SV × Cx) := fun args c => if q args then a args c else b args c
theorem pick_ok {U : Nat → D → D} {P : Program} {f : FuncId} {q : List SV → Bool} {a b : List SV → Cx → Tree (SV × Cx)} (ha : EntryOk U P f a) (hb : EntryOk U P f b) : EntryOk U P f (pickRun q a b) := by
  intro args c L r g w vs K hh hp hd h
  unfold pickRun at h
  split at h
  · exact ha args c L r g w vs K hh hp hd h
  · exact hb args c L r g w vs K hh hp hd h
/-- Is the second argument that function? -/
def fnIs (f : FuncId) : List SV → Bool
  | [_, .fn (.func g) _ _] => Nat.beq g f
  | _ => false

end Go.Sx
