/-
  Sx, part V: what is finite: a sum, a difference, a product is finite only of finite numbers; ways that cannot be.
-/
import Derived.Test.YtaflnmmnaiaceaaSxU
namespace Go.Sx
open Ieee
open E (mk1 mk2 mkIte mk1_ev mk2_ev mkIte_ev)

/-- A class of a number (no infinity, no not-a-number). -/
def IsNum (k : FloatKind) (x : Fl) : Prop := ∃ a, x = some a ∧ ∃ s m p, k.format.read a = .number s m p

theorem read_word_inf (k : FloatKind) (s : Bool) : ∃ t, k.format.read (k.format.word s k.format.infRung) = .infinity t := by
  cases k <;> cases s <;> exact ⟨_, rfl⟩

theorem sum_num {k : FloatKind} {a b d : Datum} (h : a.sum b = some d) (hd : ∃ s m p, k.format.read (k.format.write d) = .number s m p) :
    (∃ s m p, a = .number s m p) ∧ ∃ s m p, b = .number s m p := by
  cases a with
  | nan => cases b <;> simp [Datum.sum] at h
  | infinity s =>
    cases b with
    | nan => simp [Datum.sum] at h
    | infinity t =>
      simp [Datum.sum] at h
      obtain ⟨_, rfl⟩ := h
      obtain ⟨t', ht⟩ := read_word_inf k s
      obtain ⟨s1, m1, p1, hd⟩ := hd
      have hd : k.format.read (k.format.word s k.format.infRung) = .number s1 m1 p1 := hd
      rw [ht] at hd; cases hd
    | number t n j =>
      simp [Datum.sum] at h
      subst h
      obtain ⟨t', ht⟩ := read_word_inf k s
      obtain ⟨s1, m1, p1, hd⟩ := hd
      have hd : k.format.read (k.format.word s k.format.infRung) = .number s1 m1 p1 := hd
      rw [ht] at hd; cases hd
  | number s m i =>
    cases b with
    | nan => simp [Datum.sum] at h
    | infinity t =>
      simp [Datum.sum] at h
      subst h
      obtain ⟨t', ht⟩ := read_word_inf k t
      obtain ⟨s1, m1, p1, hd⟩ := hd
      have hd : k.format.read (k.format.word t k.format.infRung) = .number s1 m1 p1 := hd
      rw [ht] at hd; cases hd
    | number t n j => exact ⟨⟨_, _, _, rfl⟩, ⟨_, _, _, rfl⟩⟩

theorem product_num {k : FloatKind} {a b d : Datum} (h : a.product b = some d) (hd : ∃ s m p, k.format.read (k.format.write d) = .number s m p) :
    (∃ s m p, a = .number s m p) ∧ ∃ s m p, b = .number s m p := by
  have inf : ∀ s, d = .infinity s → False := by
    rintro s rfl
    obtain ⟨t', ht⟩ := read_word_inf k s
    obtain ⟨s1, m1, p1, hd⟩ := hd
    have hd : k.format.read (k.format.word s k.format.infRung) = .number s1 m1 p1 := hd
    rw [ht] at hd; cases hd
  cases a with
  | nan => cases b <;> simp [Datum.product] at h
  | infinity s =>
    cases b with
    | nan => simp [Datum.product] at h
    | infinity t => simp [Datum.product] at h; exact (inf _ h.symm).elim
    | number t n j => simp [Datum.product] at h; exact (inf _ h.2.symm).elim
  | number s m i =>
    cases b with
    | nan => simp [Datum.product] at h
    | infinity t => simp [Datum.product] at h; exact (inf _ h.2.symm).elim
    | number t n j => exact ⟨⟨_, _, _, rfl⟩, ⟨_, _, _, rfl⟩⟩

theorem opposite_num {b : Datum} (h : ∃ s m p, b.opposite = .number s m p) : ∃ s m p, b = .number s m p := by
  cases b with
  | number s m p => exact ⟨_, _, _, rfl⟩
  | infinity s => obtain ⟨_, _, _, h⟩ := h; cases h
  | nan s t => obtain ⟨_, _, _, h⟩ := h; cases h

theorem add_num {k : FloatKind} {x y : Fl} (h : IsNum k (Fl.add k x y)) : IsNum k x ∧ IsNum k y := by
  cases x with
  | none => obtain ⟨_, h, _⟩ := h; cases h
  | some a =>
    cases y with
    | none => obtain ⟨_, h, _⟩ := h; cases h
    | some b =>
      obtain ⟨w, h, hw⟩ := h
      have h : (((k.format.read a).sum (k.format.read b)).map k.format.write) = some w := h
      rw [Option.map_eq_some_iff] at h
      obtain ⟨d, h1, rfl⟩ := h
      obtain ⟨h2, h3⟩ := sum_num h1 hw
      exact ⟨⟨a, rfl, h2⟩, ⟨b, rfl, h3⟩⟩

theorem sub_num {k : FloatKind} {x y : Fl} (h : IsNum k (Fl.sub k x y)) : IsNum k x ∧ IsNum k y := by
  cases x with
  | none => obtain ⟨_, h, _⟩ := h; cases h
  | some a =>
    cases y with
    | none => obtain ⟨_, h, _⟩ := h; cases h
    | some b =>
      obtain ⟨w, h, hw⟩ := h
      have h : (((k.format.read a).sum (k.format.read b).opposite).map k.format.write) = some w := h
      rw [Option.map_eq_some_iff] at h
      obtain ⟨d, h1, rfl⟩ := h
      obtain ⟨h2, h3⟩ := sum_num h1 hw
      exact ⟨⟨a, rfl, h2⟩, ⟨b, rfl, opposite_num h3⟩⟩

theorem mul_num {k : FloatKind} {x y : Fl} (h : IsNum k (Fl.mul k x y)) : IsNum k x ∧ IsNum k y := by
  cases x with
  | none => obtain ⟨_, h, _⟩ := h; cases h
  | some a =>
    cases y with
    | none => obtain ⟨_, h, _⟩ := h; cases h
    | some b =>
      obtain ⟨w, h, hw⟩ := h
      have h : (((k.format.read a).product (k.format.read b)).map k.format.write) = some w := h
      rw [Option.map_eq_some_iff] at h
      obtain ⟨d, h1, rfl⟩ := h
      obtain ⟨h2, h3⟩ := product_num h1 hw
      exact ⟨⟨a, rfl, h2⟩, ⟨b, rfl, h3⟩⟩

/-- Go's own test 'x - x == 0'. -/
def finF (k : FloatKind) (x : Fl) : Bool := Fl.eq k (Fl.sub k x x) (some 0)

theorem zero_eq (k : FloatKind) : Fl.eq k (some 0) (some 0) = true := by cases k <;> decide +kernel

theorem self_sum (s : Bool) (m : Nat) (p : Int) : (Datum.number s m p).sum (Datum.number s m p).opposite = some (.number false 0 p) := by
  simp only [Datum.opposite, Datum.sum]
  cases s <;> simp [signed] <;> omega

theorem finF_iff (k : FloatKind) (x : Fl) : finF k x = true ↔ IsNum k x := by
  constructor
  · intro h
    cases x with
    | none => unfold finF at h; cases h
    | some a =>
      cases hr : k.format.read a with
      | number s m p => exact ⟨a, rfl, s, m, p, hr⟩
      | infinity s =>
        have : Fl.sub k (some a) (some a) = none := by
          show (((k.format.read a).sum (k.format.read a).opposite).map k.format.write) = none
          rw [hr]; cases s <;> rfl
        unfold finF at h; rw [this] at h; cases h
      | nan s t =>
        have : Fl.sub k (some a) (some a) = none := by
          show (((k.format.read a).sum (k.format.read a).opposite).map k.format.write) = none
          rw [hr]; rfl
        unfold finF at h; rw [this] at h; cases h
  · rintro ⟨a, rfl, s, m, p, hr⟩
    have : Fl.sub k (some a) (some a) = some 0 := by
      show (((k.format.read a).sum (k.format.read a).opposite).map k.format.write) = some 0
      rw [hr, self_sum]
      show some (k.format.nearest false 0 p) = some 0
      unfold Format.nearest
      rw [if_pos rfl]; rfl
    unfold finF; rw [this]; exact zero_eq k

/-! ### Ways that cannot be -/

/-- The word that a variable names. -/
def unName (env : List (Nat × E)) : E → E
  | .v n => (lkM n env).getD (.v n)
  | e => e

/-- Go's own test, seen as a word: which expression is asked whether it is finite. -/
def isFin? (env : List (Nat × E)) : E → Option (FloatKind × E)
  | .o2 (.feq k) x (.f (some 0)) => (match unName env x with
    | .o2 (.fsub k') a b => if k = k' && E.same a b then some (k, a) else none
    | _ => none)
  | _ => none

/-- What is finite with what is finite: one walk over the names, the newest first. -/
def close : List (Nat × E) → List (FloatKind × E) → List (FloatKind × E)
  | [], F => F
  | (i, e) :: env, F =>
    match e with
    | .o2 (.fadd k) a b => if F.any (fun q => q.1 = k && E.same q.2 (.v i)) then close env ((k, a) :: (k, b) :: F) else close env F
    | .o2 (.fsub k) a b => if F.any (fun q => q.1 = k && E.same q.2 (.v i)) then close env ((k, a) :: (k, b) :: F) else close env F
    | .o2 (.fmul k) a b => if F.any (fun q => q.1 = k && E.same q.2 (.v i)) then close env ((k, a) :: (k, b) :: F) else close env F
    | _ => close env F

def hit (F N : List (FloatKind × E)) : Bool := F.any fun p => N.any fun q => p.1 = q.1 && E.same p.2 q.2

def allTrueF : Nat → List (Nat × E) → List (FloatKind × E) → List (FloatKind × E) → Tree SV → Bool
  | _, _, _, _, .ret (.bool (.b true)) => true
  | m, env, F, N, .ite c t e => c.under m && (match isFin? env c with
    | some (k, x) =>
      let F' := close env [(k, x)]
      (hit F' N || allTrueF m env (F' ++ F) N t) && (hit F [(k, x)] || allTrueF m env F ((k, x) :: N) e)
    | none => allTrueF m env F N t && allTrueF m env F N e)
  | m, env, F, N, .chk (.o2 .fsame (.v i) e) t => Nat.ble m i && (e.under m && allTrueF (i + 1) ((i, e) :: env) F N t)
  | _, _, _, _, _ => false

/-- What the names say. -/
def EnvOk (U : Nat → D → D) (r : Nat → D) (env : List (Nat × E)) : Prop := ∀ p ∈ env, r p.1 = p.2.ev U r

section
variable {U : Nat → D → D} {r : Nat → D} {w : World} {K : Value → World → Prop}

theorem lkM_mem {n : Nat} {e : E} : ∀ {env : List (Nat × E)}, lkM n env = some e → (n, e) ∈ env := by
  intro env
  induction env with
  | nil => intro h; cases h
  | cons p l ih =>
    obtain ⟨i, x⟩ := p
    intro h
    unfold lkM at h
    cases hb : Nat.beq i n with
    | true =>
      rw [hb] at h
      simp only [cond_true, Option.some.injEq] at h
      rw [Nat.eq_of_beq_eq_true hb, h]; exact List.mem_cons_self ..
    | false => rw [hb] at h; exact List.mem_cons_of_mem _ (ih h)

theorem unName_ev {env : List (Nat × E)} (he : EnvOk U r env) (e : E) : (unName env e).ev U r = e.ev U r := by
  cases e with
  | v n =>
    show ((lkM n env).getD (.v n)).ev U r = _
    cases h : lkM n env with
    | none => rfl
    | some x => exact (he _ (lkM_mem h)).symm
  | _ => rfl

theorem isFin?_ok {env : List (Nat × E)} (he : EnvOk U r env) {e a : E} {k : FloatKind} (h : isFin? env e = some (k, a)) : (e.ev U r).toB = finF k (a.ev U r).toF := by
  unfold isFin? at h
  split at h
  · rename_i k0 x
    split at h
    · rename_i k' a' b' hx
      split at h
      · rename_i hc
        simp only [Bool.and_eq_true, decide_eq_true_eq] at hc
        obtain ⟨rfl, hs⟩ := hc
        have := E.same_eq hs
        subst this
        cases h
        have hv := unName_ev he x
        rw [hx] at hv
        simp only [E.ev, O2.ev, D.toB_b] at hv ⊢
        rw [← hv]; rfl
      · cases h
    · cases h
  · cases h

def Fins (U : Nat → D → D) (r : Nat → D) (F : List (FloatKind × E)) : Prop := ∀ q ∈ F, IsNum q.1 (q.2.ev U r).toF

theorem close_ok : ∀ {env : List (Nat × E)} {F : List (FloatKind × E)}, EnvOk U r env → Fins U r F → Fins U r (close env F) := by
  intro env
  induction env with
  | nil => intro F _ hF; exact hF
  | cons p env ih =>
    obtain ⟨i, e⟩ := p
    intro F he hF
    have he' : EnvOk U r env := fun p hp => he p (List.mem_cons_of_mem _ hp)
    have hi : r i = e.ev U r := he (i, e) (List.mem_cons_self ..)
    have step : ∀ {k : FloatKind} {a b : E}, (IsNum k (r i).toF → IsNum k (a.ev U r).toF ∧ IsNum k (b.ev U r).toF) →
        Fins U r (if F.any (fun q => q.1 = k && E.same q.2 (.v i)) then close env ((k, a) :: (k, b) :: F) else close env F) := by
      intro k a b hop
      split
      · rename_i hany
        rw [List.any_eq_true] at hany
        obtain ⟨q, hq, h2⟩ := hany
        simp only [Bool.and_eq_true, decide_eq_true_eq] at h2
        have hn := hF q hq
        rw [E.same_eq h2.2, h2.1] at hn
        obtain ⟨h3, h4⟩ := hop hn
        refine ih he' (fun x hx => ?_)
        rcases List.mem_cons.1 hx with rfl | hx
        · exact h3
        · rcases List.mem_cons.1 hx with rfl | hx
          · exact h4
          · exact hF x hx
      · exact ih he' hF
    unfold close
    split
    · exact step (fun hn => by rw [hi] at hn; exact add_num hn)
    · exact step (fun hn => by rw [hi] at hn; exact sub_num hn)
    · exact step (fun hn => by rw [hi] at hn; exact mul_num hn)
    · exact ih he' hF

theorem hit_ok {F N : List (FloatKind × E)} (h : hit F N = true) (hF : Fins U r F) (hN : ∀ q ∈ N, ¬ IsNum q.1 (q.2.ev U r).toF) : False := by
  unfold hit at h
  rw [List.any_eq_true] at h
  obtain ⟨p, hp, h⟩ := h
  rw [List.any_eq_true] at h
  obtain ⟨q, hq, h⟩ := h
  simp only [Bool.and_eq_true, decide_eq_true_eq] at h
  have := hF p hp
  rw [h.1, E.same_eq h.2] at this
  exact hN q hq this

/-- All variables are old: a new one turns nothing. -/
def EnvUnder (m : Nat) (env : List (Nat × E)) : Prop := ∀ p ∈ env, p.1 < m ∧ p.2.under m = true

theorem under_mono {m m' : Nat} (h : m ≤ m') : ∀ {e : E}, e.under m = true → e.under m' = true := by
  intro e
  induction e with
  | v n => intro hu; simp [E.under] at hu ⊢; omega
  | b x => intro _; rfl
  | i x => intro _; rfl
  | f x => intro _; rfl
  | s x => intro _; rfl
  | o1 o x ih => intro hu; exact ih hu
  | app n x ih => intro hu; exact ih hu
  | o2 o x y ihx ihy => intro hu; simp [E.under] at hu ⊢; exact ⟨ihx hu.1, ihy hu.2⟩
  | o3 o x y z ihx ihy ihz => intro hu; simp [E.under] at hu ⊢; exact ⟨ihx hu.1, ihy hu.2.1, ihz hu.2.2⟩

theorem upd_under {m i : Nat} {d : D} (h : m ≤ i) {e : E} (hu : e.under m = true) : e.ev U (Tree.upd r i d) = e.ev U r :=
  E.ev_under U (fun n hn => by unfold Tree.upd; rw [if_neg (by omega)]) hu

theorem close_under {m : Nat} : ∀ {env : List (Nat × E)} {F : List (FloatKind × E)}, EnvUnder m env → (∀ q ∈ F, q.2.under m = true) → ∀ q ∈ close env F, q.2.under m = true := by
  intro env
  induction env with
  | nil => intro F _ hF; exact hF
  | cons p env ih =>
    obtain ⟨i, e⟩ := p
    intro F he hF
    have he' : EnvUnder m env := fun p hp => he p (List.mem_cons_of_mem _ hp)
    have hi : e.under m = true := (he (i, e) (List.mem_cons_self ..)).2
    have step : ∀ {k : FloatKind} {a b : E}, a.under m = true → b.under m = true →
        ∀ q ∈ (if F.any (fun q => q.1 = k && E.same q.2 (.v i)) then close env ((k, a) :: (k, b) :: F) else close env F), q.2.under m = true := by
      intro k a b ha hb
      split
      · refine ih he' (fun x hx => ?_)
        rcases List.mem_cons.1 hx with rfl | hx
        · exact ha
        · rcases List.mem_cons.1 hx with rfl | hx
          · exact hb
          · exact hF x hx
      · exact ih he' hF
    unfold close
    split
    · simp only [E.under, Bool.and_eq_true] at hi; exact step hi.1 hi.2
    · simp only [E.under, Bool.and_eq_true] at hi; exact step hi.1 hi.2
    · simp only [E.under, Bool.and_eq_true] at hi; exact step hi.1 hi.2
    · exact ih he' hF

theorem isFin?_under {env : List (Nat × E)} {m : Nat} (he : EnvUnder m env) {e a : E} {k : FloatKind} (hu : e.under m = true) (h : isFin? env e = some (k, a)) : a.under m = true := by
  unfold isFin? at h
  split at h
  · rename_i k0 x
    simp only [E.under, Bool.and_eq_true] at hu
    have hx' : (unName env x).under m = true := by
      cases x with
      | v n =>
        show ((lkM n env).getD (.v n)).under m = true
        cases h : lkM n env with
        | none => exact hu.1
        | some y => exact (he _ (lkM_mem h)).2
      | _ => exact hu.1
    split at h
    · rename_i k' a' b' hx
      split at h
      · cases h
        rw [hx] at hx'
        simp only [E.under, Bool.and_eq_true] at hx'
        exact hx'.1
      · cases h
    · cases h
  · cases h

theorem allTrueF_lets (hK : ∀ w', Frm (fun _ => False) w w' → K (.bool true) w') : ∀ {t : Tree SV} {m : Nat} {env : List (Nat × E)} {F N : List (FloatKind × E)} {r : Nat → D}, allTrueF m env F N t = true →
    EnvOk U r env → EnvUnder m env → Fins U r F → (∀ q ∈ F, q.2.under m = true) → (∀ q ∈ N, ¬ IsNum q.1 (q.2.ev U r).toF) → (∀ q ∈ N, q.2.under m = true) → Lets U K w m r t := by
  intro t
  induction t with
  | ret x =>
    intro m env F N r h
    unfold allTrueF at h
    split at h
    · rename_i h'
      cases h'
      intro _ _ _ _ _ _ g' L' v w' hf hd
      simp only [SV.den, E.ev, D.toB] at hd
      subst hd
      exact hK w' hf
    all_goals first | cases h | (rename_i h'; cases h')
  | ite c t e iht ihe =>
    intro m env F N r h he hu hF hFu hN hNu
    simp only [allTrueF, Bool.and_eq_true] at h
    obtain ⟨hc, h⟩ := h
    refine ⟨hc, ?_⟩
    cases hfin : isFin? env c with
    | some q =>
      obtain ⟨k, x⟩ := q
      rw [hfin] at h
      have hnum := isFin?_ok he hfin
      have hxu := isFin?_under hu hc hfin
      simp only [Bool.and_eq_true, Bool.or_eq_true] at h
      constructor
      · intro hb
        have hx : IsNum k (x.ev U r).toF := (finF_iff k _).1 (hnum ▸ hb)
        have hF' : Fins U r (close env [(k, x)]) := close_ok he (fun q hq => by
          rcases List.mem_cons.1 hq with rfl | hq
          · exact hx
          · cases hq)
        have hFu' := close_under (F := [(k, x)]) hu (fun q hq => by
          rcases List.mem_cons.1 hq with rfl | hq
          · exact hxu
          · cases hq)
        rcases h.1 with h1 | h1
        · exact (hit_ok h1 hF' hN).elim
        · refine iht h1 he hu (fun q hq => ?_) (fun q hq => ?_) hN hNu
          · rcases List.mem_append.1 hq with hq | hq
            · exact hF' q hq
            · exact hF q hq
          · rcases List.mem_append.1 hq with hq | hq
            · exact hFu' q hq
            · exact hFu q hq
      · intro hb
        have hx : ¬ IsNum k (x.ev U r).toF := fun hx => by rw [hnum, (finF_iff k _).2 hx] at hb; cases hb
        rcases h.2 with h1 | h1
        · exact (hit_ok h1 hF (fun q hq => by
            rcases List.mem_cons.1 hq with rfl | hq
            · exact hx
            · cases hq)).elim
        · refine ihe h1 he hu hF hFu (fun q hq => ?_) (fun q hq => ?_)
          · rcases List.mem_cons.1 hq with rfl | hq
            · exact hx
            · exact hN q hq
          · rcases List.mem_cons.1 hq with rfl | hq
            · exact hxu
            · exact hNu q hq
    | none =>
      rw [hfin] at h
      simp only [Bool.and_eq_true] at h
      exact ⟨fun _ => iht h.1 he hu hF hFu hN hNu, fun _ => ihe h.2 he hu hF hFu hN hNu⟩
  | chk c t ih =>
    intro m env F N r h
    unfold allTrueF at h
    split at h
    · rename_i h'; cases h'
    · rename_i h'; cases h'
    · rename_i m' env' F' N' i e t' h'
      cases h'
      intro he hu hF hFu hN hNu
      simp only [Bool.and_eq_true] at h
      have hm := Nat.le_of_ble_eq_true h.1
      refine ⟨i, e, rfl, hm, h.2.1, ih h.2.2 ?_ ?_ ?_ ?_ ?_ ?_⟩
      · intro p hp
        rcases List.mem_cons.1 hp with rfl | hp
        · show Tree.upd r i (e.ev U r) i = _
          rw [upd_under hm h.2.1]; unfold Tree.upd; rw [if_pos rfl]
        · have h1 := hu p hp
          rw [upd_under hm h1.2]
          unfold Tree.upd
          rw [if_neg (by omega)]
          exact he p hp
      · intro p hp
        rcases List.mem_cons.1 hp with rfl | hp
        · exact ⟨Nat.lt_succ_self _, under_mono (Nat.le_succ_of_le hm) h.2.1⟩
        · exact ⟨by have := (hu p hp).1; omega, under_mono (Nat.le_succ_of_le hm) (hu p hp).2⟩
      · intro q hq
        rw [upd_under hm (hFu q hq)]; exact hF q hq
      · intro q hq; exact under_mono (Nat.le_succ_of_le hm) (hFu q hq)
      · intro q hq
        rw [upd_under hm (hNu q hq)]; exact hN q hq
      · intro q hq; exact under_mono (Nat.le_succ_of_le hm) (hNu q hq)
    · cases h
  | all i t ih => intro m env F N r h; simp [allTrueF] at h
  | asm e t ih => intro m env F N r h; simp [allTrueF] at h
  | bad => intro m env F N r h; simp [allTrueF] at h

theorem law_of_F {T : Tree SV} {ps : List Pt} (h : allTrueF 1000 [] [] [] T = true) : LawOk U T ps := fun _ _ _ _ hK =>
  allTrueF_lets hK h (fun _ h => by cases h) (fun _ h => by cases h) (fun _ h => by cases h) (fun _ h => by cases h) (fun _ h => by cases h) (fun _ h => by cases h)
end
end Go.Sx
