/-
  Sx, part V: what is finite: a sum, a difference, a product is finite only of finite numbers; ways that cannot be.
-/
import Derived.Test.YtdgenclminhcdaaSxU
namespace Go.Sx
open Ieee
open E (mk1 mk2 mkIte mk1_ev mk2_ev mkIte_ev)

/-- A class of a number (no infinity, no not-a-number). -/
def IsNum (k : FloatKind) (x : Fl) : Prop := ∃ a, x = some a ∧ ∃ s m p, k.format.read a = .number s m p

theorem read_word_inf (k : FloatKind) (s : Bool) : ∃ t, k.format.read (k.format.word s k.format.infRung) = .infinity t := by
  cases k <;> cases s <;> exact ⟨_, rfl⟩

theorem sum_num {k : FloatKind} {a b d : Datum} (h : a.sum b = some d) (hd : ∃ s m p, k.format.read (k.format.write d) = .number s m p) :
    (∃ s m p, a = .number s m p) ∧ ∃ s m p, b = .number s m p := by
  cases a with
  | nan => cases b <;> simp [Datum.sum] at h
  | infinity s =>
    cases b with
    | nan => simp [Datum.sum] at h
    | infinity t =>
      simp [Datum.sum] at h
      obtain ⟨_, rfl⟩ := h
      obtain ⟨t', ht⟩ := read_word_inf k s
      obtain ⟨s1, m1, p1, hd⟩ := hd
      have hd : k.format.read (k.format.word s k.format.infRung) = .number s1 m1 p1 := hd
      rw [ht] at hd; cases hd
    | number t n j =>
      simp [Datum.sum] at h
      subst h
      obtain ⟨t', ht⟩ := read_word_inf k s
      obtain ⟨s1, m1, p1, hd⟩ := hd
      have hd : k.format.read (k.format.word s k.format.infRung) = .number s1 m1 p1 := hd
      rw [ht] at hd; cases hd
  | number s m i =>
    cases b with
    | nan => simp [Datum.sum] at h
    | infinity t =>
      simp [Datum.sum] at h
      subst h
      obtain ⟨t', ht⟩ := read_word_inf k t
      obtain ⟨s1, m1, p1, hd⟩ := hd
      have hd : k.format.read (k.format.word t k.format.infRung) = .number s1 m1 p1 := hd
      rw [ht] at hd; cases hd
    | number t n j => exact ⟨⟨_, _, _, rfl⟩, ⟨_, _, _, rfl⟩⟩

theorem product_num {k : FloatKind} {a b d : Datum} (h : a.product b = some d) (hd : ∃ s m p, k.format.read (k.format.write d) = .number s m p) :
    (∃ s m p, a = .number s m p) ∧ ∃ s m p, b = .number s m p := by
  have inf : ∀ s, d = .infinity s → False := by
    rintro s rfl
    obtain ⟨t', ht⟩ := read_word_inf k s
    obtain ⟨s1, m1, p1, hd⟩ := hd
    have hd : k.format.read (k.format.word s k.format.infRung) = .number s1 m1 p1 := hd
    rw [ht] at hd; cases hd
  cases a with
  | nan => cases b <;> simp [Datum.product] at h
  | infinity s =>
    cases b with
    | nan => simp [Datum.product] at h
    | infinity t => simp [Datum.product] at h; exact (inf _ h.symm).elim
    | number t n j => simp [Datum.product] at h; exact (inf _ h.2.symm).elim
  | number s m i =>
    cases b with
    | nan => simp [Datum.product] at h
    | infinity t => simp [Datum.product] at h; exact (inf _ h.2.symm).elim
    | number t n j => exact ⟨⟨_, _, _, rfl⟩, ⟨_, _, _, rfl⟩⟩

theorem opposite_num {b : Datum} (h : ∃ s m p, b.opposite = .number s m p) : ∃ s m p, b = .number s m p := by
  cases b with
  | number s m p => exact ⟨_, _, _, rfl⟩
  | infinity s => obtain ⟨_, _, _, h⟩ := h; cases h
  | nan s t => obtain ⟨_, _, _, h⟩ := h; cases h

theorem add_num {k : FloatKind} {x y : Fl} (h : IsNum k (Fl.add k x y)) : IsNum k x ∧ IsNum k y := by
  cases x with
  | none => obtain ⟨_, h, _⟩ := h; cases h
  | some a =>
    cases y with
    | none => obtain ⟨_, h, _⟩ := h; cases h
    | some b =>
      obtain ⟨w, h, hw⟩ := h
      have h : (((k.format.read a).sum (k.format.read b)).map k.format.write) = some w := h
      rw [Option.map_eq_some_iff] at h
      obtain ⟨d, h1, rfl⟩ := h
      obtain ⟨h2, h3⟩ := sum_num h1 hw
      exact ⟨⟨a, rfl, h2⟩, ⟨b, rfl, h3⟩⟩

theorem sub_num {k : FloatKind} {x y : Fl} (h : IsNum k (Fl.sub k x y)) : IsNum k x ∧ IsNum k y := by
  cases x with
  | none => obtain ⟨_, h, _⟩ := h; cases h
  | some a =>
    cases y with
    | none => obtain ⟨_, h, _⟩ := h; cases h
    | some b =>
      obtain ⟨w, h, hw⟩ := h
      have h : (((k.format.read a).sum (k.format.read b).opposite).map k.format.write) = some w := h
      rw [Option.map_eq_some_iff] at h
      obtain ⟨d, h1, rfl⟩ := h
      obtain ⟨h2, h3⟩ := sum_num h1 hw
      exact ⟨⟨a, rfl, h2⟩, ⟨b, rfl, opposite_num h3⟩⟩

theorem mul_num {k : FloatKind} {x y : Fl} (h : IsNum k (Fl.mul k x y)) : IsNum k x ∧ IsNum k y := by
  cases x with
  | none => obtain ⟨_, h, _⟩ := h; cases h
  | some a =>
    cases y with
    | none => obtain ⟨_, h, _⟩ := h; cases h
    | some b =>
      obtain ⟨w, h, hw⟩ := h
      have h : (((k.format.read a).product (k.format.read b)).map k.format.write) = some w := h
      rw [Option.map_eq_some_iff] at h
      obtain ⟨d, h1, rfl⟩ := h
      obtain ⟨h2, h3⟩ := product_num h1 hw
      exact ⟨⟨a, rfl, h2⟩, ⟨b, rfl, h3⟩⟩

/-- Go's own test 'x - x == 0'. -/
def finF (k : FloatKind) (x : Fl) : Bool := Fl.eq k (Fl.sub k x x) (some 0)

theorem zero_eq (k : FloatKind) : Fl.eq k (some 0) (some 0) = true := by cases k <;> decide +kernel

theorem self_sum (s : Bool) (m : Nat) (p : Int) : (Datum.number s m p).sum (Datum.number s m p).opposite = some (.number false 0 p) := by
  simp only [Datum.opposite, Datum.sum]
  cases s <;> simp [signed] <;> omega

theorem finF_iff (k : FloatKind) (x : Fl) : finF k x = true ↔ IsNum k x := by
  constructor
  · intro h
    cases x with
    | none => unfold finF at h; cases h
    | some a =>
      cases hr : k.format.read a with
      | number s m p => exact ⟨a, rfl, s, m, p, hr⟩
      | infinity s =>
        have : Fl.sub k (some a) (some a) = none := by
          show (((k.format.read a).sum (k.format.read a).opposite).map k.format.write) = none
          rw [hr]; cases s <;> rfl
        unfold finF at h; rw [this] at h; cases h
      | nan s t =>
        have : Fl.sub k (some a) (some a) = none := by
          show (((k.format.read a).sum (k.format.read a).opposite).map k.format.write) = none
          rw [hr]; rfl
        unfold finF at h; rw [this] at h; cases h
  · rintro ⟨a, rfl, s, m, p, hr⟩
    have : Fl.sub k (some a) (some a) = some 0 := by
      show (((k.format.read a).sum (k.format.read a).opposite).map k.format.write) = some 0
      rw [hr, self_sum]
      show some (k.format.nearest false 0 p) = some 0
      unfold Format.nearest
      rw [if_pos rfl]; rfl
    unfold finF; rw [this]; exact zero_eq k

/-! ### Ways that cannot be -/

/-- Go's own test, seen as a word: which expression is asked whether it is finite. -/
def isFin? : E → Option (FloatKind × E)
  | .o2 (.feq k) (.o2 (.fsub k') a b) (.f (some 0)) => if k = k' && E.same a b then some (k, a) else none
  | _ => none

theorem isFin?_eq {e a : E} {k : FloatKind} (h : isFin? e = some (k, a)) : e = .o2 (.feq k) (.o2 (.fsub k) a a) (.f (some 0)) := by
  unfold isFin? at h
  split at h
  · split at h
    · rename_i hc
      simp only [Bool.and_eq_true, decide_eq_true_eq] at hc
      obtain ⟨rfl, hs⟩ := hc
      have := E.same_eq hs
      subst this
      cases h; rfl
    · cases h
  · cases h

/-- 'x' is finite only if 'e' is. -/
def finSub (k : FloatKind) (e : E) : E → Bool
  | .o2 (.fadd k') a b => E.same (.o2 (.fadd k') a b) e || (k = k' && (finSub k e a || finSub k e b))
  | .o2 (.fsub k') a b => E.same (.o2 (.fsub k') a b) e || (k = k' && (finSub k e a || finSub k e b))
  | .o2 (.fmul k') a b => E.same (.o2 (.fmul k') a b) e || (k = k' && (finSub k e a || finSub k e b))
  | x => E.same x e

theorem finSub_ok {U : Nat → D → D} {r : Nat → D} {k : FloatKind} {e : E} : ∀ {x : E}, finSub k e x = true → IsNum k (x.ev U r).toF → IsNum k (e.ev U r).toF := by
  intro x
  induction x with
  | o2 o a b iha ihb =>
    intro h hn
    have plain : E.same (.o2 o a b) e = true → IsNum k (e.ev U r).toF := fun h => by rw [← E.same_eq h]; exact hn
    have step : ∀ {k'}, (∀ x y, IsNum k ((o.ev x y).toF) → k = k' → IsNum k x.toF ∧ IsNum k y.toF) → (E.same (.o2 o a b) e || (k = k' && (finSub k e a || finSub k e b))) = true → IsNum k (e.ev U r).toF := by
      intro k' hop h
      simp only [Bool.or_eq_true, Bool.and_eq_true, decide_eq_true_eq] at h
      rcases h with h | ⟨hk, h | h⟩
      · exact plain h
      · exact iha h (hop _ _ hn hk).1
      · exact ihb h (hop _ _ hn hk).2
    unfold finSub at h
    split at h
    · rename_i k' a' b' hx
      cases hx
      exact step (k' := k') (fun x y hn hk => by subst hk; exact add_num hn) h
    · rename_i k' a' b' hx
      cases hx
      exact step (k' := k') (fun x y hn hk => by subst hk; exact sub_num hn) h
    · rename_i k' a' b' hx
      cases hx
      exact step (k' := k') (fun x y hn hk => by subst hk; exact mul_num hn) h
    · exact plain h
  | _ => intro h hn; have h := E.same_eq h; rw [← h]; exact hn

def allTrueF (F N : List (FloatKind × E)) : Tree SV → Bool
  | .ret (.bool (.b true)) => true
  | .ite c t e => match isFin? c with
    | some (k, x) => ((N.any fun q => k = q.1 && finSub k q.2 x) || allTrueF ((k, x) :: F) N t) && ((F.any fun q => q.1 = k && finSub k x q.2) || allTrueF F ((k, x) :: N) e)
    | none => allTrueF F N t && allTrueF F N e
  | .all _ _ => false
  | .asm _ t => allTrueF F N t
  | _ => false

/-- A law by its walk: whatever stands at the variables, the walk's tree answers true. -/
def LawOk (U : Nat → D → D) (T : Tree SV) (ps : List Pt) : Prop :=
  ∀ (r : Nat → D) (K : Value → World → Prop) (w : World), PtOk U ps r → (∀ w', Frm (fun _ => False) w w' → K (.bool true) w') → Says U T K w r

section
variable {U : Nat → D → D} {r : Nat → D} {w : World} {K : Value → World → Prop}

theorem allTrueF_says (hK : ∀ w', Frm (fun _ => False) w w' → K (.bool true) w') : ∀ {t : Tree SV} {F N : List (FloatKind × E)}, allTrueF F N t = true →
    (∀ q ∈ F, IsNum q.1 (q.2.ev U r).toF) → (∀ q ∈ N, ¬ IsNum q.1 (q.2.ev U r).toF) → Says U t K w r := by
  intro t
  induction t with
  | ret x =>
    intro F N h _ _ g' L' v w' hf hd
    unfold allTrueF at h
    split at h
    · rename_i h'
      cases h'
      simp only [SV.den, E.ev, D.toB] at hd
      subst hd
      exact hK w' hf
    all_goals first | cases h | (rename_i h'; cases h')
  | ite c t e iht ihe =>
    intro F N h hF hN
    unfold Says
    rw [sat_ite]
    simp only [allTrueF] at h
    cases hfin : isFin? c with
    | some q =>
      obtain ⟨k, x⟩ := q
      rw [hfin] at h
      have hc := isFin?_eq hfin
      have hnum : (c.ev U r).toB = finF k (x.ev U r).toF := by rw [hc]; rfl
      simp only [Bool.and_eq_true, Bool.or_eq_true] at h
      constructor
      · intro hb
        have hx : IsNum k (x.ev U r).toF := (finF_iff k _).1 (hnum ▸ hb)
        rcases h.1 with h1 | h1
        · rw [List.any_eq_true] at h1
          obtain ⟨q, hq, h2⟩ := h1
          simp only [Bool.and_eq_true, decide_eq_true_eq] at h2
          exfalso
          have := hN q hq
          rw [← h2.1] at this
          exact this (finSub_ok h2.2 hx)
        · exact iht h1 (fun q hq => by
            rcases List.mem_cons.1 hq with rfl | hq
            · exact hx
            · exact hF q hq) hN
      · intro hb
        have hx : ¬ IsNum k (x.ev U r).toF := fun hx => by rw [hnum, (finF_iff k _).2 hx] at hb; cases hb
        rcases h.2 with h1 | h1
        · rw [List.any_eq_true] at h1
          obtain ⟨q, hq, h2⟩ := h1
          simp only [Bool.and_eq_true, decide_eq_true_eq] at h2
          exfalso
          have := hF q hq
          rw [h2.1] at this
          exact hx (finSub_ok h2.2 this)
        · exact ihe h1 hF (fun q hq => by
            rcases List.mem_cons.1 hq with rfl | hq
            · exact hx
            · exact hN q hq)
    | none =>
      rw [hfin] at h
      simp only [Bool.and_eq_true] at h
      exact ⟨fun _ => iht h.1 hF hN, fun _ => ihe h.2 hF hN⟩
  | all i t _ => intro F N h; cases h
  | asm c t ih =>
    intro F N h hF hN hc
    exact ih h hF hN
  | bad => intro F N h; cases h

theorem law_of_F {T : Tree SV} {ps : List Pt} (h : allTrueF [] [] T = true) : LawOk U T ps := fun _ _ _ _ hK => allTrueF_says hK h (fun _ h => by cases h) (fun _ h => by cases h)
end

section
variable {H : Type} {enc : TypeId × Value → H}

/-- A ROW: from a walk whose tree answers true. -/
theorem row_law {C : Checked} {os : Os} {U : Nat → D → D} {cf : FuncId → List SV → Cx → Tree (SV × Cx)} {f : FuncId} {fn : Func} {body : Code} {ps : List Pt} {rt : TypeId} {s : ChangeSpec} {fresh handsOn again : Bool}
    (own : ownKnob C.prog.godebug = none) (hl : laidOutB C.prog = true) (started : os.Started) (noInit : C.prog.inits.idxOf? f = none) (hn : NamesOk C.prog) (hcf : CallsOk U C.prog cf)
    (hfn : C.prog.funcs[f]? = some fn) (hbody : fn.body = some body) (hrt : fn.resultTypes = #[rt]) (hrb : C.prog.underlying rt = some .bool)
    (hr : (fn.params.toList.all fun t => C.prog.readableRec t && decide (t < C.prog.types.size)) = true) (hvars : s.vars = [])
    (hs : ∀ ds : List (DataW H), ds.length = fn.params.size → s.fn H ds = { results := [.lit (.bool true)], args := ds })
    (witness : ∃ (w : World) (tape : Tape) (i : Input), w.os = os ∧ (w.forCall tape i).Shaped C.prog ∧ i.vars = [] ∧ Input.okWide C.prog (w.forCall tape i) .any w.heap.size f i ∧
      s.pre6 enc C.prog fn [] false (w.forCall tape i).memory i.args ∧ ({} : Assume).holds C.prog (lone (Frame.enter C.prog f i.args .normal) [] (w.forCall tape i)))
    (hps : ptsOf C.prog fn.params.toList = some ps) (hT : LawOk U (resT (cf f (ptGo 0 ps) cx0)) ps) :
    ReturnsInHanded {} C os f .any (s.pre6 enc C.prog fn [] false) (s.post enc C.prog fn false fresh handsOn again) :=
  row_goal (U := U) own hl started noInit hn hfn hbody hrt hrb hr hvars hs witness hps fun W _ _ _ hd =>
    closed_ok hcf hd (says_resT.1 (hT _ (fun v w' => v = .bool true ∧ Frm (fun _ => False) W w') W ⟨_, _, _, hd⟩ fun _ h => ⟨rfl, h⟩))
end
end Go.Sx
