/-
  Sx, parts Zd, Ze, Zf, Zg, Zh, Zi, Zj.
-/
import Derived.Test.YtcloacigldklkaaDoorSxGa
import Derived.Test.YtcloacigldklkaaDoorSxGe
/-
  Sx, part Zd: what the division and the root of two words are bounded by.
-/
namespace Go.Sx
open Ieee

section
variable {k : FloatKind}

theorem div_bounds {x y : Nat} (hx : IsFinW k x) (hy : IsFinW k y) (hy0 : rungOf k y ≠ 0) : ∃ w, k.format.div x y = some w ∧ isNeg k w = (isNeg k x ^^ isNeg k y) ∧
    (∀ R, R ≤ k.format.infRung → mag k (rungOf k x) * 2 ^ (-k.format.leastPlace).toNat ≤ mag k R * mag k (rungOf k y) → rungOf k w ≤ R) ∧
    (∀ R, R ≤ k.format.infRung → mag k R * mag k (rungOf k y) ≤ mag k (rungOf k x) * 2 ^ (-k.format.leastPlace).toNat → R ≤ rungOf k w) := by
  obtain ⟨m, i, h1, h2, h3⟩ := read_fin hx
  obtain ⟨n, j, k1, k2, k3⟩ := read_fin hy
  have hY : mag k (rungOf k y) ≠ 0 := by
    have := mag_lt k (Nat.pos_of_ne_zero hy0); rw [mag_zero] at this; omega
  have hn : n ≠ 0 := by rintro rfl; rw [Nat.zero_mul] at k3; exact hY k3.symm
  unfold Format.div
  rw [h1, k1]
  simp only [Datum.quotient, if_neg hn, Option.map_some]
  refine ⟨_, rfl, ?_⟩
  generalize hmore : k.format.fractionBits + 2 + n.log2 - m.log2 = more
  have hT : 2 * (m <<< more / n) + (m <<< more % n != 0).toNat = quoT (m * 2 ^ more) n := by rw [Nat.shiftLeft_eq]; rfl
  rw [hT]
  have hw : k.format.write (.number (isNeg k x ^^ isNeg k y) (quoT (m * 2 ^ more) n) (i - j - (more : Int) - 1)) = k.format.word (isNeg k x ^^ isNeg k y) (rungN k (quoT (m * 2 ^ more) n) (i - j - (more : Int) - 1)) := nearest_rung k _ _ _
  rw [hw]
  refine ⟨isNeg_word _ (rungN_le _ _), ?_⟩
  rw [rungOf_word k _ (rungN_le _ _)]
  have hl := (frac_consts k).1
  generalize hpl : i - j - (more : Int) - 1 = pl
  have hpos := Nat.two_pow_pos (j - k.format.leastPlace).toNat
  -- the two ways of the comparison, in digits
  have conv : ∀ M : Nat, (mag k (rungOf k x) * 2 ^ (-k.format.leastPlace).toNat) * 2 ^ (k.format.leastPlace - (pl + 1)).toNat = (m * 2 ^ more * 2 ^ (pl + 1 - k.format.leastPlace).toNat) * 2 ^ (j - k.format.leastPlace).toNat ∧
      (M * mag k (rungOf k y)) * 2 ^ (k.format.leastPlace - (pl + 1)).toNat = (M * n * 2 ^ (k.format.leastPlace - (pl + 1)).toNat) * 2 ^ (j - k.format.leastPlace).toNat := by
    intro M
    rw [← h3, ← k3]
    constructor
    · have e : (i - k.format.leastPlace).toNat + (-k.format.leastPlace).toNat + (k.format.leastPlace - (pl + 1)).toNat = more + (pl + 1 - k.format.leastPlace).toNat + (j - k.format.leastPlace).toNat := by omega
      rw [Nat.mul_assoc, Nat.mul_assoc, Nat.mul_assoc, Nat.mul_assoc, ← Nat.pow_add, ← Nat.pow_add, ← Nat.pow_add, ← Nat.pow_add]
      congr 2
      omega
    · rw [← Nat.mul_assoc, Nat.mul_right_comm]
  by_cases hm : m = 0
  · subst hm
    have hz : mag k (rungOf k x) = 0 := by rw [← h3, Nat.zero_mul]
    have hT0 : quoT (0 * 2 ^ more) n = 0 := by unfold quoT; simp
    rw [hT0, rungN_zero, hz]
    refine ⟨fun R _ _ => Nat.zero_le _, fun R hR h => ?_⟩
    rw [Nat.zero_mul] at h
    have : mag k R = 0 := by
      rcases Nat.eq_zero_or_pos (mag k R) with h' | h'
      · exact h'
      · have := Nat.mul_pos h' (Nat.pos_of_ne_zero hY); omega
    rcases Nat.eq_zero_or_pos R with h' | h'
    · omega
    · have := mag_lt k h'; rw [mag_zero] at this; omega
  · have hbig : 2 ^ (k.format.fractionBits + 1) ≤ (m * 2 ^ more) / n := by rw [← hmore]; exact quo_big hm hn
    constructor
    · intro R hR h
      refine quo_rung_le (Nat.pos_of_ne_zero hn) hR hbig ?_
      obtain ⟨c1, c2⟩ := conv (mag k R)
      have := Nat.mul_le_mul_right (2 ^ (k.format.leastPlace - (pl + 1)).toNat) h
      rw [c1, c2] at this
      exact Nat.le_of_mul_le_mul_right this hpos
    · intro R hR h
      refine le_quo_rung (Nat.pos_of_ne_zero hn) hR hbig ?_
      obtain ⟨c1, c2⟩ := conv (mag k R)
      have := Nat.mul_le_mul_right (2 ^ (k.format.leastPlace - (pl + 1)).toNat) h
      rw [c1, c2] at this
      exact Nat.le_of_mul_le_mul_right this hpos
end
end Go.Sx

/-
  Sx, part Ze: what the root of a word is bounded by; conversions.
-/
namespace Go.Sx
open Ieee

theorem rootFrom_ok (n : Nat) : ∀ (t r : Nat), r * r ≤ n → n < (r + 2 ^ t) * (r + 2 ^ t) → (Datum.rootFrom n t r) * (Datum.rootFrom n t r) ≤ n ∧ n < (Datum.rootFrom n t r + 1) * (Datum.rootFrom n t r + 1) := by
  intro t
  induction t with
  | zero => intro r h1 h2; exact ⟨h1, h2⟩
  | succ t ih =>
    intro r h1 h2
    unfold Datum.rootFrom
    dsimp only
    rw [Nat.shiftLeft_eq, Nat.one_mul]
    split
    · rename_i h
      refine ih _ h ?_
      have : r + 2 ^ (t + 1) = r + 2 ^ t + 2 ^ t := by rw [Nat.pow_succ]; omega
      rwa [this] at h2
    · rename_i h
      exact ih _ h1 (by omega)

theorem root_ok (n : Nat) : (Datum.rootFrom n (n.log2 / 2 + 1) 0) * (Datum.rootFrom n (n.log2 / 2 + 1) 0) ≤ n ∧ n < (Datum.rootFrom n (n.log2 / 2 + 1) 0 + 1) * (Datum.rootFrom n (n.log2 / 2 + 1) 0 + 1) := by
  refine rootFrom_ok n _ 0 (Nat.zero_le _) ?_
  rw [Nat.zero_add, ← Nat.pow_add]
  have h1 : n < 2 ^ (n.log2 + 1) := Nat.lt_log2_self
  have h2 := two_pow_le (show n.log2 + 1 ≤ n.log2 / 2 + 1 + (n.log2 / 2 + 1) by omega)
  omega

def rootT (n w : Nat) : Nat := 2 * w + (w * w != n).toNat

theorem rootT_le {n w b : Nat} (h1 : w * w ≤ n) (h : n ≤ b * b) : rootT n w ≤ 2 * b := by
  have h3 : w ≤ b := by
    rcases Nat.lt_or_ge b w with h' | h'
    · have := Nat.mul_self_lt_mul_self h'; omega
    · exact h'
  unfold rootT
  rcases Nat.lt_or_eq_of_le h3 with h4 | h4
  · have : (w * w != n).toNat ≤ 1 := by cases (w * w != n) <;> decide
    omega
  · subst h4
    have : w * w = n := by omega
    rw [this]; simp

theorem le_rootT {n w b : Nat} (h2 : n < (w + 1) * (w + 1)) (h : b * b ≤ n) : 2 * b ≤ rootT n w := by
  have h3 : b ≤ w := by
    rcases Nat.lt_or_ge w b with h' | h'
    · have := Nat.mul_self_le_mul_self (show w + 1 ≤ b by omega); omega
    · exact h'
  unfold rootT
  omega

section
variable {k : FloatKind}

theorem root_rung_le {n w R : Nat} {pl : Int} (h1 : w * w ≤ n) (hR : R ≤ k.format.infRung) (hbig : 2 ^ (k.format.fractionBits + 1) ≤ w)
    (h : n * 2 ^ (2 * (pl + 1 - k.format.leastPlace).toNat) ≤ mag k R * mag k R * 2 ^ (2 * (k.format.leastPlace - (pl + 1)).toNat)) : rungN k (rootT n w) pl ≤ R := by
  have sq : ∀ e : Nat, 2 ^ (2 * e) = 2 ^ e * 2 ^ e := fun e => by rw [← Nat.pow_add]; congr 1; omega
  rw [sq, sq] at h
  by_cases hd : pl + 1 ≤ k.format.leastPlace
  · have e1 : (pl + 1 - k.format.leastPlace).toNat = 0 := by omega
    rw [e1, Nat.pow_zero, Nat.mul_one] at h
    refine Nat.le_trans (rungN_mono (q := pl) (p' := k.format.leastPlace) (m' := mag k R) (Int.le_refl _) (by omega) ?_) (Nat.le_of_eq (rung_mag hR))
    rw [Int.sub_self, Int.toNat_zero, Nat.pow_zero, Nat.mul_one]
    have e2 : (k.format.leastPlace - pl).toNat = (k.format.leastPlace - (pl + 1)).toNat + 1 := by omega
    rw [e2, Nat.pow_succ, ← Nat.mul_assoc]
    have := rootT_le h1 (b := mag k R * 2 ^ (k.format.leastPlace - (pl + 1)).toNat) (by rw [Nat.mul_mul_mul_comm]; exact h)
    omega
  · have e1 : (k.format.leastPlace - (pl + 1)).toNat = 0 := by omega
    rw [e1, Nat.pow_zero, Nat.mul_one] at h
    generalize hdd : (pl + 1 - k.format.leastPlace).toNat = d at h
    have hge : 2 ^ (k.format.fractionBits + 1 + d) ≤ mag k R := by
      have h2 : (w * 2 ^ d) * (w * 2 ^ d) ≤ mag k R * mag k R := by
        rw [Nat.mul_mul_mul_comm]
        exact Nat.le_trans (Nat.mul_le_mul_right _ h1) h
      have h3 : w * 2 ^ d ≤ mag k R := by
        rcases Nat.lt_or_ge (mag k R) (w * 2 ^ d) with h' | h'
        · have := Nat.mul_self_lt_mul_self h'; omega
        · exact h'
      have h4 := Nat.mul_le_mul_right (2 ^ d) hbig
      rw [← Nat.pow_add] at h4
      omega
    obtain ⟨b, hb⟩ := mag_split hge
    refine Nat.le_trans (rungN_mono (q := k.format.leastPlace) (p' := k.format.leastPlace) (m' := mag k R) (by omega) (Int.le_refl _) ?_) (Nat.le_of_eq (rung_mag hR))
    rw [Int.sub_self, Int.toNat_zero, Nat.pow_zero, Nat.mul_one]
    rw [hb] at h ⊢
    have h5 : n ≤ b * b := by
      rw [Nat.mul_mul_mul_comm] at h
      exact Nat.le_of_mul_le_mul_right h (Nat.mul_pos (Nat.two_pow_pos d) (Nat.two_pow_pos d))
    have h6 := rootT_le h1 h5
    have e2 : d = (pl - k.format.leastPlace).toNat + 1 := by omega
    have h7 := Nat.mul_le_mul_right (2 ^ (pl - k.format.leastPlace).toNat) h6
    have h8 : b * 2 ^ d = 2 * b * 2 ^ (pl - k.format.leastPlace).toNat := by rw [e2, Nat.pow_succ, ← Nat.mul_assoc, Nat.mul_comm 2 b, Nat.mul_right_comm]
    omega

theorem le_root_rung {n w R : Nat} {pl : Int} (h2 : n < (w + 1) * (w + 1)) (hR : R ≤ k.format.infRung) (hbig : 2 ^ (k.format.fractionBits + 1) ≤ w)
    (h : mag k R * mag k R * 2 ^ (2 * (k.format.leastPlace - (pl + 1)).toNat) ≤ n * 2 ^ (2 * (pl + 1 - k.format.leastPlace).toNat)) : R ≤ rungN k (rootT n w) pl := by
  have sq : ∀ e : Nat, 2 ^ (2 * e) = 2 ^ e * 2 ^ e := fun e => by rw [← Nat.pow_add]; congr 1; omega
  rw [sq, sq] at h
  have key : ∀ {q : Int}, q ≤ pl → q ≤ k.format.leastPlace → mag k R * 2 ^ (k.format.leastPlace - q).toNat ≤ rootT n w * 2 ^ (pl - q).toNat → R ≤ rungN k (rootT n w) pl := by
    intro q h1 h2 h3
    have := rungN_mono (k := k) h2 h1 h3
    rwa [rung_mag hR] at this
  by_cases hd : pl + 1 ≤ k.format.leastPlace
  · have e1 : (pl + 1 - k.format.leastPlace).toNat = 0 := by omega
    rw [e1, Nat.pow_zero, Nat.mul_one] at h
    refine key (q := pl) (Int.le_refl _) (by omega) ?_
    rw [Int.sub_self, Int.toNat_zero, Nat.pow_zero, Nat.mul_one]
    have e2 : (k.format.leastPlace - pl).toNat = (k.format.leastPlace - (pl + 1)).toNat + 1 := by omega
    rw [e2, Nat.pow_succ, ← Nat.mul_assoc]
    have := le_rootT h2 (b := mag k R * 2 ^ (k.format.leastPlace - (pl + 1)).toNat) (by rw [Nat.mul_mul_mul_comm]; exact h)
    omega
  · have e1 : (k.format.leastPlace - (pl + 1)).toNat = 0 := by omega
    rw [e1, Nat.pow_zero, Nat.mul_one] at h
    generalize hdd : (pl + 1 - k.format.leastPlace).toNat = d at h
    have e2 : d = (pl - k.format.leastPlace).toNat + 1 := by omega
    refine key (q := k.format.leastPlace) (by omega) (Int.le_refl _) ?_
    rw [Int.sub_self, Int.toNat_zero, Nat.pow_zero, Nat.mul_one]
    by_cases hge : 2 ^ (k.format.fractionBits + 1 + d) ≤ mag k R
    · obtain ⟨b, hb⟩ := mag_split hge
      rw [hb] at h ⊢
      have h5 : b * b ≤ n := by
        rw [Nat.mul_mul_mul_comm] at h
        exact Nat.le_of_mul_le_mul_right h (Nat.mul_pos (Nat.two_pow_pos d) (Nat.two_pow_pos d))
      have h6 := le_rootT h2 h5
      have h7 := Nat.mul_le_mul_right (2 ^ (pl - k.format.leastPlace).toNat) h6
      have h8 : b * 2 ^ d = 2 * b * 2 ^ (pl - k.format.leastPlace).toNat := by rw [e2, Nat.pow_succ, ← Nat.mul_assoc, Nat.mul_comm 2 b, Nat.mul_right_comm]
      omega
    · have h6 : 2 * 2 ^ (k.format.fractionBits + 1) ≤ rootT n w := by unfold rootT; omega
      have h7 := Nat.mul_le_mul_right (2 ^ (pl - k.format.leastPlace).toNat) h6
      have h8 : 2 ^ (k.format.fractionBits + 1 + d) = 2 * 2 ^ (k.format.fractionBits + 1) * 2 ^ (pl - k.format.leastPlace).toNat := by
        rw [e2, show k.format.fractionBits + 1 + ((pl - k.format.leastPlace).toNat + 1) = 1 + (k.format.fractionBits + 1) + (pl - k.format.leastPlace).toNat by omega, Nat.pow_add, Nat.pow_add 2 1]
      omega

theorem sqrt_bounds {x : Nat} (hx : IsFinW k x) (h0 : 0 ≤ key k x) : ∃ w, k.format.sqrt x = some w ∧ 0 ≤ key k w ∧
    (∀ R, R ≤ k.format.infRung → mag k (rungOf k x) * 2 ^ (-k.format.leastPlace).toNat ≤ mag k R * mag k R → rungOf k w ≤ R) ∧
    (∀ R, R ≤ k.format.infRung → mag k R * mag k R ≤ mag k (rungOf k x) * 2 ^ (-k.format.leastPlace).toNat → R ≤ rungOf k w) := by
  obtain ⟨m, i, h1, h2, h3⟩ := read_fin hx
  have hl := (frac_consts k).1
  unfold Format.sqrt
  rw [h1]
  simp only [Datum.root]
  by_cases hm : m = 0
  · subst hm
    rw [if_pos rfl]
    have hz : mag k (rungOf k x) = 0 := by rw [← h3, Nat.zero_mul]
    refine ⟨_, rfl, ?_, ?_⟩
    · show 0 ≤ key k (k.format.nearest (isNeg k x) 0 i)
      rw [key_nearest, rungN_zero]; split <;> simp
    · have hr : rungOf k (k.format.write (.number (isNeg k x) 0 i)) = 0 := by
        show rungOf k (k.format.nearest (isNeg k x) 0 i) = 0
        rw [nearest_rung, rungN_zero, rungOf_word k _ (Nat.zero_le _)]
      rw [hr, hz, Nat.zero_mul]
      refine ⟨fun R _ _ => Nat.zero_le _, fun R hR h => ?_⟩
      rcases Nat.eq_zero_or_pos R with h' | h'
      · omega
      · have := mag_lt k h'
        rw [mag_zero] at this
        have := Nat.mul_pos this this
        omega
  · rw [if_neg hm]
    have hs : isNeg k x = false := by
      cases hs : isNeg k x with
      | false => rfl
      | true =>
        unfold key at h0
        rw [hs] at h0
        simp only [if_true] at h0
        have hr : rungOf k x = 0 := by omega
        rw [hr, mag_zero] at h3
        have := Nat.mul_pos (Nat.pos_of_ne_zero hm) (Nat.two_pow_pos (i - k.format.leastPlace).toNat)
        omega
    rw [hs]
    simp only [Bool.false_eq_true, if_false, Option.map_some]
    generalize hm1 : 2 * (k.format.fractionBits + 2) - m.log2 = m1
    generalize hm2 : m1 + ((i - (m1 : Int)) % 2).toNat = more
    generalize hn : m <<< more = n
    generalize hw : Datum.rootFrom n (n.log2 / 2 + 1) 0 = w
    obtain ⟨r1, r2⟩ := root_ok n
    rw [hw] at r1 r2
    have hwr : k.format.write (.number false (2 * w + (w * w != n).toNat) ((i - (more : Int)) / 2 - 1)) = k.format.word false (rungN k (rootT n w) ((i - (more : Int)) / 2 - 1)) := nearest_rung k _ _ _
    refine ⟨_, rfl, ?_, ?_⟩
    · rw [hwr, key_word false (rungN_le _ _)]; simp
    · rw [hwr, rungOf_word k _ (rungN_le _ _)]
      generalize hpl : (i - (more : Int)) / 2 - 1 = pl
      have hplace : i = 2 * (pl + 1) + (more : Int) := by omega
      rw [Nat.shiftLeft_eq] at hn
      have hbig : 2 ^ (k.format.fractionBits + 1) ≤ w := by
        rcases Nat.lt_or_ge w (2 ^ (k.format.fractionBits + 1)) with h' | h'
        · exfalso
          have g1 : 2 ^ (m.log2 + more) ≤ n := by rw [← hn, Nat.pow_add]; exact Nat.mul_le_mul_right _ (Nat.log2_self_le hm)
          have g2 := two_pow_le (show k.format.fractionBits + 1 + (k.format.fractionBits + 1) ≤ m.log2 + more by omega)
          have g3 := Nat.mul_self_le_mul_self (show w + 1 ≤ 2 ^ (k.format.fractionBits + 1) by omega)
          rw [← Nat.pow_add] at g3
          omega
        · exact h'
      have hpos := Nat.two_pow_pos (2 * (k.format.leastPlace - (pl + 1)).toNat)
      have conv : (mag k (rungOf k x) * 2 ^ (-k.format.leastPlace).toNat) * 2 ^ (2 * (k.format.leastPlace - (pl + 1)).toNat) = n * 2 ^ (2 * (pl + 1 - k.format.leastPlace).toNat) := by
        rw [← h3, ← hn, Nat.mul_assoc, Nat.mul_assoc, Nat.mul_assoc, ← Nat.pow_add, ← Nat.pow_add, ← Nat.pow_add]
        congr 2
        omega
      constructor
      · intro R hR h
        refine root_rung_le r1 hR hbig ?_
        have := Nat.mul_le_mul_right (2 ^ (2 * (k.format.leastPlace - (pl + 1)).toNat)) h
        rwa [conv] at this
      · intro R hR h
        refine le_root_rung r2 hR hbig ?_
        have := Nat.mul_le_mul_right (2 ^ (2 * (k.format.leastPlace - (pl + 1)).toNat)) h
        rwa [conv] at this
end
end Go.Sx

/-
  Sx, part Zf: intervals of keys.
-/
namespace Go.Sx
open Ieee

/-- Between two keys; surely not nought. -/
structure Iv where
  lo : Int
  hi : Int
  nz : Bool

def InIv (k : FloatKind) (I : Iv) (x : Fl) : Prop := ∃ w, x = some w ∧ Good k w ∧ I.lo ≤ key k w ∧ key k w ≤ I.hi ∧ (I.nz = true → key k w ≠ 0)

section
variable {k : FloatKind}

def infK (k : FloatKind) : Int := k.format.infRung
def finIv (k : FloatKind) (I : Iv) : Bool := decide (-infK k < I.lo) && decide (I.hi < infK k)
def topIv (k : FloatKind) : Iv := ⟨-infK k, infK k, false⟩
def finTop (k : FloatKind) : Iv := ⟨1 - infK k, infK k - 1, false⟩

theorem fin_of {I : Iv} {w : Nat} (h : finIv k I = true) (h1 : I.lo ≤ key k w) (h2 : key k w ≤ I.hi) : IsFinW k w := by
  unfold finIv at h
  rw [Bool.and_eq_true] at h
  have e1 := of_decide_eq_true h.1
  have e2 := of_decide_eq_true h.2
  unfold infK at e1 e2
  unfold IsFinW
  have := key_abs (k := k) w
  omega

theorem good_op {op : BinOp} {x y w : Nat} (h : fop op k x y = some w) : Good k w := ⟨fop_lt h, fop_not_nan h⟩

def addIv (k : FloatKind) (I J : Iv) : Option Iv :=
  if finIv k I && finIv k J then some ⟨rndI k (valK k I.lo + valK k J.lo) k.format.leastPlace, rndI k (valK k I.hi + valK k J.hi) k.format.leastPlace, false⟩ else none

theorem addIv_ok {I J R : Iv} {x y : Fl} (h : addIv k I J = some R) (hx : InIv k I x) (hy : InIv k J y) : InIv k R (Fl.add k x y) := by
  unfold addIv at h
  split at h
  · rename_i hf
    rw [Bool.and_eq_true] at hf
    cases h
    obtain ⟨a, rfl, ga, a1, a2, _⟩ := hx
    obtain ⟨b, rfl, gb, b1, b2, _⟩ := hy
    obtain ⟨w, hw, hk⟩ := add_key (fin_of hf.1 a1 a2) (fin_of hf.2 b1 b2)
    refine ⟨w, hw, good_op (op := .add) hw, ?_, ?_, fun h => by cases h⟩
    · rw [hk, worth_key, worth_key]
      have := valK_mono (k := k) a1
      have := valK_mono (k := k) b1
      exact rndI_mono (by omega) _
    · rw [hk, worth_key, worth_key]
      have := valK_mono (k := k) a2
      have := valK_mono (k := k) b2
      exact rndI_mono (by omega) _
  · cases h

def subIv (k : FloatKind) (I J : Iv) : Option Iv :=
  if finIv k I && finIv k J then some ⟨rndI k (valK k I.lo - valK k J.hi) k.format.leastPlace, rndI k (valK k I.hi - valK k J.lo) k.format.leastPlace, false⟩ else none

theorem subIv_ok {I J R : Iv} {x y : Fl} (h : subIv k I J = some R) (hx : InIv k I x) (hy : InIv k J y) : InIv k R (Fl.sub k x y) := by
  unfold subIv at h
  split at h
  · rename_i hf
    rw [Bool.and_eq_true] at hf
    cases h
    obtain ⟨a, rfl, ga, a1, a2, _⟩ := hx
    obtain ⟨b, rfl, gb, b1, b2, _⟩ := hy
    obtain ⟨w, hw, hk⟩ := sub_key (fin_of hf.1 a1 a2) (fin_of hf.2 b1 b2)
    refine ⟨w, hw, good_op (op := .sub) hw, ?_, ?_, fun h => by cases h⟩
    · rw [hk, worth_key, worth_key]
      have := valK_mono (k := k) a1
      have := valK_mono (k := k) b2
      exact rndI_mono (by omega) _
    · rw [hk, worth_key, worth_key]
      have := valK_mono (k := k) a2
      have := valK_mono (k := k) b1
      exact rndI_mono (by omega) _
  · cases h

theorem corners {a b p q x y : Int} (ha : a ≤ x) (hb : x ≤ b) (hp : p ≤ y) (hq : y ≤ q) :
    min (min (a * p) (a * q)) (min (b * p) (b * q)) ≤ x * y ∧ x * y ≤ max (max (a * p) (a * q)) (max (b * p) (b * q)) := by
  have h1 : ∀ c : Int, min (c * p) (c * q) ≤ c * y ∧ c * y ≤ max (c * p) (c * q) := by
    intro c
    rcases Int.le_total 0 c with h | h
    · have := Int.mul_le_mul_of_nonneg_left hp h
      have := Int.mul_le_mul_of_nonneg_left hq h
      omega
    · have := Int.mul_le_mul_of_nonpos_left h hp
      have := Int.mul_le_mul_of_nonpos_left h hq
      omega
  have h2 : min (a * y) (b * y) ≤ x * y ∧ x * y ≤ max (a * y) (b * y) := by
    rcases Int.le_total 0 y with h | h
    · have := Int.mul_le_mul_of_nonneg_right ha h
      have := Int.mul_le_mul_of_nonneg_right hb h
      omega
    · have := Int.mul_le_mul_of_nonpos_right ha h
      have := Int.mul_le_mul_of_nonpos_right hb h
      omega
  have := h1 a
  have := h1 b
  omega

def mulIv (k : FloatKind) (I J : Iv) : Option Iv :=
  if finIv k I && finIv k J then
    let a := valK k I.lo
    let b := valK k I.hi
    let p := valK k J.lo
    let q := valK k J.hi
    some ⟨rndI k (min (min (a * p) (a * q)) (min (b * p) (b * q))) (2 * k.format.leastPlace), rndI k (max (max (a * p) (a * q)) (max (b * p) (b * q))) (2 * k.format.leastPlace), false⟩
  else none

theorem mulIv_ok {I J R : Iv} {x y : Fl} (h : mulIv k I J = some R) (hx : InIv k I x) (hy : InIv k J y) : InIv k R (Fl.mul k x y) := by
  unfold mulIv at h
  split at h
  · rename_i hf
    rw [Bool.and_eq_true] at hf
    cases h
    obtain ⟨a, rfl, ga, a1, a2, _⟩ := hx
    obtain ⟨b, rfl, gb, b1, b2, _⟩ := hy
    obtain ⟨w, hw, hk⟩ := mul_key (fin_of hf.1 a1 a2) (fin_of hf.2 b1 b2)
    have hc := corners (valK_mono (k := k) a1) (valK_mono (k := k) a2) (valK_mono (k := k) b1) (valK_mono (k := k) b2)
    refine ⟨w, hw, good_op (op := .mul) hw, ?_, ?_, fun h => by cases h⟩
    · rw [hk, worth_key, worth_key]; exact rndI_mono hc.1 _
    · rw [hk, worth_key, worth_key]; exact rndI_mono hc.2 _
  · cases h

def negIv (I : Iv) : Iv := ⟨-I.hi, -I.lo, I.nz⟩

theorem negIv_ok {I : Iv} {x : Fl} (hx : InIv k I x) : InIv k (negIv I) (Fl.neg k x) := by
  obtain ⟨a, rfl, ga, a1, a2, a3⟩ := hx
  have hk := key_neg (k := k) ga.lt
  refine ⟨_, rfl, ⟨negFloat_lt k ga.lt, ?_⟩, ?_, ?_, fun h => ?_⟩
  · have := ga.num; rw [isNanW_eq] at this ⊢; rw [negFloat_mod k ga.lt]; exact this
  · show -I.hi ≤ key k (Op.negFloat k a); rw [hk]; omega
  · show key k (Op.negFloat k a) ≤ -I.lo; rw [hk]; omega
  · rw [hk]; have := a3 h; omega

def absIv (I : Iv) : Iv :=
  if 0 ≤ I.lo then I else if I.hi ≤ 0 then negIv I else ⟨if I.nz then 1 else 0, max (-I.lo) I.hi, I.nz⟩

theorem absIv_ok {I : Iv} {x : Fl} (hx : InIv k I x) : InIv k (absIv I) (Fl.abs k x) := by
  obtain ⟨a, rfl, ga, a1, a2, a3⟩ := hx
  have hk := key_abs' (k := k) a
  obtain ⟨h0, h1, h2, h3, _⟩ := fmt_consts k
  have hlt := Nat.mod_lt a (show 0 < k.format.signWeight by omega)
  refine ⟨_, rfl, ⟨by omega, ?_⟩, ?_⟩
  · have := ga.num; rw [isNanW_eq] at this ⊢; rw [Nat.mod_mod]; exact this
  · rw [hk]
    unfold absIv negIv
    split
    · refine ⟨by omega, by omega, fun h => ?_⟩
      have := a3 h; omega
    · split
      · refine ⟨by dsimp only; omega, by dsimp only; omega, fun h => ?_⟩
        have := a3 h; omega
      · refine ⟨?_, by dsimp only; omega, fun h => ?_⟩
        · dsimp only
          split
          · rename_i hn; have := a3 hn; omega
          · omega
        · have := a3 h; omega

/-- Division of what is not below nought by what is above it. -/
def divIv (k : FloatKind) (le : Bool) (I J : Iv) : Option Iv :=
  if finIv k I && (finIv k J && (decide (0 ≤ I.lo) && decide (0 < J.lo))) then
    let hi := match k.format.div I.hi.toNat J.lo.toNat with | some w => min (w + 1) k.format.infRung | none => k.format.infRung
    let hi := if mag k I.hi.toNat * 2 ^ (-k.format.leastPlace).toNat ≤ mag k hi * mag k J.lo.toNat then hi else k.format.infRung
    let lo := match k.format.div I.lo.toNat J.hi.toNat with | some w => min (w - 1) k.format.infRung | none => 0
    let lo := if mag k lo * mag k J.hi.toNat ≤ mag k I.lo.toNat * 2 ^ (-k.format.leastPlace).toNat then lo else 0
    let one := rungN k 1 0
    let hi := if le && decide (mag k one = 2 ^ (-k.format.leastPlace).toNat) then min hi one else hi
    some ⟨lo, hi, false⟩
  else none

theorem divIv_ok {I J R : Iv} {le : Bool} {x y : Fl} (h : divIv k le I J = some R) (hx : InIv k I x) (hy : InIv k J y)
    (hle : le = true → ∀ a b, x = some a → y = some b → key k a ≤ key k b) : InIv k R (Fl.div k x y) := by
  unfold divIv at h
  split at h
  · rename_i hf
    simp only [Bool.and_eq_true, decide_eq_true_eq] at hf
    obtain ⟨f1, f2, f3, f4⟩ := hf
    obtain ⟨a, rfl, ga, a1, a2, _⟩ := hx
    obtain ⟨b, rfl, gb, b1, b2, _⟩ := hy
    have hle := fun h => hle h a b rfl rfl
    have ra : rungOf k a = (key k a).toNat := by have := key_abs (k := k) a; omega
    have rb : rungOf k b = (key k b).toNat := by have := key_abs (k := k) b; omega
    obtain ⟨w, hw, hsg, hup, hdn⟩ := div_bounds (fin_of f1 a1 a2) (fin_of f2 b1 b2) (by omega)
    have hg : Good k w := good_op (op := .quo) hw
    have nb : isNeg k b = false := by
      cases hs : isNeg k b with
      | false => rfl
      | true => unfold key at b1 b2; rw [hs] at b1; simp only [if_true] at b1; omega
    have hkw : key k w = rungOf k w := by
      unfold key
      split
      · rename_i hs
        rw [hsg, nb] at hs
        have na : isNeg k a = true := by simpa using hs
        have : rungOf k a = 0 := by
          unfold key at a1; rw [na] at a1; simp only [if_true] at a1; omega
        have h0 := hup 0 (Nat.zero_le _) (by rw [this, mag_zero]; simp)
        omega
      · rfl
    have ma : mag k (rungOf k a) ≤ mag k I.hi.toNat := mag_le k (by omega)
    have ma' : mag k I.lo.toNat ≤ mag k (rungOf k a) := mag_le k (by omega)
    have mb : mag k J.lo.toNat ≤ mag k (rungOf k b) := mag_le k (by omega)
    have mb' : mag k (rungOf k b) ≤ mag k J.hi.toNat := mag_le k (by omega)
    have up : ∀ u, u ≤ k.format.infRung → rungOf k w ≤ (if mag k I.hi.toNat * 2 ^ (-k.format.leastPlace).toNat ≤ mag k u * mag k J.lo.toNat then u else k.format.infRung) := by
      intro u hu
      split
      · rename_i hc
        refine hup u hu ?_
        have c1 := Nat.mul_le_mul_right (2 ^ (-k.format.leastPlace).toNat) ma
        have c2 := Nat.mul_le_mul_left (mag k u) mb
        omega
      · exact hg.le
    have dn : ∀ u, u ≤ k.format.infRung → (if mag k u * mag k J.hi.toNat ≤ mag k I.lo.toNat * 2 ^ (-k.format.leastPlace).toNat then u else 0) ≤ rungOf k w := by
      intro u hu
      split
      · rename_i hc
        refine hdn u hu ?_
        have c1 := Nat.mul_le_mul_right (2 ^ (-k.format.leastPlace).toNat) ma'
        have c2 := Nat.mul_le_mul_left (mag k u) mb'
        omega
      · exact Nat.zero_le _
    cases h
    refine ⟨w, hw, hg, ?_, ?_, fun h => by cases h⟩
    · rw [hkw]
      have := dn (match k.format.div I.lo.toNat J.hi.toNat with | some w => min (w - 1) k.format.infRung | none => 0) (by split <;> omega)
      exact Int.ofNat_le.2 this
    · rw [hkw]
      have h1 := up (match k.format.div I.hi.toNat J.lo.toNat with | some w => min (w + 1) k.format.infRung | none => k.format.infRung) (by split <;> omega)
      refine Int.ofNat_le.2 ?_
      split
      · rename_i hc
        simp only [Bool.and_eq_true, decide_eq_true_eq] at hc
        refine Nat.le_min.2 ⟨h1, hup _ (rungN_le _ _) ?_⟩
        have := hle hc.1
        rw [hc.2, Nat.mul_comm]
        exact Nat.mul_le_mul_left _ (mag_le k (by omega))
      · exact h1
  · cases h

def sqrtIv (k : FloatKind) (I : Iv) : Option Iv :=
  if finIv k I && decide (0 ≤ I.lo) then
    let hi := match k.format.sqrt I.hi.toNat with | some w => min (w + 1) k.format.infRung | none => k.format.infRung
    let hi := if mag k I.hi.toNat * 2 ^ (-k.format.leastPlace).toNat ≤ mag k hi * mag k hi then hi else k.format.infRung
    let lo := match k.format.sqrt I.lo.toNat with | some w => min (w - 1) k.format.infRung | none => 0
    let lo := if mag k lo * mag k lo ≤ mag k I.lo.toNat * 2 ^ (-k.format.leastPlace).toNat then lo else 0
    some ⟨lo, hi, false⟩
  else none

theorem sqrtIv_ok {I R : Iv} {x : Fl} (h : sqrtIv .f64 I = some R) (hx : InIv .f64 I x) : InIv .f64 R (Fl.sqrt x) := by
  unfold sqrtIv at h
  split at h
  · rename_i hf
    simp only [Bool.and_eq_true, decide_eq_true_eq] at hf
    obtain ⟨f1, f2⟩ := hf
    obtain ⟨a, rfl, ga, a1, a2, _⟩ := hx
    have ra : rungOf .f64 a = (key .f64 a).toNat := by have := key_abs (k := .f64) a; omega
    obtain ⟨w, hw, h0, hup, hdn⟩ := sqrt_bounds (fin_of f1 a1 a2) (by omega)
    have hg : Good .f64 w := ⟨FloatKind.f64.format.sqrt_lt hw, map_write_not_nan (fun _ hd => root_not_nan hd) hw⟩
    have hkw : key .f64 w = rungOf .f64 w := by have := key_abs (k := .f64) w; omega
    have ma : mag .f64 (rungOf .f64 a) ≤ mag .f64 I.hi.toNat := mag_le _ (by omega)
    have ma' : mag .f64 I.lo.toNat ≤ mag .f64 (rungOf .f64 a) := mag_le _ (by omega)
    cases h
    refine ⟨w, hw, hg, ?_, ?_, fun h => by cases h⟩
    · rw [hkw]
      refine Int.ofNat_le.2 ?_
      generalize hu : (match FloatKind.f64.format.sqrt I.lo.toNat with | some w => min (w - 1) FloatKind.f64.format.infRung | none => 0) = u
      have hu' : u ≤ FloatKind.f64.format.infRung := by
        rw [← hu]
        split
        · exact Nat.min_le_right _ _
        · first | exact Nat.zero_le _ | exact Nat.le_refl _
      split
      · rename_i hc
        refine hdn u hu' ?_
        have := Nat.mul_le_mul_right (2 ^ (-FloatKind.f64.format.leastPlace).toNat) ma'
        omega
      · exact Nat.zero_le _
    · rw [hkw]
      refine Int.ofNat_le.2 ?_
      generalize hu : (match FloatKind.f64.format.sqrt I.hi.toNat with | some w => min (w + 1) FloatKind.f64.format.infRung | none => FloatKind.f64.format.infRung) = u
      have hu' : u ≤ FloatKind.f64.format.infRung := by
        rw [← hu]
        split
        · exact Nat.min_le_right _ _
        · first | exact Nat.zero_le _ | exact Nat.le_refl _
      split
      · rename_i hc
        refine hup u hu' ?_
        have := Nat.mul_le_mul_right (2 ^ (-FloatKind.f64.format.leastPlace).toNat) ma
        omega
      · exact hg.le
  · cases h

/-! ### From one kind to the other -/

def convIv (s d : FloatKind) (I : Iv) : Option Iv :=
  if s ≠ d && finIv s I then some ⟨rndI d (valK s I.lo) s.format.leastPlace, rndI d (valK s I.hi) s.format.leastPlace, I.nz && decide (0 < rndI d (valK s 1) s.format.leastPlace)⟩ else none

theorem rndI_neg {d : FloatKind} (z p : Int) : rndI d (-z) p = -rndI d z p := by
  unfold rndI
  rcases Int.lt_trichotomy z 0 with h | h | h
  · rw [if_neg (by omega), if_pos h, Int.natAbs_neg]; simp
  · subst h; simp [rungN_zero]
  · rw [if_pos (by omega), if_neg (by omega), Int.natAbs_neg]

theorem conv_key {s d : FloatKind} (hne : s ≠ d) {a : Nat} (hf : IsFinW s a) : ∃ w, Fl.conv s d (some a) = some w ∧ Good d w ∧ key d w = rndI d (worth s a) s.format.leastPlace := by
  obtain ⟨sg, m, p, h1, h2, h3⟩ := read_worth hf
  have hd : s.decode a = .number sg m p := h1
  refine ⟨d.encode (.number sg m p), by simp only [Fl.conv, if_neg hne, hd], ⟨encode_lt d _, ?_⟩, ?_⟩
  · exact nearest_not_nan d sg m p
  · have e : d.encode (.number sg m p) = d.format.nearest sg m p := rfl
    rw [e, h3, rndI_up, show s.format.leastPlace + ((p - s.format.leastPlace).toNat : Int) = p by omega]
    refine key_signed ?_
    unfold signed; cases sg <;> simp

theorem convIv_ok {s d : FloatKind} {I R : Iv} {x : Fl} (h : convIv s d I = some R) (hx : InIv s I x) : InIv d R (Fl.conv s d x) := by
  unfold convIv at h
  split at h
  · rename_i hc
    simp only [Bool.and_eq_true, ne_eq, decide_not, Bool.not_eq_true', decide_eq_false_iff_not] at hc
    cases h
    obtain ⟨a, rfl, ga, a1, a2, a3⟩ := hx
    obtain ⟨w, hw, hg, hk⟩ := conv_key hc.1 (fin_of hc.2 a1 a2)
    refine ⟨w, hw, hg, ?_, ?_, fun h => ?_⟩
    · rw [hk, worth_key]; exact rndI_mono (valK_mono a1) _
    · rw [hk, worth_key]; exact rndI_mono (valK_mono a2) _
    · simp only [Bool.and_eq_true, decide_eq_true_eq] at h
      have hnz := a3 h.1
      rw [hk, worth_key]
      rcases Int.lt_or_gt_of_ne hnz with h' | h'
      · have e1 : valK s (key s a) ≤ -valK s 1 := by rw [← valK_neg]; exact valK_mono (by omega)
        have e2 := rndI_mono (k := d) e1 s.format.leastPlace
        rw [rndI_neg] at e2
        omega
      · have e1 : valK s 1 ≤ valK s (key s a) := valK_mono (by omega)
        have e2 := rndI_mono (k := d) e1 s.format.leastPlace
        omega
  · cases h

/-- No overflow. -/
def convOkIv (s d : FloatKind) (I : Iv) : Bool :=
  match convIv s d I with
  | some R => finIv d R
  | none => false

theorem convOkIv_ok {s d : FloatKind} {I : Iv} {x : Fl} (h : convOkIv s d I = true) (hx : InIv s I x) : Fl.convOk s d x = true := by
  unfold convOkIv at h
  split at h
  · rename_i R hR
    have hr := convIv_ok hR hx
    have hc := hR
    unfold convIv at hc
    split at hc
    · rename_i hcc
      simp only [Bool.and_eq_true, ne_eq, decide_not, Bool.not_eq_true', decide_eq_false_iff_not] at hcc
      obtain ⟨a, rfl, ga, a1, a2, a3⟩ := hx
      obtain ⟨w, hw, hg, w1, w2, _⟩ := hr
      have hf := fin_of h w1 w2
      obtain ⟨m, p, e, _, _⟩ := read_fin hf
      simp only [Fl.conv, if_neg hcc.1, Option.some.injEq] at hw
      simp only [Fl.convOk, Bool.or_eq_true, decide_eq_true_eq, Bool.not_eq_true']
      right
      rw [hw]
      have e : d.decode w = .number (isNeg d w) m p := e
      rw [e]; rfl
    · cases hc
  · cases h
end
end Go.Sx

/-
  Sx, part Zg: a float32 as a float64 keeps its order.
-/
namespace Go.Sx
open Ieee

/-- A number that a float64 holds whole: its worth. -/
theorem widen_worth (s : Bool) {m : Nat} {p : Int} (hm : m < 2 ^ 24) (h1 : -149 ≤ p) (h2 : p ≤ 104) :
    rungOf .f64 (double.nearest s m p) < FloatKind.f64.format.infRung ∧ isNeg .f64 (double.nearest s m p) = s ∧ mag .f64 (rungOf .f64 (double.nearest s m p)) = m * 2 ^ (p + 1074).toNat := by
  by_cases h0 : m = 0
  · subst h0
    have : double.nearest s 0 p = double.word s 0 := by unfold Format.nearest; simp
    rw [this]
    have e1 : rungOf .f64 (double.word s 0) = 0 := rungOf_word .f64 s (Nat.zero_le _)
    have e2 : isNeg .f64 (double.word s 0) = s := isNeg_word (k := .f64) s (Nat.zero_le _)
    refine ⟨by rw [e1]; decide, e2, by rw [e1, mag_zero]; simp⟩
  · have hL : m.log2 < 24 := (Nat.log2_lt h0).2 hm
    rw [nearest64 s h0 (by omega) (by omega)]
    have hlt : m * 2 ^ (52 - m.log2) < 9007199254740992 := by
      have h3 : m < 2 ^ (m.log2 + 1) := Nat.lt_log2_self
      have h4 : m * 2 ^ (52 - m.log2) < 2 ^ (m.log2 + 1) * 2 ^ (52 - m.log2) := Nat.mul_lt_mul_of_pos_right h3 (Nat.two_pow_pos _)
      rw [← Nat.pow_add, show m.log2 + 1 + (52 - m.log2) = 53 by omega] at h4
      omega
    have hge : 4503599627370496 ≤ m * 2 ^ (52 - m.log2) := by
      have h3 : 2 ^ m.log2 ≤ m := Nat.log2_self_le h0
      have h4 := Nat.mul_le_mul_right (2 ^ (52 - m.log2)) h3
      rw [← Nat.pow_add, show m.log2 + (52 - m.log2) = 52 by omega] at h4
      omega
    have hq : (p + (m.log2 : Int) - 52 + 1074).toNat ≤ 1149 := by omega
    have hr : (p + (m.log2 : Int) - 52 + 1074).toNat * 4503599627370496 + m * 2 ^ (52 - m.log2) < 9218868437227405312 := by omega
    rw [Nat.min_eq_left (Nat.le_of_lt hr)]
    have hi : FloatKind.f64.format.infRung = 9218868437227405312 := by decide
    have e1 := rungOf_word .f64 s (x := (p + (m.log2 : Int) - 52 + 1074).toNat * 4503599627370496 + m * 2 ^ (52 - m.log2)) (by rw [hi]; omega)
    have e2 := isNeg_word (k := .f64) s (x := (p + (m.log2 : Int) - 52 + 1074).toNat * 4503599627370496 + m * 2 ^ (52 - m.log2)) (by rw [hi]; omega)
    have e1' : rungOf .f64 (double.word s ((p + (m.log2 : Int) - 52 + 1074).toNat * 4503599627370496 + m * 2 ^ (52 - m.log2))) = _ := e1
    refine ⟨by rw [e1', hi]; exact hr, e2, ?_⟩
    rw [e1']
    have hb : FloatKind.f64.format.binade = 4503599627370496 := by decide
    unfold mag
    rw [hb, if_neg (by omega)]
    have d1 : ((p + (m.log2 : Int) - 52 + 1074).toNat * 4503599627370496 + m * 2 ^ (52 - m.log2)) % 4503599627370496 = m * 2 ^ (52 - m.log2) - 4503599627370496 := by omega
    have d2 : ((p + (m.log2 : Int) - 52 + 1074).toNat * 4503599627370496 + m * 2 ^ (52 - m.log2)) / 4503599627370496 - 1 = (p + (m.log2 : Int) - 52 + 1074).toNat := by omega
    rw [d1, d2, show 4503599627370496 + (m * 2 ^ (52 - m.log2) - 4503599627370496) = m * 2 ^ (52 - m.log2) by omega, Nat.mul_assoc, ← Nat.pow_add]
    congr 2
    omega

/-- How many places a float64 reaches below a float32. -/
def wideUp : Nat := 925

theorem nan_wide {a : Nat} (s : Bool) (t : Nat) (h : single.read a = .nan s t) : isNanW .f64 (double.write (.nan s t)) = true := by
  have ht : 0 < t ∧ t < 2 ^ 31 := by
    have hb : single.binade = 8388608 := by decide
    have hi : single.infRung = 2139095040 := by decide
    have hs : single.signWeight = 2147483648 := by decide
    unfold Format.read at h
    rw [hb, hi, hs] at h
    dsimp only at h
    have hx := Nat.mod_lt a (show 0 < 2147483648 by omega)
    generalize a % 2147483648 = x at h hx
    split at h
    · cases h
    · split at h
      · cases h
      · split at h
        · cases h
        · cases h; omega
  have hb : double.binade = 4503599627370496 := by decide
  have hi : double.infRung = 9218868437227405312 := by decide
  have hs : double.signWeight = 9223372036854775808 := by decide
  rw [isNanW_eq]
  show decide (double.infRung < (double.word s (double.infRung + t % double.binade)) % double.signWeight) = true
  unfold Format.word
  rw [hb, hi, hs]
  rw [decide_eq_true_eq]
  split <;> omega

/-- What a float32 is as a float64. -/
theorem widen_read (a : Nat) : (∃ s m p, single.read a = .number s m p ∧ rungOf .f64 (double.nearest s m p) < FloatKind.f64.format.infRung ∧ Fl.conv .f32 .f64 (some a) = some (double.nearest s m p) ∧
      worth .f64 (double.nearest s m p) = worth .f32 a * ((2 ^ wideUp : Nat) : Int) ∧ rungOf .f32 a < FloatKind.f32.format.infRung) ∨
    (∃ s, single.read a = .infinity s ∧ Fl.conv .f32 .f64 (some a) = some (double.word s FloatKind.f64.format.infRung)) ∨
    (∃ s t, single.read a = .nan s t ∧ ∃ w, Fl.conv .f32 .f64 (some a) = some w ∧ isNanW .f64 w = true) := by
  have hne : FloatKind.f32 ≠ FloatKind.f64 := by decide
  rcases Nat.lt_or_ge (rungOf .f32 a) FloatKind.f32.format.infRung with hf | hf
  · obtain ⟨m, p, e, e2, e3⟩ := read_fin hf
    have e : single.read a = .number (isNeg .f32 a) m p := e
    have hb : m < 2 ^ 24 ∧ -149 ≤ p ∧ p ≤ 104 := by
      rcases read32 a with ⟨s, m', p', h, h1⟩ | ⟨s, h⟩ | ⟨s, t, h⟩
      · rw [e] at h; cases h; exact h1
      · rw [e] at h; cases h
      · rw [e] at h; cases h
    obtain ⟨w1, w2, w3⟩ := widen_worth (isNeg .f32 a) hb.1 hb.2.1 hb.2.2
    refine .inl ⟨_, m, p, e, w1, ?_, ?_, hf⟩
    · have hd : FloatKind.f32.decode a = .number (isNeg .f32 a) m p := e
      simp only [Fl.conv, if_neg hne, hd]; rfl
    · have hl : FloatKind.f32.format.leastPlace = -149 := by decide
      rw [hl] at e3
      have h925 : m * 2 ^ (p + 1074).toNat = mag .f32 (rungOf .f32 a) * 2 ^ wideUp := by
        rw [← e3, Nat.mul_assoc, ← Nat.pow_add, show (p - -149).toNat + wideUp = (p + 1074).toNat by unfold wideUp; omega]
      unfold worth
      rw [w2, w3, h925]
      cases isNeg .f32 a
      · simp only [Bool.false_eq_true, if_false, Int.natCast_mul]
      · simp only [if_true, Int.natCast_mul, Int.neg_mul]
  · rcases Nat.lt_or_eq_of_le hf with hf | hf
    · have hn : isNanW .f32 a = true := by rw [isNanW_eq]; simpa [rungOf] using hf
      obtain ⟨s, t, e⟩ := read_nan hn
      refine .inr (.inr ⟨s, t, e, double.write (.nan s t), ?_⟩)
      have hd : FloatKind.f32.decode a = .nan s t := e
      simp only [Fl.conv, if_neg hne, hd]
      exact ⟨rfl, nan_wide s t e⟩
    · have e : single.read a = .infinity (isNeg .f32 a) := read_inf hf.symm
      have hd : FloatKind.f32.decode a = .infinity (isNeg .f32 a) := e
      exact .inr (.inl ⟨_, e, by simp only [Fl.conv, if_neg hne, hd]; rfl⟩)

theorem word_inf_read (k : FloatKind) (s : Bool) : k.format.read (k.format.word s k.format.infRung) = .infinity s := by cases k <;> cases s <;> rfl

/-- The order of two float32 stays. -/
theorem widen_ord (x y : Fl) : Fl.ord .f64 (Fl.conv .f32 .f64 x) (Fl.conv .f32 .f64 y) = Fl.ord .f32 x y := by
  cases x with
  | none => cases y <;> rfl
  | some a =>
    cases y with
    | none =>
      have : Fl.conv .f32 .f64 none = none := rfl
      rw [this]
      cases Fl.conv .f32 .f64 (some a) <;> rfl
    | some b =>
      have nanw : ∀ {w : Nat}, isNanW .f64 w = true → (double.read w).isNaN = true := fun h => h
      show Fl.ord .f64 (Fl.conv .f32 .f64 (some a)) (Fl.conv .f32 .f64 (some b)) = (single.read a).order (single.read b)
      rcases widen_read a with ⟨s, m, p, ha, a1, a2, a3, a4⟩ | ⟨s, ha, a1⟩ | ⟨s, t, ha, w, a1, a2⟩
      · obtain ⟨m', p', e', _, _⟩ := read_fin a1
        have e' : double.read (double.nearest s m p) = .number _ m' p' := e'
        rcases widen_read b with ⟨t, n, q, hb, b1, b2, b3, b4⟩ | ⟨t, hb, b1⟩ | ⟨t, u, hb, v, b1, b2⟩
        · rw [a2, b2]
          have h1 : (single.read a).order (single.read b) = some (compare (worth .f32 a) (worth .f32 b)) := order_fin (k := .f32) a4 b4
          have h2 : double.order (double.nearest s m p) (double.nearest t n q) = some (compare (worth .f64 (double.nearest s m p)) (worth .f64 (double.nearest t n q))) := order_fin (k := .f64) a1 b1
          rw [h1]
          show double.order (double.nearest s m p) (double.nearest t n q) = _
          rw [h2, a3, b3, compare_mul (Int.natCast_pos.2 (Nat.two_pow_pos _))]
        · rw [a2, b1, ha, hb]
          have w2 : double.read (double.word t FloatKind.f64.format.infRung) = .infinity t := word_inf_read .f64 t
          show (double.read (double.nearest s m p)).order (double.read (double.word t FloatKind.f64.format.infRung)) = _
          rw [e', w2]; rfl
        · rw [a2, b1, hb, order_nan_right (a := single.read a) rfl]
          show (double.read (double.nearest s m p)).order (double.read v) = none
          exact order_nan_right (nanw b2)
      · have w1 : double.read (double.word s FloatKind.f64.format.infRung) = .infinity s := word_inf_read .f64 s
        rcases widen_read b with ⟨t, n, q, hb, b1, b2, b3, b4⟩ | ⟨t, hb, b1⟩ | ⟨t, u, hb, v, b1, b2⟩
        · obtain ⟨m', p', e', _, _⟩ := read_fin b1
          have e' : double.read (double.nearest t n q) = .number _ m' p' := e'
          rw [a1, b2, ha, hb]
          show (double.read (double.word s FloatKind.f64.format.infRung)).order (double.read (double.nearest t n q)) = _
          rw [w1, e']; rfl
        · have w2 : double.read (double.word t FloatKind.f64.format.infRung) = .infinity t := word_inf_read .f64 t
          rw [a1, b1, ha, hb]
          show (double.read (double.word s FloatKind.f64.format.infRung)).order (double.read (double.word t FloatKind.f64.format.infRung)) = _
          rw [w1, w2]
        · rw [a1, b1, hb, order_nan_right (a := single.read a) rfl]
          show (double.read (double.word s FloatKind.f64.format.infRung)).order (double.read v) = none
          exact order_nan_right (nanw b2)
      · rw [a1, ha, order_nan_left (b := single.read b) rfl]
        cases hb : Fl.conv .f32 .f64 (some b) with
        | none => rfl
        | some v =>
          show (double.read w).order (double.read v) = none
          exact order_nan_left (nanw a2)

/-- Finite as a float32, finite as a float64. -/
theorem widen_num (x : Fl) : IsNum .f64 (Fl.conv .f32 .f64 x) ↔ IsNum .f32 x := by
  cases x with
  | none => constructor <;> rintro ⟨_, h, _⟩ <;> cases h
  | some a =>
    rcases widen_read a with ⟨s, m, p, ha, a1, a2, a3, a4⟩ | ⟨s, ha, a1⟩ | ⟨s, t, ha, w, a1, a2⟩
    · rw [a2]
      obtain ⟨m', p', e', _, _⟩ := read_fin a1
      exact ⟨fun _ => ⟨a, rfl, _, _, _, ha⟩, fun _ => ⟨_, rfl, _, _, _, e'⟩⟩
    · rw [a1]
      constructor
      · rintro ⟨w, h, s', m', p', h'⟩
        cases h
        have e : double.read (double.word s FloatKind.f64.format.infRung) = .infinity s := word_inf_read .f64 s
        have h' : double.read (double.word s FloatKind.f64.format.infRung) = .number s' m' p' := h'
        rw [e] at h'; cases h'
      · rintro ⟨w, h, s', m', p', h'⟩
        cases h
        have h' : single.read a = .number s' m' p' := h'
        rw [ha] at h'; cases h'
    · rw [a1]
      constructor
      · rintro ⟨v, h, s', m', p', h'⟩
        cases h
        unfold isNanW at a2
        rw [h'] at a2; cases a2
      · rintro ⟨v, h, s', m', p', h'⟩
        cases h
        have h' : single.read a = .number s' m' p' := h'
        rw [ha] at h'; cases h'

theorem widen_fin (x : Fl) : finF .f64 (Fl.conv .f32 .f64 x) = finF .f32 x := by
  have h1 := finF_iff .f64 (Fl.conv .f32 .f64 x)
  have h2 := finF_iff .f32 x
  have h3 := widen_num x
  cases ha : finF .f64 (Fl.conv .f32 .f64 x) <;> cases hb : finF .f32 x <;> simp_all
end Go.Sx

/-
  Sx, part Zh: what is known on a way: intervals of the names, tests that were met; ways that cannot be.
-/
namespace Go.Sx
open Ieee
open E (mk1 mk2 mkIte mk1_ev mk2_ev mkIte_ev)

/-! ### Tests in one form -/

/-- A float64 that is a float32, as that. -/
def unw (env : List (Nat × E)) : E → Option E
  | .v n => match lkM n env with
    | some (.o1 (.conv .f32 .f64) x) => some x
    | _ => none
  | .f (some w) => match Fl.conv .f64 .f32 (some w) with
    | some u => if decide (Fl.conv .f32 .f64 (some u) = some w) then some (.f (some u)) else none
    | none => none
  | _ => none

/-- The test 'is finite' as one form. -/
def finE (k : FloatKind) (x : E) : E := .o2 (.feq k) (.o2 (.fsub k) x x) (.f (some 0))

def unw2 (env : List (Nat × E)) (o : O2) (c a b : E) : E :=
  match unw env a, unw env b with
  | some x, some y => .o2 o x y
  | _, _ => c

/-- A test in its plain form. -/
def norm (env : List (Nat × E)) (c : E) : E :=
  match isFin? env c with
  | some (.f64, x) => (match unw env x with
    | some y => finE .f32 y
    | none => finE .f64 x)
  | some (.f32, x) => finE .f32 x
  | none => match c with
    | .o2 (.flt .f64) a b => unw2 env (.flt .f32) (.o2 (.flt .f64) a b) a b
    | .o2 (.fle .f64) a b => unw2 env (.fle .f32) (.o2 (.fle .f64) a b) a b
    | .o2 (.feq .f64) a b => unw2 env (.feq .f32) (.o2 (.feq .f64) a b) a b
    | c => c

/-- A test and its sense: '(x, s)': the test holds where 'x' is 's'. -/
def normP (env : List (Nat × E)) : E → E × Bool
  | .o1 .not c => (norm env c, false)
  | c => (norm env c, true)

section
variable {U : Nat → D → D} {r : Nat → D}

theorem unw_ok {env : List (Nat × E)} (he : EnvOk U r env) {e x : E} (h : unw env e = some x) : (e.ev U r).toF = Fl.conv .f32 .f64 (x.ev U r).toF := by
  unfold unw at h
  split at h
  · rename_i n
    split at h
    · rename_i y hl
      cases h
      have := he _ (lkM_mem hl)
      simp only [E.ev, O1.ev] at this ⊢
      rw [this]; rfl
    · cases h
  · rename_i w
    split at h
    · rename_i u hu
      split at h
      · rename_i hc
        cases h
        simp only [decide_eq_true_eq] at hc
        simp only [E.ev, D.toF_f, hc]
      · cases h
    · cases h
  · cases h

theorem unw_under {env : List (Nat × E)} {m : Nat} (he : EnvUnder m env) {e x : E} (h : unw env e = some x) : x.under m = true := by
  unfold unw at h
  split at h
  · rename_i n
    split at h
    · rename_i y hl
      cases h
      have := (he _ (lkM_mem hl)).2
      simpa [E.under] using this
    · cases h
  · rename_i w
    split at h
    · split at h
      · cases h; rfl
      · cases h
    · cases h
  · cases h

theorem finE_ev (k : FloatKind) (x : E) : ((finE k x).ev U r).toB = finF k (x.ev U r).toF := rfl

theorem unw2_ok {env : List (Nat × E)} (he : EnvOk U r env) {o o' : O2} {a b : E} (ho : ∀ x y : Fl, (o.ev (.f x) (.f y)).toB = (o'.ev (.f (Fl.conv .f32 .f64 x)) (.f (Fl.conv .f32 .f64 y))).toB)
    (hs : ∀ d d' : D, o.ev d d' = o.ev (.f d.toF) (.f d'.toF)) (hs' : ∀ d d' : D, o'.ev d d' = o'.ev (.f d.toF) (.f d'.toF)) : ((unw2 env o (.o2 o' a b) a b).ev U r).toB = ((E.o2 o' a b).ev U r).toB := by
  unfold unw2
  split
  · rename_i x y hx hy
    simp only [E.ev]
    rw [hs, hs', unw_ok he hx, unw_ok he hy, ho]
  · rfl

theorem norm_ok {env : List (Nat × E)} (he : EnvOk U r env) (c : E) : ((norm env c).ev U r).toB = (c.ev U r).toB := by
  unfold norm
  split
  · rename_i x hf
    rw [isFin?_ok he hf]
    split
    · rename_i y hy
      rw [finE_ev, unw_ok he hy, widen_fin]
    · rw [finE_ev]
  · rename_i x hf
    rw [isFin?_ok he hf, finE_ev]
  · split
    · exact unw2_ok he (fun x y => by simp only [O2.ev, D.toB_b, D.toF_f, Fl.lt, widen_ord]) (fun _ _ => rfl) (fun _ _ => rfl)
    · exact unw2_ok he (fun x y => by simp only [O2.ev, D.toB_b, D.toF_f, Fl.le, widen_ord]) (fun _ _ => rfl) (fun _ _ => rfl)
    · exact unw2_ok he (fun x y => by simp only [O2.ev, D.toB_b, D.toF_f, Fl.eq, widen_ord]) (fun _ _ => rfl) (fun _ _ => rfl)
    · rfl

theorem finE_under {k : FloatKind} {x : E} {m : Nat} (h : x.under m = true) : (finE k x).under m = true := by simp [finE, E.under, h]

theorem unw2_under {env : List (Nat × E)} {m : Nat} (he : EnvUnder m env) {o o' : O2} {a b : E} (hu : (E.o2 o' a b).under m = true) : (unw2 env o (.o2 o' a b) a b).under m = true := by
  unfold unw2
  split
  · rename_i x y hx hy
    simp only [E.under, unw_under he hx, unw_under he hy, Bool.and_self]
  · exact hu

theorem norm_under {env : List (Nat × E)} {m : Nat} (he : EnvUnder m env) {c : E} (hu : c.under m = true) : (norm env c).under m = true := by
  unfold norm
  split
  · rename_i x hf
    split
    · rename_i y hy
      exact finE_under (unw_under he hy)
    · exact finE_under (isFin?_under he hu hf)
  · rename_i x hf
    exact finE_under (isFin?_under he hu hf)
  · split
    · exact unw2_under he hu
    · exact unw2_under he hu
    · exact unw2_under he hu
    · exact hu

theorem normP_ok {env : List (Nat × E)} (he : EnvOk U r env) (c : E) : (c.ev U r).toB = (((normP env c).1.ev U r).toB == (normP env c).2) := by
  unfold normP
  split
  · rename_i c
    show (!(c.ev U r).toB) = _
    rw [norm_ok he]; cases (c.ev U r).toB <;> rfl
  · rw [norm_ok he]
    show _ = (_ == true)
    rw [beq_true]

theorem normP_under {env : List (Nat × E)} {m : Nat} (he : EnvUnder m env) {c : E} (hu : c.under m = true) : (normP env c).1.under m = true := by
  unfold normP
  split
  · exact norm_under he (by simpa [E.under] using hu)
  · exact norm_under he hu
end

/-! ### Tables of intervals -/

abbrev IvT := List (Nat × FloatKind × Iv)

def ivLook (n : Nat) (k : FloatKind) : IvT → Option Iv
  | [] => none
  | (i, q, I) :: l => bif Nat.beq i n then (if q = k then some I else ivLook n k l) else ivLook n k l

/-- The bounds of what is not nought. -/
def tight (I : Iv) : Iv := ⟨if I.nz && decide (I.lo = 0) then 1 else I.lo, if I.nz && decide (I.hi = 0) then -1 else I.hi, I.nz⟩

theorem tight_ok {k : FloatKind} {I : Iv} {x : Fl} (h : InIv k I x) : InIv k (tight I) x := by
  obtain ⟨w, rfl, g, a1, a2, a3⟩ := h
  refine ⟨w, rfl, g, ?_, ?_, a3⟩
  · unfold tight
    dsimp only
    split
    · rename_i hc
      simp only [Bool.and_eq_true, decide_eq_true_eq] at hc
      have := a3 hc.1
      omega
    · exact a1
  · unfold tight
    dsimp only
    split
    · rename_i hc
      simp only [Bool.and_eq_true, decide_eq_true_eq] at hc
      have := a3 hc.1
      omega
    · exact a2

/-- The interval of an atom. -/
def ivA (T : IvT) (k : FloatKind) : E → Option Iv
  | .v n => (ivLook n k T).map tight
  | .f (some w) => if decide (w < 2 ^ k.format.width) && !isNanW k w then some ⟨key k w, key k w, !decide (key k w = 0)⟩ else none
  | _ => none

def ivB (T : IvT) (k : FloatKind) (a b : E) (f : Iv → Iv → Option Iv) : Option (FloatKind × Iv) :=
  match ivA T k a, ivA T k b with
  | some I, some J => (f I J).map fun R => (k, R)
  | _, _ => none

def knows (cs : List (E × Bool)) (c : E) (b : Bool) : Bool := match look c cs with
  | some b' => b' == b
  | none => false

/-- 'a' is not above 'b', so far as the tests tell. -/
def leKn (cs : List (E × Bool)) (k : FloatKind) (a b : E) : Bool :=
  knows cs (.o2 (.flt k) a b) true || (knows cs (.o2 (.fle k) a b) true || knows cs (.o2 (.flt k) b a) false)

/-- A square is not below nought. -/
def sqIv (I : Iv) : Iv := if 0 ≤ I.lo then I else ⟨0, I.hi, false⟩

def ivE (T : IvT) (cs : List (E × Bool)) : E → Option (FloatKind × Iv)
  | .o2 (.fadd k) a b => ivB T k a b (addIv k)
  | .o2 (.fsub k) a b => ivB T k a b (subIv k)
  | .o2 (.fmul k) a b => ivB T k a b (mulIv k)
  | .o2 (.fdiv k) a b => ivB T k a b (divIv k (leKn cs k a b))
  | .o1 (.fneg k) a => (ivA T k a).map fun I => (k, negIv I)
  | .o1 (.fabs k) a => (ivA T k a).map fun I => (k, absIv I)
  | .o1 .sqrt a => (ivA T .f64 a).bind fun I => (sqrtIv .f64 I).map fun R => (.f64, R)
  | .o1 (.conv s d) a => (ivA T s a).bind fun I => (convIv s d I).map fun R => (d, R)
  | _ => none

def meet (I J : Iv) : Iv := ⟨max I.lo J.lo, min I.hi J.hi, I.nz || J.nz⟩

/-- An interval with what else is known of the name. -/
def ivPut (i : Nat) (k : FloatKind) (I : Iv) (T : IvT) : IvT :=
  match ivLook i k T with
  | some J => (i, k, meet I J) :: T
  | none => (i, k, I) :: T

/-- All intervals anew, the oldest name first. -/
def ivAll (cs : List (E × Bool)) (facts : IvT) : List (Nat × E) → IvT
  | [] => facts
  | (i, e) :: env =>
    let T := ivAll cs facts env
    match ivE T cs e with
    | some (k, I) => ivPut i k I T
    | none => T

def TOk (r : Nat → D) (T : IvT) : Prop := ∀ p ∈ T, InIv p.2.1 p.2.2 (r p.1).toF
def TUnder (m : Nat) (T : IvT) : Prop := ∀ p ∈ T, p.1 < m

section
variable {U : Nat → D → D} {r : Nat → D}

theorem ivLook_mem {n : Nat} {k : FloatKind} {I : Iv} : ∀ {T : IvT}, ivLook n k T = some I → (n, k, I) ∈ T := by
  intro T
  induction T with
  | nil => intro h; cases h
  | cons p T ih =>
    obtain ⟨i, q, J⟩ := p
    intro h
    unfold ivLook at h
    cases hb : Nat.beq i n with
    | true =>
      rw [hb] at h
      simp only [cond_true] at h
      split at h
      · rename_i hk
        cases h
        rw [Nat.eq_of_beq_eq_true hb, hk]; exact List.mem_cons_self ..
      · exact List.mem_cons_of_mem _ (ih h)
    | false => rw [hb] at h; exact List.mem_cons_of_mem _ (ih h)

theorem ivA_ok {T : IvT} (hT : TOk r T) {k : FloatKind} {e : E} {I : Iv} (h : ivA T k e = some I) : InIv k I (e.ev U r).toF := by
  unfold ivA at h
  split at h
  · rw [Option.map_eq_some_iff] at h
    obtain ⟨J, h1, rfl⟩ := h
    exact tight_ok (hT _ (ivLook_mem h1))
  · rename_i w
    split at h
    · rename_i hc
      simp only [Bool.and_eq_true, decide_eq_true_eq, Bool.not_eq_true'] at hc
      cases h
      exact ⟨w, rfl, ⟨hc.1, hc.2⟩, Int.le_refl _, Int.le_refl _, fun h => by simpa using h⟩
    · cases h
  · cases h

theorem ivB_ok {T : IvT} (hT : TOk r T) {k q : FloatKind} {a b : E} {f : Iv → Iv → Option Iv} {R : Iv} {op : Fl → Fl → Fl} (hf : ∀ I J R x y, f I J = some R → InIv k I x → InIv k J y → x = (a.ev U r).toF → y = (b.ev U r).toF → InIv k R (op x y))
    (h : ivB T k a b f = some (q, R)) : InIv q R (op (a.ev U r).toF (b.ev U r).toF) := by
  unfold ivB at h
  split at h
  · rename_i I J hI hJ
    rw [Option.map_eq_some_iff] at h
    obtain ⟨R', h1, h2⟩ := h
    cases h2
    exact hf I J _ _ _ h1 (ivA_ok hT hI) (ivA_ok hT hJ) rfl rfl
  · cases h

theorem knows_ok {cs : List (E × Bool)} (hc : PcOk U r cs) {c : E} {b : Bool} (h : knows cs c b = true) : (c.ev U r).toB = b := by
  unfold knows at h
  split at h
  · rename_i b' hl
    rw [look_ok hc hl]; simpa using h
  · cases h

theorem leKn_ok {cs : List (E × Bool)} (hc : PcOk U r cs) {k : FloatKind} {a b : E} (h : leKn cs k a b = true) {x y : Nat} (hx : (a.ev U r).toF = some x) (hy : (b.ev U r).toF = some y) (gx : Good k x) (gy : Good k y) : key k x ≤ key k y := by
  unfold leKn at h
  simp only [Bool.or_eq_true] at h
  have ho : Fl.ord k (some x) (some y) = some (compare (key k x) (key k y)) := order_key gx gy
  have ho' : Fl.ord k (some y) (some x) = some (compare (key k y) (key k x)) := order_key gy gx
  rcases h with h | h | h
  · have := knows_ok hc h
    simp only [E.ev, O2.ev, D.toB_b, hx, hy, Fl.lt, ho] at this
    have := compare_lt_iff.1 (by simpa using this)
    omega
  · have := knows_ok hc h
    simp only [E.ev, O2.ev, D.toB_b, hx, hy, Fl.le, ho, Bool.or_eq_true] at this
    rcases this with h' | h'
    · have := compare_lt_iff.1 (by simpa using h'); omega
    · have := compare_eq_iff.1 (by simpa using h'); omega
  · have := knows_ok hc h
    simp only [E.ev, O2.ev, D.toB_b, hx, hy, Fl.lt, ho'] at this
    rcases Int.lt_or_le (key k y) (key k x) with h' | h'
    · rw [cmp_lt h'] at this; cases this
    · exact h'

theorem ivE_ok {T : IvT} {cs : List (E × Bool)} (hT : TOk r T) (hc : PcOk U r cs) {e : E} {k : FloatKind} {I : Iv} (h : ivE T cs e = some (k, I)) : InIv k I (e.ev U r).toF := by
  unfold ivE at h
  split at h
  · rename_i q a b; exact ivB_ok (op := Fl.add q) hT (fun I J R x y h hx hy _ _ => addIv_ok h hx hy) h
  · rename_i q a b; exact ivB_ok (op := Fl.sub q) hT (fun I J R x y h hx hy _ _ => subIv_ok h hx hy) h
  · rename_i q a b; exact ivB_ok (op := Fl.mul q) hT (fun I J R x y h hx hy _ _ => mulIv_ok h hx hy) h
  · rename_i q a b
    refine ivB_ok (op := Fl.div q) hT (fun I J R x y h hx hy ex ey => divIv_ok h hx hy fun hl u v hu hv => ?_) h
    obtain ⟨u', hu', gu, _⟩ := hx
    obtain ⟨v', hv', gv, _⟩ := hy
    rw [hu] at hu'; rw [hv] at hv'; cases hu'; cases hv'
    exact leKn_ok hc hl (ex ▸ hu) (ey ▸ hv) gu gv
  · rename_i q a
    rw [Option.map_eq_some_iff] at h
    obtain ⟨J, h1, h2⟩ := h
    cases h2
    exact negIv_ok (ivA_ok (U := U) hT h1)
  · rename_i q a
    rw [Option.map_eq_some_iff] at h
    obtain ⟨J, h1, h2⟩ := h
    cases h2
    exact absIv_ok (ivA_ok (U := U) hT h1)
  · rename_i a
    rw [Option.bind_eq_some_iff] at h
    obtain ⟨J, h1, h2⟩ := h
    rw [Option.map_eq_some_iff] at h2
    obtain ⟨R, h3, h4⟩ := h2
    cases h4
    exact sqrtIv_ok h3 (ivA_ok (U := U) hT h1)
  · rename_i s d a
    rw [Option.bind_eq_some_iff] at h
    obtain ⟨J, h1, h2⟩ := h
    rw [Option.map_eq_some_iff] at h2
    obtain ⟨R, h3, h4⟩ := h2
    cases h4
    exact convIv_ok h3 (ivA_ok (U := U) hT h1)
  · cases h

theorem meet_ok {k : FloatKind} {I J : Iv} {x : Fl} (h : InIv k I x) (h' : InIv k J x) : InIv k (meet I J) x := by
  obtain ⟨w, rfl, g, a1, a2, a3⟩ := h
  obtain ⟨w', e, g', b1, b2, b3⟩ := h'
  cases e
  refine ⟨w, rfl, g, ?_, ?_, fun h => ?_⟩
  · show max I.lo J.lo ≤ _; omega
  · show _ ≤ min I.hi J.hi; omega
  · have h : (I.nz || J.nz) = true := h
    rw [Bool.or_eq_true] at h
    exact h.elim a3 b3

theorem ivPut_ok {T : IvT} (hT : TOk r T) {i : Nat} {k : FloatKind} {I : Iv} (h : InIv k I (r i).toF) : TOk r (ivPut i k I T) := by
  unfold ivPut
  split
  · rename_i J hJ
    intro p hp
    rcases List.mem_cons.1 hp with rfl | hp
    · exact meet_ok h (hT _ (ivLook_mem hJ))
    · exact hT p hp
  · intro p hp
    rcases List.mem_cons.1 hp with rfl | hp
    · exact h
    · exact hT p hp

theorem ivAll_ok {cs : List (E × Bool)} (hc : PcOk U r cs) {facts : IvT} (hf : TOk r facts) : ∀ {env : List (Nat × E)}, EnvOk U r env → TOk r (ivAll cs facts env) := by
  intro env
  induction env with
  | nil => intro _; exact hf
  | cons p env ih =>
    obtain ⟨i, e⟩ := p
    intro he
    have hT := ih (fun q hq => he q (List.mem_cons_of_mem _ hq))
    have hi : r i = e.ev U r := he (i, e) (List.mem_cons_self ..)
    unfold ivAll
    dsimp only
    split
    · rename_i k I h
      refine ivPut_ok hT ?_
      rw [hi]; exact ivE_ok hT hc h
    · exact hT

theorem ivPut_under {m i : Nat} {k : FloatKind} {I : Iv} {T : IvT} (hT : TUnder m T) (h : i < m) : TUnder m (ivPut i k I T) := by
  unfold ivPut
  split
  all_goals
    intro p hp
    rcases List.mem_cons.1 hp with rfl | hp
    · exact h
    · exact hT p hp

theorem ivAll_under {cs : List (E × Bool)} {m : Nat} {facts : IvT} (hf : TUnder m facts) : ∀ {env : List (Nat × E)}, EnvUnder m env → TUnder m (ivAll cs facts env) := by
  intro env
  induction env with
  | nil => intro _; exact hf
  | cons p env ih =>
    obtain ⟨i, e⟩ := p
    intro he
    have hT := ih (fun q hq => he q (List.mem_cons_of_mem _ hq))
    unfold ivAll
    dsimp only
    split
    · exact ivPut_under hT (he (i, e) (List.mem_cons_self ..)).1
    · exact hT
end
end Go.Sx

/-
  Sx, part Zi: the checker that knows intervals.
-/
namespace Go.Sx
open Ieee
open E (mk1 mk2 mkIte mk1_ev mk2_ev mkIte_ev)

/-! ### Roots fit -/

def rootTop : Int := 5183643171103440896

theorem root_fits : (match sqrtIv .f64 ⟨0, rootTop, false⟩ with | some R => convOkIv .f64 .f32 R | none => false) = true := by decide +kernel
theorem rootTop_mag : mag .f64 rootTop.toNat = mag .f32 FloatKind.f32.format.infRung * 2 ^ wideUp := by decide +kernel
theorem root_infs : Fl.convOk .f64 .f32 (Fl.sqrt (some (double.word false FloatKind.f64.format.infRung))) = true ∧ Fl.convOk .f64 .f32 (Fl.sqrt (some (double.word true FloatKind.f64.format.infRung))) = true := by decide +kernel

theorem root_ok32 (x : Fl) : Fl.convOk .f64 .f32 (Fl.sqrt (Fl.conv .f32 .f64 x)) = true := by
  cases x with
  | none => rfl
  | some a =>
    rcases widen_read a with ⟨s, m, p, ha, a1, a2, a3, a4⟩ | ⟨s, ha, a1⟩ | ⟨s, t, ha, w, a1, a2⟩
    · obtain ⟨w, hw, hg, _⟩ := conv_key (s := .f32) (d := .f64) (by decide) a4
      rw [a2] at hw
      cases hw
      rw [a2]
      rcases Int.lt_or_le (key .f64 (double.nearest s m p)) 0 with hneg | hpos
      · have hs : Fl.sqrt (some (double.nearest s m p)) = none := by
          obtain ⟨m', p', e', h2, h3⟩ := read_fin a1
          have e' : double.read (double.nearest s m p) = .number _ m' p' := e'
          show ((double.read (double.nearest s m p)).root _).map double.write = none
          have hn : isNeg .f64 (double.nearest s m p) = true := by
            cases hh : isNeg .f64 (double.nearest s m p) with
            | true => rfl
            | false => unfold key at hneg; rw [hh] at hneg; simp only [Bool.false_eq_true, if_false] at hneg; omega
          have hm : m' ≠ 0 := by
            rintro rfl
            rw [Nat.zero_mul] at h3
            have : rungOf .f64 (double.nearest s m p) = 0 := mag_inj .f64 (by rw [mag_zero, ← h3])
            unfold key at hneg
            rw [this] at hneg
            split at hneg <;> omega
          rw [e', hn]
          simp only [Datum.root, if_neg hm, if_true]
          rfl
        rw [hs]; rfl
      · have hle : key .f64 (double.nearest s m p) ≤ rootTop := by
          rcases Int.lt_or_le rootTop (key .f64 (double.nearest s m p)) with h | h
          · have h5 := valK_lt (k := .f64) h
            rw [← worth_key, a3, worth_key] at h5
            have h6 : valK .f32 (key .f32 a) ≤ (mag .f32 FloatKind.f32.format.infRung : Int) := by
              have := valK_mono (k := .f32) (show key .f32 a ≤ (FloatKind.f32.format.infRung : Int) by have := key_abs (k := .f32) a; omega)
              have e : valK .f32 (FloatKind.f32.format.infRung : Int) = (mag .f32 FloatKind.f32.format.infRung : Int) := by decide +kernel
              omega
            have h7 : valK .f64 rootTop = ((mag .f32 FloatKind.f32.format.infRung * 2 ^ wideUp : Nat) : Int) := by
              rw [← rootTop_mag]; decide +kernel
            rw [h7, Int.natCast_mul] at h5
            have := Int.mul_le_mul_of_nonneg_right h6 (show (0 : Int) ≤ ((2 ^ wideUp : Nat) : Int) from Int.natCast_nonneg _)
            omega
          · exact h
        have hin : InIv .f64 ⟨0, rootTop, false⟩ (some (double.nearest s m p)) := ⟨_, rfl, hg, hpos, hle, fun h => by cases h⟩
        have hf := root_fits
        split at hf
        · rename_i R hR
          exact convOkIv_ok hf (sqrtIv_ok hR hin)
        · cases hf
    · rw [a1]
      cases s
      · exact root_infs.1
      · exact root_infs.2
    · rw [a1]
      have : Fl.sqrt (some w) = none := by
        obtain ⟨s', t', e⟩ := read_nan a2
        have e : double.read w = .nan s' t' := e
        show ((double.read w).root _).map double.write = none
        rw [e]; rfl
      rw [this]; rfl

/-! ### What intervals decide -/

def rootE (env : List (Nat × E)) : E → Bool
  | .v n => match lkM n env with
    | some (.o1 .sqrt y) => (unw env y).isSome
    | _ => false
  | _ => false

def isConv64 : FloatKind → FloatKind → Bool
  | .f64, .f32 => true
  | _, _ => false

/-- What the intervals tell of a test. -/
def decI (env : List (Nat × E)) (T : IvT) : E → Option Bool
  | .b x => some x
  | .o2 (.flt k) a b => match ivA T k a, ivA T k b with
    | some I, some J => if I.hi < J.lo then some true else if J.hi ≤ I.lo then some false else none
    | _, _ => none
  | .o2 (.fle k) a b => match ivA T k a, ivA T k b with
    | some I, some J => if I.hi ≤ J.lo then some true else if J.hi < I.lo then some false else none
    | _, _ => none
  | .o2 (.feq k) a b => match ivA T k a, ivA T k b with
    | some I, some J => if I.hi < J.lo ∨ J.hi < I.lo then some false else if I.lo = I.hi ∧ J.lo = J.hi ∧ I.lo = J.lo then some true
      else if I.nz = true ∧ J.lo = 0 ∧ J.hi = 0 then some false else if J.nz = true ∧ I.lo = 0 ∧ I.hi = 0 then some false else none
    | _, _ => none
  | .o1 (.convOk s d) a => match ivA T s a with
    | some I => if convOkIv s d I then some true else none
    | none => if isConv64 s d && rootE env a then some true else none
  | _ => none

section
variable {U : Nat → D → D} {r : Nat → D}

theorem ord_iv {k : FloatKind} {I J : Iv} {x y : Fl} (hx : InIv k I x) (hy : InIv k J y) : ∃ a b, Fl.ord k x y = some (compare a b) ∧ I.lo ≤ a ∧ a ≤ I.hi ∧ J.lo ≤ b ∧ b ≤ J.hi ∧ (I.nz = true → a ≠ 0) ∧ (J.nz = true → b ≠ 0) := by
  obtain ⟨a, rfl, ga, a1, a2, a3⟩ := hx
  obtain ⟨b, rfl, gb, b1, b2, b3⟩ := hy
  exact ⟨key k a, key k b, order_key ga gb, a1, a2, b1, b2, a3, b3⟩

theorem decI_ok {env : List (Nat × E)} {T : IvT} (he : EnvOk U r env) (hT : TOk r T) {c : E} {b : Bool} (h : decI env T c = some b) : (c.ev U r).toB = b := by
  unfold decI at h
  split at h
  · cases h; rfl
  · rename_i k x y
    split at h
    · rename_i I J hI hJ
      obtain ⟨p, q, ho, p1, p2, q1, q2, p3, q3⟩ := ord_iv (ivA_ok (U := U) hT hI) (ivA_ok (U := U) hT hJ)
      simp only [E.ev, O2.ev, D.toB_b, Fl.lt, ho]
      split at h
      · cases h; rw [cmp_lt (by omega)]; rfl
      · split at h
        · cases h
          cases hc : compare p q
          · have := compare_lt_iff.1 hc; omega
          · rfl
          · rfl
        · cases h
    · cases h
  · rename_i k x y
    split at h
    · rename_i I J hI hJ
      obtain ⟨p, q, ho, p1, p2, q1, q2, p3, q3⟩ := ord_iv (ivA_ok (U := U) hT hI) (ivA_ok (U := U) hT hJ)
      simp only [E.ev, O2.ev, D.toB_b, Fl.le, ho]
      split at h
      · cases h
        cases hc : compare p q
        · rfl
        · rfl
        · have : ¬ (p < q) := fun h' => by rw [cmp_lt h'] at hc; cases hc
          have : ¬ (p = q) := fun h' => by rw [cmp_eq h'] at hc; cases hc
          omega
      · split at h
        · cases h; rw [cmp_gt (by omega)]; rfl
        · cases h
    · cases h
  · rename_i k x y
    split at h
    · rename_i I J hI hJ
      obtain ⟨p, q, ho, p1, p2, q1, q2, p3, q3⟩ := ord_iv (ivA_ok (U := U) hT hI) (ivA_ok (U := U) hT hJ)
      simp only [E.ev, O2.ev, D.toB_b, Fl.eq, ho]
      have ne : p ≠ q → (some (compare p q) == some Ordering.eq) = false := by
        intro hn
        cases hc : compare p q
        · rfl
        · exact absurd (compare_eq_iff.1 hc) hn
        · rfl
      split at h
      · cases h; exact ne (by omega)
      · split at h
        · cases h; rw [cmp_eq (by omega)]; rfl
        · split at h
          · rename_i hc
            cases h
            have := p3 hc.1
            exact ne (by omega)
          · split at h
            · rename_i hc
              cases h
              have := q3 hc.1
              exact ne (by omega)
            · cases h
    · cases h
  · rename_i s d a
    split at h
    · rename_i I hI
      split at h
      · rename_i hc
        cases h
        exact convOkIv_ok hc (ivA_ok (U := U) hT hI)
      · cases h
    · split at h
      · rename_i hc
        cases h
        rw [Bool.and_eq_true] at hc
        obtain ⟨hk, hr⟩ := hc
        cases s <;> cases d <;> simp [isConv64] at hk
        unfold rootE at hr
        split at hr
        · rename_i n
          split at hr
          · rename_i y hl
            obtain ⟨z, hz⟩ := Option.isSome_iff_exists.1 hr
            have h1 := he _ (lkM_mem hl)
            have h2 := unw_ok he hz
            simp only [E.ev, O1.ev, D.toB_b] at h1 ⊢
            rw [h1]
            simp only [D.toF_f, h2]
            exact root_ok32 _
          · cases hr
        · cases hr
      · cases h
  · cases h

/-! ### What a test tells of intervals -/

def factA (k : FloatKind) (a : E) (I : Iv) : IvT := match a with
  | .v n => [(n, k, I)]
  | _ => []

/-- A name that is finite. -/
def refF (wfs : List (Nat × FloatKind)) (T : IvT) (p : E × Bool) : IvT :=
  match p.2, isFin? [] p.1 with
  | true, some (k, .v n) => if wfs.any (fun p => Nat.beq p.1 n && decide (p.2 = k)) && (ivLook n k T).isNone then [(n, k, finTop k)] else []
  | _, _ => []

/-- Facts of a test that was met. -/
def refI (T : IvT) : E × Bool → IvT
  | (.o2 (.flt k) a b, t) => match ivA T k a, ivA T k b with
    | some I, some J => if t then factA k a ⟨I.lo, min I.hi (J.hi - 1), I.nz⟩ ++ factA k b ⟨max J.lo (I.lo + 1), J.hi, J.nz⟩
      else factA k a ⟨max I.lo J.lo, I.hi, I.nz⟩ ++ factA k b ⟨J.lo, min J.hi I.hi, J.nz⟩
    | _, _ => []
  | (.o2 (.fle k) a b, t) => match ivA T k a, ivA T k b with
    | some I, some J => if t then factA k a ⟨I.lo, min I.hi J.hi, I.nz⟩ ++ factA k b ⟨max J.lo I.lo, J.hi, J.nz⟩
      else factA k a ⟨max I.lo (J.lo + 1), I.hi, I.nz⟩ ++ factA k b ⟨J.lo, min J.hi (I.hi - 1), J.nz⟩
    | _, _ => []
  | (.o2 (.feq k) a b, t) => match ivA T k a, ivA T k b with
    | some I, some J => if t then factA k a (meet I J) ++ factA k b (meet I J)
      else (if J.lo = 0 ∧ J.hi = 0 then factA k a ⟨I.lo, I.hi, true⟩ else []) ++ (if I.lo = 0 ∧ I.hi = 0 then factA k b ⟨J.lo, J.hi, true⟩ else [])
    | _, _ => []
  | _ => []

def WfsOk (r : Nat → D) (wfs : List (Nat × FloatKind)) : Prop := ∀ p ∈ wfs, Wf p.2 (r p.1).toF

theorem factA_ok {k : FloatKind} {a : E} {I : Iv} (h : InIv k I (a.ev U r).toF) : TOk r (factA k a I) := by
  unfold factA
  split
  · intro p hp
    rcases List.mem_cons.1 hp with rfl | hp
    · exact h
    · cases hp
  · intro p hp; cases hp

theorem TOk.append {A B : IvT} (ha : TOk r A) (hb : TOk r B) : TOk r (A ++ B) := fun p hp => (List.mem_append.1 hp).elim (ha p) (hb p)
theorem TOk.nil : TOk r [] := fun _ h => by cases h

theorem inIv_of {k : FloatKind} {I J : Iv} {x : Fl} (h : InIv k I x) (hJ : ∀ a, I.lo ≤ a → a ≤ I.hi → (I.nz = true → a ≠ 0) → x = x → (∀ w, x = some w → key k w = a) → J.lo ≤ a ∧ a ≤ J.hi ∧ (J.nz = true → a ≠ 0)) : InIv k J x := by
  obtain ⟨w, rfl, g, a1, a2, a3⟩ := h
  obtain ⟨h1, h2, h3⟩ := hJ _ a1 a2 a3 rfl (fun w' h => by cases h; rfl)
  exact ⟨w, rfl, g, h1, h2, h3⟩

theorem two_iv {k : FloatKind} {I J : Iv} {x y : Fl} (hx : InIv k I x) (hy : InIv k J y) : ∃ a b, Fl.ord k x y = some (compare a b) ∧ (I.lo ≤ a ∧ a ≤ I.hi ∧ (I.nz = true → a ≠ 0)) ∧ (J.lo ≤ b ∧ b ≤ J.hi ∧ (J.nz = true → b ≠ 0)) ∧
    (∀ I' : Iv, I'.lo ≤ a → a ≤ I'.hi → (I'.nz = true → a ≠ 0) → InIv k I' x) ∧ (∀ J' : Iv, J'.lo ≤ b → b ≤ J'.hi → (J'.nz = true → b ≠ 0) → InIv k J' y) := by
  obtain ⟨a, rfl, ga, a1, a2, a3⟩ := hx
  obtain ⟨b, rfl, gb, b1, b2, b3⟩ := hy
  exact ⟨key k a, key k b, order_key ga gb, ⟨a1, a2, a3⟩, ⟨b1, b2, b3⟩, fun I' h1 h2 h3 => ⟨a, rfl, ga, h1, h2, h3⟩, fun J' h1 h2 h3 => ⟨b, rfl, gb, h1, h2, h3⟩⟩

theorem num_top {k : FloatKind} {x : Fl} (hw : Wf k x) (hn : IsNum k x) : InIv k (finTop k) x := by
  obtain ⟨a, rfl, s, m, p, hr⟩ := hn
  obtain ⟨h1, h2⟩ := hw.some_lt
  have hl := rung_not_nan h2
  have hlt : rungOf k a < k.format.infRung := by
    rcases Nat.lt_or_eq_of_le hl with h | h
    · exact h
    · rw [read_inf h] at hr; cases hr
  have := key_abs (k := k) a
  refine ⟨a, rfl, ⟨h1, h2⟩, ?_, ?_, fun h => by cases h⟩
  · show 1 - (k.format.infRung : Int) ≤ _; omega
  · show _ ≤ (k.format.infRung : Int) - 1; omega

theorem refF_ok {wfs : List (Nat × FloatKind)} {T : IvT} (hw : WfsOk r wfs) {p : E × Bool} (hp : (p.1.ev U r).toB = p.2) : TOk r (refF wfs T p) := by
  unfold refF
  split
  · rename_i k n ht hf
    rw [ht] at hp
    have hf := isFin?_ok (U := U) (r := r) (env := []) (fun _ h => by cases h) hf
    rw [hf, finF_iff] at hp
    split
    · rename_i hc
      rw [Bool.and_eq_true, List.any_eq_true] at hc
      obtain ⟨⟨q, hq, h2⟩, _⟩ := hc
      simp only [Bool.and_eq_true, decide_eq_true_eq] at h2
      have hwf := hw q hq
      rw [Nat.eq_of_beq_eq_true h2.1, h2.2] at hwf
      intro y hy
      rcases List.mem_cons.1 hy with rfl | hy
      · exact num_top hwf hp
      · cases hy
    · exact TOk.nil
  · exact TOk.nil

theorem refI_ok {T : IvT} (hT : TOk r T) {p : E × Bool} (hp : (p.1.ev U r).toB = p.2) : TOk r (refI T p) := by
  unfold refI
  split
  · rename_i k a b t
    split
    · rename_i I J hI hJ
      obtain ⟨x, y, ho, ⟨p1, p2, p3⟩, ⟨q1, q2, q3⟩, mx, my⟩ := two_iv (ivA_ok (U := U) hT hI) (ivA_ok (U := U) hT hJ)
      simp only [E.ev, O2.ev, D.toB_b, Fl.lt, ho] at hp
      cases t with
      | true =>
        have hlt : x < y := compare_lt_iff.1 (by simpa using hp)
        simp only [if_true]
        refine TOk.append (factA_ok (mx _ ?_ ?_ ?_)) (factA_ok (my _ ?_ ?_ ?_)) <;> first | exact p3 | exact q3 | (dsimp only; omega)
      | false =>
        have hge : y ≤ x := by
          rcases Int.lt_or_le x y with h | h
          · rw [cmp_lt h] at hp; cases hp
          · exact h
        simp only [Bool.false_eq_true, if_false]
        refine TOk.append (factA_ok (mx _ ?_ ?_ ?_)) (factA_ok (my _ ?_ ?_ ?_)) <;> first | exact p3 | exact q3 | (dsimp only; omega)
    · exact TOk.nil
  · rename_i k a b t
    split
    · rename_i I J hI hJ
      obtain ⟨x, y, ho, ⟨p1, p2, p3⟩, ⟨q1, q2, q3⟩, mx, my⟩ := two_iv (ivA_ok (U := U) hT hI) (ivA_ok (U := U) hT hJ)
      simp only [E.ev, O2.ev, D.toB_b, Fl.le, ho] at hp
      cases t with
      | true =>
        have hle : x ≤ y := by
          rcases Int.lt_or_le y x with h | h
          · rw [cmp_gt h] at hp; cases hp
          · exact h
        simp only [if_true]
        refine TOk.append (factA_ok (mx _ ?_ ?_ ?_)) (factA_ok (my _ ?_ ?_ ?_)) <;> first | exact p3 | exact q3 | (dsimp only; omega)
      | false =>
        have hgt : y < x := by
          rcases Int.lt_trichotomy x y with h | h | h
          · rw [cmp_lt h] at hp; cases hp
          · rw [cmp_eq h] at hp; cases hp
          · exact h
        simp only [Bool.false_eq_true, if_false]
        refine TOk.append (factA_ok (mx _ ?_ ?_ ?_)) (factA_ok (my _ ?_ ?_ ?_)) <;> first | exact p3 | exact q3 | (dsimp only; omega)
    · exact TOk.nil
  · rename_i k a b t
    split
    · rename_i I J hI hJ
      obtain ⟨x, y, ho, ⟨p1, p2, p3⟩, ⟨q1, q2, q3⟩, mx, my⟩ := two_iv (ivA_ok (U := U) hT hI) (ivA_ok (U := U) hT hJ)
      simp only [E.ev, O2.ev, D.toB_b, Fl.eq, ho] at hp
      cases t with
      | true =>
        have heq : x = y := compare_eq_iff.1 (by simpa using hp)
        subst heq
        simp only [if_true]
        have hnz : (meet I J).nz = true → x ≠ 0 := fun h => by
          have h : (I.nz || J.nz) = true := h
          rw [Bool.or_eq_true] at h
          exact h.elim p3 q3
        exact (factA_ok (mx _ (show max I.lo J.lo ≤ _ by omega) (show _ ≤ min I.hi J.hi by omega) hnz)).append (factA_ok (my _ (show max I.lo J.lo ≤ _ by omega) (show _ ≤ min I.hi J.hi by omega) hnz))
      | false =>
        have hne : x ≠ y := fun h => by rw [cmp_eq h] at hp; cases hp
        simp only [Bool.false_eq_true, if_false]
        refine TOk.append ?_ ?_
        · split
          · exact factA_ok (mx _ p1 p2 (fun _ => by omega))
          · exact TOk.nil
        · split
          · exact factA_ok (my _ q1 q2 (fun _ => by omega))
          · exact TOk.nil
    · exact TOk.nil
  · exact TOk.nil
end
end Go.Sx

/-
  Sx, part Zj: the checker that knows intervals: the law.
-/
namespace Go.Sx
open Ieee
open E (mk1 mk2 mkIte mk1_ev mk2_ev mkIte_ev)

/-- What is known on a way. -/
structure Ks where
  env : List (Nat × E)
  wfs : List (Nat × FloatKind)
  facts : IvT
  cs : List (E × Bool)
  T : IvT

/-- What a test tells besides. -/
def implied (env : List (Nat × E)) (x : E) (b : Bool) : List (E × Bool) :=
  (x, b) :: (match isFin? [] x with
    | some p => if b then (close env [p]).map fun q => (norm env (finE q.1 q.2), true) else []
    | none => [])

def against (new cs : List (E × Bool)) : Bool := new.any fun p => match look p.1 cs with
  | some b => b != p.2
  | none => false

def Ks.learn (K : Ks) (new : List (E × Bool)) : Ks :=
  let fs := new.flatMap fun p => refF K.wfs K.T p ++ refI K.T p
  let facts := fs ++ K.facts
  let cs := new ++ K.cs
  ⟨K.env, K.wfs, facts, cs, match fs with
    | [] => K.T
    | _ => ivAll cs facts K.env⟩

def wfA (wfs : List (Nat × FloatKind)) (k : FloatKind) : E → Bool
  | .v n => wfs.any fun p => Nat.beq p.1 n && decide (p.2 = k)
  | .f (some w) => decide (w < 2 ^ k.format.width) && !isNanW k w
  | _ => false

def wfE (wfs : List (Nat × FloatKind)) : E → Option FloatKind
  | .o2 (.fadd k) _ _ | .o2 (.fsub k) _ _ | .o2 (.fmul k) _ _ | .o2 (.fdiv k) _ _ => some k
  | .o1 .sqrt _ => some .f64
  | .o1 (.conv .f32 .f64) x => if wfA wfs .f32 x then some .f64 else none
  | .o1 (.conv .f64 .f32) x => if wfA wfs .f64 x then some .f32 else none
  | _ => none

def Ks.name (K : Ks) (i : Nat) (e : E) : Ks :=
  ⟨(i, e) :: K.env, (match wfE K.wfs e with | some k => (i, k) :: K.wfs | none => K.wfs), K.facts, K.cs, match ivE K.T K.cs e with
    | some (k, I) => ivPut i k I K.T
    | none => K.T⟩

def Ks.ask (K : Ks) (c : E) : Option Bool :=
  match look c K.cs with
  | some b => some b
  | none => decI K.env K.T c

def allTrueI : Nat → Ks → Tree SV → Bool
  | _, _, .ret (.bool (.b true)) => true
  | m, K, .ite c t e => c.under m && (match K.ask (normP K.env c).1 with
      | some b => bif b == (normP K.env c).2 then allTrueI m K t else allTrueI m K e
      | none => (against (implied K.env (normP K.env c).1 (normP K.env c).2) K.cs || allTrueI m (K.learn (implied K.env (normP K.env c).1 (normP K.env c).2)) t) &&
        (against (implied K.env (normP K.env c).1 (!(normP K.env c).2)) K.cs || allTrueI m (K.learn (implied K.env (normP K.env c).1 (!(normP K.env c).2))) e))
  | m, K, .chk (.o2 .fsame (.v i) e) t => Nat.ble m i && (e.under m && allTrueI (i + 1) (K.name i e) t)
  | _, _, _ => false

structure KsOk (U : Nat → D → D) (r : Nat → D) (m : Nat) (K : Ks) : Prop where
  env : EnvOk U r K.env
  envU : EnvUnder m K.env
  wfs : WfsOk r K.wfs
  wfsU : ∀ p ∈ K.wfs, p.1 < m
  facts : TOk r K.facts
  factsU : TUnder m K.facts
  cs : PcOk U r K.cs
  csU : ∀ p ∈ K.cs, p.1.under m = true
  T : TOk r K.T
  TU : TUnder m K.T

section
variable {U : Nat → D → D} {r : Nat → D} {m : Nat} {w : World} {Q : Value → World → Prop}

theorem implied_ok {K : Ks} (h : KsOk U r m K) {x : E} {b : Bool} (hx : (x.ev U r).toB = b) : PcOk U r (implied K.env x b) := by
  intro p hp
  unfold implied at hp
  rcases List.mem_cons.1 hp with rfl | hp'
  · exact hx
  · cases hf : isFin? [] x with
    | none => rw [hf] at hp'; cases hp'
    | some q0 =>
      obtain ⟨k, a⟩ := q0
      rw [hf] at hp'
      dsimp only at hp'
      split at hp'
      · rename_i hb
        subst hb
        rw [List.mem_map] at hp'
        obtain ⟨q, hq, rfl⟩ := hp'
        rw [isFin?_ok (U := U) (r := r) (env := []) (fun _ h => by cases h) hf, finF_iff] at hx
        have := close_ok (U := U) (r := r) (env := K.env) (F := [(k, a)]) h.env (fun y hy => by
          rcases List.mem_cons.1 hy with rfl | hy
          · exact hx
          · cases hy) q hq
        show ((norm K.env (finE q.1 q.2)).ev U r).toB = true
        rw [norm_ok h.env, finE_ev, finF_iff]
        exact this
      · cases hp'

theorem implied_under {K : Ks} (h : KsOk U r m K) {x : E} {b : Bool} (hx : x.under m = true) : ∀ p ∈ implied K.env x b, p.1.under m = true := by
  intro p hp
  unfold implied at hp
  rcases List.mem_cons.1 hp with rfl | hp'
  · exact hx
  · cases hf : isFin? [] x with
    | none => rw [hf] at hp'; cases hp'
    | some q0 =>
      obtain ⟨k, a⟩ := q0
      rw [hf] at hp'
      dsimp only at hp'
      split at hp'
      · rw [List.mem_map] at hp'
        obtain ⟨q, hq, rfl⟩ := hp'
        have ha : a.under m = true := isFin?_under (env := []) (fun _ h => by cases h) hx hf
        exact norm_under h.envU (finE_under (close_under (F := [(k, a)]) h.envU (fun y hy => by
          rcases List.mem_cons.1 hy with rfl | hy
          · exact ha
          · cases hy) q hq))
      · cases hp'

theorem against_ok {K : Ks} (h : KsOk U r m K) {new : List (E × Bool)} (hn : PcOk U r new) (ha : against new K.cs = true) : False := by
  unfold against at ha
  rw [List.any_eq_true] at ha
  obtain ⟨p, hp, ha⟩ := ha
  split at ha
  · rename_i b hl
    have h1 := look_ok h.cs hl
    have h2 := hn p hp
    rw [h1] at h2
    simp [h2] at ha
  · cases ha

theorem factA_under {k : FloatKind} {a : E} {I : Iv} (h : a.under m = true) : TUnder m (factA k a I) := by
  unfold factA
  split
  · intro p hp
    rcases List.mem_cons.1 hp with rfl | hp
    · simpa [E.under] using h
    · cases hp
  · intro p hp; cases hp

theorem TUnder.append {A B : IvT} (ha : TUnder m A) (hb : TUnder m B) : TUnder m (A ++ B) := fun p hp => (List.mem_append.1 hp).elim (ha p) (hb p)
theorem TUnder.nil : TUnder m [] := fun _ h => by cases h

theorem refI_under {T : IvT} {p : E × Bool} (h : p.1.under m = true) : TUnder m (refI T p) := by
  unfold refI
  split <;> (try exact TUnder.nil)
  all_goals
    rename_i k a b t
    simp only [E.under, Bool.and_eq_true] at h
    split
    · split
      · exact (factA_under h.1).append (factA_under h.2)
      · first
          | exact (factA_under h.1).append (factA_under h.2)
          | (refine TUnder.append ?_ ?_ <;> split <;> first | exact factA_under h.1 | exact factA_under h.2 | exact TUnder.nil)
    · exact TUnder.nil

theorem refF_under {wfs : List (Nat × FloatKind)} {T : IvT} (hw : ∀ p ∈ wfs, p.1 < m) {p : E × Bool} : TUnder m (refF wfs T p) := by
  unfold refF
  split
  · split
    · rename_i hc
      rw [Bool.and_eq_true, List.any_eq_true] at hc
      obtain ⟨⟨q, hq, h2⟩, _⟩ := hc
      simp only [Bool.and_eq_true, decide_eq_true_eq] at h2
      intro y hy
      rcases List.mem_cons.1 hy with rfl | hy
      · have := hw q hq
        rw [Nat.eq_of_beq_eq_true h2.1] at this
        exact this
      · cases hy
    · exact TUnder.nil
  · exact TUnder.nil

theorem learn_ok {K : Ks} (h : KsOk U r m K) {new : List (E × Bool)} (hn : PcOk U r new) (hu : ∀ p ∈ new, p.1.under m = true) : KsOk U r m (K.learn new) := by
  have f1 : TOk r (new.flatMap fun p => refF K.wfs K.T p ++ refI K.T p) := by
    intro q hq
    rw [List.mem_flatMap] at hq
    obtain ⟨p, hp, hq⟩ := hq
    exact (TOk.append (refF_ok (U := U) h.wfs (hn p hp)) (refI_ok (U := U) h.T (hn p hp))) q hq
  have f2 : TUnder m (new.flatMap fun p => refF K.wfs K.T p ++ refI K.T p) := by
    intro q hq
    rw [List.mem_flatMap] at hq
    obtain ⟨p, hp, hq⟩ := hq
    exact (TUnder.append (refF_under h.wfsU) (refI_under (hu p hp))) q hq
  have c1 : PcOk U r (new ++ K.cs) := fun p hp => (List.mem_append.1 hp).elim (hn p) (h.cs p)
  have c2 : ∀ p ∈ new ++ K.cs, p.1.under m = true := fun p hp => (List.mem_append.1 hp).elim (hu p) (h.csU p)
  refine ⟨h.env, h.envU, h.wfs, h.wfsU, f1.append h.facts, f2.append h.factsU, c1, c2, ?_, ?_⟩
  · unfold Ks.learn
    dsimp only
    split
    · exact h.T
    · exact ivAll_ok c1 (f1.append h.facts) h.env
  · unfold Ks.learn
    dsimp only
    split
    · exact h.TU
    · exact ivAll_under (f2.append h.factsU) h.envU

theorem wf_none (k : FloatKind) : Wf k none := by
  cases k
  · exact ⟨2143289344, by decide, by decide +kernel⟩
  · exact ⟨9221120237041090560, by decide, by decide +kernel⟩

theorem wf_lift {op : BinOp} {k : FloatKind} (x y : Fl) : Wf k (Fl.op op k x y) := by
  cases h : Fl.op op k x y with
  | none => exact wf_none k
  | some w =>
    cases x with
    | none => cases h
    | some a =>
      cases y with
      | none => cases h
      | some b => exact ⟨w, fop_lt h, cn_of_not (fop_not_nan h)⟩

theorem wfA_ok {wfs : List (Nat × FloatKind)} (hw : WfsOk r wfs) {k : FloatKind} {x : E} (h : wfA wfs k x = true) : Wf k (x.ev U r).toF := by
  unfold wfA at h
  split at h
  · rw [List.any_eq_true] at h
    obtain ⟨p, hp, h⟩ := h
    simp only [Bool.and_eq_true, decide_eq_true_eq] at h
    have := hw p hp
    rw [Nat.eq_of_beq_eq_true h.1, h.2] at this
    exact this
  · simp only [Bool.and_eq_true, decide_eq_true_eq, Bool.not_eq_true'] at h
    exact ⟨_, h.1, cn_of_not h.2⟩
  · cases h

theorem wf_conv {s d : FloatKind} (hne : s ≠ d) {x : Fl} (hx : Wf s x) : Wf d (Fl.conv s d x) := by
  cases x with
  | none => exact wf_none d
  | some a =>
    obtain ⟨h1, h2⟩ := hx.some_lt
    have : Fl.conv s d (some a) = some (d.encode (s.decode a)) := by simp only [Fl.conv, if_neg hne]
    rw [this]
    exact ⟨_, encode_lt d _, encode_cn d h2⟩

theorem wfE_ok {wfs : List (Nat × FloatKind)} (hw : WfsOk r wfs) {e : E} {k : FloatKind} (h : wfE wfs e = some k) : Wf k (e.ev U r).toF := by
  unfold wfE at h
  split at h
  · cases h; exact wf_lift (op := .add) _ _
  · cases h; exact wf_lift (op := .sub) _ _
  · cases h; exact wf_lift (op := .mul) _ _
  · cases h; exact wf_lift (op := .quo) _ _
  · rename_i a
    cases h
    show Wf .f64 (Fl.sqrt (a.ev U r).toF)
    cases hx : Fl.sqrt (a.ev U r).toF with
    | none => exact wf_none _
    | some w =>
      cases ha : (a.ev U r).toF with
      | none => rw [ha] at hx; cases hx
      | some u =>
        rw [ha] at hx
        exact ⟨w, FloatKind.f64.format.sqrt_lt hx, cn_of_not (sqrt_not_nan hx)⟩
  · split at h
    · rename_i hc
      cases h
      exact wf_conv (by decide) (wfA_ok (U := U) hw hc)
    · cases h
  · split at h
    · rename_i hc
      cases h
      exact wf_conv (by decide) (wfA_ok (U := U) hw hc)
    · cases h
  · cases h

theorem upd_low {i n : Nat} {d : D} (h : n < i) : Tree.upd r i d n = r n := by unfold Tree.upd; rw [if_neg (by omega)]

theorem name_ok {K : Ks} (h : KsOk U r m K) {i : Nat} {e : E} (hm : m ≤ i) (hu : e.under m = true) : KsOk U (Tree.upd r i (e.ev U r)) (i + 1) (K.name i e) := by
  have hi : Tree.upd r i (e.ev U r) i = e.ev U r := by unfold Tree.upd; rw [if_pos rfl]
  have tu : ∀ {A : IvT}, TUnder m A → TOk r A → TOk (Tree.upd r i (e.ev U r)) A := fun hA hT p hp => by
    rw [upd_low (by have := hA p hp; omega)]; exact hT p hp
  have tw : ∀ {A : IvT}, TUnder m A → TUnder (i + 1) A := fun hA p hp => by have := hA p hp; omega
  refine ⟨?_, ?_, ?_, ?_, tu h.factsU h.facts, tw h.factsU, ?_, ?_, ?_, ?_⟩
  · intro p hp
    rcases List.mem_cons.1 hp with rfl | hp
    · show Tree.upd r i (e.ev U r) i = _
      rw [upd_under hm hu, hi]
    · have h1 := h.envU p hp
      rw [upd_under hm h1.2, upd_low (by omega)]
      exact h.env p hp
  · intro p hp
    rcases List.mem_cons.1 hp with rfl | hp
    · exact ⟨Nat.lt_succ_self _, under_mono (Nat.le_succ_of_le hm) hu⟩
    · exact ⟨by have := (h.envU p hp).1; omega, under_mono (Nat.le_succ_of_le hm) (h.envU p hp).2⟩
  · have old : WfsOk (Tree.upd r i (e.ev U r)) K.wfs := fun p hp => by
      rw [upd_low (by have := h.wfsU p hp; omega)]; exact h.wfs p hp
    unfold Ks.name
    dsimp only
    split
    · rename_i k hk
      intro p hp
      rcases List.mem_cons.1 hp with rfl | hp
      · show Wf k (Tree.upd r i (e.ev U r) i).toF
        rw [hi]; exact wfE_ok h.wfs hk
      · exact old p hp
    · exact old
  · have old : ∀ p ∈ K.wfs, p.1 < i + 1 := fun p hp => by have := h.wfsU p hp; omega
    unfold Ks.name
    dsimp only
    split
    · intro p hp
      rcases List.mem_cons.1 hp with rfl | hp
      · exact Nat.lt_succ_self _
      · exact old p hp
    · exact old
  · intro p hp
    rw [upd_under hm (h.csU p hp)]; exact h.cs p hp
  · intro p hp; exact under_mono (Nat.le_succ_of_le hm) (h.csU p hp)
  · unfold Ks.name
    dsimp only
    split
    · rename_i k I hk
      refine ivPut_ok (tu h.TU h.T) ?_
      rw [hi]; exact ivE_ok h.T h.cs hk
    · exact tu h.TU h.T
  · unfold Ks.name
    dsimp only
    split
    · exact ivPut_under (tw h.TU) (Nat.lt_succ_self _)
    · exact tw h.TU

theorem ask_ok {K : Ks} (h : KsOk U r m K) {c : E} {b : Bool} (ha : K.ask c = some b) : (c.ev U r).toB = b := by
  unfold Ks.ask at ha
  split at ha
  · rename_i b' hl
    cases ha
    exact look_ok h.cs hl
  · exact decI_ok h.env h.T ha

theorem allTrueI_ret {K : Ks} {x : SV} (h : allTrueI m K (.ret x) = true) : x = .bool (.b true) := by
  unfold allTrueI at h
  split at h <;> simp_all

theorem allTrueI_chk {K : Ks} {c : E} {t : Tree SV} (h : allTrueI m K (.chk c t) = true) : ∃ i e, c = .o2 .fsame (.v i) e ∧ m ≤ i ∧ e.under m = true ∧ allTrueI (i + 1) (K.name i e) t = true := by
  unfold allTrueI at h
  split at h
  · rename_i h'; cases h'
  · rename_i h'; cases h'
  · rename_i i e t' h'
    cases h'
    rw [Bool.and_eq_true, Bool.and_eq_true] at h
    exact ⟨i, e, rfl, Nat.le_of_ble_eq_true h.1, h.2.1, h.2.2⟩
  · cases h

theorem allTrueI_lets (hQ : ∀ w', Frm (fun _ => False) w w' → Q (.bool true) w') : ∀ {t : Tree SV} {m : Nat} {K : Ks} {r : Nat → D}, allTrueI m K t = true → KsOk U r m K → Lets U Q w m r t := by
  intro t
  induction t with
  | ret x =>
    intro m K r h _ g' L' v w' hf hd
    obtain rfl := allTrueI_ret h
    simp only [SV.den, E.ev, D.toB] at hd
    subst hd
    exact hQ w' hf
  | ite c t e iht ihe =>
    intro m K r h hK
    unfold allTrueI at h
    rw [Bool.and_eq_true] at h
    obtain ⟨hc, h⟩ := h
    refine ⟨hc, ?_⟩
    have hn := normP_ok hK.env c
    have hnu := normP_under hK.envU hc
    generalize hx0 : normP K.env c = xs at h hn hnu
    obtain ⟨x, s⟩ := xs
    dsimp only at h hn hnu
    cases ha : K.ask x with
    | some b =>
      rw [ha] at h
      dsimp only at h
      have hb := ask_ok hK ha
      rw [hb] at hn
      rw [hn]
      cases hbs : b == s with
      | true => rw [hbs] at h; exact ⟨fun _ => iht h hK, fun h' => (by cases h')⟩
      | false => rw [hbs] at h; exact ⟨fun h' => (by cases h'), fun _ => ihe h hK⟩
    | none =>
      rw [ha] at h
      dsimp only at h
      simp only [Bool.and_eq_true, Bool.or_eq_true] at h
      constructor
      · intro hb
        have hx : (x.ev U r).toB = s := by rw [hn] at hb; simpa using hb
        have hi := implied_ok hK hx
        rcases h.1 with h1 | h1
        · exact (against_ok hK hi h1).elim
        · exact iht h1 (learn_ok hK hi (implied_under hK hnu))
      · intro hb
        have hx : (x.ev U r).toB = !s := by
          rw [hn] at hb
          cases h1 : (x.ev U r).toB <;> cases s <;> rw [h1] at hb <;> first | rfl | cases hb
        have hi := implied_ok hK hx
        rcases h.2 with h1 | h1
        · exact (against_ok hK hi h1).elim
        · exact ihe h1 (learn_ok hK hi (implied_under hK hnu))
  | chk c t ih =>
    intro m K r h hK
    obtain ⟨i, e, hc, hm, hu, h⟩ := allTrueI_chk h
    exact ⟨i, e, hc, hm, hu, ih h (name_ok hK hm hu)⟩
  | all i t ih => intro m K r h; simp [allTrueI] at h
  | asm e t ih => intro m K r h; simp [allTrueI] at h
  | bad => intro m K r h; simp [allTrueI] at h

/-! ### The arguments are words -/

def skWf : Nat → List Sk → List (Nat × FloatKind)
  | _, [] => []
  | i, .f k :: l => (i, k) :: skWf (i + 1) l
  | i, _ :: l => skWf (i + 1) l

def ptWf : Nat → List Pt → List (Nat × FloatKind)
  | _, [] => []
  | i, .one k :: l => skWf i [k] ++ ptWf (i + 1) l
  | i, .ag ks :: l => skWf i ks ++ ptWf (i + ks.length) l

theorem skWf_ok {g : Gh} {L : Nat → Prop} : ∀ {ks : List Sk} {i : Nat} {vs : List Value}, SV.denL U r g L (skGo i ks) vs → WfsOk r (skWf i ks) := by
  intro ks
  induction ks with
  | nil => intro i vs _ p hp; cases hp
  | cons k ks ih =>
    intro i vs h
    cases vs with
    | nil => simp [skGo, SV.denL] at h
    | cons v vs =>
      simp only [skGo, SV.denL] at h
      have ht := ih h.2
      cases k with
      | f k =>
        intro p hp
        rcases List.mem_cons.1 hp with rfl | hp
        · have h1 := h.1
          simp only [skSV, SV.den, E.ev] at h1
          obtain ⟨b, _, h2, h3⟩ := h1
          exact ⟨b, h2, h3⟩
        · exact ht p hp
      | b => exact ht
      | i k => exact ht
      | s => exact ht
      | byte => exact ht

theorem ptWf_ok {g : Gh} {L : Nat → Prop} : ∀ {ps : List Pt} {i : Nat} {vs : List Value}, SV.denL U r g L (ptGo i ps) vs → WfsOk r (ptWf i ps) := by
  intro ps
  induction ps with
  | nil => intro i vs _ p hp; cases hp
  | cons q ps ih =>
    intro i vs h
    cases q with
    | one k =>
      cases vs with
      | nil => simp [ptGo, SV.denL] at h
      | cons v vs =>
        simp only [ptGo, SV.denL] at h
        have h0 : SV.denL U r g L (skGo i [k]) [v] := by simp only [skGo, SV.denL]; exact ⟨h.1, trivial⟩
        intro p hp
        rcases List.mem_append.1 hp with hp | hp
        · exact skWf_ok h0 p hp
        · exact ih h.2 p hp
    | ag ks =>
      cases vs with
      | nil => simp [ptGo, SV.denL] at h
      | cons v vs =>
        simp only [ptGo, SV.denL, SV.den] at h
        obtain ⟨⟨xs, _, h0⟩, h1⟩ := h
        intro p hp
        rcases List.mem_append.1 hp with hp | hp
        · exact skWf_ok h0 p hp
        · exact ih h1 p hp

def lowWf (l : List (Nat × FloatKind)) : Bool := l.all fun p => Nat.blt p.1 1000

/-- A law by its walk, shut. -/
structure LawIs (U : Nat → D → D) (T : Tree SV) (ps : List Pt) : Prop where
  ok : LawOk U T ps

theorem law_of_I {T : Tree SV} {ps : List Pt} (hl : lowWf (ptWf 0 ps) = true) (h : allTrueI 1000 ⟨[], ptWf 0 ps, [], [], []⟩ T = true) : LawIs U T ps := by
  refine ⟨?_⟩
  rintro r _ _ ⟨_, _, _, hd⟩ hK
  have hlow : ∀ p ∈ ptWf 0 ps, p.1 < 1000 := by
    intro p hp
    unfold lowWf at hl
    rw [List.all_eq_true] at hl
    have := hl p hp
    rwa [Nat.blt_eq] at this
  exact allTrueI_lets hK h ⟨fun _ h => (by cases h), fun _ h => (by cases h), ptWf_ok hd, hlow, TOk.nil, TUnder.nil, fun _ h => (by cases h), fun _ h => (by cases h), TOk.nil, TUnder.nil⟩
end

section
open Go.ChangeShapes Go.WideShapes Go.RowKit
variable {H : Type} {enc : TypeId × Value → H}
/-- A ROW: from a walk whose tree answers true. -/
theorem row_lawI {C : Checked} {os : Os} {U : Nat → D → D} {cf : FuncId → List SV → Cx → Tree (SV × Cx)} {f : FuncId} {fn : Func} {body : Code} {ps : List Pt} {rt : TypeId} {s : ChangeSpec} {fresh handsOn again : Bool}
    (own : ownKnob C.prog.godebug = none) (hl : laidOutB C.prog = true) (started : os.Started) (noInit : C.prog.inits.idxOf? f = none) (hn : NamesOk C.prog) (hcf : CallsOk U C.prog cf)
    (hfn : C.prog.funcs[f]? = some fn) (hbody : fn.body = some body) (hrt : fn.resultTypes = #[rt]) (hrb : C.prog.underlying rt = some .bool)
    (hr : (fn.params.toList.all fun t => C.prog.readableRec t && decide (t < C.prog.types.size)) = true) (hvars : s.vars = [])
    (hs : ∀ ds : List (DataW H), ds.length = fn.params.size → s.fn H ds = { results := [.lit (.bool true)], args := ds })
    (witness : ∃ (w : World) (tape : Tape) (i : Input), w.os = os ∧ (w.forCall tape i).Shaped C.prog ∧ i.vars = [] ∧ Input.okWide C.prog (w.forCall tape i) .any w.heap.size f i ∧
      s.pre6 enc C.prog fn [] false (w.forCall tape i).memory i.args ∧ ({} : Assume).holds C.prog (lone (Frame.enter C.prog f i.args .normal) [] (w.forCall tape i)))
    (hps : ptsOf C.prog fn.params.toList = some ps) (hu : SV.underL 1000 (ptGo 0 ps) = true) (hT : LawIs U (resT (cf f (ptGo 0 ps) cx0)) ps) :
    ReturnsInHanded {} C os f .any (s.pre6 enc C.prog fn [] false) (s.post enc C.prog fn false fresh handsOn again) :=
  row_goal (U := U) own hl started noInit hn hfn hbody hrt hrb hr hvars hs witness hps fun _ _ _ _ hd => law_goal hcf hu hT.ok hd
end
end Go.Sx
