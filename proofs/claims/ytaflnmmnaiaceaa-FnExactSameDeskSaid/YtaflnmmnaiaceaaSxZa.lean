/-
  Sx, part Za: keys (rungs with their sign), and what the operations do to them.
-/
import Derived.Test.YtaflnmmnaiaceaaSxY
namespace Go.Sx
open Ieee

section
variable (k : FloatKind)

def key (w : Nat) : Int := if isNeg k w then -(rungOf k w : Int) else rungOf k w

/-- The worth of a key, in units of the least place. -/
def valK (z : Int) : Int := if z < 0 then -(mag k z.natAbs : Int) else mag k z.natAbs

/-- The key nearest to 'z * 2 ^ p'. -/
def rndI (z : Int) (p : Int) : Int := if z < 0 then -(rungN k z.natAbs p : Int) else rungN k z.natAbs p

variable {k}

theorem worth_key (w : Nat) : worth k w = valK k (key k w) := by
  unfold worth key valK
  cases isNeg k w with
  | true =>
    simp only [if_true]
    by_cases h : rungOf k w = 0
    · simp [h, mag_zero]
    · rw [if_pos (by omega)]; simp
  | false =>
    simp only [Bool.false_eq_true, if_false]
    rw [if_neg (by omega)]; simp

theorem mag_le (k : FloatKind) {a b : Nat} (h : a ≤ b) : mag k a ≤ mag k b := by
  rcases Nat.lt_or_eq_of_le h with h | h
  · exact Nat.le_of_lt (mag_lt k h)
  · rw [h]; exact Nat.le_refl _

theorem valK_mono {a b : Int} (h : a ≤ b) : valK k a ≤ valK k b := by
  unfold valK
  have h0 := mag_zero k
  split
  · split
    · have := mag_le k (show b.natAbs ≤ a.natAbs by omega); omega
    · omega
  · rw [if_neg (by omega)]
    have := mag_le k (show a.natAbs ≤ b.natAbs by omega); omega

theorem valK_lt {a b : Int} (h : a < b) : valK k a < valK k b := by
  unfold valK
  have h0 := mag_zero k
  split
  · split
    · have := mag_lt k (show b.natAbs < a.natAbs by omega); omega
    · have := mag_lt k (show 0 < a.natAbs by omega); omega
  · rw [if_neg (by omega)]
    have := mag_lt k (show a.natAbs < b.natAbs by omega); omega

theorem valK_neg (a : Int) : valK k (-a) = -valK k a := by
  unfold valK
  have h0 := mag_zero k
  rcases Int.lt_trichotomy a 0 with h | h | h
  · rw [if_neg (by omega), if_pos h, Int.natAbs_neg]; simp
  · subst h; simp [h0]
  · rw [if_pos (by omega), if_neg (by omega), Int.natAbs_neg]

theorem rndI_mono {a b : Int} (h : a ≤ b) (p : Int) : rndI k a p ≤ rndI k b p := by
  have mono : ∀ {x y : Nat}, x ≤ y → rungN k x p ≤ rungN k y p := fun hxy => rungN_mono (q := p) (Int.le_refl _) (Int.le_refl _) (by simpa using hxy)
  unfold rndI
  split
  · split
    · have := mono (show b.natAbs ≤ a.natAbs by omega); omega
    · omega
  · rw [if_neg (by omega)]
    have := mono (show a.natAbs ≤ b.natAbs by omega); omega

theorem rungN_le (m : Nat) (p : Int) : rungN k m p ≤ k.format.infRung := by
  unfold rungN
  split
  · exact Nat.zero_le _
  · exact Nat.min_le_right _ _

theorem isNeg_word (s : Bool) {x : Nat} (h : x ≤ k.format.infRung) : isNeg k (k.format.word s x) = s := by
  obtain ⟨_, h1, h2, _, _⟩ := fmt_consts k
  unfold isNeg Format.word
  cases s with
  | true =>
    simp only [if_true]
    rw [Nat.add_div_left _ (by omega), Nat.div_eq_of_lt (by omega)]; rfl
  | false =>
    simp only [Bool.false_eq_true, if_false]
    rw [Nat.div_eq_of_lt (by omega)]; rfl

theorem key_word (s : Bool) {x : Nat} (h : x ≤ k.format.infRung) : key k (k.format.word s x) = if s then -(x : Int) else x := by
  unfold key
  rw [isNeg_word s h, rungOf_word k s h]

theorem key_nearest (s : Bool) (m : Nat) (p : Int) : key k (k.format.nearest s m p) = if s then -(rungN k m p : Int) else rungN k m p := by
  rw [nearest_rung, key_word s (rungN_le m p)]

theorem rungN_zero (p : Int) : rungN k 0 p = 0 := by unfold rungN; rw [if_pos rfl]

/-- The same value at a higher place. -/
theorem rungN_up (m j : Nat) (p : Int) : rungN k (m * 2 ^ j) p = rungN k m (p + j) := by
  refine rungN_congr (q := p) (Int.le_refl _) (by omega) ?_
  have e1 : (p - p).toNat = 0 := by omega
  have e2 : (p + j - p).toNat = j := by omega
  rw [e1, e2, Nat.pow_zero, Nat.mul_one]

theorem rndI_up (z : Int) (j : Nat) (p : Int) : rndI k (z * ((2 ^ j : Nat) : Int)) p = rndI k z (p + j) := by
  have hp : (0 : Int) < ((2 ^ j : Nat) : Int) := by have := Nat.two_pow_pos j; omega
  have hs : z * ((2 ^ j : Nat) : Int) < 0 ↔ z < 0 := by
    constructor
    · intro h
      rcases Int.lt_or_le z 0 with h' | h'
      · exact h'
      · have := Int.mul_nonneg h' (Int.le_of_lt hp); omega
    · intro h; exact Int.mul_neg_of_neg_of_pos h hp
  have ha : (z * ((2 ^ j : Nat) : Int)).natAbs = z.natAbs * 2 ^ j := by rw [Int.natAbs_mul]; rfl
  unfold rndI
  rw [ha, rungN_up]
  simp only [hs]

/-- A signed number, rounded. -/
theorem key_signed {s : Bool} {m : Nat} {p z : Int} (hz : z = if s then -(m : Int) else m) : key k (k.format.nearest s m p) = rndI k z p := by
  rw [key_nearest]
  unfold rndI
  subst hz
  cases s with
  | true =>
    simp only [if_true]
    by_cases h : m = 0
    · subst h; simp [rungN_zero]
    · rw [if_pos (by omega)]; simp
  | false =>
    simp only [Bool.false_eq_true, if_false]
    rw [if_neg (by omega)]; simp

def IsFinW (k : FloatKind) (w : Nat) : Prop := rungOf k w < k.format.infRung

/-- What a word of a number reads as, with its worth. -/
theorem read_worth {w : Nat} (h : IsFinW k w) : ∃ s m p, k.format.read w = .number s m p ∧ k.format.leastPlace ≤ p ∧ worth k w = signed s m 0 * ((2 ^ (p - k.format.leastPlace).toNat : Nat) : Int) := by
  obtain ⟨m, p, h1, h2, h3⟩ := read_fin h
  refine ⟨_, m, p, h1, h2, ?_⟩
  unfold worth
  rw [← h3, signed_eq]
  cases isNeg k w <;> simp [Int.neg_mul]

theorem signed_up (s : Bool) (m a b : Nat) : signed s m (a + b) = signed s m a * ((2 ^ b : Nat) : Int) := by
  rw [signed_eq, signed_eq, Nat.pow_add, ← Nat.mul_assoc]
  simp only [Int.natCast_mul, Int.mul_assoc]

theorem sum_key {s t : Bool} {m n : Nat} {i j : Int} (hi : k.format.leastPlace ≤ i) (hj : k.format.leastPlace ≤ j) :
    ∃ w, ((Datum.number s m i).sum (.number t n j)).map k.format.write = some w ∧
      key k w = rndI k (signed s m 0 * ((2 ^ (i - k.format.leastPlace).toNat : Nat) : Int) + signed t n 0 * ((2 ^ (j - k.format.leastPlace).toNat : Nat) : Int)) k.format.leastPlace := by
  simp only [Datum.sum, Option.map_some]
  refine ⟨_, rfl, ?_⟩
  generalize hb : min i j = b
  generalize ht : signed s m (i - b).toNat + signed t n (j - b).toNat = total
  have hb1 : k.format.leastPlace ≤ b := by omega
  have e1 : (i - k.format.leastPlace).toNat = (i - b).toNat + (b - k.format.leastPlace).toNat := by omega
  have e2 : (j - k.format.leastPlace).toNat = (j - b).toNat + (b - k.format.leastPlace).toNat := by omega
  have hz : signed s m 0 * ((2 ^ (i - k.format.leastPlace).toNat : Nat) : Int) + signed t n 0 * ((2 ^ (j - k.format.leastPlace).toNat : Nat) : Int) = total * ((2 ^ (b - k.format.leastPlace).toNat : Nat) : Int) := by
    have u1 := signed_up s m 0 (i - k.format.leastPlace).toNat
    have u2 := signed_up t n 0 (j - k.format.leastPlace).toNat
    rw [Nat.zero_add] at u1 u2
    rw [← ht, Int.add_mul, ← signed_up s m (i - b).toNat, ← signed_up t n (j - b).toNat, ← e1, ← e2, u1, u2]
  rw [hz, rndI_up, show k.format.leastPlace + (((b - k.format.leastPlace).toNat : Nat) : Int) = b by omega]
  show key k (k.format.nearest (if total = 0 then s && t else decide (total < 0)) total.natAbs b) = _
  by_cases h0 : total = 0
  · subst h0
    rw [key_nearest]
    simp [rungN_zero, rndI]
  · refine key_signed ?_
    rw [if_neg h0]
    by_cases hn : total < 0
    · simp [hn]; omega
    · simp [hn]; omega

theorem add_key {x y : Nat} (hx : IsFinW k x) (hy : IsFinW k y) : ∃ w, k.format.add x y = some w ∧ key k w = rndI k (worth k x + worth k y) k.format.leastPlace := by
  obtain ⟨s, m, i, h1, h2, h3⟩ := read_worth hx
  obtain ⟨t, n, j, k1, k2, k3⟩ := read_worth hy
  unfold Format.add
  rw [h1, k1, h3, k3]
  exact sum_key h2 k2

theorem sub_key {x y : Nat} (hx : IsFinW k x) (hy : IsFinW k y) : ∃ w, k.format.sub x y = some w ∧ key k w = rndI k (worth k x - worth k y) k.format.leastPlace := by
  obtain ⟨s, m, i, h1, h2, h3⟩ := read_worth hx
  obtain ⟨t, n, j, k1, k2, k3⟩ := read_worth hy
  unfold Format.sub
  rw [h1, k1, h3, k3]
  obtain ⟨w, e1, e2⟩ := sum_key (k := k) (s := s) (t := !t) (m := m) (n := n) h2 k2
  refine ⟨w, e1, ?_⟩
  rw [e2]
  have : signed (!t) n 0 = -signed t n 0 := by unfold signed; cases t <;> simp
  rw [this, Int.neg_mul]; rfl

theorem mul_key {x y : Nat} (hx : IsFinW k x) (hy : IsFinW k y) : ∃ w, k.format.mul x y = some w ∧ key k w = rndI k (worth k x * worth k y) (2 * k.format.leastPlace) := by
  obtain ⟨s, m, i, h1, h2, h3⟩ := read_worth hx
  obtain ⟨t, n, j, k1, k2, k3⟩ := read_worth hy
  unfold Format.mul
  rw [h1, k1, h3, k3]
  simp only [Datum.product, Option.map_some]
  refine ⟨_, rfl, ?_⟩
  have e : signed s m 0 * ((2 ^ (i - k.format.leastPlace).toNat : Nat) : Int) * (signed t n 0 * ((2 ^ (j - k.format.leastPlace).toNat : Nat) : Int)) =
      (signed s m 0 * signed t n 0) * ((2 ^ ((i - k.format.leastPlace).toNat + (j - k.format.leastPlace).toNat) : Nat) : Int) := by
    rw [Nat.pow_add, Int.natCast_mul]
    generalize ((2 ^ (i - k.format.leastPlace).toNat : Nat) : Int) = a
    generalize ((2 ^ (j - k.format.leastPlace).toNat : Nat) : Int) = b
    rw [Int.mul_assoc, Int.mul_left_comm a, ← Int.mul_assoc]
  rw [e, rndI_up, show 2 * k.format.leastPlace + (((i - k.format.leastPlace).toNat + (j - k.format.leastPlace).toNat : Nat) : Int) = i + j by omega]
  show key k (k.format.nearest (s ^^ t) (m * n) (i + j)) = _
  refine key_signed ?_
  unfold signed
  cases s <;> cases t <;> simp [Int.neg_mul, Int.mul_neg]
end
end Go.Sx
