/-
  Sx, part Q: what a word of a float is worth; equality to the last bit.
-/
import Derived.Test.YtaflnmmnaiaceaaSxF
namespace Go.Sx
open Ieee

/-- The worth of a rung, in units of the least place. -/
def mag (k : FloatKind) (rung : Nat) : Nat :=
  if rung < k.format.binade then rung else (k.format.binade + rung % k.format.binade) * 2 ^ (rung / k.format.binade - 1)

theorem mag_lt (k : FloatKind) {a b : Nat} (h : a < b) : mag k a < mag k b := by
  obtain ⟨h0, _, _, _, _⟩ := fmt_consts k
  unfold mag
  generalize k.format.binade = B at h0
  by_cases hb : b < B
  · rw [if_pos hb, if_pos (by omega)]; exact h
  · rw [if_neg hb]
    have hb1 : 1 ≤ b / B := (Nat.le_div_iff_mul_le h0).2 (by omega)
    have hbB : B ≤ (B + b % B) * 2 ^ (b / B - 1) := Nat.le_trans (by omega) (Nat.le_mul_of_pos_right _ (Nat.two_pow_pos _))
    by_cases ha : a < B
    · rw [if_pos ha]; omega
    · rw [if_neg ha]
      have ha1 : 1 ≤ a / B := (Nat.le_div_iff_mul_le h0).2 (by omega)
      have hle : a / B ≤ b / B := Nat.div_le_div_right (by omega)
      have ham : a % B < B := Nat.mod_lt _ h0
      rcases Nat.lt_or_eq_of_le hle with hlt | heq
      · have h1 : (B + a % B) * 2 ^ (a / B - 1) < (2 * B) * 2 ^ (a / B - 1) := Nat.mul_lt_mul_of_pos_right (by omega) (Nat.two_pow_pos _)
        have h2 : (2 * B) * 2 ^ (a / B - 1) = B * 2 ^ (a / B) := by
          rw [show 2 ^ (a / B) = 2 ^ ((a / B - 1) + 1) by congr 1; omega, Nat.pow_succ, Nat.mul_comm 2 B, Nat.mul_assoc, Nat.mul_comm 2]
        have h3 : B * 2 ^ (a / B) ≤ (B + b % B) * 2 ^ (b / B - 1) := Nat.mul_le_mul (by omega) (Nat.pow_le_pow_right (by omega) (by omega))
        omega
      · rw [heq]
        refine Nat.mul_lt_mul_of_pos_right ?_ (Nat.two_pow_pos _)
        have e1 := Nat.div_add_mod a B
        have e2 := Nat.div_add_mod b B
        rw [heq] at e1
        omega

theorem mag_inj (k : FloatKind) {a b : Nat} (h : mag k a = mag k b) : a = b := by
  rcases Nat.lt_trichotomy a b with h1 | h1 | h1
  · have := mag_lt k h1; omega
  · exact h1
  · have := mag_lt k h1; omega

theorem mag_zero (k : FloatKind) : mag k 0 = 0 := by
  obtain ⟨h0, _, _, _, _⟩ := fmt_consts k
  unfold mag; rw [if_pos h0]

def isNeg (k : FloatKind) (w : Nat) : Bool := w / k.format.signWeight % 2 == 1
def rungOf (k : FloatKind) (w : Nat) : Nat := w % k.format.signWeight

/-- The worth of a word, in units of the least place. -/
def worth (k : FloatKind) (w : Nat) : Int := if isNeg k w then -(mag k (rungOf k w) : Int) else mag k (rungOf k w)

/-- What a word of a number reads as. -/
theorem read_fin {k : FloatKind} {w : Nat} (h : rungOf k w < k.format.infRung) :
    ∃ m p, k.format.read w = .number (isNeg k w) m p ∧ k.format.leastPlace ≤ p ∧ m * 2 ^ (p - k.format.leastPlace).toNat = mag k (rungOf k w) := by
  unfold rungOf at h
  unfold Format.read isNeg rungOf mag
  dsimp only
  by_cases hb : w % k.format.signWeight < k.format.binade
  · rw [if_pos hb, if_pos hb]
    exact ⟨_, _, rfl, Int.le_refl _, by simp⟩
  · rw [if_neg hb, if_neg hb, if_pos h]
    refine ⟨_, _, rfl, by omega, ?_⟩
    congr 2
    omega

theorem read_inf {k : FloatKind} {w : Nat} (h : rungOf k w = k.format.infRung) : k.format.read w = .infinity (isNeg k w) := by
  obtain ⟨h0, h1, _, _, _⟩ := fmt_consts k
  unfold rungOf at h
  unfold Format.read isNeg
  dsimp only
  rw [if_neg (by omega), if_neg (by omega), if_pos h]

theorem rung_not_nan {k : FloatKind} {w : Nat} (h : isNanW k w = false) : rungOf k w ≤ k.format.infRung := by
  rw [isNanW_eq] at h
  unfold rungOf
  simpa using h

theorem signed_eq (s : Bool) (m up : Nat) : signed s m up = (if s then -1 else 1) * ((m * 2 ^ up : Nat) : Int) := by
  unfold signed
  rw [Nat.shiftLeft_eq]
  cases s <;> simp

theorem compare_mul {a b c : Int} (hc : 0 < c) : compare (a * c) (b * c) = compare a b := by
  simp only [compare, compareOfLessAndEq]
  have h1 : a * c < b * c ↔ a < b := Int.mul_lt_mul_right hc
  have h2 : a * c = b * c ↔ a = b := ⟨fun h => Int.eq_of_mul_eq_mul_right (by omega) h, fun h => by rw [h]⟩
  by_cases h : a < b
  · rw [if_pos h, if_pos (h1.2 h)]
  · rw [if_neg h, if_neg (fun h' => h (h1.1 h'))]
    by_cases h' : a = b
    · rw [if_pos h', if_pos (h2.2 h')]
    · rw [if_neg h', if_neg (fun h'' => h' (h2.1 h''))]

theorem worth_eq {k : FloatKind} {w : Nat} : worth k w = (if isNeg k w then -1 else 1) * (mag k (rungOf k w) : Int) := by
  unfold worth; cases isNeg k w <;> simp

/-- The order of two numbers is that of their worths. -/
theorem order_fin {k : FloatKind} {x y : Nat} (hx : rungOf k x < k.format.infRung) (hy : rungOf k y < k.format.infRung) : k.format.order x y = some (compare (worth k x) (worth k y)) := by
  obtain ⟨m, p, h1, h2, h3⟩ := read_fin hx
  obtain ⟨n, q, k1, k2, k3⟩ := read_fin hy
  unfold Format.order
  rw [h1, k1]
  simp only [Datum.order]
  congr 1
  generalize hb : min p q = b
  have hb1 : k.format.leastPlace ≤ b := by omega
  have e1 : (p - k.format.leastPlace).toNat = (p - b).toNat + (b - k.format.leastPlace).toNat := by omega
  have e2 : (q - k.format.leastPlace).toNat = (q - b).toNat + (b - k.format.leastPlace).toNat := by omega
  have hc : (0 : Int) < ((2 ^ (b - k.format.leastPlace).toNat : Nat) : Int) := by have := Nat.two_pow_pos (b - k.format.leastPlace).toNat; omega
  rw [← compare_mul hc, worth_eq, worth_eq, ← h3, ← k3, signed_eq, signed_eq, e1, e2, Nat.pow_add, Nat.pow_add, ← Nat.mul_assoc, ← Nat.mul_assoc]
  simp only [Int.natCast_mul, Int.mul_assoc]

theorem compare_eq_iff {a b : Int} : compare a b = .eq ↔ a = b := by
  simp only [compare, compareOfLessAndEq]
  by_cases h : a < b
  · rw [if_pos h]; constructor
    · intro h'; cases h'
    · intro h'; omega
  · rw [if_neg h]
    by_cases h' : a = b
    · rw [if_pos h']; simp [h']
    · rw [if_neg h']; constructor
      · intro h''; cases h''
      · intro h''; exact absurd h'' h'
theorem compare_lt_iff {a b : Int} : compare a b = .lt ↔ a < b := by
  simp only [compare, compareOfLessAndEq]
  by_cases h : a < b
  · rw [if_pos h]; simp [h]
  · rw [if_neg h]
    by_cases h' : a = b
    · rw [if_pos h']; constructor
      · intro h''; cases h''
      · intro h''; omega
    · rw [if_neg h']; constructor
      · intro h''; cases h''
      · intro h''; omega

/-- A word is its sign and its rung. -/
theorem word_parts {k : FloatKind} {w : Nat} (h : w < 2 ^ k.format.width) : w = (if isNeg k w then k.format.signWeight else 0) + rungOf k w := by
  obtain ⟨_, h1, h2, h3, _⟩ := fmt_consts k
  unfold isNeg rungOf
  have hpos : 0 < k.format.signWeight := by omega
  have hd : w / k.format.signWeight < 2 := by rw [Nat.div_lt_iff_lt_mul hpos]; omega
  have := Nat.div_add_mod w k.format.signWeight
  rcases Nat.lt_or_ge (w / k.format.signWeight) 1 with h0 | h0
  · have e : w / k.format.signWeight = 0 := Nat.lt_one_iff.1 h0
    rw [e] at this ⊢
    simp; simp at this; exact this.symm
  · have e : w / k.format.signWeight = 1 := Nat.le_antisymm (Nat.lt_succ_iff.1 hd) h0
    rw [e] at this ⊢
    simp; omega

theorem word_ext {k : FloatKind} {x y : Nat} (hx : x < 2 ^ k.format.width) (hy : y < 2 ^ k.format.width) (hs : isNeg k x = isNeg k y) (hr : rungOf k x = rungOf k y) : x = y := by
  rw [word_parts hx, word_parts hy, hs, hr]

/-- Equal to '==': one word, or two zeros. -/
theorem order_eq {k : FloatKind} {x y : Nat} (hx : x < 2 ^ k.format.width) (hy : y < 2 ^ k.format.width) (nx : isNanW k x = false) (ny : isNanW k y = false) :
    k.format.order x y = some .eq ↔ (x = y ∨ (rungOf k x = 0 ∧ rungOf k y = 0)) := by
  obtain ⟨h0, h1, h2, _, _⟩ := fmt_consts k
  have hx' := rung_not_nan nx
  have hy' := rung_not_nan ny
  rcases Nat.lt_or_eq_of_le hx' with fx | ix <;> rcases Nat.lt_or_eq_of_le hy' with fy | iy
  · rw [order_fin fx fy]
    simp only [Option.some.injEq, compare_eq_iff]
    constructor
    · intro h
      unfold worth at h
      by_cases hs : isNeg k x = isNeg k y
      · left
        refine word_ext hx hy hs (mag_inj k ?_)
        rw [hs] at h
        split at h <;> omega
      · right
        have key : mag k (rungOf k x) = 0 ∧ mag k (rungOf k y) = 0 := by
          cases hnx : isNeg k x <;> cases hny : isNeg k y <;> rw [hnx, hny] at h <;> simp at h <;> first
            | (rw [hnx, hny] at hs; exact absurd rfl hs)
            | omega
        have hz := mag_zero k
        exact ⟨mag_inj k (key.1.trans hz.symm), mag_inj k (key.2.trans hz.symm)⟩
    · rintro (rfl | ⟨h, h'⟩)
      · rfl
      · unfold worth; rw [h, h', mag_zero]; split <;> split <;> rfl
  · obtain ⟨m, p, e1, _, _⟩ := read_fin fx
    unfold Format.order
    rw [e1, read_inf iy]
    simp only [Datum.order]
    constructor
    · intro h; split at h <;> cases h
    · rintro (rfl | ⟨h, h'⟩) <;> omega
  · obtain ⟨m, p, e1, _, _⟩ := read_fin fy
    unfold Format.order
    rw [e1, read_inf ix]
    simp only [Datum.order]
    constructor
    · intro h; split at h <;> cases h
    · rintro (rfl | ⟨h, h'⟩) <;> omega
  · unfold Format.order
    rw [read_inf ix, read_inf iy]
    simp only [Datum.order]
    constructor
    · intro h
      left
      refine word_ext hx hy ?_ (ix.trans iy.symm)
      cases hnx : isNeg k x <;> cases hny : isNeg k y <;> rw [hnx, hny] at h <;> first | rfl | (exfalso; revert h; decide)
    · rintro (rfl | ⟨h, h'⟩)
      · cases isNeg k x <;> rfl
      · omega

/-- A class that is borne by some word of the kind. -/
def Wf (k : FloatKind) (x : Fl) : Prop := ∃ b, b < 2 ^ k.format.width ∧ cn k b = x

theorem Wf.some_lt {k : FloatKind} {b : Nat} (h : Wf k (some b)) : b < 2 ^ k.format.width ∧ isNanW k b = false := by
  obtain ⟨b', h1, h2⟩ := h
  obtain ⟨rfl, h3⟩ := cn_some h2
  exact ⟨h1, h3⟩

theorem feq_self {k : FloatKind} {x : Fl} (h : Wf k x) : Fl.eq k x x = x.isSome := by
  cases x with
  | none => rfl
  | some b =>
    obtain ⟨h1, h2⟩ := h.some_lt
    show (k.format.order b b == some .eq) = true
    rw [(order_eq h1 h1 h2 h2).2 (.inl rfl)]; rfl

theorem feq_iff {k : FloatKind} {x y : Nat} (hx : Wf k (some x)) (hy : Wf k (some y)) : Fl.eq k (some x) (some y) = true ↔ (x = y ∨ (rungOf k x = 0 ∧ rungOf k y = 0)) := by
  obtain ⟨h1, h2⟩ := hx.some_lt
  obtain ⟨h3, h4⟩ := hy.some_lt
  rw [← order_eq h1 h3 h2 h4]
  unfold Fl.eq Fl.ord
  simp

theorem wf_zero (k : FloatKind) : Wf k (some 0) := by
  refine ⟨0, Nat.two_pow_pos _, ?_⟩
  cases k <;> rfl

/-- A zero: its rung is nought. -/
theorem feq_zero {k : FloatKind} {x : Nat} (hx : Wf k (some x)) : Fl.eq k (some x) (some 0) = true ↔ rungOf k x = 0 := by
  rw [feq_iff hx (wf_zero k)]
  have h0 : rungOf k 0 = 0 := by unfold rungOf; simp
  constructor
  · rintro (rfl | ⟨h, _⟩)
    · exact h0
    · exact h
  · intro h; exact .inr ⟨h, h0⟩

theorem zero_word {k : FloatKind} {x : Nat} (hx : Wf k (some x)) (h : rungOf k x = 0) : x = 0 ∨ x = k.format.signWeight := by
  have := word_parts hx.some_lt.1
  rw [h] at this
  split at this <;> omega

end Go.Sx
