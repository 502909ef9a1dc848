/-
  Sx, part Zd: what the division and the root of two words are bounded by.
-/
import Derived.Test.YtaflnmmnaiaceaaSxZc
namespace Go.Sx
open Ieee

section
variable {k : FloatKind}

theorem div_bounds {x y : Nat} (hx : IsFinW k x) (hy : IsFinW k y) (hy0 : rungOf k y ≠ 0) : ∃ w, k.format.div x y = some w ∧ isNeg k w = (isNeg k x ^^ isNeg k y) ∧
    (∀ R, R ≤ k.format.infRung → mag k (rungOf k x) * 2 ^ (-k.format.leastPlace).toNat ≤ mag k R * mag k (rungOf k y) → rungOf k w ≤ R) ∧
    (∀ R, R ≤ k.format.infRung → mag k R * mag k (rungOf k y) ≤ mag k (rungOf k x) * 2 ^ (-k.format.leastPlace).toNat → R ≤ rungOf k w) := by
  obtain ⟨m, i, h1, h2, h3⟩ := read_fin hx
  obtain ⟨n, j, k1, k2, k3⟩ := read_fin hy
  have hY : mag k (rungOf k y) ≠ 0 := by
    have := mag_lt k (Nat.pos_of_ne_zero hy0); rw [mag_zero] at this; omega
  have hn : n ≠ 0 := by rintro rfl; rw [Nat.zero_mul] at k3; exact hY k3.symm
  unfold Format.div
  rw [h1, k1]
  simp only [Datum.quotient, if_neg hn, Option.map_some]
  refine ⟨_, rfl, ?_⟩
  generalize hmore : k.format.fractionBits + 2 + n.log2 - m.log2 = more
  have hT : 2 * (m <<< more / n) + (m <<< more % n != 0).toNat = quoT (m * 2 ^ more) n := by rw [Nat.shiftLeft_eq]; rfl
  rw [hT]
  have hw : k.format.write (.number (isNeg k x ^^ isNeg k y) (quoT (m * 2 ^ more) n) (i - j - (more : Int) - 1)) = k.format.word (isNeg k x ^^ isNeg k y) (rungN k (quoT (m * 2 ^ more) n) (i - j - (more : Int) - 1)) := nearest_rung k _ _ _
  rw [hw]
  refine ⟨isNeg_word _ (rungN_le _ _), ?_⟩
  rw [rungOf_word k _ (rungN_le _ _)]
  have hl := (frac_consts k).1
  generalize hpl : i - j - (more : Int) - 1 = pl
  have hpos := Nat.two_pow_pos (j - k.format.leastPlace).toNat
  -- the two ways of the comparison, in digits
  have conv : ∀ M : Nat, (mag k (rungOf k x) * 2 ^ (-k.format.leastPlace).toNat) * 2 ^ (k.format.leastPlace - (pl + 1)).toNat = (m * 2 ^ more * 2 ^ (pl + 1 - k.format.leastPlace).toNat) * 2 ^ (j - k.format.leastPlace).toNat ∧
      (M * mag k (rungOf k y)) * 2 ^ (k.format.leastPlace - (pl + 1)).toNat = (M * n * 2 ^ (k.format.leastPlace - (pl + 1)).toNat) * 2 ^ (j - k.format.leastPlace).toNat := by
    intro M
    rw [← h3, ← k3]
    constructor
    · have e : (i - k.format.leastPlace).toNat + (-k.format.leastPlace).toNat + (k.format.leastPlace - (pl + 1)).toNat = more + (pl + 1 - k.format.leastPlace).toNat + (j - k.format.leastPlace).toNat := by omega
      rw [Nat.mul_assoc, Nat.mul_assoc, Nat.mul_assoc, Nat.mul_assoc, ← Nat.pow_add, ← Nat.pow_add, ← Nat.pow_add, ← Nat.pow_add]
      congr 2
      omega
    · rw [← Nat.mul_assoc, Nat.mul_right_comm]
  by_cases hm : m = 0
  · subst hm
    have hz : mag k (rungOf k x) = 0 := by rw [← h3, Nat.zero_mul]
    have hT0 : quoT (0 * 2 ^ more) n = 0 := by unfold quoT; simp
    rw [hT0, rungN_zero, hz]
    refine ⟨fun R _ _ => Nat.zero_le _, fun R hR h => ?_⟩
    rw [Nat.zero_mul] at h
    have : mag k R = 0 := by
      rcases Nat.eq_zero_or_pos (mag k R) with h' | h'
      · exact h'
      · have := Nat.mul_pos h' (Nat.pos_of_ne_zero hY); omega
    rcases Nat.eq_zero_or_pos R with h' | h'
    · omega
    · have := mag_lt k h'; rw [mag_zero] at this; omega
  · have hbig : 2 ^ (k.format.fractionBits + 1) ≤ (m * 2 ^ more) / n := by rw [← hmore]; exact quo_big hm hn
    constructor
    · intro R hR h
      refine quo_rung_le (Nat.pos_of_ne_zero hn) hR hbig ?_
      obtain ⟨c1, c2⟩ := conv (mag k R)
      have := Nat.mul_le_mul_right (2 ^ (k.format.leastPlace - (pl + 1)).toNat) h
      rw [c1, c2] at this
      exact Nat.le_of_mul_le_mul_right this hpos
    · intro R hR h
      refine le_quo_rung (Nat.pos_of_ne_zero hn) hR hbig ?_
      obtain ⟨c1, c2⟩ := conv (mag k R)
      have := Nat.mul_le_mul_right (2 ^ (k.format.leastPlace - (pl + 1)).toNat) h
      rw [c1, c2] at this
      exact Nat.le_of_mul_le_mul_right this hpos
end
end Go.Sx
