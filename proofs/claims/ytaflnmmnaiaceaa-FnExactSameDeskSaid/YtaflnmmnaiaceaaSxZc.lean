/-
  Sx, part Zc: quotients between bounds.
-/
import Derived.Test.YtaflnmmnaiaceaaSxZb
namespace Go.Sx
open Ieee

section
variable {k : FloatKind}

theorem frac_consts (k : FloatKind) : k.format.leastPlace < 0 ∧ 0 < k.format.fractionBits := by cases k <;> decide

/-- A rung's own value is on it. -/
theorem rung_mag {R : Nat} (h : R ≤ k.format.infRung) : rungN k (mag k R) k.format.leastPlace = R := by
  have hB := binade_pow (k := k)
  have hBpos : 0 < k.format.binade := by rw [hB]; exact Nat.two_pow_pos _
  unfold mag
  by_cases hR : R < k.format.binade
  · rw [if_pos hR]
    unfold rungN
    by_cases h0 : R = 0
    · rw [if_pos h0, h0]
    · rw [if_neg h0]
      have hl : R.log2 < k.format.fractionBits := by rw [hB] at hR; exact (Nat.log2_lt h0).2 hR
      have hp : placeOf k R k.format.leastPlace = k.format.leastPlace := by unfold placeOf; omega
      rw [hp, Int.sub_self]
      have : rhe (R * 2 ^ (0 : Int).toNat) (2 ^ (0 : Int).toNat) = R := by
        have := rhe_whole (n := R) (g := 1) (by omega)
        simpa using this
      rw [this]
      simp only [Int.toNat_zero, Nat.zero_mul, Nat.zero_add]
      exact Nat.min_eq_left h
  · rw [if_neg hR]
    have hq : 1 ≤ R / k.format.binade := (Nat.le_div_iff_mul_le hBpos).2 (by omega)
    generalize he : R / k.format.binade - 1 = e
    generalize hc : k.format.binade + R % k.format.binade = c
    have hr : R % k.format.binade < k.format.binade := Nat.mod_lt _ hBpos
    have hc0 : c ≠ 0 := by omega
    rw [rungN_up]
    unfold rungN
    rw [if_neg hc0]
    have hl : c.log2 = k.format.fractionBits := by
      have h1 : c.log2 < k.format.fractionBits + 1 := (Nat.log2_lt hc0).2 (by rw [Nat.pow_succ, ← hB]; omega)
      have h2 : k.format.fractionBits ≤ c.log2 := (Nat.le_log2 hc0).2 (by rw [← hB]; omega)
      omega
    have hp : placeOf k c (k.format.leastPlace + (e : Int)) = k.format.leastPlace + (e : Int) := by unfold placeOf; rw [hl]; omega
    rw [hp, Int.sub_self]
    have h1 : rhe (c * 2 ^ (0 : Int).toNat) (2 ^ (0 : Int).toNat) = c := by
      have := rhe_whole (n := c) (g := 1) (by omega)
      simpa using this
    rw [h1, show (k.format.leastPlace + (e : Int) - k.format.leastPlace).toNat = e by omega]
    have hR2 := Nat.div_add_mod R k.format.binade
    have : e * k.format.binade + c = R := by
      rw [← hc]
      have h3 : R / k.format.binade = e + 1 := by omega
      rw [h3, Nat.mul_add, Nat.mul_one, Nat.mul_comm] at hR2
      omega
    rw [this]
    exact Nat.min_eq_left h

/-- The quotient with its last digit, which tells whether anything is left. -/
def quoT (a n : Nat) : Nat := 2 * (a / n) + (a % n != 0).toNat

theorem quoT_le {a n b : Nat} (hn : 0 < n) (h : a ≤ b * n) : quoT a n ≤ 2 * b := by
  unfold quoT
  have h1 : a / n ≤ b := by
    have := Nat.div_le_div_right (c := n) h
    rwa [Nat.mul_div_cancel _ hn] at this
  rcases Nat.lt_or_eq_of_le h1 with h2 | h2
  · have : (a % n != 0).toNat ≤ 1 := by cases (a % n != 0) <;> decide
    omega
  · have h3 := Nat.div_add_mod a n
    rw [h2, Nat.mul_comm] at h3
    have : a % n = 0 := by omega
    rw [this, h2]; simp

theorem le_quoT {a n b : Nat} (hn : 0 < n) (h : b * n ≤ a) : 2 * b ≤ quoT a n := by
  unfold quoT
  have h1 : b ≤ a / n := (Nat.le_div_iff_mul_le hn).2 h
  omega

theorem quo_big {m n d : Nat} (hm : m ≠ 0) (hn : n ≠ 0) : 2 ^ (d + 1) ≤ (m * 2 ^ (d + 2 + n.log2 - m.log2)) / n := by
  rw [Nat.le_div_iff_mul_le (by omega)]
  have h1 : 2 ^ m.log2 ≤ m := Nat.log2_self_le hm
  have h2 : n < 2 ^ (n.log2 + 1) := Nat.lt_log2_self
  have h3 : 2 ^ (d + 1) * n ≤ 2 ^ (d + 1) * 2 ^ (n.log2 + 1) := Nat.mul_le_mul_left _ (by omega)
  have h4 : 2 ^ (m.log2 + (d + 2 + n.log2 - m.log2)) ≤ m * 2 ^ (d + 2 + n.log2 - m.log2) := by rw [Nat.pow_add]; exact Nat.mul_le_mul_right _ h1
  have h5 : 2 ^ (d + 1) * 2 ^ (n.log2 + 1) ≤ 2 ^ (m.log2 + (d + 2 + n.log2 - m.log2)) := by rw [← Nat.pow_add]; exact two_pow_le (by omega)
  omega

/-- A value that is great enough is even to that place. -/
theorem mag_split {R d : Nat} (hd : 2 ^ (k.format.fractionBits + 1 + d) ≤ mag k R) : ∃ b, mag k R = b * 2 ^ d := by
  have hB := binade_pow (k := k)
  have hBpos : 0 < k.format.binade := by rw [hB]; exact Nat.two_pow_pos _
  unfold mag at hd ⊢
  split
  · rename_i hR
    rw [if_pos hR] at hd
    have := two_pow_le (show k.format.fractionBits ≤ k.format.fractionBits + 1 + d by omega)
    rw [hB] at hR
    omega
  · rename_i hR
    rw [if_neg hR] at hd
    have hr : R % k.format.binade < k.format.binade := Nat.mod_lt _ hBpos
    have h1 : (k.format.binade + R % k.format.binade) * 2 ^ (R / k.format.binade - 1) < 2 ^ (k.format.fractionBits + 1 + (R / k.format.binade - 1)) := by
      rw [Nat.pow_add]
      refine Nat.mul_lt_mul_of_pos_right ?_ (Nat.two_pow_pos _)
      rw [Nat.pow_succ, ← hB]; omega
    have h2 := (Nat.pow_lt_pow_iff_right (by omega : 1 < 2)).1 (Nat.lt_of_le_of_lt hd h1)
    refine ⟨(k.format.binade + R % k.format.binade) * 2 ^ (R / k.format.binade - 1 - d), ?_⟩
    rw [Nat.mul_assoc, ← Nat.pow_add]
    congr 2
    omega

/-- A quotient that is at most a rung's value is rounded to no higher rung. 'a': the dividend with its digits, 'e': what is left of the places. -/
theorem quo_rung_le {a n R : Nat} {pl : Int} (hn : 0 < n) (hR : R ≤ k.format.infRung) (hbig : 2 ^ (k.format.fractionBits + 1) ≤ a / n)
    (h : a * 2 ^ (pl + 1 - k.format.leastPlace).toNat ≤ mag k R * n * 2 ^ (k.format.leastPlace - (pl + 1)).toNat) : rungN k (quoT a n) pl ≤ R := by
  rw [← rung_mag hR]
  by_cases hd : pl + 1 ≤ k.format.leastPlace
  · have e1 : (pl + 1 - k.format.leastPlace).toNat = 0 := by omega
    rw [e1, Nat.pow_zero, Nat.mul_one] at h
    refine Nat.le_trans (rungN_mono (q := pl) (p' := k.format.leastPlace) (m' := mag k R) (Int.le_refl _) (by omega) ?_) (Nat.le_of_eq (by rw [rung_mag hR]))
    rw [Int.sub_self, Int.toNat_zero, Nat.pow_zero, Nat.mul_one]
    have e2 : (k.format.leastPlace - pl).toNat = (k.format.leastPlace - (pl + 1)).toNat + 1 := by omega
    rw [e2, Nat.pow_succ, ← Nat.mul_assoc]
    have := quoT_le hn (b := mag k R * 2 ^ (k.format.leastPlace - (pl + 1)).toNat) (by rw [Nat.mul_right_comm]; exact h)
    omega
  · have e1 : (k.format.leastPlace - (pl + 1)).toNat = 0 := by omega
    rw [e1, Nat.pow_zero, Nat.mul_one] at h
    generalize hdd : (pl + 1 - k.format.leastPlace).toNat = d at h
    have hge : 2 ^ (k.format.fractionBits + 1 + d) ≤ mag k R := by
      have h1 : a / n * n ≤ a := Nat.div_mul_le_self a n
      have h2 : a / n * 2 ^ d * n ≤ mag k R * n := by
        have := Nat.mul_le_mul_right (2 ^ d) h1
        rw [Nat.mul_right_comm] at this
        omega
      have h3 := Nat.le_of_mul_le_mul_right h2 hn
      have h4 := Nat.mul_le_mul_right (2 ^ d) hbig
      rw [← Nat.pow_add] at h4
      omega
    obtain ⟨b, hb⟩ := mag_split hge
    refine Nat.le_trans (rungN_mono (q := k.format.leastPlace) (p' := k.format.leastPlace) (m' := mag k R) (by omega) (Int.le_refl _) ?_) (Nat.le_of_eq (by rw [rung_mag hR]))
    rw [Int.sub_self, Int.toNat_zero, Nat.pow_zero, Nat.mul_one]
    rw [hb] at h ⊢
    have h5 : a ≤ b * n := by
      rw [Nat.mul_right_comm] at h
      exact Nat.le_of_mul_le_mul_right h (Nat.two_pow_pos d)
    have h6 := quoT_le hn h5
    have e2 : d = (pl - k.format.leastPlace).toNat + 1 := by omega
    have h7 := Nat.mul_le_mul_right (2 ^ (pl - k.format.leastPlace).toNat) h6
    have h8 : b * 2 ^ d = 2 * b * 2 ^ (pl - k.format.leastPlace).toNat := by rw [e2, Nat.pow_succ, ← Nat.mul_assoc, Nat.mul_comm 2 b, Nat.mul_right_comm]
    omega

/-- And one that is at least a rung's value to no lower one. -/
theorem le_quo_rung {a n R : Nat} {pl : Int} (hn : 0 < n) (hR : R ≤ k.format.infRung) (hbig : 2 ^ (k.format.fractionBits + 1) ≤ a / n)
    (h : mag k R * n * 2 ^ (k.format.leastPlace - (pl + 1)).toNat ≤ a * 2 ^ (pl + 1 - k.format.leastPlace).toNat) : R ≤ rungN k (quoT a n) pl := by
  have key : ∀ {q : Int}, q ≤ pl → q ≤ k.format.leastPlace → mag k R * 2 ^ (k.format.leastPlace - q).toNat ≤ quoT a n * 2 ^ (pl - q).toNat → R ≤ rungN k (quoT a n) pl := by
    intro q h1 h2 h3
    have := rungN_mono (k := k) h2 h1 h3
    rwa [rung_mag hR] at this
  by_cases hd : pl + 1 ≤ k.format.leastPlace
  · have e1 : (pl + 1 - k.format.leastPlace).toNat = 0 := by omega
    rw [e1, Nat.pow_zero, Nat.mul_one] at h
    refine key (q := pl) (Int.le_refl _) (by omega) ?_
    rw [Int.sub_self, Int.toNat_zero, Nat.pow_zero, Nat.mul_one]
    have e2 : (k.format.leastPlace - pl).toNat = (k.format.leastPlace - (pl + 1)).toNat + 1 := by omega
    rw [e2, Nat.pow_succ, ← Nat.mul_assoc]
    have := le_quoT hn (b := mag k R * 2 ^ (k.format.leastPlace - (pl + 1)).toNat) (by rw [Nat.mul_right_comm]; exact h)
    omega
  · have e1 : (k.format.leastPlace - (pl + 1)).toNat = 0 := by omega
    rw [e1, Nat.pow_zero, Nat.mul_one] at h
    generalize hdd : (pl + 1 - k.format.leastPlace).toNat = d at h
    have e2 : d = (pl - k.format.leastPlace).toNat + 1 := by omega
    refine key (q := k.format.leastPlace) (by omega) (Int.le_refl _) ?_
    rw [Int.sub_self, Int.toNat_zero, Nat.pow_zero, Nat.mul_one]
    by_cases hge : 2 ^ (k.format.fractionBits + 1 + d) ≤ mag k R
    · obtain ⟨b, hb⟩ := mag_split hge
      rw [hb] at h ⊢
      have h5 : b * n ≤ a := by
        rw [Nat.mul_right_comm] at h
        exact Nat.le_of_mul_le_mul_right h (Nat.two_pow_pos d)
      have h6 := le_quoT hn h5
      have h7 := Nat.mul_le_mul_right (2 ^ (pl - k.format.leastPlace).toNat) h6
      have h8 : b * 2 ^ d = 2 * b * 2 ^ (pl - k.format.leastPlace).toNat := by rw [e2, Nat.pow_succ, ← Nat.mul_assoc, Nat.mul_comm 2 b, Nat.mul_right_comm]
      omega
    · have h6 : 2 * 2 ^ (k.format.fractionBits + 1) ≤ quoT a n := by unfold quoT; omega
      have h7 := Nat.mul_le_mul_right (2 ^ (pl - k.format.leastPlace).toNat) h6
      have h8 : 2 ^ (k.format.fractionBits + 1 + d) = 2 * 2 ^ (k.format.fractionBits + 1) * 2 ^ (pl - k.format.leastPlace).toNat := by
        rw [e2, show k.format.fractionBits + 1 + ((pl - k.format.leastPlace).toNat + 1) = 1 + (k.format.fractionBits + 1) + (pl - k.format.leastPlace).toNat by omega, Nat.pow_add, Nat.pow_add 2 1]
      omega
end
end Go.Sx
