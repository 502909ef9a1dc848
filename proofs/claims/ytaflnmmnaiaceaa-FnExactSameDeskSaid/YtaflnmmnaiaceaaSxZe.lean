/-
  Sx, part Ze: what the root of a word is bounded by; conversions.
-/
import Derived.Test.YtaflnmmnaiaceaaSxZd
namespace Go.Sx
open Ieee

theorem rootFrom_ok (n : Nat) : ∀ (t r : Nat), r * r ≤ n → n < (r + 2 ^ t) * (r + 2 ^ t) → (Datum.rootFrom n t r) * (Datum.rootFrom n t r) ≤ n ∧ n < (Datum.rootFrom n t r + 1) * (Datum.rootFrom n t r + 1) := by
  intro t
  induction t with
  | zero => intro r h1 h2; exact ⟨h1, h2⟩
  | succ t ih =>
    intro r h1 h2
    unfold Datum.rootFrom
    dsimp only
    rw [Nat.shiftLeft_eq, Nat.one_mul]
    split
    · rename_i h
      refine ih _ h ?_
      have : r + 2 ^ (t + 1) = r + 2 ^ t + 2 ^ t := by rw [Nat.pow_succ]; omega
      rwa [this] at h2
    · rename_i h
      exact ih _ h1 (by omega)

theorem root_ok (n : Nat) : (Datum.rootFrom n (n.log2 / 2 + 1) 0) * (Datum.rootFrom n (n.log2 / 2 + 1) 0) ≤ n ∧ n < (Datum.rootFrom n (n.log2 / 2 + 1) 0 + 1) * (Datum.rootFrom n (n.log2 / 2 + 1) 0 + 1) := by
  refine rootFrom_ok n _ 0 (Nat.zero_le _) ?_
  rw [Nat.zero_add, ← Nat.pow_add]
  have h1 : n < 2 ^ (n.log2 + 1) := Nat.lt_log2_self
  have h2 := two_pow_le (show n.log2 + 1 ≤ n.log2 / 2 + 1 + (n.log2 / 2 + 1) by omega)
  omega

def rootT (n w : Nat) : Nat := 2 * w + (w * w != n).toNat

theorem rootT_le {n w b : Nat} (h1 : w * w ≤ n) (h : n ≤ b * b) : rootT n w ≤ 2 * b := by
  have h3 : w ≤ b := by
    rcases Nat.lt_or_ge b w with h' | h'
    · have := Nat.mul_self_lt_mul_self h'; omega
    · exact h'
  unfold rootT
  rcases Nat.lt_or_eq_of_le h3 with h4 | h4
  · have : (w * w != n).toNat ≤ 1 := by cases (w * w != n) <;> decide
    omega
  · subst h4
    have : w * w = n := by omega
    rw [this]; simp

theorem le_rootT {n w b : Nat} (h2 : n < (w + 1) * (w + 1)) (h : b * b ≤ n) : 2 * b ≤ rootT n w := by
  have h3 : b ≤ w := by
    rcases Nat.lt_or_ge w b with h' | h'
    · have := Nat.mul_self_le_mul_self (show w + 1 ≤ b by omega); omega
    · exact h'
  unfold rootT
  omega

section
variable {k : FloatKind}

theorem root_rung_le {n w R : Nat} {pl : Int} (h1 : w * w ≤ n) (hR : R ≤ k.format.infRung) (hbig : 2 ^ (k.format.fractionBits + 1) ≤ w)
    (h : n * 2 ^ (2 * (pl + 1 - k.format.leastPlace).toNat) ≤ mag k R * mag k R * 2 ^ (2 * (k.format.leastPlace - (pl + 1)).toNat)) : rungN k (rootT n w) pl ≤ R := by
  have sq : ∀ e : Nat, 2 ^ (2 * e) = 2 ^ e * 2 ^ e := fun e => by rw [← Nat.pow_add]; congr 1; omega
  rw [sq, sq] at h
  by_cases hd : pl + 1 ≤ k.format.leastPlace
  · have e1 : (pl + 1 - k.format.leastPlace).toNat = 0 := by omega
    rw [e1, Nat.pow_zero, Nat.mul_one] at h
    refine Nat.le_trans (rungN_mono (q := pl) (p' := k.format.leastPlace) (m' := mag k R) (Int.le_refl _) (by omega) ?_) (Nat.le_of_eq (rung_mag hR))
    rw [Int.sub_self, Int.toNat_zero, Nat.pow_zero, Nat.mul_one]
    have e2 : (k.format.leastPlace - pl).toNat = (k.format.leastPlace - (pl + 1)).toNat + 1 := by omega
    rw [e2, Nat.pow_succ, ← Nat.mul_assoc]
    have := rootT_le h1 (b := mag k R * 2 ^ (k.format.leastPlace - (pl + 1)).toNat) (by rw [Nat.mul_mul_mul_comm]; exact h)
    omega
  · have e1 : (k.format.leastPlace - (pl + 1)).toNat = 0 := by omega
    rw [e1, Nat.pow_zero, Nat.mul_one] at h
    generalize hdd : (pl + 1 - k.format.leastPlace).toNat = d at h
    have hge : 2 ^ (k.format.fractionBits + 1 + d) ≤ mag k R := by
      have h2 : (w * 2 ^ d) * (w * 2 ^ d) ≤ mag k R * mag k R := by
        rw [Nat.mul_mul_mul_comm]
        exact Nat.le_trans (Nat.mul_le_mul_right _ h1) h
      have h3 : w * 2 ^ d ≤ mag k R := by
        rcases Nat.lt_or_ge (mag k R) (w * 2 ^ d) with h' | h'
        · have := Nat.mul_self_lt_mul_self h'; omega
        · exact h'
      have h4 := Nat.mul_le_mul_right (2 ^ d) hbig
      rw [← Nat.pow_add] at h4
      omega
    obtain ⟨b, hb⟩ := mag_split hge
    refine Nat.le_trans (rungN_mono (q := k.format.leastPlace) (p' := k.format.leastPlace) (m' := mag k R) (by omega) (Int.le_refl _) ?_) (Nat.le_of_eq (rung_mag hR))
    rw [Int.sub_self, Int.toNat_zero, Nat.pow_zero, Nat.mul_one]
    rw [hb] at h ⊢
    have h5 : n ≤ b * b := by
      rw [Nat.mul_mul_mul_comm] at h
      exact Nat.le_of_mul_le_mul_right h (Nat.mul_pos (Nat.two_pow_pos d) (Nat.two_pow_pos d))
    have h6 := rootT_le h1 h5
    have e2 : d = (pl - k.format.leastPlace).toNat + 1 := by omega
    have h7 := Nat.mul_le_mul_right (2 ^ (pl - k.format.leastPlace).toNat) h6
    have h8 : b * 2 ^ d = 2 * b * 2 ^ (pl - k.format.leastPlace).toNat := by rw [e2, Nat.pow_succ, ← Nat.mul_assoc, Nat.mul_comm 2 b, Nat.mul_right_comm]
    omega

theorem le_root_rung {n w R : Nat} {pl : Int} (h2 : n < (w + 1) * (w + 1)) (hR : R ≤ k.format.infRung) (hbig : 2 ^ (k.format.fractionBits + 1) ≤ w)
    (h : mag k R * mag k R * 2 ^ (2 * (k.format.leastPlace - (pl + 1)).toNat) ≤ n * 2 ^ (2 * (pl + 1 - k.format.leastPlace).toNat)) : R ≤ rungN k (rootT n w) pl := by
  have sq : ∀ e : Nat, 2 ^ (2 * e) = 2 ^ e * 2 ^ e := fun e => by rw [← Nat.pow_add]; congr 1; omega
  rw [sq, sq] at h
  have key : ∀ {q : Int}, q ≤ pl → q ≤ k.format.leastPlace → mag k R * 2 ^ (k.format.leastPlace - q).toNat ≤ rootT n w * 2 ^ (pl - q).toNat → R ≤ rungN k (rootT n w) pl := by
    intro q h1 h2 h3
    have := rungN_mono (k := k) h2 h1 h3
    rwa [rung_mag hR] at this
  by_cases hd : pl + 1 ≤ k.format.leastPlace
  · have e1 : (pl + 1 - k.format.leastPlace).toNat = 0 := by omega
    rw [e1, Nat.pow_zero, Nat.mul_one] at h
    refine key (q := pl) (Int.le_refl _) (by omega) ?_
    rw [Int.sub_self, Int.toNat_zero, Nat.pow_zero, Nat.mul_one]
    have e2 : (k.format.leastPlace - pl).toNat = (k.format.leastPlace - (pl + 1)).toNat + 1 := by omega
    rw [e2, Nat.pow_succ, ← Nat.mul_assoc]
    have := le_rootT h2 (b := mag k R * 2 ^ (k.format.leastPlace - (pl + 1)).toNat) (by rw [Nat.mul_mul_mul_comm]; exact h)
    omega
  · have e1 : (k.format.leastPlace - (pl + 1)).toNat = 0 := by omega
    rw [e1, Nat.pow_zero, Nat.mul_one] at h
    generalize hdd : (pl + 1 - k.format.leastPlace).toNat = d at h
    have e2 : d = (pl - k.format.leastPlace).toNat + 1 := by omega
    refine key (q := k.format.leastPlace) (by omega) (Int.le_refl _) ?_
    rw [Int.sub_self, Int.toNat_zero, Nat.pow_zero, Nat.mul_one]
    by_cases hge : 2 ^ (k.format.fractionBits + 1 + d) ≤ mag k R
    · obtain ⟨b, hb⟩ := mag_split hge
      rw [hb] at h ⊢
      have h5 : b * b ≤ n := by
        rw [Nat.mul_mul_mul_comm] at h
        exact Nat.le_of_mul_le_mul_right h (Nat.mul_pos (Nat.two_pow_pos d) (Nat.two_pow_pos d))
      have h6 := le_rootT h2 h5
      have h7 := Nat.mul_le_mul_right (2 ^ (pl - k.format.leastPlace).toNat) h6
      have h8 : b * 2 ^ d = 2 * b * 2 ^ (pl - k.format.leastPlace).toNat := by rw [e2, Nat.pow_succ, ← Nat.mul_assoc, Nat.mul_comm 2 b, Nat.mul_right_comm]
      omega
    · have h6 : 2 * 2 ^ (k.format.fractionBits + 1) ≤ rootT n w := by unfold rootT; omega
      have h7 := Nat.mul_le_mul_right (2 ^ (pl - k.format.leastPlace).toNat) h6
      have h8 : 2 ^ (k.format.fractionBits + 1 + d) = 2 * 2 ^ (k.format.fractionBits + 1) * 2 ^ (pl - k.format.leastPlace).toNat := by
        rw [e2, show k.format.fractionBits + 1 + ((pl - k.format.leastPlace).toNat + 1) = 1 + (k.format.fractionBits + 1) + (pl - k.format.leastPlace).toNat by omega, Nat.pow_add, Nat.pow_add 2 1]
      omega

theorem sqrt_bounds {x : Nat} (hx : IsFinW k x) (h0 : 0 ≤ key k x) : ∃ w, k.format.sqrt x = some w ∧ 0 ≤ key k w ∧
    (∀ R, R ≤ k.format.infRung → mag k (rungOf k x) * 2 ^ (-k.format.leastPlace).toNat ≤ mag k R * mag k R → rungOf k w ≤ R) ∧
    (∀ R, R ≤ k.format.infRung → mag k R * mag k R ≤ mag k (rungOf k x) * 2 ^ (-k.format.leastPlace).toNat → R ≤ rungOf k w) := by
  obtain ⟨m, i, h1, h2, h3⟩ := read_fin hx
  have hl := (frac_consts k).1
  unfold Format.sqrt
  rw [h1]
  simp only [Datum.root]
  by_cases hm : m = 0
  · subst hm
    rw [if_pos rfl]
    have hz : mag k (rungOf k x) = 0 := by rw [← h3, Nat.zero_mul]
    refine ⟨_, rfl, ?_, ?_⟩
    · show 0 ≤ key k (k.format.nearest (isNeg k x) 0 i)
      rw [key_nearest, rungN_zero]; split <;> simp
    · have hr : rungOf k (k.format.write (.number (isNeg k x) 0 i)) = 0 := by
        show rungOf k (k.format.nearest (isNeg k x) 0 i) = 0
        rw [nearest_rung, rungN_zero, rungOf_word k _ (Nat.zero_le _)]
      rw [hr, hz, Nat.zero_mul]
      refine ⟨fun R _ _ => Nat.zero_le _, fun R hR h => ?_⟩
      rcases Nat.eq_zero_or_pos R with h' | h'
      · omega
      · have := mag_lt k h'
        rw [mag_zero] at this
        have := Nat.mul_pos this this
        omega
  · rw [if_neg hm]
    have hs : isNeg k x = false := by
      cases hs : isNeg k x with
      | false => rfl
      | true =>
        unfold key at h0
        rw [hs] at h0
        simp only [if_true] at h0
        have hr : rungOf k x = 0 := by omega
        rw [hr, mag_zero] at h3
        have := Nat.mul_pos (Nat.pos_of_ne_zero hm) (Nat.two_pow_pos (i - k.format.leastPlace).toNat)
        omega
    rw [hs]
    simp only [Bool.false_eq_true, if_false, Option.map_some]
    generalize hm1 : 2 * (k.format.fractionBits + 2) - m.log2 = m1
    generalize hm2 : m1 + ((i - (m1 : Int)) % 2).toNat = more
    generalize hn : m <<< more = n
    generalize hw : Datum.rootFrom n (n.log2 / 2 + 1) 0 = w
    obtain ⟨r1, r2⟩ := root_ok n
    rw [hw] at r1 r2
    have hwr : k.format.write (.number false (2 * w + (w * w != n).toNat) ((i - (more : Int)) / 2 - 1)) = k.format.word false (rungN k (rootT n w) ((i - (more : Int)) / 2 - 1)) := nearest_rung k _ _ _
    refine ⟨_, rfl, ?_, ?_⟩
    · rw [hwr, key_word false (rungN_le _ _)]; simp
    · rw [hwr, rungOf_word k _ (rungN_le _ _)]
      generalize hpl : (i - (more : Int)) / 2 - 1 = pl
      have hplace : i = 2 * (pl + 1) + (more : Int) := by omega
      rw [Nat.shiftLeft_eq] at hn
      have hbig : 2 ^ (k.format.fractionBits + 1) ≤ w := by
        rcases Nat.lt_or_ge w (2 ^ (k.format.fractionBits + 1)) with h' | h'
        · exfalso
          have g1 : 2 ^ (m.log2 + more) ≤ n := by rw [← hn, Nat.pow_add]; exact Nat.mul_le_mul_right _ (Nat.log2_self_le hm)
          have g2 := two_pow_le (show k.format.fractionBits + 1 + (k.format.fractionBits + 1) ≤ m.log2 + more by omega)
          have g3 := Nat.mul_self_le_mul_self (show w + 1 ≤ 2 ^ (k.format.fractionBits + 1) by omega)
          rw [← Nat.pow_add] at g3
          omega
        · exact h'
      have hpos := Nat.two_pow_pos (2 * (k.format.leastPlace - (pl + 1)).toNat)
      have conv : (mag k (rungOf k x) * 2 ^ (-k.format.leastPlace).toNat) * 2 ^ (2 * (k.format.leastPlace - (pl + 1)).toNat) = n * 2 ^ (2 * (pl + 1 - k.format.leastPlace).toNat) := by
        rw [← h3, ← hn, Nat.mul_assoc, Nat.mul_assoc, Nat.mul_assoc, ← Nat.pow_add, ← Nat.pow_add, ← Nat.pow_add]
        congr 2
        omega
      constructor
      · intro R hR h
        refine root_rung_le r1 hR hbig ?_
        have := Nat.mul_le_mul_right (2 ^ (2 * (k.format.leastPlace - (pl + 1)).toNat)) h
        rwa [conv] at this
      · intro R hR h
        refine le_root_rung r2 hR hbig ?_
        have := Nat.mul_le_mul_right (2 ^ (2 * (k.format.leastPlace - (pl + 1)).toNat)) h
        rwa [conv] at this
end
end Go.Sx
