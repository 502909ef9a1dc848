/-
  Sx, part Y: rounding keeps the order.
-/
import Derived.Test.YtaflnmmnaiaceaaSxX
namespace Go.Sx
open Ieee

/-- 'n / g', to the nearest, and between two to the even one. -/
def rhe (n g : Nat) : Nat := n / g + (if g < 2 * (n % g) ∨ (g = 2 * (n % g) ∧ (n / g) % 2 = 1) then 1 else 0)

theorem cut_even (neg : Bool) (n d : Nat) : Toward.even.cut neg n d = rhe n (2 ^ d) := by
  have key : ∀ g : Nat, n / g + (decide (g < 2 * (n % g)) || (g == 2 * (n % g) && (n / g) % 2 == 1)).toNat = rhe n g := by
    intro g
    unfold rhe
    congr 1
    by_cases h1 : g < 2 * (n % g)
    · rw [if_pos (.inl h1)]; simp [h1]
    · by_cases h2 : g = 2 * (n % g) ∧ (n / g) % 2 = 1
      · rw [if_pos (.inr h2)]
        have e1 : (g == 2 * (n % g)) = true := by simpa using h2.1
        have e2 : ((n / g) % 2 == 1) = true := by simpa using h2.2
        rw [e1, e2]; simp
      · rw [if_neg (fun h => h.elim h1 h2)]
        cases hb : (g == 2 * (n % g) && (n / g) % 2 == 1) with
        | false => simp [h1]
        | true =>
          simp only [Bool.and_eq_true, beq_iff_eq] at hb
          exact absurd hb h2
  unfold Toward.cut
  dsimp only
  rw [Nat.shiftLeft_eq, Nat.one_mul]
  rw [key]
  by_cases hd : d ≤ n.log2 + 2
  · rw [Nat.min_eq_left hd]
  · rw [Nat.min_eq_right (by omega)]
    have hn : n < 2 ^ (n.log2 + 1) := Nat.lt_log2_self
    have small : ∀ e, n.log2 + 2 ≤ e → rhe n (2 ^ e) = 0 := by
      intro e he
      have h1 : 2 ^ (n.log2 + 2) ≤ 2 ^ e := Nat.pow_le_pow_right (by omega) he
      have h2 : 2 ^ (n.log2 + 2) = 2 * 2 ^ (n.log2 + 1) := by rw [Nat.pow_succ]; omega
      have h3 : n < 2 ^ e := by omega
      unfold rhe
      rw [Nat.div_eq_of_lt h3, Nat.mod_eq_of_lt h3, if_neg]
      rintro (h | ⟨h, h'⟩)
      · omega
      · omega
    rw [small _ (Nat.le_refl _), small d (by omega)]

theorem rhe_mono {n n' g : Nat} (h : n ≤ n') : rhe n g ≤ rhe n' g := by
  unfold rhe
  have hq : n / g ≤ n' / g := Nat.div_le_div_right h
  rcases Nat.lt_or_eq_of_le hq with hlt | heq
  · have : (if g < 2 * (n % g) ∨ (g = 2 * (n % g) ∧ (n / g) % 2 = 1) then 1 else 0) ≤ 1 := by split <;> omega
    omega
  · have hr : n % g ≤ n' % g := by
      have e1 := Nat.div_add_mod n g
      have e2 := Nat.div_add_mod n' g
      rw [heq] at e1
      omega
    rw [heq]
    split
    · rename_i h1
      rw [if_pos]
      · exact Nat.le_refl _
      · rcases h1 with h1 | ⟨h1, h2⟩
        · left; omega
        · rcases Nat.lt_or_eq_of_le (show g ≤ 2 * (n' % g) by omega) with h3 | h3
          · exact .inl h3
          · exact .inr ⟨h3, h2⟩
    · omega

theorem rhe_scale {n g c : Nat} (hc : 0 < c) : rhe (n * c) (g * c) = rhe n g := by
  unfold rhe
  rw [Nat.mul_div_mul_right _ _ hc, Nat.mul_mod_mul_right]
  congr 1
  have e : 2 * (n % g * c) = 2 * (n % g) * c := by rw [Nat.mul_assoc]
  rw [e]
  have h1 : g * c < 2 * (n % g) * c ↔ g < 2 * (n % g) := Nat.mul_lt_mul_right hc
  have h2 : g * c = 2 * (n % g) * c ↔ g = 2 * (n % g) := ⟨fun h => Nat.eq_of_mul_eq_mul_right hc h, fun h => congrArg (· * c) h⟩
  simp only [h1, h2]

theorem rhe_whole {n g : Nat} (hg : 0 < g) : rhe (n * g) g = n := by
  unfold rhe
  rw [Nat.mul_div_cancel _ hg, Nat.mul_mod_left, if_neg]
  · rfl
  · rintro (h | ⟨h, _⟩) <;> omega

theorem rhe_le {n g l : Nat} (hg : 0 < g) (h : n ≤ l * g) : rhe n g ≤ l := by
  have := rhe_mono (g := g) h
  rwa [rhe_whole hg] at this
theorem le_rhe {n g l : Nat} (hg : 0 < g) (h : l * g ≤ n) : l ≤ rhe n g := by
  have := rhe_mono (g := g) h
  rwa [rhe_whole hg] at this

/-! ### The rung of 'm * 2 ^ p' -/

section
variable (k : FloatKind)

def placeOf (m : Nat) (p : Int) : Int := max (p + (m.log2 : Int) - (k.format.fractionBits : Int)) k.format.leastPlace

def rungN (m : Nat) (p : Int) : Nat :=
  if m = 0 then 0 else
  min ((placeOf k m p - k.format.leastPlace).toNat * k.format.binade + rhe (m * 2 ^ (p - placeOf k m p).toNat) (2 ^ (placeOf k m p - p).toNat)) k.format.infRung

theorem nearest_rung (neg : Bool) (m : Nat) (p : Int) : k.format.nearest neg m p = k.format.word neg (rungN k m p) := by
  unfold Format.nearest rungN
  split
  · rfl
  · dsimp only
    rw [cut_even, Nat.shiftLeft_eq]
    rfl

variable {k}

theorem two_pow_le {a b : Nat} (h : a ≤ b) : 2 ^ a ≤ 2 ^ b := Nat.pow_le_pow_right (by omega) h

/-- The rounding seen from a lower place. -/
theorem rhe_at {m : Nat} {p l q : Int} (hq : q ≤ p) (hl : q ≤ l) : rhe (m * 2 ^ (p - l).toNat) (2 ^ (l - p).toNat) = rhe (m * 2 ^ (p - q).toNat) (2 ^ (l - q).toNat) := by
  by_cases h : l ≤ p
  · have e1 : (l - p).toNat = 0 := by omega
    have e2 : (p - q).toNat = (p - l).toNat + (l - q).toNat := by omega
    rw [e1, e2, Nat.pow_add, ← Nat.mul_assoc]
    have := rhe_scale (n := m * 2 ^ (p - l).toNat) (g := 1) (c := 2 ^ (l - q).toNat) (Nat.two_pow_pos _)
    rw [Nat.one_mul] at this
    rw [this]
  · have e1 : (p - l).toNat = 0 := by omega
    have e2 : (l - q).toNat = (l - p).toNat + (p - q).toNat := by omega
    rw [e1, e2, Nat.pow_add, Nat.pow_zero, Nat.mul_one, rhe_scale (Nat.two_pow_pos _)]

theorem binade_pow : k.format.binade = 2 ^ k.format.fractionBits := by cases k <;> decide

/-- ROUNDING KEEPS THE ORDER. -/
theorem rungN_mono {m m' : Nat} {p p' q : Int} (hq : q ≤ p) (hq' : q ≤ p') (h : m * 2 ^ (p - q).toNat ≤ m' * 2 ^ (p' - q).toNat) : rungN k m p ≤ rungN k m' p' := by
  unfold rungN
  by_cases hm : m = 0
  · rw [if_pos hm]; exact Nat.zero_le _
  rw [if_neg hm]
  have hm' : m' ≠ 0 := by
    rintro rfl
    have := Nat.two_pow_pos (p - q).toNat
    have : 0 < m * 2 ^ (p - q).toNat := Nat.mul_pos (by omega) this
    omega
  rw [if_neg hm']
  refine Nat.le_min.2 ⟨Nat.le_trans (Nat.min_le_left _ _) ?_, Nat.min_le_right _ _⟩
  generalize ho : min q k.format.leastPlace = o
  have ho1 : o ≤ p := by omega
  have ho2 : o ≤ p' := by omega
  have hl1 : k.format.leastPlace ≤ placeOf k m p := by unfold placeOf; omega
  have hl2 : k.format.leastPlace ≤ placeOf k m' p' := by unfold placeOf; omega
  -- all seen from place o
  have h0 : m * 2 ^ (p - o).toNat ≤ m' * 2 ^ (p' - o).toNat := by
    have e1 : (p - o).toNat = (p - q).toNat + (q - o).toNat := by omega
    have e2 : (p' - o).toNat = (p' - q).toNat + (q - o).toNat := by omega
    rw [e1, e2, Nat.pow_add, Nat.pow_add, ← Nat.mul_assoc, ← Nat.mul_assoc]
    exact Nat.mul_le_mul_right _ h
  have a1 : 2 ^ m.log2 ≤ m := Nat.log2_self_le hm
  have a2 : m' < 2 ^ (m'.log2 + 1) := Nat.lt_log2_self
  have a3 : m < 2 ^ (m.log2 + 1) := Nat.lt_log2_self
  have a4 : 2 ^ m'.log2 ≤ m' := Nat.log2_self_le hm'
  have hL : p + (m.log2 : Int) ≤ p' + (m'.log2 : Int) := by
    have b1 : 2 ^ (m.log2 + (p - o).toNat) ≤ m * 2 ^ (p - o).toNat := by rw [Nat.pow_add]; exact Nat.mul_le_mul_right _ a1
    have b2 : m' * 2 ^ (p' - o).toNat < 2 ^ (m'.log2 + 1 + (p' - o).toNat) := by rw [Nat.pow_add]; exact Nat.mul_lt_mul_of_pos_right a2 (Nat.two_pow_pos _)
    have b3 : 2 ^ (m.log2 + (p - o).toNat) < 2 ^ (m'.log2 + 1 + (p' - o).toNat) := by omega
    have b4 := (Nat.pow_lt_pow_iff_right (by omega : 1 < 2)).1 b3
    omega
  have hlast : placeOf k m p ≤ placeOf k m' p' := by unfold placeOf; omega
  rw [rhe_at ho1 (show o ≤ placeOf k m p by omega), rhe_at ho2 (show o ≤ placeOf k m' p' by omega)]
  rcases Int.lt_or_eq_of_le hlast with hlt | heq
  · -- another place: one binade apart at least
    have c1 : rhe (m * 2 ^ (p - o).toNat) (2 ^ (placeOf k m p - o).toNat) ≤ 2 * k.format.binade := by
      refine rhe_le (Nat.two_pow_pos _) ?_
      have hle : m.log2 + 1 + (p - o).toNat ≤ 1 + k.format.fractionBits + (placeOf k m p - o).toNat := by unfold placeOf at hl1 ⊢; omega
      have := two_pow_le hle
      have d1 : m * 2 ^ (p - o).toNat ≤ 2 ^ (m.log2 + 1 + (p - o).toNat) := by rw [Nat.pow_add]; exact Nat.mul_le_mul_right _ (by omega)
      rw [binade_pow]
      have d2 : 2 * 2 ^ k.format.fractionBits * 2 ^ (placeOf k m p - o).toNat = 2 ^ (1 + k.format.fractionBits + (placeOf k m p - o).toNat) := by rw [Nat.pow_add, Nat.pow_add, Nat.pow_one]
      omega
    have c2 : k.format.binade ≤ rhe (m' * 2 ^ (p' - o).toNat) (2 ^ (placeOf k m' p' - o).toNat) := by
      refine le_rhe (Nat.two_pow_pos _) ?_
      have hl : placeOf k m' p' = p' + (m'.log2 : Int) - (k.format.fractionBits : Int) := by unfold placeOf at hlt hl1 ⊢; omega
      have hle : k.format.fractionBits + (placeOf k m' p' - o).toNat ≤ m'.log2 + (p' - o).toNat := by omega
      have := two_pow_le hle
      have d1 : 2 ^ (m'.log2 + (p' - o).toNat) ≤ m' * 2 ^ (p' - o).toNat := by rw [Nat.pow_add]; exact Nat.mul_le_mul_right _ a4
      rw [binade_pow]
      have d2 : 2 ^ k.format.fractionBits * 2 ^ (placeOf k m' p' - o).toNat = 2 ^ (k.format.fractionBits + (placeOf k m' p' - o).toNat) := by rw [Nat.pow_add]
      omega
    have c3 : (placeOf k m p - k.format.leastPlace).toNat + 1 ≤ (placeOf k m' p' - k.format.leastPlace).toNat := by omega
    have c4 := Nat.mul_le_mul_right k.format.binade c3
    rw [Nat.add_mul, Nat.one_mul] at c4
    omega
  · rw [heq]
    exact Nat.add_le_add_left (rhe_mono h0) _

/-- It is the value that counts. -/
theorem rungN_congr {m m' : Nat} {p p' q : Int} (hq : q ≤ p) (hq' : q ≤ p') (h : m * 2 ^ (p - q).toNat = m' * 2 ^ (p' - q).toNat) : rungN k m p = rungN k m' p' :=
  Nat.le_antisymm (rungN_mono hq hq' (Nat.le_of_eq h)) (rungN_mono hq' hq (Nat.le_of_eq h.symm))

end
end Go.Sx
