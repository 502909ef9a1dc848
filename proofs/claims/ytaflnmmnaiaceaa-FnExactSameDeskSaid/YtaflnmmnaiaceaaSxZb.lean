/-
  Sx, part Zb: keys and order; signs; quotients and roots between bounds.
-/
import Derived.Test.YtaflnmmnaiaceaaSxZa
namespace Go.Sx
open Ieee

section
variable {k : FloatKind}

/-- A word of a number or an infinity. -/
structure Good (k : FloatKind) (w : Nat) : Prop where
  lt : w < 2 ^ k.format.width
  num : isNanW k w = false

theorem Good.le {w : Nat} (h : Good k w) : rungOf k w ≤ k.format.infRung := rung_not_nan h.num

theorem key_abs (w : Nat) : (key k w).natAbs = rungOf k w := by unfold key; split <;> omega

theorem Good.fin {w : Nat} (h : (key k w).natAbs < k.format.infRung) : IsFinW k w := by unfold IsFinW; rw [← key_abs]; exact h

theorem cmp_lt {a b : Int} (h : a < b) : compare a b = .lt := compare_lt_iff.2 h
theorem cmp_eq {a b : Int} (h : a = b) : compare a b = .eq := compare_eq_iff.2 h
theorem cmp_gt {a b : Int} (h : b < a) : compare a b = .gt := by
  simp only [compare, compareOfLessAndEq]
  rw [if_neg (by omega), if_neg (by omega)]

/-- The order of words is that of their keys. -/
theorem order_key {x y : Nat} (hx : Good k x) (hy : Good k y) : k.format.order x y = some (compare (key k x) (key k y)) := by
  have lx := hx.le
  have ly := hy.le
  have cmp : ∀ {a b c d : Int}, (a < b ↔ c < d) → (a = b ↔ c = d) → compare a b = compare c d := by
    intro a b c d h1 h2
    simp only [compare, compareOfLessAndEq, h1, h2]
  rcases Nat.lt_or_eq_of_le lx with fx | ix <;> rcases Nat.lt_or_eq_of_le ly with fy | iy
  · rw [order_fin fx fy, worth_key, worth_key]
    congr 1
    refine cmp ⟨fun h => ?_, valK_lt⟩ ⟨fun h => ?_, fun h => by rw [h]⟩
    · rcases Int.lt_or_le (key k x) (key k y) with h' | h'
      · exact h'
      · have := valK_mono (k := k) h'; omega
    · rcases Int.lt_trichotomy (key k x) (key k y) with h' | h' | h'
      · have := valK_lt (k := k) h'; omega
      · exact h'
      · have := valK_lt (k := k) h'; omega
  · obtain ⟨m, p, e, _, _⟩ := read_fin fx
    unfold Format.order
    rw [e, read_inf iy]
    simp only [Datum.order]
    have hk : key k y = if isNeg k y then -(k.format.infRung : Int) else k.format.infRung := by unfold key; rw [iy]
    have ha := key_abs (k := k) x
    congr 1
    cases hs : isNeg k y <;> rw [hs] at hk <;> simp only [if_true, Bool.false_eq_true, if_false] at hk ⊢
    · exact (cmp_lt (by omega)).symm
    · exact (cmp_gt (by omega)).symm
  · obtain ⟨m, p, e, _, _⟩ := read_fin fy
    unfold Format.order
    rw [e, read_inf ix]
    simp only [Datum.order]
    have hk : key k x = if isNeg k x then -(k.format.infRung : Int) else k.format.infRung := by unfold key; rw [ix]
    have ha := key_abs (k := k) y
    congr 1
    cases hs : isNeg k x <;> rw [hs] at hk <;> simp only [if_true, Bool.false_eq_true, if_false] at hk ⊢
    · exact (cmp_gt (by omega)).symm
    · exact (cmp_lt (by omega)).symm
  · unfold Format.order
    rw [read_inf ix, read_inf iy]
    simp only [Datum.order]
    obtain ⟨h0, h1, _, _, _⟩ := fmt_consts k
    have hkx : key k x = if isNeg k x then -(k.format.infRung : Int) else k.format.infRung := by unfold key; rw [ix]
    have hky : key k y = if isNeg k y then -(k.format.infRung : Int) else k.format.infRung := by unfold key; rw [iy]
    congr 1
    rw [hkx, hky]
    cases isNeg k x <;> cases isNeg k y <;> simp only [if_true, Bool.false_eq_true, if_false]
    · exact (cmp_eq rfl).symm
    · exact (cmp_gt (by omega)).symm
    · exact (cmp_lt (by omega)).symm
    · exact (cmp_eq rfl).symm

/-! ### Signs -/

theorem rung_neg {a : Nat} (h : a < 2 ^ k.format.width) : rungOf k (Op.negFloat k a) = rungOf k a := negFloat_mod k h

theorem key_abs' (a : Nat) : key k (a % k.format.signWeight) = ((key k a).natAbs : Int) := by
  obtain ⟨_, h1, h2, _, _⟩ := fmt_consts k
  rw [key_abs]
  unfold key isNeg rungOf
  rw [Nat.mod_mod, Nat.div_eq_of_lt (Nat.mod_lt _ (by omega))]
  rfl

theorem key_neg {a : Nat} (h : a < 2 ^ k.format.width) : key k (Op.negFloat k a) = -key k a := by
  have hr := rung_neg h
  obtain ⟨_, h1, h2, h3, h4⟩ := fmt_consts k
  have hs : isNeg k (Op.negFloat k a) = !isNeg k a := by
    have hp := word_parts h
    unfold isNeg at hp ⊢
    rw [negFloat_eq k h]
    split
    · rename_i hlt
      rw [Nat.add_div_left _ (by omega), Nat.div_eq_of_lt hlt]; rfl
    · rename_i hge
      have e1 : a / k.format.signWeight = 1 := by
        have : a / k.format.signWeight < 2 := by rw [Nat.div_lt_iff_lt_mul (by omega)]; omega
        have : 1 ≤ a / k.format.signWeight := (Nat.le_div_iff_mul_le (by omega)).2 (by omega)
        omega
      rw [e1, Nat.div_eq_of_lt (by omega)]; rfl
  unfold key
  rw [hr, hs]
  cases isNeg k a <;> simp
end
end Go.Sx
