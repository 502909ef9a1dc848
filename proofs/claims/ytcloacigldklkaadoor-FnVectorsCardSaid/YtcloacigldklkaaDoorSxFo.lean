/-
  Sx, part Fo: the order of floats is that of whole numbers: their rungs, with their signs.
-/
import Derived.Test.YtcloacigldklkaaDoorSxGe
namespace Go.Sx
open Ieee

/-- A word's rung with its sign. -/
def skey (k : FloatKind) (a : Nat) : Int := if isNeg k a then -(rungOf k a : Int) else rungOf k a

theorem compare_gt_iff {a b : Int} : compare a b = .gt ↔ b < a := by
  simp only [compare, compareOfLessAndEq]
  by_cases h : a < b
  · rw [if_pos h]; constructor
    · intro h'; cases h'
    · intro h'; omega
  · rw [if_neg h]
    by_cases h' : a = b
    · rw [if_pos h']; constructor
      · intro h'; cases h'
      · intro h''; omega
    · rw [if_neg h']; constructor
      · intro _; omega
      · intro _; rfl

theorem cmp_congr {a b c d : Int} (h1 : a < b ↔ c < d) (h2 : a = b ↔ c = d) : compare a b = compare c d := by
  rcases Int.lt_trichotomy a b with h | h | h
  · rw [compare_lt_iff.2 h, compare_lt_iff.2 (h1.1 h)]
  · rw [compare_eq_iff.2 h, compare_eq_iff.2 (h2.1 h)]
  · have h3 : d < c := by
      rcases Int.lt_trichotomy c d with h' | h' | h'
      · have := h1.2 h'; omega
      · have := h2.2 h'; omega
      · exact h'
    rw [compare_gt_iff.2 h, compare_gt_iff.2 h3]

theorem worth_skey {k : FloatKind} (a b : Nat) : compare (worth k a) (worth k b) = compare (skey k a) (skey k b) := by
  have f1 : ∀ {x y : Nat}, x < y → mag k x < mag k y := fun h => mag_lt k h
  have f2 : ∀ {x : Nat}, 0 < x → 0 < mag k x := fun {x} h => by have := mag_lt k h; rwa [mag_zero] at this
  have f0 := mag_zero k
  unfold worth skey
  generalize rungOf k a = x
  generalize rungOf k b = y
  have h1 : x < y → mag k x < mag k y := f1
  have h2 : y < x → mag k y < mag k x := f1
  have h3 : x = y → mag k x = mag k y := fun h => by rw [h]
  have h4 : 0 < x → 0 < mag k x := f2
  have h5 : 0 < y → 0 < mag k y := f2
  have h6 : x = 0 → mag k x = 0 := fun h => by rw [h]; exact f0
  have h7 : y = 0 → mag k y = 0 := fun h => by rw [h]; exact f0
  generalize mag k x = X at *
  generalize mag k y = Y at *
  cases isNeg k a <;> cases isNeg k b <;> refine cmp_congr ?_ ?_ <;> simp <;> omega

theorem skey_bound {k : FloatKind} {a : Nat} (h : rungOf k a < k.format.infRung) : -(k.format.infRung : Int) < skey k a ∧ skey k a < k.format.infRung := by
  unfold skey; split <;> omega
theorem skey_inf {k : FloatKind} {a : Nat} (h : rungOf k a = k.format.infRung) : skey k a = if isNeg k a then -(k.format.infRung : Int) else k.format.infRung := by
  unfold skey; rw [h]

theorem ord_skey {k : FloatKind} {a b : Nat} (na : isNanW k a = false) (nb : isNanW k b = false) : k.format.order a b = some (compare (skey k a) (skey k b)) := by
  obtain ⟨h0, h1, _, _, _⟩ := fmt_consts k
  rcases Nat.lt_or_eq_of_le (rung_not_nan na) with fa | ia <;> rcases Nat.lt_or_eq_of_le (rung_not_nan nb) with fb | ib
  · rw [order_fin fa fb, worth_skey]
  · obtain ⟨m, p, e1, _, _⟩ := read_fin fa
    have hb := skey_bound fa
    unfold Format.order
    rw [e1, read_inf ib, skey_inf ib]
    simp only [Datum.order]
    congr 1
    cases isNeg k b
    · exact (compare_lt_iff.2 (by simp; omega)).symm
    · exact (compare_gt_iff.2 (by simp; omega)).symm
  · obtain ⟨m, p, e1, _, _⟩ := read_fin fb
    have hb := skey_bound fb
    unfold Format.order
    rw [e1, read_inf ia, skey_inf ia]
    simp only [Datum.order]
    congr 1
    cases isNeg k a
    · exact (compare_gt_iff.2 (by simp; omega)).symm
    · exact (compare_lt_iff.2 (by simp; omega)).symm
  · unfold Format.order
    rw [read_inf ia, read_inf ib, skey_inf ia, skey_inf ib]
    simp only [Datum.order]
    congr 1
    cases isNeg k a <;> cases isNeg k b
    · exact (compare_eq_iff.2 (by simp)).symm
    · exact (compare_gt_iff.2 (by simp; omega)).symm
    · exact (compare_lt_iff.2 (by simp; omega)).symm
    · exact (compare_eq_iff.2 (by simp)).symm

theorem lt_skey {k : FloatKind} {a b : Nat} (na : isNanW k a = false) (nb : isNanW k b = false) : Fl.lt k (some a) (some b) = decide (skey k a < skey k b) := by
  show (k.format.order a b == some .lt) = _
  rw [ord_skey na nb, Bool.eq_iff_iff, beq_iff_eq, Option.some.injEq, compare_lt_iff, decide_eq_true_iff]
theorem eq_skey {k : FloatKind} {a b : Nat} (na : isNanW k a = false) (nb : isNanW k b = false) : Fl.eq k (some a) (some b) = decide (skey k a = skey k b) := by
  show (k.format.order a b == some .eq) = _
  rw [ord_skey na nb, Bool.eq_iff_iff, beq_iff_eq, Option.some.injEq, compare_eq_iff, decide_eq_true_iff]
theorem le_skey {k : FloatKind} {a b : Nat} (na : isNanW k a = false) (nb : isNanW k b = false) : Fl.le k (some a) (some b) = decide (skey k a ≤ skey k b) := by
  show (k.format.order a b == some .lt || k.format.order a b == some .eq) = _
  rw [ord_skey na nb, Bool.eq_iff_iff, Bool.or_eq_true, beq_iff_eq, beq_iff_eq, Option.some.injEq, Option.some.injEq, compare_lt_iff, compare_eq_iff, decide_eq_true_iff]
  omega

/-! ### In single precision, by numbers alone -/

/-- Is a word of a number of single precision? -/
def num32 (a : Nat) : Prop := a < 4294967296 ∧ a % 2147483648 ≤ 2139095040
theorem rung32 (a : Nat) : rungOf .f32 a = a % 2147483648 := rfl
theorem nan32 (a : Nat) : isNanW .f32 a = decide (2139095040 < a % 2147483648) := by rw [isNanW_eq]; rfl
theorem skey32 {a : Nat} (h : a < 4294967296) : skey .f32 a = if a < 2147483648 then (a : Int) else 2147483648 - (a : Int) := by
  have hn : isNeg .f32 a = (a / 2147483648 % 2 == 1) := rfl
  unfold skey
  rw [hn, rung32]
  by_cases h1 : a < 2147483648
  · have e : a / 2147483648 % 2 = 0 := by omega
    rw [e, if_pos h1]; simp; omega
  · have e : a / 2147483648 % 2 = 1 := by omega
    rw [e, if_neg h1]; simp; omega
theorem num32_nan {a : Nat} (h : num32 a) : isNanW .f32 a = false := by rw [nan32]; exact decide_eq_false (by have := h.2; omega)
theorem wfF_num {a : Nat} (h : Wf .f32 (some a)) : num32 a := by
  obtain ⟨h1, h2⟩ := h.some_lt
  rw [nan32] at h2
  have h2 := of_decide_eq_false h2
  exact ⟨h1, by omega⟩
/-- The skey, for 'omega'. -/
def k32 (a : Nat) : Int := if a < 2147483648 then (a : Int) else 2147483648 - (a : Int)
theorem lt32 {a b : Nat} (ha : num32 a) (hb : num32 b) : Fl.lt .f32 (some a) (some b) = decide (k32 a < k32 b) := by
  rw [lt_skey (num32_nan ha) (num32_nan hb), skey32 ha.1, skey32 hb.1]; rfl
theorem eq32 {a b : Nat} (ha : num32 a) (hb : num32 b) : Fl.eq .f32 (some a) (some b) = decide (k32 a = k32 b) := by
  rw [eq_skey (num32_nan ha) (num32_nan hb), skey32 ha.1, skey32 hb.1]; rfl
theorem le32 {a b : Nat} (ha : num32 a) (hb : num32 b) : Fl.le .f32 (some a) (some b) = decide (k32 a ≤ k32 b) := by
  rw [le_skey (num32_nan ha) (num32_nan hb), skey32 ha.1, skey32 hb.1]; rfl
theorem neg32 {a : Nat} (ha : num32 a) : Fl.neg .f32 (some a) = some (if a < 2147483648 then a + 2147483648 else a - 2147483648) := by
  show some (Op.negFloat .f32 a) = _
  rw [negFloat_eq .f32 (show a < 2 ^ FloatKind.f32.format.width from ha.1)]
  have : FloatKind.f32.format.signWeight = 2147483648 := by decide
  rw [this]
  congr 1
  split <;> omega
/-- Is a number finite: x - x = 0. -/
theorem fin32 {a : Nat} (ha : num32 a) : Fl.eq .f32 (Fl.sub .f32 (some a) (some a)) (some 0) = decide (a % 2147483648 < 2139095040) := by
  have h1 := finF_iff .f32 (some a)
  unfold finF at h1
  rw [Bool.eq_iff_iff, h1, decide_eq_true_iff]
  have hr : rungOf .f32 a = a % 2147483648 := rfl
  have hi : FloatKind.f32.format.infRung = 2139095040 := by decide
  constructor
  · rintro ⟨b, hb, s, m, p, hr'⟩
    cases hb
    rcases Nat.lt_or_eq_of_le ha.2 with h | h
    · exact h
    · have := read_inf (k := .f32) (w := a) (by rw [hr, hi]; exact h)
      rw [this] at hr'; cases hr'
  · intro h
    obtain ⟨m, p, e, _⟩ := read_fin (k := .f32) (w := a) (by rw [hr, hi]; exact h)
    exact ⟨a, rfl, _, m, p, e⟩
theorem of32 {n : Nat} (h : num32 n) : Fl.ofBits .f32 (n : Int) = some n := by
  show cn .f32 ((n : Int).toNat) = some n
  rw [Int.toNat_natCast]
  exact cn_of_not (num32_nan h)
end Go.Sx
