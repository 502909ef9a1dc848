/-
  Sx, part Si: floats that are small whole numbers: sums, differences and products of them are exact, and they are compared as numbers.
-/
import Derived.Test.YtcloacigldklkaaDoorSxFm
namespace Go.Sx
open Ieee

def unitN (k : FloatKind) : Nat := (-k.format.leastPlace).toNat
/-- A float is a whole number (either zero, for nothing). -/
def VI (k : FloatKind) (x : Fl) (n : Int) : Prop := ∃ w, x = some w ∧ Good k w ∧ IsFinW k w ∧ worth k w = n * ((2 ^ unitN k : Nat) : Int)
def SmallI (k : FloatKind) (n : Int) : Prop := n.natAbs < 2 ^ (k.format.fractionBits + 1)
theorem unit_fin (k : FloatKind) : 2 ^ (k.format.fractionBits + 1) * 2 ^ unitN k ≤ mag k k.format.infRung := by cases k <;> decide +kernel
theorem unit_lp (k : FloatKind) : k.format.leastPlace = -((unitN k : Nat) : Int) := by cases k <;> decide
theorem small32 {n : Int} : SmallI .f32 n ↔ n.natAbs < 16777216 := Iff.rfl
theorem small64 {n : Int} : SmallI .f64 n ↔ n.natAbs < 9007199254740992 := Iff.rfl
section
variable {k : FloatKind} {x y : Fl} {u v : Int}
theorem vi_of {w : Nat} {n : Int} (hg : Good k w) (hs : SmallI k n) (hk : key k w = rndI k (n * ((2 ^ unitN k : Nat) : Int)) k.format.leastPlace) : VI k (some w) n := by
  obtain ⟨q1, q2⟩ := exact_key (k := k) (V := n * ((2 ^ unitN k : Nat) : Int)) (m := n.natAbs) (j := unitN k) (by rw [Int.natAbs_mul, Int.natAbs_natCast]) hs
    (Nat.lt_of_lt_of_le (Nat.mul_lt_mul_of_pos_right hs (Nat.two_pow_pos _)) (unit_fin k))
  exact ⟨w, rfl, hg, Good.fin (by rw [hk]; exact q2), by rw [worth_key, hk, q1]⟩
theorem vi_add (hx : VI k x u) (hy : VI k y v) (hs : SmallI k (u + v)) : VI k (Fl.add k x y) (u + v) := by
  obtain ⟨a, rfl, ga, fa, wa⟩ := hx
  obtain ⟨b, rfl, gb, fb, wb⟩ := hy
  obtain ⟨w, e, hk⟩ := add_key fa fb
  have e' : Fl.add k (some a) (some b) = some w := e
  rw [e']
  refine vi_of (good_op (op := .add) (x := a) (y := b) e) hs ?_
  rw [hk, wa, wb, Int.add_mul]
theorem vi_sub (hx : VI k x u) (hy : VI k y v) (hs : SmallI k (u - v)) : VI k (Fl.sub k x y) (u - v) := by
  obtain ⟨a, rfl, ga, fa, wa⟩ := hx
  obtain ⟨b, rfl, gb, fb, wb⟩ := hy
  obtain ⟨w, e, hk⟩ := sub_key fa fb
  have e' : Fl.sub k (some a) (some b) = some w := e
  rw [e']
  refine vi_of (good_op (op := .sub) (x := a) (y := b) e) hs ?_
  rw [hk, wa, wb, Int.sub_mul]
theorem vi_mul (hx : VI k x u) (hy : VI k y v) (hs : SmallI k (u * v)) : VI k (Fl.mul k x y) (u * v) := by
  obtain ⟨a, rfl, ga, fa, wa⟩ := hx
  obtain ⟨b, rfl, gb, fb, wb⟩ := hy
  obtain ⟨w, e, hk⟩ := mul_key fa fb
  have e' : Fl.mul k (some a) (some b) = some w := e
  rw [e']
  refine vi_of (good_op (op := .mul) (x := a) (y := b) e) hs ?_
  have h1 : u * ((2 ^ unitN k : Nat) : Int) * (v * ((2 ^ unitN k : Nat) : Int)) = u * v * ((2 ^ unitN k : Nat) : Int) * ((2 ^ unitN k : Nat) : Int) := by
    generalize ((2 ^ unitN k : Nat) : Int) = A
    rw [Int.mul_assoc u A, ← Int.mul_assoc A v, Int.mul_comm A v, Int.mul_assoc v A, Int.mul_assoc (u * v), Int.mul_assoc u v]
  rw [hk, wa, wb, h1, rndI_up]
  congr 1
  rw [unit_lp]
  omega
theorem vi_i2f {n : Int} (hs : SmallI k n) : VI k (some (k.nearest n)) n := by
  have hg : Good k (k.nearest n) := ⟨nearest_wd k n, nearest_not_nan k (n < 0) n.natAbs 0⟩
  refine vi_of hg hs ?_
  rw [rndI_up, unit_lp, show -((unitN k : Nat) : Int) + ((unitN k : Nat) : Int) = 0 by omega]
  refine key_signed (s := decide (n < 0)) (m := n.natAbs) (p := 0) ?_
  by_cases h : n < 0
  · rw [if_pos (decide_eq_true h)]; omega
  · rw [if_neg (by simpa using h)]; omega
theorem vi_conv64 (hx : VI .f32 x u) (hs : SmallI .f64 u) : VI .f64 (Fl.conv .f32 .f64 x) u := by
  obtain ⟨a, rfl, ga, fa, wa⟩ := hx
  obtain ⟨w, e, hg, hk⟩ := conv_key (s := .f32) (d := .f64) (by decide) fa
  rw [e]
  refine vi_of hg hs ?_
  rw [hk, wa, rndI_up, rndI_up]
  rfl
theorem vi_conv32 (hx : VI .f64 x u) (hs : SmallI .f32 u) : VI .f32 (Fl.conv .f64 .f32 x) u := by
  obtain ⟨a, rfl, ga, fa, wa⟩ := hx
  obtain ⟨w, e, hg, hk⟩ := conv_key (s := .f64) (d := .f32) (by decide) fa
  rw [e]
  refine vi_of hg hs ?_
  rw [hk, wa, rndI_up, rndI_up]
  rfl
theorem vi_neg (hx : VI k x u) : VI k (Fl.neg k x) (-u) := by
  obtain ⟨a, rfl, ga, fa, wa⟩ := hx
  refine ⟨Op.negFloat k a, rfl, ⟨negFloat_lt k ga.1, ?_⟩, ?_, ?_⟩
  · rw [isNanW_eq]
    have := ga.2
    rw [isNanW_eq] at this
    rw [negFloat_mod k ga.1]
    exact this
  · unfold IsFinW rungOf at fa ⊢
    rw [negFloat_mod k ga.1]
    exact fa
  · rw [worth_key, key_neg ga.1]
    have h1 := worth_key (k := k) a
    rw [wa] at h1
    rw [Int.neg_mul, h1]
    have h0 := mag_zero k
    unfold valK
    split
    · split
      · omega
      · rw [Int.natAbs_neg]
    · split
      · rw [Int.natAbs_neg, Int.neg_neg]
      · have hz : key k a = 0 := by omega
        rw [hz]
        simp [h0]
theorem vi_pow : (0 : Int) < ((2 ^ unitN k : Nat) : Int) := Int.natCast_pos.2 (Nat.two_pow_pos _)
theorem vi_ord (hx : VI k x u) (hy : VI k y v) : Fl.ord k x y = some (compare u v) := by
  obtain ⟨a, rfl, ga, fa, wa⟩ := hx
  obtain ⟨b, rfl, gb, fb, wb⟩ := hy
  show k.format.order a b = _
  rw [order_fin fa fb, wa, wb]
  congr 1
  have hp := vi_pow (k := k)
  exact cmp_congr ⟨fun h => Int.lt_of_mul_lt_mul_right h (Int.le_of_lt hp), fun h => Int.mul_lt_mul_of_pos_right h hp⟩ ⟨fun h => Int.eq_of_mul_eq_mul_right (Int.ne_of_gt hp) h, fun h => by rw [h]⟩
theorem vi_eq (hx : VI k x u) (hy : VI k y v) : Fl.eq k x y = decide (u = v) := by
  show (Fl.ord k x y == some .eq) = _
  rw [vi_ord hx hy, Bool.eq_iff_iff, beq_iff_eq, Option.some.injEq, compare_eq_iff, decide_eq_true_iff]
theorem vi_lt (hx : VI k x u) (hy : VI k y v) : Fl.lt k x y = decide (u < v) := by
  show (Fl.ord k x y == some .lt) = _
  rw [vi_ord hx hy, Bool.eq_iff_iff, beq_iff_eq, Option.some.injEq, compare_lt_iff, decide_eq_true_iff]
theorem vi_le (hx : VI k x u) (hy : VI k y v) : Fl.le k x y = decide (u ≤ v) := by
  show (Fl.ord k x y == some .lt || Fl.ord k x y == some .eq) = _
  rw [vi_ord hx hy, Bool.eq_iff_iff, Bool.or_eq_true, beq_iff_eq, beq_iff_eq, Option.some.injEq, Option.some.injEq, compare_lt_iff, compare_eq_iff, decide_eq_true_iff]
  omega
/-- A literal. -/
theorem vi_lit {w : Nat} {n : Int} (h : (decide (w < 2 ^ k.format.width) && (!isNanW k w && (decide (rungOf k w < k.format.infRung) && (worth k w == n * ((2 ^ unitN k : Nat) : Int))))) = true) : VI k (some w) n := by
  simp only [Bool.and_eq_true, decide_eq_true_eq, Bool.not_eq_true', beq_iff_eq] at h
  exact ⟨w, rfl, ⟨h.1, h.2.1⟩, h.2.2.1, h.2.2.2⟩
end
theorem vi_one32 : VI .f32 (some 1065353216) 1 := vi_lit (by decide +kernel)
theorem vi_two32 : VI .f32 (some 1073741824) 2 := vi_lit (by decide +kernel)
theorem vi_zero32 : VI .f32 (some 0) 0 := vi_lit (by decide +kernel)
end Go.Sx
