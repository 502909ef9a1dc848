/-
  Sx, part F: the model's operations on floats, told by classes of words.
-/
import Derived.Test.YtaflnmmnaiaceaaSxA
namespace Go.Sx
open Ieee

theorem fmt_consts (k : FloatKind) : 0 < k.format.binade ∧ k.format.binade < k.format.infRung ∧ k.format.infRung < k.format.signWeight ∧ 2 ^ k.format.width = 2 * k.format.signWeight ∧
    2 ^ (k.format.exponentBits + k.format.fractionBits) = k.format.signWeight := by
  cases k <;> decide

/-- Which words are no numbers. -/
theorem isNaN_read (k : FloatKind) (w : Nat) : (k.format.read w).isNaN = decide (k.format.infRung < w % k.format.signWeight) := by
  obtain ⟨h0, h1, h2, _, _⟩ := fmt_consts k
  unfold Format.read
  dsimp only
  split
  · rename_i h; simp [Datum.isNaN]; omega
  · split
    · rename_i h; simp [Datum.isNaN]; omega
    · split
      · rename_i e; simp [Datum.isNaN, e]
      · rename_i a b
        have : k.format.infRung < w % k.format.signWeight := by omega
        simp [Datum.isNaN, this]

theorem isNanW_eq (k : FloatKind) (w : Nat) : isNanW k w = decide (k.format.infRung < w % k.format.signWeight) := isNaN_read k w

/-- What a word stands for, where it is no number. -/
theorem read_nan {k : FloatKind} {w : Nat} (h : isNanW k w = true) : ∃ s t, k.format.read w = .nan s t := by
  unfold isNanW at h
  cases hd : k.format.read w with
  | number s m e => rw [hd] at h; simp [Datum.isNaN] at h
  | infinity s => rw [hd] at h; simp [Datum.isNaN] at h
  | nan s t => exact ⟨s, t, rfl⟩

theorem cn_of_nan {k : FloatKind} {w : Nat} (h : isNanW k w = true) : cn k w = none := by unfold cn; rw [if_pos h]
theorem cn_of_not {k : FloatKind} {w : Nat} (h : isNanW k w = false) : cn k w = some w := by unfold cn; rw [if_neg (by simp [h])]
theorem cn_some {k : FloatKind} {w x : Nat} (h : cn k w = some x) : x = w ∧ isNanW k w = false := by
  unfold cn at h
  split at h
  · cases h
  · rename_i hn; cases h; exact ⟨rfl, by simpa using hn⟩
theorem cn_none {k : FloatKind} {w : Nat} (h : cn k w = none) : isNanW k w = true := by
  unfold cn at h
  split at h
  · assumption
  · cases h

theorem word_not_nan (k : FloatKind) (s : Bool) {rung : Nat} (h : rung ≤ k.format.infRung) : isNanW k (k.format.word s rung) = false := by
  obtain ⟨_, h1, h2, _, _⟩ := fmt_consts k
  rw [isNanW_eq]
  unfold Format.word
  split
  · have : (k.format.signWeight + rung) % k.format.signWeight = rung := by rw [Nat.add_mod_left, Nat.mod_eq_of_lt (by omega)]
    simp [this]; exact h
  · have : rung % k.format.signWeight = rung := Nat.mod_eq_of_lt (by omega)
    simp [this]; exact h

theorem nearest_not_nan (k : FloatKind) (s : Bool) (m : Nat) (p : Int) : isNanW k (k.format.nearest s m p) = false := by
  unfold Format.nearest
  dsimp only
  split
  · exact word_not_nan k s (Nat.zero_le _)
  · exact word_not_nan k s (Nat.min_le_right _ _)

theorem write_not_nan (k : FloatKind) {d : Datum} (h : d.isNaN = false) : isNanW k (k.format.write d) = false := by
  cases d with
  | number s m p => exact nearest_not_nan k s m p
  | infinity s => exact word_not_nan k s (Nat.le_refl _)
  | nan s t => simp [Datum.isNaN] at h

theorem sum_not_nan {a b d : Datum} (h : a.sum b = some d) : d.isNaN = false := by
  cases a <;> cases b <;> simp [Datum.sum] at h
  all_goals first
    | (subst h; rfl)
    | (obtain ⟨_, rfl⟩ := h; rfl)
theorem product_not_nan {a b d : Datum} (h : a.product b = some d) : d.isNaN = false := by
  cases a <;> cases b <;> simp [Datum.product] at h
  all_goals first
    | (subst h; rfl)
    | (obtain ⟨_, rfl⟩ := h; rfl)
theorem quotient_not_nan {n : Nat} {a b d : Datum} (h : a.quotient n b = some d) : d.isNaN = false := by
  cases a with
  | nan => cases b <;> simp [Datum.quotient] at h
  | infinity s => cases b <;> simp [Datum.quotient] at h; subst h; rfl
  | number s m i =>
    cases b with
    | nan => simp [Datum.quotient] at h
    | infinity t => simp [Datum.quotient] at h; subst h; rfl
    | number t n' j =>
      simp only [Datum.quotient] at h
      split at h
      · split at h
        · cases h
        · cases h; rfl
      · cases h; rfl
theorem root_not_nan {n : Nat} {a d : Datum} (h : a.root n = some d) : d.isNaN = false := by
  cases a with
  | nan => simp [Datum.root] at h
  | infinity s => cases s <;> simp [Datum.root] at h; subst h; rfl
  | number s m i =>
    simp only [Datum.root] at h
    split at h
    · cases h; rfl
    · split at h
      · cases h
      · cases h; rfl

theorem map_write_not_nan {k : FloatKind} {o : Option Datum} {x : Nat} (ho : ∀ d, o = some d → d.isNaN = false) (h : o.map k.format.write = some x) : isNanW k x = false := by
  cases o with
  | none => cases h
  | some d => cases h; exact write_not_nan k (ho d rfl)

def fop (op : BinOp) (k : FloatKind) (x y : Nat) : Option Nat :=
  match op with
  | .add => k.format.add x y
  | .sub => k.format.sub x y
  | .mul => k.format.mul x y
  | .quo => k.format.div x y
  | _ => none

theorem fop_not_nan {op : BinOp} {k : FloatKind} {x y w : Nat} (h : fop op k x y = some w) : isNanW k w = false := by
  unfold fop at h
  split at h
  · exact map_write_not_nan (fun _ hd => sum_not_nan hd) h
  · exact map_write_not_nan (fun _ hd => sum_not_nan hd) h
  · exact map_write_not_nan (fun _ hd => product_not_nan hd) h
  · exact map_write_not_nan (fun _ hd => quotient_not_nan hd) h
  · cases h

theorem fop_lt {op : BinOp} {k : FloatKind} {x y w : Nat} (h : fop op k x y = some w) : w < 2 ^ k.format.width := by
  unfold fop at h
  split at h
  · exact k.format.add_lt h
  · exact k.format.sub_lt h
  · exact k.format.mul_lt h
  · exact k.format.div_lt h
  · cases h

theorem sum_nan_left {a b : Datum} (h : a.isNaN = true) : a.sum b = none := by cases a <;> simp [Datum.isNaN] at h; rfl
theorem sum_nan_right {a b : Datum} (h : b.isNaN = true) : a.sum b = none := by cases b <;> simp [Datum.isNaN] at h; cases a <;> rfl
theorem product_nan_left {a b : Datum} (h : a.isNaN = true) : a.product b = none := by cases a <;> simp [Datum.isNaN] at h; rfl
theorem product_nan_right {a b : Datum} (h : b.isNaN = true) : a.product b = none := by cases b <;> simp [Datum.isNaN] at h; cases a <;> rfl
theorem quotient_nan_left {n : Nat} {a b : Datum} (h : a.isNaN = true) : a.quotient n b = none := by cases a <;> simp [Datum.isNaN] at h; rfl
theorem quotient_nan_right {n : Nat} {a b : Datum} (h : b.isNaN = true) : a.quotient n b = none := by cases b <;> simp [Datum.isNaN] at h; cases a <;> rfl
theorem order_nan_left {a b : Datum} (h : a.isNaN = true) : a.order b = none := by cases a <;> simp [Datum.isNaN] at h; rfl
theorem order_nan_right {a b : Datum} (h : b.isNaN = true) : a.order b = none := by cases b <;> simp [Datum.isNaN] at h; cases a <;> rfl
theorem isNaN_opposite (d : Datum) : d.opposite.isNaN = d.isNaN := by cases d <;> rfl

theorem fop_nan {op : BinOp} {k : FloatKind} {x y : Nat} (h : isNanW k x = true ∨ isNanW k y = true) : fop op k x y = none := by
  unfold isNanW at h
  unfold fop
  split
  · unfold Format.add; rcases h with h | h
    · rw [sum_nan_left h]; rfl
    · rw [sum_nan_right h]; rfl
  · unfold Format.sub; rcases h with h | h
    · rw [sum_nan_left h]; rfl
    · rw [sum_nan_right (by rw [isNaN_opposite]; exact h)]; rfl
  · unfold Format.mul; rcases h with h | h
    · rw [product_nan_left h]; rfl
    · rw [product_nan_right h]; rfl
  · unfold Format.div; rcases h with h | h
    · rw [quotient_nan_left h]; rfl
    · rw [quotient_nan_right h]; rfl
  · rfl

/-- The four operations on classes. -/
def Fl.op (op : BinOp) (k : FloatKind) : Fl → Fl → Fl := Fl.lift2 (fop op k)

theorem op_cn (op : BinOp) (k : FloatKind) (x y : Nat) : Fl.op op k (cn k x) (cn k y) = fop op k x y := by
  cases hx : isNanW k x with
  | true => rw [cn_of_nan hx, fop_nan (.inl hx)]; rfl
  | false =>
    rw [cn_of_not hx]
    cases hy : isNanW k y with
    | true => rw [cn_of_nan hy, fop_nan (.inr hy)]; rfl
    | false => rw [cn_of_not hy]; rfl

theorem op_add (k : FloatKind) : Fl.op .add k = Fl.add k := rfl
theorem op_sub (k : FloatKind) : Fl.op .sub k = Fl.sub k := rfl
theorem op_mul (k : FloatKind) : Fl.op .mul k = Fl.mul k := rfl
theorem op_quo (k : FloatKind) : Fl.op .quo k = Fl.div k := rfl

theorem ord_cn (k : FloatKind) (x y : Nat) : Fl.ord k (cn k x) (cn k y) = k.format.order x y := by
  cases hx : isNanW k x with
  | true => rw [cn_of_nan hx]; unfold Format.order; unfold isNanW at hx; rw [order_nan_left hx]; rfl
  | false =>
    rw [cn_of_not hx]
    cases hy : isNanW k y with
    | true => rw [cn_of_nan hy]; unfold Format.order; unfold isNanW at hy; rw [order_nan_right hy]; rfl
    | false => rw [cn_of_not hy]; rfl

theorem compare_swap (a b : Int) : compare b a = (compare a b).swap := by
  simp only [compare, compareOfLessAndEq]
  by_cases h : a < b
  · rw [if_pos h, if_neg (by omega), if_neg (by omega)]; rfl
  · rw [if_neg h]
    by_cases h' : a = b
    · rw [if_pos h', if_neg (by omega), if_pos h'.symm]; rfl
    · rw [if_neg h', if_pos (by omega)]; rfl
theorem compare_swap_nat (a b : Nat) : compare b a = (compare a b).swap := by
  simp only [compare, compareOfLessAndEq]
  by_cases h : a < b
  · rw [if_pos h, if_neg (by omega), if_neg (by omega)]; rfl
  · rw [if_neg h]
    by_cases h' : a = b
    · rw [if_pos h', if_neg (by omega), if_pos h'.symm]; rfl
    · rw [if_neg h', if_pos (by omega)]; rfl

theorem order_swap (a b : Datum) : b.order a = (a.order b).map Ordering.swap := by
  cases a <;> cases b <;> simp only [Datum.order, Option.map_none, Option.map_some]
  · rename_i s m i t n j
    rw [Int.min_comm j i]
    exact congrArg some (compare_swap _ _)
  · rename_i s m i t; cases t <;> rfl
  · rename_i s t n j; cases s <;> rfl
  · exact congrArg some (compare_swap_nat _ _)

theorem ord_swap (k : FloatKind) (x y : Fl) : Fl.ord k y x = (Fl.ord k x y).map Ordering.swap := by
  cases x with
  | none => cases y <;> rfl
  | some a => cases y with
    | none => rfl
    | some b => exact order_swap _ _

theorem gt_swap (k : FloatKind) (x y : Fl) : Fl.gt k x y = Fl.lt k y x := by
  unfold Fl.gt Fl.lt
  rw [ord_swap k x y]
  cases h : Fl.ord k x y with
  | none => rfl
  | some o => cases o <;> rfl
theorem ge_swap (k : FloatKind) (x y : Fl) : Fl.ge k x y = Fl.le k y x := by
  unfold Fl.ge Fl.le
  rw [ord_swap k x y]
  cases h : Fl.ord k x y with
  | none => rfl
  | some o => cases o <;> rfl

/-! ### The sign -/

theorem xor_sign {n x : Nat} (h : x < 2 * 2 ^ n) : x ^^^ 2 ^ n = if x < 2 ^ n then 2 ^ n + x else x - 2 ^ n := by
  have hn := Nat.two_pow_pos n
  apply Nat.eq_of_testBit_eq
  intro i
  rw [Nat.testBit_xor, Nat.testBit_two_pow]
  by_cases hlt : x < 2 ^ n
  · rw [if_pos hlt]
    have e : 2 ^ n + x = 2 ^ n ||| x := by
      have := Nat.two_pow_add_eq_or_of_lt hlt 1
      simpa using this
    rw [e, Nat.testBit_or, Nat.testBit_two_pow]
    by_cases hi : n = i
    · subst hi
      have : x.testBit n = false := Nat.testBit_lt_two_pow hlt
      simp [this]
    · simp [hi]
  · rw [if_neg hlt]
    obtain ⟨y, rfl⟩ : ∃ y, x = 2 ^ n + y := ⟨x - 2 ^ n, by omega⟩
    have hy : y < 2 ^ n := by omega
    have e : 2 ^ n + y = 2 ^ n ||| y := by
      have := Nat.two_pow_add_eq_or_of_lt hy 1
      simpa using this
    rw [Nat.add_sub_cancel_left, e, Nat.testBit_or, Nat.testBit_two_pow]
    by_cases hi : n = i
    · subst hi
      have : y.testBit n = false := Nat.testBit_lt_two_pow hy
      simp [this]
    · simp [hi]

theorem negFloat_eq (k : FloatKind) {x : Nat} (h : x < 2 ^ k.format.width) : Op.negFloat k x = if x < k.format.signWeight then k.format.signWeight + x else x - k.format.signWeight := by
  obtain ⟨_, _, _, h3, h4⟩ := fmt_consts k
  unfold Op.negFloat
  rw [xor_sign (by rw [h4, ← h3]; exact h), h4]

theorem negFloat_lt (k : FloatKind) {x : Nat} (h : x < 2 ^ k.format.width) : Op.negFloat k x < 2 ^ k.format.width := by
  obtain ⟨_, _, _, h3, h4⟩ := fmt_consts k
  rw [negFloat_eq k h]
  split <;> omega

theorem negFloat_mod (k : FloatKind) {x : Nat} (h : x < 2 ^ k.format.width) : Op.negFloat k x % k.format.signWeight = x % k.format.signWeight := by
  obtain ⟨_, _, _, h3, h4⟩ := fmt_consts k
  rw [negFloat_eq k h]
  split
  · rw [Nat.add_mod_left]
  · conv => rhs; rw [show x = k.format.signWeight + (x - k.format.signWeight) by omega]
    rw [Nat.add_mod_left]

theorem neg_cn (k : FloatKind) {x : Nat} (h : x < 2 ^ k.format.width) : cn k (Op.negFloat k x) = Fl.neg k (cn k x) := by
  have e : isNanW k (Op.negFloat k x) = isNanW k x := by rw [isNanW_eq, isNanW_eq, negFloat_mod k h]
  cases hx : isNanW k x with
  | true => rw [cn_of_nan hx, cn_of_nan (by rw [e]; exact hx)]; rfl
  | false => rw [cn_of_not hx, cn_of_not (by rw [e]; exact hx)]; rfl

/-! ### A not-a-number off the tape -/

theorem nan_drawn (q : Question) (k : FloatKind) (hq : (∃ x y, q = .nanBits k x y) ∨ ∃ x, q = .nanConv k x) (t : Nat) : q.forced = false ∧ q.cut t < 2 ^ k.format.width ∧ cn k (q.cut t) = none := by
  have mod : ∀ S c a : Nat, c < S → (a * S + c) % S = c := fun S c a h => by rw [Nat.mul_comm, Nat.mul_add_mod, Nat.mod_eq_of_lt h]
  have key : q.forced = false ∧ q.cut t < 2 ^ k.format.width ∧ k.format.infRung < q.cut t % k.format.signWeight := by
    have e : q.forced = false ∧ q.cut t = (match k with | .f32 => (t % 2) * 2147483648 + (2139095041 + (t / 2) % 8388607) | .f64 => (t % 2) * 9223372036854775808 + (9218868437227405313 + (t / 2) % 4503599627370495)) := by
      rcases hq with ⟨x, y, rfl⟩ | ⟨x, rfl⟩ <;> cases k <;> refine ⟨rfl, ?_⟩ <;> simp only [Question.cut] <;> omega
    refine ⟨e.1, ?_, ?_⟩
    · rw [e.2]; cases k
      · show _ < 4294967296; dsimp only; omega
      · show _ < 18446744073709551616; dsimp only; omega
    · rw [e.2]; cases k
      · show 2139095040 < _ % 2147483648; dsimp only; rw [mod _ _ _ (by omega)]; omega
      · show 9218868437227405312 < _ % 9223372036854775808; dsimp only; rw [mod _ _ _ (by omega)]; omega
  exact ⟨key.1, key.2.1, cn_of_nan (by rw [isNanW_eq]; simpa using key.2.2)⟩

/-! ### Roots and conversions -/

theorem sqrt_cn (x : Nat) : Fl.sqrt (cn .f64 x) = FloatKind.f64.format.sqrt x := by
  cases hx : isNanW .f64 x with
  | true =>
    rw [cn_of_nan hx]
    unfold Format.sqrt
    obtain ⟨s, t, h⟩ := read_nan hx
    rw [h]; rfl
  | false => rw [cn_of_not hx]; rfl

theorem sqrt_not_nan {x w : Nat} (h : FloatKind.f64.format.sqrt x = some w) : isNanW .f64 w = false := map_write_not_nan (k := .f64) (fun _ hd => root_not_nan hd) h

theorem encode_lt (k : FloatKind) (d : Datum) : k.encode d < 2 ^ k.format.width := k.format.write_lt d

theorem encode_cn (k : FloatKind) {d : Datum} (h : d.isNaN = false) : cn k (k.encode d) = some (k.encode d) := cn_of_not (write_not_nan k h)

theorem nearest_cn (k : FloatKind) (n : Int) : cn k (k.nearest n) = some (k.nearest n) := encode_cn k rfl
theorem nearest_wd (k : FloatKind) (n : Int) : k.nearest n < 2 ^ k.format.width := encode_lt k _

end Go.Sx
