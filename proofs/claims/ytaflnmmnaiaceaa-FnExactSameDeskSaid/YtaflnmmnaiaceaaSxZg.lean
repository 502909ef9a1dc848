/-
  Sx, part Zg: a float32 as a float64 keeps its order.
-/
import Derived.Test.YtaflnmmnaiaceaaSxZf
namespace Go.Sx
open Ieee

/-- A number that a float64 holds whole: its worth. -/
theorem widen_worth (s : Bool) {m : Nat} {p : Int} (hm : m < 2 ^ 24) (h1 : -149 ≤ p) (h2 : p ≤ 104) :
    rungOf .f64 (double.nearest s m p) < FloatKind.f64.format.infRung ∧ isNeg .f64 (double.nearest s m p) = s ∧ mag .f64 (rungOf .f64 (double.nearest s m p)) = m * 2 ^ (p + 1074).toNat := by
  by_cases h0 : m = 0
  · subst h0
    have : double.nearest s 0 p = double.word s 0 := by unfold Format.nearest; simp
    rw [this]
    have e1 : rungOf .f64 (double.word s 0) = 0 := rungOf_word .f64 s (Nat.zero_le _)
    have e2 : isNeg .f64 (double.word s 0) = s := isNeg_word (k := .f64) s (Nat.zero_le _)
    refine ⟨by rw [e1]; decide, e2, by rw [e1, mag_zero]; simp⟩
  · have hL : m.log2 < 24 := (Nat.log2_lt h0).2 hm
    rw [nearest64 s h0 (by omega) (by omega)]
    have hlt : m * 2 ^ (52 - m.log2) < 9007199254740992 := by
      have h3 : m < 2 ^ (m.log2 + 1) := Nat.lt_log2_self
      have h4 : m * 2 ^ (52 - m.log2) < 2 ^ (m.log2 + 1) * 2 ^ (52 - m.log2) := Nat.mul_lt_mul_of_pos_right h3 (Nat.two_pow_pos _)
      rw [← Nat.pow_add, show m.log2 + 1 + (52 - m.log2) = 53 by omega] at h4
      omega
    have hge : 4503599627370496 ≤ m * 2 ^ (52 - m.log2) := by
      have h3 : 2 ^ m.log2 ≤ m := Nat.log2_self_le h0
      have h4 := Nat.mul_le_mul_right (2 ^ (52 - m.log2)) h3
      rw [← Nat.pow_add, show m.log2 + (52 - m.log2) = 52 by omega] at h4
      omega
    have hq : (p + (m.log2 : Int) - 52 + 1074).toNat ≤ 1149 := by omega
    have hr : (p + (m.log2 : Int) - 52 + 1074).toNat * 4503599627370496 + m * 2 ^ (52 - m.log2) < 9218868437227405312 := by omega
    rw [Nat.min_eq_left (Nat.le_of_lt hr)]
    have hi : FloatKind.f64.format.infRung = 9218868437227405312 := by decide
    have e1 := rungOf_word .f64 s (x := (p + (m.log2 : Int) - 52 + 1074).toNat * 4503599627370496 + m * 2 ^ (52 - m.log2)) (by rw [hi]; omega)
    have e2 := isNeg_word (k := .f64) s (x := (p + (m.log2 : Int) - 52 + 1074).toNat * 4503599627370496 + m * 2 ^ (52 - m.log2)) (by rw [hi]; omega)
    have e1' : rungOf .f64 (double.word s ((p + (m.log2 : Int) - 52 + 1074).toNat * 4503599627370496 + m * 2 ^ (52 - m.log2))) = _ := e1
    refine ⟨by rw [e1', hi]; exact hr, e2, ?_⟩
    rw [e1']
    have hb : FloatKind.f64.format.binade = 4503599627370496 := by decide
    unfold mag
    rw [hb, if_neg (by omega)]
    have d1 : ((p + (m.log2 : Int) - 52 + 1074).toNat * 4503599627370496 + m * 2 ^ (52 - m.log2)) % 4503599627370496 = m * 2 ^ (52 - m.log2) - 4503599627370496 := by omega
    have d2 : ((p + (m.log2 : Int) - 52 + 1074).toNat * 4503599627370496 + m * 2 ^ (52 - m.log2)) / 4503599627370496 - 1 = (p + (m.log2 : Int) - 52 + 1074).toNat := by omega
    rw [d1, d2, show 4503599627370496 + (m * 2 ^ (52 - m.log2) - 4503599627370496) = m * 2 ^ (52 - m.log2) by omega, Nat.mul_assoc, ← Nat.pow_add]
    congr 2
    omega

/-- How many places a float64 reaches below a float32. -/
def wideUp : Nat := 925

theorem nan_wide {a : Nat} (s : Bool) (t : Nat) (h : single.read a = .nan s t) : isNanW .f64 (double.write (.nan s t)) = true := by
  have ht : 0 < t ∧ t < 2 ^ 31 := by
    have hb : single.binade = 8388608 := by decide
    have hi : single.infRung = 2139095040 := by decide
    have hs : single.signWeight = 2147483648 := by decide
    unfold Format.read at h
    rw [hb, hi, hs] at h
    dsimp only at h
    have hx := Nat.mod_lt a (show 0 < 2147483648 by omega)
    generalize a % 2147483648 = x at h hx
    split at h
    · cases h
    · split at h
      · cases h
      · split at h
        · cases h
        · cases h; omega
  have hb : double.binade = 4503599627370496 := by decide
  have hi : double.infRung = 9218868437227405312 := by decide
  have hs : double.signWeight = 9223372036854775808 := by decide
  rw [isNanW_eq]
  show decide (double.infRung < (double.word s (double.infRung + t % double.binade)) % double.signWeight) = true
  unfold Format.word
  rw [hb, hi, hs]
  rw [decide_eq_true_eq]
  split <;> omega

/-- What a float32 is as a float64. -/
theorem widen_read (a : Nat) : (∃ s m p, single.read a = .number s m p ∧ rungOf .f64 (double.nearest s m p) < FloatKind.f64.format.infRung ∧ Fl.conv .f32 .f64 (some a) = some (double.nearest s m p) ∧
      worth .f64 (double.nearest s m p) = worth .f32 a * ((2 ^ wideUp : Nat) : Int) ∧ rungOf .f32 a < FloatKind.f32.format.infRung) ∨
    (∃ s, single.read a = .infinity s ∧ Fl.conv .f32 .f64 (some a) = some (double.word s FloatKind.f64.format.infRung)) ∨
    (∃ s t, single.read a = .nan s t ∧ ∃ w, Fl.conv .f32 .f64 (some a) = some w ∧ isNanW .f64 w = true) := by
  have hne : FloatKind.f32 ≠ FloatKind.f64 := by decide
  rcases Nat.lt_or_ge (rungOf .f32 a) FloatKind.f32.format.infRung with hf | hf
  · obtain ⟨m, p, e, e2, e3⟩ := read_fin hf
    have e : single.read a = .number (isNeg .f32 a) m p := e
    have hb : m < 2 ^ 24 ∧ -149 ≤ p ∧ p ≤ 104 := by
      rcases read32 a with ⟨s, m', p', h, h1⟩ | ⟨s, h⟩ | ⟨s, t, h⟩
      · rw [e] at h; cases h; exact h1
      · rw [e] at h; cases h
      · rw [e] at h; cases h
    obtain ⟨w1, w2, w3⟩ := widen_worth (isNeg .f32 a) hb.1 hb.2.1 hb.2.2
    refine .inl ⟨_, m, p, e, w1, ?_, ?_, hf⟩
    · have hd : FloatKind.f32.decode a = .number (isNeg .f32 a) m p := e
      simp only [Fl.conv, if_neg hne, hd]; rfl
    · have hl : FloatKind.f32.format.leastPlace = -149 := by decide
      rw [hl] at e3
      have h925 : m * 2 ^ (p + 1074).toNat = mag .f32 (rungOf .f32 a) * 2 ^ wideUp := by
        rw [← e3, Nat.mul_assoc, ← Nat.pow_add, show (p - -149).toNat + wideUp = (p + 1074).toNat by unfold wideUp; omega]
      unfold worth
      rw [w2, w3, h925]
      cases isNeg .f32 a
      · simp only [Bool.false_eq_true, if_false, Int.natCast_mul]
      · simp only [if_true, Int.natCast_mul, Int.neg_mul]
  · rcases Nat.lt_or_eq_of_le hf with hf | hf
    · have hn : isNanW .f32 a = true := by rw [isNanW_eq]; simpa [rungOf] using hf
      obtain ⟨s, t, e⟩ := read_nan hn
      refine .inr (.inr ⟨s, t, e, double.write (.nan s t), ?_⟩)
      have hd : FloatKind.f32.decode a = .nan s t := e
      simp only [Fl.conv, if_neg hne, hd]
      exact ⟨rfl, nan_wide s t e⟩
    · have e : single.read a = .infinity (isNeg .f32 a) := read_inf hf.symm
      have hd : FloatKind.f32.decode a = .infinity (isNeg .f32 a) := e
      exact .inr (.inl ⟨_, e, by simp only [Fl.conv, if_neg hne, hd]; rfl⟩)

theorem word_inf_read (k : FloatKind) (s : Bool) : k.format.read (k.format.word s k.format.infRung) = .infinity s := by cases k <;> cases s <;> rfl

/-- The order of two float32 stays. -/
theorem widen_ord (x y : Fl) : Fl.ord .f64 (Fl.conv .f32 .f64 x) (Fl.conv .f32 .f64 y) = Fl.ord .f32 x y := by
  cases x with
  | none => cases y <;> rfl
  | some a =>
    cases y with
    | none =>
      have : Fl.conv .f32 .f64 none = none := rfl
      rw [this]
      cases Fl.conv .f32 .f64 (some a) <;> rfl
    | some b =>
      have nanw : ∀ {w : Nat}, isNanW .f64 w = true → (double.read w).isNaN = true := fun h => h
      show Fl.ord .f64 (Fl.conv .f32 .f64 (some a)) (Fl.conv .f32 .f64 (some b)) = (single.read a).order (single.read b)
      rcases widen_read a with ⟨s, m, p, ha, a1, a2, a3, a4⟩ | ⟨s, ha, a1⟩ | ⟨s, t, ha, w, a1, a2⟩
      · obtain ⟨m', p', e', _, _⟩ := read_fin a1
        have e' : double.read (double.nearest s m p) = .number _ m' p' := e'
        rcases widen_read b with ⟨t, n, q, hb, b1, b2, b3, b4⟩ | ⟨t, hb, b1⟩ | ⟨t, u, hb, v, b1, b2⟩
        · rw [a2, b2]
          have h1 : (single.read a).order (single.read b) = some (compare (worth .f32 a) (worth .f32 b)) := order_fin (k := .f32) a4 b4
          have h2 : double.order (double.nearest s m p) (double.nearest t n q) = some (compare (worth .f64 (double.nearest s m p)) (worth .f64 (double.nearest t n q))) := order_fin (k := .f64) a1 b1
          rw [h1]
          show double.order (double.nearest s m p) (double.nearest t n q) = _
          rw [h2, a3, b3, compare_mul (Int.natCast_pos.2 (Nat.two_pow_pos _))]
        · rw [a2, b1, ha, hb]
          have w2 : double.read (double.word t FloatKind.f64.format.infRung) = .infinity t := word_inf_read .f64 t
          show (double.read (double.nearest s m p)).order (double.read (double.word t FloatKind.f64.format.infRung)) = _
          rw [e', w2]; rfl
        · rw [a2, b1, hb, order_nan_right (a := single.read a) rfl]
          show (double.read (double.nearest s m p)).order (double.read v) = none
          exact order_nan_right (nanw b2)
      · have w1 : double.read (double.word s FloatKind.f64.format.infRung) = .infinity s := word_inf_read .f64 s
        rcases widen_read b with ⟨t, n, q, hb, b1, b2, b3, b4⟩ | ⟨t, hb, b1⟩ | ⟨t, u, hb, v, b1, b2⟩
        · obtain ⟨m', p', e', _, _⟩ := read_fin b1
          have e' : double.read (double.nearest t n q) = .number _ m' p' := e'
          rw [a1, b2, ha, hb]
          show (double.read (double.word s FloatKind.f64.format.infRung)).order (double.read (double.nearest t n q)) = _
          rw [w1, e']; rfl
        · have w2 : double.read (double.word t FloatKind.f64.format.infRung) = .infinity t := word_inf_read .f64 t
          rw [a1, b1, ha, hb]
          show (double.read (double.word s FloatKind.f64.format.infRung)).order (double.read (double.word t FloatKind.f64.format.infRung)) = _
          rw [w1, w2]
        · rw [a1, b1, hb, order_nan_right (a := single.read a) rfl]
          show (double.read (double.word s FloatKind.f64.format.infRung)).order (double.read v) = none
          exact order_nan_right (nanw b2)
      · rw [a1, ha, order_nan_left (b := single.read b) rfl]
        cases hb : Fl.conv .f32 .f64 (some b) with
        | none => rfl
        | some v =>
          show (double.read w).order (double.read v) = none
          exact order_nan_left (nanw a2)

/-- Finite as a float32, finite as a float64. -/
theorem widen_num (x : Fl) : IsNum .f64 (Fl.conv .f32 .f64 x) ↔ IsNum .f32 x := by
  cases x with
  | none => constructor <;> rintro ⟨_, h, _⟩ <;> cases h
  | some a =>
    rcases widen_read a with ⟨s, m, p, ha, a1, a2, a3, a4⟩ | ⟨s, ha, a1⟩ | ⟨s, t, ha, w, a1, a2⟩
    · rw [a2]
      obtain ⟨m', p', e', _, _⟩ := read_fin a1
      exact ⟨fun _ => ⟨a, rfl, _, _, _, ha⟩, fun _ => ⟨_, rfl, _, _, _, e'⟩⟩
    · rw [a1]
      constructor
      · rintro ⟨w, h, s', m', p', h'⟩
        cases h
        have e : double.read (double.word s FloatKind.f64.format.infRung) = .infinity s := word_inf_read .f64 s
        have h' : double.read (double.word s FloatKind.f64.format.infRung) = .number s' m' p' := h'
        rw [e] at h'; cases h'
      · rintro ⟨w, h, s', m', p', h'⟩
        cases h
        have h' : single.read a = .number s' m' p' := h'
        rw [ha] at h'; cases h'
    · rw [a1]
      constructor
      · rintro ⟨v, h, s', m', p', h'⟩
        cases h
        unfold isNanW at a2
        rw [h'] at a2; cases a2
      · rintro ⟨v, h, s', m', p', h'⟩
        cases h
        have h' : single.read a = .number s' m' p' := h'
        rw [ha] at h'; cases h'

theorem widen_fin (x : Fl) : finF .f64 (Fl.conv .f32 .f64 x) = finF .f32 x := by
  have h1 := finF_iff .f64 (Fl.conv .f32 .f64 x)
  have h2 := finF_iff .f32 x
  have h3 := widen_num x
  cases ha : finF .f64 (Fl.conv .f32 .f64 x) <;> cases hb : finF .f32 x <;> simp_all
end Go.Sx
