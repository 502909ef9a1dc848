/-
  Sx, part R: a float32 as a float64: nothing is lost.
-/
import Derived.Test.YtaflnmmnaiaceaaSxQ
namespace Go.Sx
open Ieee

theorem read32 (w : Nat) : (∃ s m p, single.read w = .number s m p ∧ m < 2 ^ 24 ∧ -149 ≤ p ∧ p ≤ 104) ∨ (∃ s, single.read w = .infinity s) ∨ ∃ s t, single.read w = .nan s t := by
  have hb : single.binade = 8388608 := by decide
  have hi : single.infRung = 2139095040 := by decide
  have hl : single.leastPlace = -149 := by decide
  unfold Format.read
  rw [hb, hi, hl]
  dsimp only
  generalize w % single.signWeight = x
  split
  · exact .inl ⟨_, _, _, rfl, by omega, by omega, by omega⟩
  · split
    · exact .inl ⟨_, _, _, rfl, by omega, by omega, by omega⟩
    · split
      · exact .inr (.inl ⟨_, rfl⟩)
      · exact .inr (.inr ⟨_, _, rfl⟩)

theorem cut_none (n : Nat) (s : Bool) : Toward.even.cut s n 0 = n := by
  unfold Toward.cut
  simp [Nat.mod_one]

theorem rungOf_word (k : FloatKind) (s : Bool) {x : Nat} (h : x ≤ k.format.infRung) : rungOf k (k.format.word s x) = x := by
  obtain ⟨_, h1, h2, _, _⟩ := fmt_consts k
  unfold rungOf Format.word
  split
  · rw [Nat.add_mod_left, Nat.mod_eq_of_lt (by omega)]
  · exact Nat.mod_eq_of_lt (by omega)

/-- The rung of a number that a float64 holds whole. -/
theorem nearest64 (s : Bool) {m : Nat} {p : Int} (h0 : m ≠ 0) (hm : m < 2 ^ 53) (hp : -1022 ≤ p + m.log2) : double.nearest s m p = double.word s (min ((p + m.log2 - 52 + 1074).toNat * 4503599627370496 + m * 2 ^ (52 - m.log2)) 9218868437227405312) := by
  have hb : double.binade = 4503599627370496 := by decide
  have hi : double.infRung = 9218868437227405312 := by decide
  have hl : double.leastPlace = -1074 := by decide
  have hf : double.fractionBits = 52 := rfl
  have hL : m.log2 < 53 := (Nat.log2_lt h0).2 hm
  unfold Format.nearest
  rw [if_neg h0, hb, hi, hl, hf]
  dsimp only
  have hmax : max (p + (m.log2 : Int) - ((52 : Nat) : Int)) (-1074) = p + m.log2 - 52 := by omega
  rw [hmax]
  have e1 : (p - (p + (m.log2 : Int) - 52)).toNat = 52 - m.log2 := by omega
  have e2 : (p + (m.log2 : Int) - 52 - p).toNat = 0 := by omega
  have e3 : (p + (m.log2 : Int) - 52 - -1074).toNat = (p + m.log2 - 52 + 1074).toNat := by omega
  rw [e1, e2, e3, cut_none, Nat.shiftLeft_eq]

theorem widen_ok (a : Nat) : Fl.convOk .f32 .f64 (cn .f32 a) = true := by
  cases hn : isNanW .f32 a with
  | true => rw [cn_of_nan hn]; rfl
  | false =>
    rw [cn_of_not hn]
    show (decide (FloatKind.f32 = FloatKind.f64) || (FloatKind.f32.decode a).isInfinity || !(FloatKind.f64.decode (FloatKind.f64.encode (FloatKind.f32.decode a))).isInfinity) = true
    rcases read32 a with ⟨s, m, p, h, hm, h1, h2⟩ | ⟨s, h⟩ | ⟨s, t, h⟩
    · have h : FloatKind.f32.decode a = .number s m p := h
      rw [h]
      have key : (FloatKind.f64.decode (FloatKind.f64.encode (.number s m p))).isInfinity = false := by
        show (double.read (double.nearest s m p)).isInfinity = false
        by_cases h0 : m = 0
        · subst h0
          have : double.nearest s 0 p = double.word s 0 := by unfold Format.nearest; simp
          rw [this]; cases s <;> decide
        · have hL : m.log2 < 24 := (Nat.log2_lt h0).2 hm
          rw [nearest64 s h0 (by omega) (by omega)]
          have hlt : m * 2 ^ (52 - m.log2) < 9007199254740992 := by
            have h3 : m < 2 ^ (m.log2 + 1) := Nat.lt_log2_self
            have h4 : m * 2 ^ (52 - m.log2) < 2 ^ (m.log2 + 1) * 2 ^ (52 - m.log2) := Nat.mul_lt_mul_of_pos_right h3 (Nat.two_pow_pos _)
            rw [← Nat.pow_add, show m.log2 + 1 + (52 - m.log2) = 53 by omega] at h4
            omega
          have hr : min ((p + (m.log2 : Int) - 52 + 1074).toNat * 4503599627370496 + m * 2 ^ (52 - m.log2)) 9218868437227405312 < 9218868437227405312 := by
            have : (p + (m.log2 : Int) - 52 + 1074).toNat ≤ 1149 := by omega
            omega
          have hrung := rungOf_word .f64 s (Nat.le_of_lt hr)
          have hrung' : rungOf .f64 (double.word s (min ((p + (m.log2 : Int) - 52 + 1074).toNat * 4503599627370496 + m * 2 ^ (52 - m.log2)) 9218868437227405312)) < FloatKind.f64.format.infRung := by
            have : rungOf .f64 (double.word s (min ((p + (m.log2 : Int) - 52 + 1074).toNat * 4503599627370496 + m * 2 ^ (52 - m.log2)) 9218868437227405312)) = _ := hrung
            rw [this]; exact hr
          obtain ⟨m', p', e, _, _⟩ := read_fin hrung'
          have e : double.read (double.word s (min ((p + (m.log2 : Int) - 52 + 1074).toNat * 4503599627370496 + m * 2 ^ (52 - m.log2)) 9218868437227405312)) = _ := e
          rw [e]; rfl
      rw [key]; simp
    · have h : FloatKind.f32.decode a = .infinity s := h
      rw [h]; simp [Datum.isInfinity]
    · have h : FloatKind.f32.format.read a = .nan s t := h
      unfold isNanW at hn
      rw [h] at hn; cases hn

end Go.Sx
