/-
  Sx, part Fm: sums and halves of neighbours are exact in double precision, and are rounded to the nearer one, in the middle to the even one.
-/
import Derived.Test.YtcloacigldklkaaDoorSxGf
import Derived.Test.YtcloacigldklkaaDoorSxFo
namespace Go.Sx
open Ieee

section
variable {k : FloatKind}
/-- A short number at any place is a word's worth. -/
theorem exact_mag {m j : Nat} (hm : m < 2 ^ (k.format.fractionBits + 1)) (hfin : m * 2 ^ j < mag k k.format.infRung) : ∃ R, R < k.format.infRung ∧ mag k R = m * 2 ^ j := by
  have hB := binade_pow (k := k)
  have hBpos : 0 < k.format.binade := by rw [hB]; exact Nat.two_pow_pos _
  have fin : ∀ {R : Nat}, mag k R = m * 2 ^ j → R < k.format.infRung := fun {R} h => by
    rcases Nat.lt_or_ge R k.format.infRung with h1 | h1
    · exact h1
    · have := mag_le k h1; omega
  by_cases hn : m * 2 ^ j < k.format.binade
  · have : mag k (m * 2 ^ j) = m * 2 ^ j := by unfold mag; rw [if_pos hn]
    exact ⟨_, fin this, this⟩
  · have hm0 : m ≠ 0 := by rintro rfl; simp at hn; omega
    have h1 : m.log2 < k.format.fractionBits + 1 := (Nat.log2_lt hm0).2 hm
    have a1 : 2 ^ m.log2 ≤ m := Nat.log2_self_le hm0
    have a2 : m < 2 ^ (m.log2 + 1) := Nat.lt_log2_self
    have hL : k.format.fractionBits ≤ m.log2 + j := by
      have b1 : m * 2 ^ j < 2 ^ (m.log2 + 1 + j) := by rw [Nat.pow_add]; exact Nat.mul_lt_mul_of_pos_right a2 (Nat.two_pow_pos _)
      have b2 : 2 ^ k.format.fractionBits < 2 ^ (m.log2 + 1 + j) := by rw [← hB]; omega
      have := (Nat.pow_lt_pow_iff_right (by omega : 1 < 2)).1 b2
      omega
    generalize he : m.log2 + j - k.format.fractionBits = e
    generalize hd : k.format.fractionBits - m.log2 = d
    have hj : j = d + e := by omega
    have hc1 : k.format.binade ≤ m * 2 ^ d := by
      rw [hB, show k.format.fractionBits = m.log2 + d by omega, Nat.pow_add]
      exact Nat.mul_le_mul_right _ a1
    have hc2 : m * 2 ^ d < 2 * k.format.binade := by
      have : m * 2 ^ d < 2 ^ (m.log2 + 1 + d) := by rw [Nat.pow_add]; exact Nat.mul_lt_mul_of_pos_right a2 (Nat.two_pow_pos _)
      rw [show m.log2 + 1 + d = k.format.fractionBits + 1 by omega, Nat.pow_succ, ← hB] at this
      omega
    have hR : mag k (e * k.format.binade + m * 2 ^ d) = m * 2 ^ j := by
      generalize hcd : m * 2 ^ d = c at hc1 hc2 ⊢
      have q0 : e * k.format.binade + c = (c - k.format.binade) + (e + 1) * k.format.binade := by rw [Nat.add_mul]; omega
      have q1 : (e * k.format.binade + c) / k.format.binade = e + 1 := by rw [q0, Nat.add_mul_div_right _ _ hBpos, Nat.div_eq_of_lt (by omega)]; omega
      have q2 : (e * k.format.binade + c) % k.format.binade = c - k.format.binade := by rw [q0, Nat.add_mul_mod_self_right, Nat.mod_eq_of_lt (by omega)]
      unfold mag
      rw [if_neg (by omega), q1, q2, hj, Nat.pow_add, ← Nat.mul_assoc, hcd]
      congr 1
      omega
    exact ⟨_, fin hR, hR⟩

/-- Such a number is what it is rounded to. -/
theorem exact_key {V : Int} {m j : Nat} (hV : V.natAbs = m * 2 ^ j) (hm : m < 2 ^ (k.format.fractionBits + 1)) (hfin : m * 2 ^ j < mag k k.format.infRung) :
    valK k (rndI k V k.format.leastPlace) = V ∧ (rndI k V k.format.leastPlace).natAbs < k.format.infRung := by
  obtain ⟨R, h1, h2⟩ := exact_mag hm hfin
  have h3 : rungN k V.natAbs k.format.leastPlace = R := by rw [hV, ← h2]; exact rung_mag (by omega)
  have h0 := mag_zero k
  unfold rndI
  rw [h3]
  split
  · refine ⟨?_, by omega⟩
    unfold valK
    split
    · rw [Int.natAbs_neg, Int.natAbs_natCast, h2, ← hV]; omega
    · have : R = 0 := by omega
      rw [this, h0] at h2
      omega
  · refine ⟨?_, by omega⟩
    unfold valK
    rw [if_neg (by omega), Int.natAbs_natCast, h2, ← hV]; omega
end

/-! ### In double precision, in units of the 151st place -/

def upN : Nat := 923
def topN : Nat := 2098
def halfN : Nat := 1073
theorem upN_eq : upN = 923 := rfl
theorem topN_eq : topN = 2098 := rfl
theorem halfN_eq : halfN = 1073 := rfl

/-- A short number. -/
def Small (z : Int) : Prop := ∃ m j, z.natAbs = m * 2 ^ j ∧ m < 2 ^ 30 ∧ j ≤ 260
def V64 (x : Fl) (v : Int) : Prop := ∃ w, x = some w ∧ Good .f64 w ∧ IsFinW .f64 w ∧ worth .f64 w = v * ((2 ^ upN : Nat) : Int)

theorem top64 : mag .f64 FloatKind.f64.format.infRung = 2 ^ topN := by decide +kernel
theorem fb64 : FloatKind.f64.format.fractionBits = 52 := rfl
theorem lp64 : FloatKind.f64.format.leastPlace = -1074 := by decide
theorem lp32 : FloatKind.f32.format.leastPlace = -149 := by decide
theorem inf32 : FloatKind.f32.format.infRung = 2139095040 := by decide
theorem inf64 : FloatKind.f64.format.infRung = 9218868437227405312 := by decide

theorem small_fin {v : Int} (h : Small v) : ∃ m j, (v * ((2 ^ upN : Nat) : Int)).natAbs = m * 2 ^ j ∧ m < 2 ^ (FloatKind.f64.format.fractionBits + 1) ∧ m * 2 ^ j < mag .f64 FloatKind.f64.format.infRung := by
  obtain ⟨m, j, h1, h2, h3⟩ := h
  refine ⟨m, j + upN, ?_, ?_, ?_⟩
  · rw [Int.natAbs_mul, h1, Int.natAbs_natCast, Nat.pow_add, Nat.mul_assoc]
  · rw [fb64]; exact Nat.lt_trans h2 (by decide)
  · rw [top64]
    have : m * 2 ^ (j + upN) < 2 ^ 30 * 2 ^ (j + upN) := Nat.mul_lt_mul_of_pos_right h2 (Nat.two_pow_pos _)
    rw [← Nat.pow_add] at this
    exact Nat.lt_of_lt_of_le this (two_pow_le (by rw [upN_eq, topN_eq]; omega))

/-- What a key that was rounded to a short number says. -/
theorem v64_of {w : Nat} {v : Int} (hg : Good .f64 w) (hs : Small v) (hk : key .f64 w = rndI .f64 (v * ((2 ^ upN : Nat) : Int)) (-1074)) : V64 (some w) v := by
  obtain ⟨m, j, h1, h2, h3⟩ := small_fin hs
  obtain ⟨q1, q2⟩ := exact_key h1 h2 h3
  rw [lp64] at q1 q2
  refine ⟨w, rfl, hg, Good.fin (by rw [hk]; exact q2), ?_⟩
  rw [worth_key, hk, q1]

theorem v64_conv {a : Nat} (hf : IsFinW .f32 a) (hs : Small (4 * worth .f32 a)) : V64 (Fl.conv .f32 .f64 (some a)) (4 * worth .f32 a) := by
  obtain ⟨w, e, hg, hk⟩ := conv_key (s := .f32) (d := .f64) (by decide) hf
  rw [e]
  refine v64_of hg hs ?_
  rw [hk, lp32, rndI_up, Int.mul_comm 4]
  have := rndI_up (k := .f64) (worth .f32 a) 2 (-1074 + (upN : Int))
  rw [show ((2 ^ 2 : Nat) : Int) = 4 from rfl] at this
  rw [this]
  congr 1

theorem v64_add {x y : Fl} {u v : Int} (hx : V64 x u) (hy : V64 y v) (hs : Small (u + v)) : V64 (Fl.add .f64 x y) (u + v) := by
  obtain ⟨a, rfl, ga, fa, wa⟩ := hx
  obtain ⟨b, rfl, gb, fb, wb⟩ := hy
  obtain ⟨w, e, hk⟩ := add_key fa fb
  have e' : Fl.add .f64 (some a) (some b) = some w := e
  rw [e']
  refine v64_of (good_op (op := .add) (x := a) (y := b) e) hs ?_
  rw [hk, wa, wb, lp64, Int.add_mul]

theorem half_fin : IsFinW .f64 4602678819172646912 := by unfold IsFinW; decide +kernel
theorem half_worth : worth .f64 4602678819172646912 = ((2 ^ halfN : Nat) : Int) := by decide +kernel
theorem v64_half {x : Fl} {u : Int} (hx : V64 x (2 * u)) (hs : Small u) : V64 (Fl.mul .f64 (some 4602678819172646912) x) u := by
  obtain ⟨a, rfl, ga, fa, wa⟩ := hx
  obtain ⟨w, e, hk⟩ := mul_key half_fin fa
  have e' : Fl.mul .f64 (some 4602678819172646912) (some a) = some w := e
  rw [e']
  refine v64_of (good_op (op := .mul) (x := 4602678819172646912) (y := a) e) hs ?_
  have h1 : ((2 ^ halfN : Nat) : Int) * (2 * u * ((2 ^ upN : Nat) : Int)) = u * ((2 ^ upN : Nat) : Int) * ((2 ^ (halfN + 1) : Nat) : Int) := by
    rw [Nat.pow_succ, Int.natCast_mul]
    generalize ((2 ^ halfN : Nat) : Int) = A
    generalize ((2 ^ upN : Nat) : Int) = B
    show A * (2 * u * B) = u * B * (A * 2)
    rw [Int.mul_comm A 2, ← Int.mul_assoc (u * B), Int.mul_comm (u * B) 2, Int.mul_comm A, Int.mul_assoc 2 u B]
  rw [hk, half_worth, wa, h1, rndI_up, lp64]
  congr 1

theorem v64_narrow {x : Fl} {u : Int} (hx : V64 x u) : ∃ w, Fl.conv .f64 .f32 x = some w ∧ Good .f32 w ∧ key .f32 w = rndI .f32 u (-151) := by
  obtain ⟨a, rfl, ga, fa, wa⟩ := hx
  obtain ⟨w, e, hg, hk⟩ := conv_key (s := .f64) (d := .f32) (by decide) fa
  refine ⟨w, e, hg, ?_⟩
  rw [hk, wa, lp64, rndI_up]
  congr 1
theorem conv_okOf {x : Fl} {w : Nat} (h : Fl.conv .f64 .f32 x = some w) (hf : IsFinW .f32 w) : Fl.convOk .f64 .f32 x = true := by
  cases x with
  | none => rfl
  | some a =>
    have h : some (FloatKind.f32.encode (FloatKind.f64.decode a)) = some w := h
    cases h
    obtain ⟨s, m, p, e, _⟩ := read_worth hf
    have e : FloatKind.f32.decode (FloatKind.f32.encode (FloatKind.f64.decode a)) = .number s m p := e
    show (decide (FloatKind.f64 = FloatKind.f32) || (FloatKind.f64.decode a).isInfinity || !(FloatKind.f32.decode (FloatKind.f32.encode (FloatKind.f64.decode a))).isInfinity) = true
    rw [e]
    simp [Datum.isInfinity]

/-! ### Neighbours in single precision -/

/-- A rung and the next one. -/
theorem step32 (r : Nat) : ∃ M e, mag .f32 r = M * 2 ^ e ∧ mag .f32 (r + 1) = (M + 1) * 2 ^ e ∧ r = e * 8388608 + M ∧ M + 1 ≤ 16777216 ∧ (e = 0 ∨ 8388608 ≤ M) := by
  have hB : FloatKind.f32.format.binade = 8388608 := by decide
  unfold mag
  rw [hB]
  by_cases h : r < 8388608
  · refine ⟨r, 0, by rw [if_pos h]; omega, ?_, by omega, by omega, .inl rfl⟩
    by_cases h' : r + 1 < 8388608
    · rw [if_pos h']; omega
    · have : r + 1 = 8388608 := by omega
      rw [this]; decide
  · refine ⟨8388608 + r % 8388608, r / 8388608 - 1, by rw [if_neg h], ?_, by omega, by omega, .inr (by omega)⟩
    rw [if_neg (by omega)]
    by_cases h' : r % 8388608 + 1 < 8388608
    · rw [show (r + 1) % 8388608 = r % 8388608 + 1 by omega, show (r + 1) / 8388608 = r / 8388608 by omega]
      rfl
    · rw [show (r + 1) % 8388608 = 0 by omega, show (r + 1) / 8388608 = r / 8388608 - 1 + 1 + 1 by omega, show 8388608 + r % 8388608 + 1 = 8388608 * 2 by omega]
      rw [Nat.add_zero, Nat.add_sub_cancel, Nat.pow_succ, Nat.mul_assoc, Nat.mul_comm 2]

theorem rung_at {e n g : Nat} {d : Int} {q : Nat} (hn : n ≠ 0) (hp : placeOf .f32 n ((e : Int) - 149 - d) = (e : Int) - 149) (hd : d = (g : Nat)) (hq : rhe n (2 ^ g) = q) (hle : e * 8388608 + q ≤ 2139095040) : rungN .f32 n ((e : Int) - 149 - d) = e * 8388608 + q := by
  have hB : FloatKind.f32.format.binade = 8388608 := by decide
  unfold rungN
  rw [if_neg hn, hp, lp32, inf32, hB]
  rw [show ((e : Int) - 149 - d - ((e : Int) - 149)).toNat = 0 by omega, show ((e : Int) - 149 - ((e : Int) - 149 - d)).toNat = g by omega, show ((e : Int) - 149 - -149).toNat = e by omega, Nat.pow_zero, Nat.mul_one, hq]
  exact Nat.min_eq_left hle

theorem place32 {n e : Nat} {g : Nat} (hn : n ≠ 0) (h1 : n < 2 ^ (24 + g)) (h2 : e = 0 ∨ 2 ^ (23 + g) ≤ n) : placeOf .f32 n ((e : Int) - 149 - (g : Nat)) = (e : Int) - 149 := by
  have hl : n.log2 < 24 + g := (Nat.log2_lt hn).2 h1
  have hf : FloatKind.f32.format.fractionBits = 23 := rfl
  unfold placeOf
  rw [lp32, hf]
  rcases h2 with rfl | h2
  · omega
  · have : 23 + g ≤ n.log2 := (Nat.le_log2 hn).2 h2
    omega

theorem p25 : 2 ^ (24 + 1) = 33554432 := by decide
theorem p24 : 2 ^ (23 + 1) = 16777216 := by decide
theorem p26 : 2 ^ (24 + 2) = 67108864 := by decide
theorem p25' : 2 ^ (23 + 2) = 33554432 := by decide
theorem mid32 {M e : Nat} (h1 : M + 1 ≤ 16777216) (h2 : e = 0 ∨ 8388608 ≤ M) (hle : e * 8388608 + M < 2139095040) : rungN .f32 (2 * M + 1) ((e : Int) - 150) = e * 8388608 + (M + M % 2) := by
  have hl : e * 8388608 + (M + M % 2) ≤ 2139095040 := by omega
  have hq : rhe (2 * M + 1) (2 ^ 1) = M + M % 2 := by
    unfold rhe
    rw [show 2 ^ 1 = 2 from rfl, show (2 * M + 1) / 2 = M by omega, show (2 * M + 1) % 2 = 1 by omega]
    split <;> omega
  have hp : placeOf .f32 (2 * M + 1) ((e : Int) - 149 - ((1 : Nat) : Int)) = (e : Int) - 149 := place32 (g := 1) (by omega) (by rw [p25]; omega) (by rw [p24]; omega)
  have h := rung_at (e := e) (n := 2 * M + 1) (g := 1) (d := ((1 : Nat) : Int)) (q := M + M % 2) (by omega) hp rfl hq hl
  rw [show (e : Int) - 150 = (e : Int) - 149 - ((1 : Nat) : Int) by omega]
  exact h
theorem low32 {M e : Nat} (h1 : M + 1 ≤ 16777216) (h2 : e = 0 ∨ 8388608 ≤ M) (hle : e * 8388608 + M < 2139095040) : rungN .f32 (4 * M + 1) ((e : Int) - 151) = e * 8388608 + (M) := by
  have hl : e * 8388608 + (M) ≤ 2139095040 := by omega
  have hq : rhe (4 * M + 1) (2 ^ 2) = M := by
    unfold rhe
    rw [show 2 ^ 2 = 4 from rfl, show (4 * M + 1) / 4 = M by omega, show (4 * M + 1) % 4 = 1 by omega]
    split <;> omega
  have hp : placeOf .f32 (4 * M + 1) ((e : Int) - 149 - ((2 : Nat) : Int)) = (e : Int) - 149 := place32 (g := 2) (by omega) (by rw [p26]; omega) (by rw [p25']; omega)
  have h := rung_at (e := e) (n := 4 * M + 1) (g := 2) (d := ((2 : Nat) : Int)) (q := M) (by omega) hp rfl hq hl
  rw [show (e : Int) - 151 = (e : Int) - 149 - ((2 : Nat) : Int) by omega]
  exact h
theorem high32 {M e : Nat} (h1 : M + 1 ≤ 16777216) (h2 : e = 0 ∨ 8388608 ≤ M) (hle : e * 8388608 + M < 2139095040) : rungN .f32 (4 * M + 3) ((e : Int) - 151) = e * 8388608 + (M + 1) := by
  have hl : e * 8388608 + (M + 1) ≤ 2139095040 := by omega
  have hq : rhe (4 * M + 3) (2 ^ 2) = M + 1 := by
    unfold rhe
    rw [show 2 ^ 2 = 4 from rfl, show (4 * M + 3) / 4 = M by omega, show (4 * M + 3) % 4 = 3 by omega]
    split <;> omega
  have hp : placeOf .f32 (4 * M + 3) ((e : Int) - 149 - ((2 : Nat) : Int)) = (e : Int) - 149 := place32 (g := 2) (by omega) (by rw [p26]; omega) (by rw [p25']; omega)
  have h := rung_at (e := e) (n := 4 * M + 3) (g := 2) (d := ((2 : Nat) : Int)) (q := M + 1) (by omega) hp rfl hq hl
  rw [show (e : Int) - 151 = (e : Int) - 149 - ((2 : Nat) : Int) by omega]
  exact h

theorem small_mul {c : Int} {e : Nat} (hc : c.natAbs < 2 ^ 30) (he : e ≤ 260) : Small (c * ((2 ^ e : Nat) : Int)) :=
  ⟨c.natAbs, e, by rw [Int.natAbs_mul]; rfl, hc, he⟩

def midF (x y : Fl) : Fl := Fl.mul .f64 (some 4602678819172646912) (Fl.add .f64 x y)

theorem mid_v {x y : Fl} {u v t : Int} {e : Nat} (he : e ≤ 260) (hx : V64 x (u * ((2 ^ e : Nat) : Int))) (hy : V64 y (v * ((2 ^ e : Nat) : Int))) (h : u + v = 2 * t) (hb : (2 * t).natAbs < 2 ^ 30) : V64 (midF x y) (t * ((2 ^ e : Nat) : Int)) := by
  have e1 : u * ((2 ^ e : Nat) : Int) + v * ((2 ^ e : Nat) : Int) = 2 * (t * ((2 ^ e : Nat) : Int)) := by rw [← Int.add_mul, h, Int.mul_assoc]
  have s1 : Small (u * ((2 ^ e : Nat) : Int) + v * ((2 ^ e : Nat) : Int)) := by
    rw [e1, ← Int.mul_assoc]; exact small_mul hb he
  have h1 := v64_add hx hy s1
  rw [e1] at h1
  exact v64_half h1 (small_mul (by omega) he)

theorem narrow_v {x : Fl} {u : Int} {e : Nat} (hx : V64 x (u * ((2 ^ e : Nat) : Int))) : ∃ w, Fl.conv .f64 .f32 x = some w ∧ Good .f32 w ∧ key .f32 w = rndI .f32 u ((e : Int) - 151) := by
  obtain ⟨w, h1, h2, h3⟩ := v64_narrow hx
  refine ⟨w, h1, h2, ?_⟩
  rw [h3, rndI_up]
  congr 1

/-- The even one of a number and the next. -/
def evenI (z : Int) : Int := if z % 2 = 0 then z else z + 1

/-- Neighbours: their ratio to their distance. -/
theorem steps32 {K : Int} (h1 : -2139095040 < K) (h2 : K + 1 < 2139095040) : ∃ (c : Int) (e : Nat), valK .f32 K = c * ((2 ^ e : Nat) : Int) ∧ valK .f32 (K + 1) = (c + 1) * ((2 ^ e : Nat) : Int) ∧ e ≤ 254 ∧ c.natAbs ≤ 16777216 ∧ (c + 1).natAbs ≤ 16777216 ∧
    rndI .f32 (2 * c + 1) ((e : Int) - 150) = evenI K ∧ rndI .f32 (4 * c + 1) ((e : Int) - 151) = K ∧ rndI .f32 (4 * c + 3) ((e : Int) - 151) = K + 1 := by
  rcases Int.lt_or_le K 0 with hK | hK
  · obtain ⟨M, e, m1, m2, m3, m4, m5⟩ := step32 (-K - 1).toNat
    have hlt : e * 8388608 + M < 2139095040 := by rw [← m3]; omega
    have r1 := mid32 m4 m5 hlt
    have r2 := low32 m4 m5 hlt
    have r3 := high32 m4 m5 hlt
    have hr : ((-K - 1).toNat : Int) = -K - 1 := by omega
    have z0 := mag_zero .f32
    refine ⟨-((M : Int) + 1), e, ?_, ?_, by omega, by omega, by omega, ?_, ?_, ?_⟩
    · unfold valK
      rw [if_pos hK, show K.natAbs = (-K - 1).toNat + 1 by omega, m2, Int.natCast_mul, Int.neg_mul]
      rfl
    · unfold valK
      rw [show -((M : Int) + 1) + 1 = -(M : Int) by omega, Int.neg_mul]
      split
      · rw [show (K + 1).natAbs = (-K - 1).toNat by omega, m1, Int.natCast_mul]
      · have e0 : (-K - 1).toNat = 0 := by omega
        rw [e0, z0] at m1
        rw [show (K + 1).natAbs = 0 by omega, z0]
        have : ((M * 2 ^ e : Nat) : Int) = 0 := by rw [← m1]; rfl
        rw [Int.natCast_mul] at this
        rw [this]; rfl
    · unfold rndI evenI
      rw [if_pos (by omega), show (2 * -((M : Int) + 1) + 1).natAbs = 2 * M + 1 by omega, r1]
      split <;> omega
    · unfold rndI
      rw [if_pos (by omega), show (4 * -((M : Int) + 1) + 1).natAbs = 4 * M + 3 by omega, r3]
      omega
    · unfold rndI
      rw [if_pos (by omega), show (4 * -((M : Int) + 1) + 3).natAbs = 4 * M + 1 by omega, r2]
      omega
  · obtain ⟨M, e, m1, m2, m3, m4, m5⟩ := step32 K.toNat
    have hlt : e * 8388608 + M < 2139095040 := by rw [← m3]; omega
    have r1 := mid32 m4 m5 hlt
    have r2 := low32 m4 m5 hlt
    have r3 := high32 m4 m5 hlt
    refine ⟨(M : Int), e, ?_, ?_, by omega, by omega, by omega, ?_, ?_, ?_⟩
    · unfold valK
      rw [if_neg (by omega), show K.natAbs = K.toNat by omega, m1, Int.natCast_mul]
    · unfold valK
      rw [if_neg (by omega), show (K + 1).natAbs = K.toNat + 1 by omega, m2, Int.natCast_mul]
      rfl
    · unfold rndI evenI
      rw [if_neg (by omega), show (2 * (M : Int) + 1).natAbs = 2 * M + 1 by omega, r1]
      split <;> omega
    · unfold rndI
      rw [if_neg (by omega), show (4 * (M : Int) + 1).natAbs = 4 * M + 1 by omega, r2]
      omega
    · unfold rndI
      rw [if_neg (by omega), show (4 * (M : Int) + 3).natAbs = 4 * M + 3 by omega, r3]
      omega

/-- BETWEEN NEIGHBOURS, THE NEARER ONE; IN THE MIDDLE, THE EVEN ONE. -/
theorem near32 {a b : Nat} (fa : IsFinW .f32 a) (fb : IsFinW .f32 b) (hk : key .f32 b = key .f32 a + 1) (h1 : -2139095040 < key .f32 a) (h2 : key .f32 a + 1 < 2139095040) :
    (∃ w, Fl.conv .f64 .f32 (midF (Fl.conv .f32 .f64 (some a)) (Fl.conv .f32 .f64 (some b))) = some w ∧ Good .f32 w ∧ key .f32 w = evenI (key .f32 a)) ∧
    (∃ w, Fl.conv .f64 .f32 (midF (Fl.conv .f32 .f64 (some a)) (midF (Fl.conv .f32 .f64 (some a)) (Fl.conv .f32 .f64 (some b)))) = some w ∧ Good .f32 w ∧ key .f32 w = key .f32 a) ∧
    (∃ w, Fl.conv .f64 .f32 (midF (Fl.conv .f32 .f64 (some b)) (midF (Fl.conv .f32 .f64 (some a)) (Fl.conv .f32 .f64 (some b)))) = some w ∧ Good .f32 w ∧ key .f32 w = key .f32 a + 1) := by
  obtain ⟨c, e, v1, v2, he, c1, c2, r1, r2, r3⟩ := steps32 h1 h2
  have wa : 4 * worth .f32 a = (4 * c) * ((2 ^ e : Nat) : Int) := by rw [worth_key, v1, Int.mul_assoc]
  have wb : 4 * worth .f32 b = (4 * c + 4) * ((2 ^ e : Nat) : Int) := by rw [worth_key, hk, v2, ← Int.mul_assoc]; congr 1; omega
  have p30 : (2 : Nat) ^ 30 = 1073741824 := by decide
  have xa : V64 (Fl.conv .f32 .f64 (some a)) ((4 * c) * ((2 ^ e : Nat) : Int)) := by rw [← wa]; exact v64_conv fa (by rw [wa]; exact small_mul (by omega) (by omega))
  have xb : V64 (Fl.conv .f32 .f64 (some b)) ((4 * c + 4) * ((2 ^ e : Nat) : Int)) := by rw [← wb]; exact v64_conv fb (by rw [wb]; exact small_mul (by omega) (by omega))
  have m := mid_v (t := 4 * c + 2) (by omega) xa xb (by omega) (by omega)
  have l := mid_v (t := 4 * c + 1) (by omega) xa m (by omega) (by omega)
  have h := mid_v (t := 4 * c + 3) (by omega) xb m (by omega) (by omega)
  refine ⟨?_, ?_, ?_⟩
  · obtain ⟨w, q1, q2, q3⟩ := narrow_v m
    refine ⟨w, q1, q2, ?_⟩
    rw [q3, ← r1, show 4 * c + 2 = (2 * c + 1) * ((2 ^ 1 : Nat) : Int) by omega, rndI_up]
    congr 1
    omega
  · obtain ⟨w, q1, q2, q3⟩ := narrow_v l
    exact ⟨w, q1, q2, by rw [q3, r2]⟩
  · obtain ⟨w, q1, q2, q3⟩ := narrow_v h
    exact ⟨w, q1, q2, by rw [q3, r3]⟩

/-- A float32 is itself when it is widened and narrowed. -/
theorem narrow_widen {a : Nat} (g : Good .f32 a) : Fl.conv .f64 .f32 (Fl.conv .f32 .f64 (some a)) = some a := by
  rcases widen_read a with ⟨s, m, p, h1, h2, h3, h4, h5⟩ | ⟨s, h1, h2⟩ | ⟨s, t, h1, _⟩
  · rw [h3]
    obtain ⟨w, e, hg, hk⟩ := conv_key (s := .f64) (d := .f32) (by decide) (a := double.nearest s m p) h2
    rw [e]
    have hkey : key .f32 w = key .f32 a := by
      rw [hk, h4, lp64, rndI_up, worth_key, show (-1074 : Int) + ((wideUp : Nat) : Int) = FloatKind.f32.format.leastPlace by rw [lp32]; rfl]
      have h5' : rungOf .f32 a ≤ FloatKind.f32.format.infRung := Nat.le_of_lt h5
      have hr := rung_mag h5'
      have z0 := mag_zero .f32
      unfold valK
      have ka := key_abs (k := .f32) a
      rw [ka]
      unfold rndI
      split
      · rename_i hneg
        split
        · rw [Int.natAbs_neg, Int.natAbs_natCast, hr]; omega
        · rename_i hm
          have hz : mag .f32 (rungOf .f32 a) = 0 := by omega
          have : rungOf .f32 a = 0 := mag_inj .f32 (hz.trans z0.symm)
          omega
      · rw [if_neg (by omega), Int.natAbs_natCast, hr]; omega
    have hsg : isNeg .f32 w = isNeg .f32 a := by
      have n1 : isNeg .f32 a = s := by
        obtain ⟨m', p', e1, _⟩ := read_fin h5
        have e1 : single.read a = .number (isNeg .f32 a) m' p' := e1
        rw [h1] at e1
        cases e1; rfl
      obtain ⟨m2, p2, e2, _⟩ := read_fin h2
      have n2 : isNeg .f64 (double.nearest s m p) = s := by
        rw [show double.nearest s m p = FloatKind.f64.format.nearest s m p from rfl, nearest_rung, isNeg_word s (rungN_le m p)]
      rw [n2] at e2
      have hd : FloatKind.f64.decode (double.nearest s m p) = .number s m2 p2 := e2
      have he : some (FloatKind.f32.encode (FloatKind.f64.decode (double.nearest s m p))) = some w := e
      rw [hd] at he
      cases he
      rw [n1]
      show isNeg .f32 (FloatKind.f32.format.nearest s m2 p2) = s
      rw [nearest_rung, isNeg_word s (rungN_le m2 p2)]
    have hrung : rungOf .f32 w = rungOf .f32 a := by rw [← key_abs, ← key_abs, hkey]
    rw [word_ext hg.lt g.lt hsg hrung]
  · have hr : rungOf .f32 a = FloatKind.f32.format.infRung := by
      rcases Nat.lt_or_eq_of_le g.le with h | h
      · obtain ⟨m', p', e1, _⟩ := read_fin h
        have e1 : single.read a = .number (isNeg .f32 a) m' p' := e1
        rw [h1] at e1; cases e1
      · exact h
    have hi := read_inf hr
    have hi : single.read a = .infinity (isNeg .f32 a) := hi
    rw [h1] at hi
    cases hi
    rw [h2]
    have hw := word_parts g.lt
    rw [hr] at hw
    rw [show Fl.conv .f64 .f32 (some (double.word (isNeg .f32 a) FloatKind.f64.format.infRung)) = some (if isNeg .f32 a then FloatKind.f32.format.signWeight + FloatKind.f32.format.infRung else FloatKind.f32.format.infRung) by
      cases isNeg .f32 a <;> decide +kernel]
    congr 1
    generalize isNeg .f32 a = sg at hw
    rw [hw]
    cases sg <;> simp
  · have := g.num
    have hn : FloatKind.f32.format.read a = .nan s t := h1
    unfold isNanW at this
    rw [hn] at this
    cases this
end Go.Sx
