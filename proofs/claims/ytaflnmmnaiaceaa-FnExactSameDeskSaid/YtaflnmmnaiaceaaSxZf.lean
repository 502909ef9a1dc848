/-
  Sx, part Zf: intervals of keys.
-/
import Derived.Test.YtaflnmmnaiaceaaSxZe
namespace Go.Sx
open Ieee

/-- Between two keys; surely not nought. -/
structure Iv where
  lo : Int
  hi : Int
  nz : Bool

def InIv (k : FloatKind) (I : Iv) (x : Fl) : Prop := ∃ w, x = some w ∧ Good k w ∧ I.lo ≤ key k w ∧ key k w ≤ I.hi ∧ (I.nz = true → key k w ≠ 0)

section
variable {k : FloatKind}

def infK (k : FloatKind) : Int := k.format.infRung
def finIv (k : FloatKind) (I : Iv) : Bool := decide (-infK k < I.lo) && decide (I.hi < infK k)
def topIv (k : FloatKind) : Iv := ⟨-infK k, infK k, false⟩
def finTop (k : FloatKind) : Iv := ⟨1 - infK k, infK k - 1, false⟩

theorem fin_of {I : Iv} {w : Nat} (h : finIv k I = true) (h1 : I.lo ≤ key k w) (h2 : key k w ≤ I.hi) : IsFinW k w := by
  unfold finIv at h
  rw [Bool.and_eq_true] at h
  have e1 := of_decide_eq_true h.1
  have e2 := of_decide_eq_true h.2
  unfold infK at e1 e2
  unfold IsFinW
  have := key_abs (k := k) w
  omega

theorem good_op {op : BinOp} {x y w : Nat} (h : fop op k x y = some w) : Good k w := ⟨fop_lt h, fop_not_nan h⟩

def addIv (k : FloatKind) (I J : Iv) : Option Iv :=
  if finIv k I && finIv k J then some ⟨rndI k (valK k I.lo + valK k J.lo) k.format.leastPlace, rndI k (valK k I.hi + valK k J.hi) k.format.leastPlace, false⟩ else none

theorem addIv_ok {I J R : Iv} {x y : Fl} (h : addIv k I J = some R) (hx : InIv k I x) (hy : InIv k J y) : InIv k R (Fl.add k x y) := by
  unfold addIv at h
  split at h
  · rename_i hf
    rw [Bool.and_eq_true] at hf
    cases h
    obtain ⟨a, rfl, ga, a1, a2, _⟩ := hx
    obtain ⟨b, rfl, gb, b1, b2, _⟩ := hy
    obtain ⟨w, hw, hk⟩ := add_key (fin_of hf.1 a1 a2) (fin_of hf.2 b1 b2)
    refine ⟨w, hw, good_op (op := .add) hw, ?_, ?_, fun h => by cases h⟩
    · rw [hk, worth_key, worth_key]
      have := valK_mono (k := k) a1
      have := valK_mono (k := k) b1
      exact rndI_mono (by omega) _
    · rw [hk, worth_key, worth_key]
      have := valK_mono (k := k) a2
      have := valK_mono (k := k) b2
      exact rndI_mono (by omega) _
  · cases h

def subIv (k : FloatKind) (I J : Iv) : Option Iv :=
  if finIv k I && finIv k J then some ⟨rndI k (valK k I.lo - valK k J.hi) k.format.leastPlace, rndI k (valK k I.hi - valK k J.lo) k.format.leastPlace, false⟩ else none

theorem subIv_ok {I J R : Iv} {x y : Fl} (h : subIv k I J = some R) (hx : InIv k I x) (hy : InIv k J y) : InIv k R (Fl.sub k x y) := by
  unfold subIv at h
  split at h
  · rename_i hf
    rw [Bool.and_eq_true] at hf
    cases h
    obtain ⟨a, rfl, ga, a1, a2, _⟩ := hx
    obtain ⟨b, rfl, gb, b1, b2, _⟩ := hy
    obtain ⟨w, hw, hk⟩ := sub_key (fin_of hf.1 a1 a2) (fin_of hf.2 b1 b2)
    refine ⟨w, hw, good_op (op := .sub) hw, ?_, ?_, fun h => by cases h⟩
    · rw [hk, worth_key, worth_key]
      have := valK_mono (k := k) a1
      have := valK_mono (k := k) b2
      exact rndI_mono (by omega) _
    · rw [hk, worth_key, worth_key]
      have := valK_mono (k := k) a2
      have := valK_mono (k := k) b1
      exact rndI_mono (by omega) _
  · cases h

theorem corners {a b p q x y : Int} (ha : a ≤ x) (hb : x ≤ b) (hp : p ≤ y) (hq : y ≤ q) :
    min (min (a * p) (a * q)) (min (b * p) (b * q)) ≤ x * y ∧ x * y ≤ max (max (a * p) (a * q)) (max (b * p) (b * q)) := by
  have h1 : ∀ c : Int, min (c * p) (c * q) ≤ c * y ∧ c * y ≤ max (c * p) (c * q) := by
    intro c
    rcases Int.le_total 0 c with h | h
    · have := Int.mul_le_mul_of_nonneg_left hp h
      have := Int.mul_le_mul_of_nonneg_left hq h
      omega
    · have := Int.mul_le_mul_of_nonpos_left h hp
      have := Int.mul_le_mul_of_nonpos_left h hq
      omega
  have h2 : min (a * y) (b * y) ≤ x * y ∧ x * y ≤ max (a * y) (b * y) := by
    rcases Int.le_total 0 y with h | h
    · have := Int.mul_le_mul_of_nonneg_right ha h
      have := Int.mul_le_mul_of_nonneg_right hb h
      omega
    · have := Int.mul_le_mul_of_nonpos_right ha h
      have := Int.mul_le_mul_of_nonpos_right hb h
      omega
  have := h1 a
  have := h1 b
  omega

def mulIv (k : FloatKind) (I J : Iv) : Option Iv :=
  if finIv k I && finIv k J then
    let a := valK k I.lo
    let b := valK k I.hi
    let p := valK k J.lo
    let q := valK k J.hi
    some ⟨rndI k (min (min (a * p) (a * q)) (min (b * p) (b * q))) (2 * k.format.leastPlace), rndI k (max (max (a * p) (a * q)) (max (b * p) (b * q))) (2 * k.format.leastPlace), false⟩
  else none

theorem mulIv_ok {I J R : Iv} {x y : Fl} (h : mulIv k I J = some R) (hx : InIv k I x) (hy : InIv k J y) : InIv k R (Fl.mul k x y) := by
  unfold mulIv at h
  split at h
  · rename_i hf
    rw [Bool.and_eq_true] at hf
    cases h
    obtain ⟨a, rfl, ga, a1, a2, _⟩ := hx
    obtain ⟨b, rfl, gb, b1, b2, _⟩ := hy
    obtain ⟨w, hw, hk⟩ := mul_key (fin_of hf.1 a1 a2) (fin_of hf.2 b1 b2)
    have hc := corners (valK_mono (k := k) a1) (valK_mono (k := k) a2) (valK_mono (k := k) b1) (valK_mono (k := k) b2)
    refine ⟨w, hw, good_op (op := .mul) hw, ?_, ?_, fun h => by cases h⟩
    · rw [hk, worth_key, worth_key]; exact rndI_mono hc.1 _
    · rw [hk, worth_key, worth_key]; exact rndI_mono hc.2 _
  · cases h

def negIv (I : Iv) : Iv := ⟨-I.hi, -I.lo, I.nz⟩

theorem negIv_ok {I : Iv} {x : Fl} (hx : InIv k I x) : InIv k (negIv I) (Fl.neg k x) := by
  obtain ⟨a, rfl, ga, a1, a2, a3⟩ := hx
  have hk := key_neg (k := k) ga.lt
  refine ⟨_, rfl, ⟨negFloat_lt k ga.lt, ?_⟩, ?_, ?_, fun h => ?_⟩
  · have := ga.num; rw [isNanW_eq] at this ⊢; rw [negFloat_mod k ga.lt]; exact this
  · show -I.hi ≤ key k (Op.negFloat k a); rw [hk]; omega
  · show key k (Op.negFloat k a) ≤ -I.lo; rw [hk]; omega
  · rw [hk]; have := a3 h; omega

def absIv (I : Iv) : Iv :=
  if 0 ≤ I.lo then I else if I.hi ≤ 0 then negIv I else ⟨if I.nz then 1 else 0, max (-I.lo) I.hi, I.nz⟩

theorem absIv_ok {I : Iv} {x : Fl} (hx : InIv k I x) : InIv k (absIv I) (Fl.abs k x) := by
  obtain ⟨a, rfl, ga, a1, a2, a3⟩ := hx
  have hk := key_abs' (k := k) a
  obtain ⟨h0, h1, h2, h3, _⟩ := fmt_consts k
  have hlt := Nat.mod_lt a (show 0 < k.format.signWeight by omega)
  refine ⟨_, rfl, ⟨by omega, ?_⟩, ?_⟩
  · have := ga.num; rw [isNanW_eq] at this ⊢; rw [Nat.mod_mod]; exact this
  · rw [hk]
    unfold absIv negIv
    split
    · refine ⟨by omega, by omega, fun h => ?_⟩
      have := a3 h; omega
    · split
      · refine ⟨by dsimp only; omega, by dsimp only; omega, fun h => ?_⟩
        have := a3 h; omega
      · refine ⟨?_, by dsimp only; omega, fun h => ?_⟩
        · dsimp only
          split
          · rename_i hn; have := a3 hn; omega
          · omega
        · have := a3 h; omega

/-- Division of what is not below nought by what is above it. -/
def divIv (k : FloatKind) (le : Bool) (I J : Iv) : Option Iv :=
  if finIv k I && (finIv k J && (decide (0 ≤ I.lo) && decide (0 < J.lo))) then
    let hi := match k.format.div I.hi.toNat J.lo.toNat with | some w => min (w + 1) k.format.infRung | none => k.format.infRung
    let hi := if mag k I.hi.toNat * 2 ^ (-k.format.leastPlace).toNat ≤ mag k hi * mag k J.lo.toNat then hi else k.format.infRung
    let lo := match k.format.div I.lo.toNat J.hi.toNat with | some w => min (w - 1) k.format.infRung | none => 0
    let lo := if mag k lo * mag k J.hi.toNat ≤ mag k I.lo.toNat * 2 ^ (-k.format.leastPlace).toNat then lo else 0
    let one := rungN k 1 0
    let hi := if le && decide (mag k one = 2 ^ (-k.format.leastPlace).toNat) then min hi one else hi
    some ⟨lo, hi, false⟩
  else none

theorem divIv_ok {I J R : Iv} {le : Bool} {x y : Fl} (h : divIv k le I J = some R) (hx : InIv k I x) (hy : InIv k J y)
    (hle : le = true → ∀ a b, x = some a → y = some b → key k a ≤ key k b) : InIv k R (Fl.div k x y) := by
  unfold divIv at h
  split at h
  · rename_i hf
    simp only [Bool.and_eq_true, decide_eq_true_eq] at hf
    obtain ⟨f1, f2, f3, f4⟩ := hf
    obtain ⟨a, rfl, ga, a1, a2, _⟩ := hx
    obtain ⟨b, rfl, gb, b1, b2, _⟩ := hy
    have hle := fun h => hle h a b rfl rfl
    have ra : rungOf k a = (key k a).toNat := by have := key_abs (k := k) a; omega
    have rb : rungOf k b = (key k b).toNat := by have := key_abs (k := k) b; omega
    obtain ⟨w, hw, hsg, hup, hdn⟩ := div_bounds (fin_of f1 a1 a2) (fin_of f2 b1 b2) (by omega)
    have hg : Good k w := good_op (op := .quo) hw
    have nb : isNeg k b = false := by
      cases hs : isNeg k b with
      | false => rfl
      | true => unfold key at b1 b2; rw [hs] at b1; simp only [if_true] at b1; omega
    have hkw : key k w = rungOf k w := by
      unfold key
      split
      · rename_i hs
        rw [hsg, nb] at hs
        have na : isNeg k a = true := by simpa using hs
        have : rungOf k a = 0 := by
          unfold key at a1; rw [na] at a1; simp only [if_true] at a1; omega
        have h0 := hup 0 (Nat.zero_le _) (by rw [this, mag_zero]; simp)
        omega
      · rfl
    have ma : mag k (rungOf k a) ≤ mag k I.hi.toNat := mag_le k (by omega)
    have ma' : mag k I.lo.toNat ≤ mag k (rungOf k a) := mag_le k (by omega)
    have mb : mag k J.lo.toNat ≤ mag k (rungOf k b) := mag_le k (by omega)
    have mb' : mag k (rungOf k b) ≤ mag k J.hi.toNat := mag_le k (by omega)
    have up : ∀ u, u ≤ k.format.infRung → rungOf k w ≤ (if mag k I.hi.toNat * 2 ^ (-k.format.leastPlace).toNat ≤ mag k u * mag k J.lo.toNat then u else k.format.infRung) := by
      intro u hu
      split
      · rename_i hc
        refine hup u hu ?_
        have c1 := Nat.mul_le_mul_right (2 ^ (-k.format.leastPlace).toNat) ma
        have c2 := Nat.mul_le_mul_left (mag k u) mb
        omega
      · exact hg.le
    have dn : ∀ u, u ≤ k.format.infRung → (if mag k u * mag k J.hi.toNat ≤ mag k I.lo.toNat * 2 ^ (-k.format.leastPlace).toNat then u else 0) ≤ rungOf k w := by
      intro u hu
      split
      · rename_i hc
        refine hdn u hu ?_
        have c1 := Nat.mul_le_mul_right (2 ^ (-k.format.leastPlace).toNat) ma'
        have c2 := Nat.mul_le_mul_left (mag k u) mb'
        omega
      · exact Nat.zero_le _
    cases h
    refine ⟨w, hw, hg, ?_, ?_, fun h => by cases h⟩
    · rw [hkw]
      have := dn (match k.format.div I.lo.toNat J.hi.toNat with | some w => min (w - 1) k.format.infRung | none => 0) (by split <;> omega)
      exact Int.ofNat_le.2 this
    · rw [hkw]
      have h1 := up (match k.format.div I.hi.toNat J.lo.toNat with | some w => min (w + 1) k.format.infRung | none => k.format.infRung) (by split <;> omega)
      refine Int.ofNat_le.2 ?_
      split
      · rename_i hc
        simp only [Bool.and_eq_true, decide_eq_true_eq] at hc
        refine Nat.le_min.2 ⟨h1, hup _ (rungN_le _ _) ?_⟩
        have := hle hc.1
        rw [hc.2, Nat.mul_comm]
        exact Nat.mul_le_mul_left _ (mag_le k (by omega))
      · exact h1
  · cases h

def sqrtIv (k : FloatKind) (I : Iv) : Option Iv :=
  if finIv k I && decide (0 ≤ I.lo) then
    let hi := match k.format.sqrt I.hi.toNat with | some w => min (w + 1) k.format.infRung | none => k.format.infRung
    let hi := if mag k I.hi.toNat * 2 ^ (-k.format.leastPlace).toNat ≤ mag k hi * mag k hi then hi else k.format.infRung
    let lo := match k.format.sqrt I.lo.toNat with | some w => min (w - 1) k.format.infRung | none => 0
    let lo := if mag k lo * mag k lo ≤ mag k I.lo.toNat * 2 ^ (-k.format.leastPlace).toNat then lo else 0
    some ⟨lo, hi, false⟩
  else none

theorem sqrtIv_ok {I R : Iv} {x : Fl} (h : sqrtIv .f64 I = some R) (hx : InIv .f64 I x) : InIv .f64 R (Fl.sqrt x) := by
  unfold sqrtIv at h
  split at h
  · rename_i hf
    simp only [Bool.and_eq_true, decide_eq_true_eq] at hf
    obtain ⟨f1, f2⟩ := hf
    obtain ⟨a, rfl, ga, a1, a2, _⟩ := hx
    have ra : rungOf .f64 a = (key .f64 a).toNat := by have := key_abs (k := .f64) a; omega
    obtain ⟨w, hw, h0, hup, hdn⟩ := sqrt_bounds (fin_of f1 a1 a2) (by omega)
    have hg : Good .f64 w := ⟨FloatKind.f64.format.sqrt_lt hw, map_write_not_nan (fun _ hd => root_not_nan hd) hw⟩
    have hkw : key .f64 w = rungOf .f64 w := by have := key_abs (k := .f64) w; omega
    have ma : mag .f64 (rungOf .f64 a) ≤ mag .f64 I.hi.toNat := mag_le _ (by omega)
    have ma' : mag .f64 I.lo.toNat ≤ mag .f64 (rungOf .f64 a) := mag_le _ (by omega)
    cases h
    refine ⟨w, hw, hg, ?_, ?_, fun h => by cases h⟩
    · rw [hkw]
      refine Int.ofNat_le.2 ?_
      generalize hu : (match FloatKind.f64.format.sqrt I.lo.toNat with | some w => min (w - 1) FloatKind.f64.format.infRung | none => 0) = u
      have hu' : u ≤ FloatKind.f64.format.infRung := by
        rw [← hu]
        split
        · exact Nat.min_le_right _ _
        · first | exact Nat.zero_le _ | exact Nat.le_refl _
      split
      · rename_i hc
        refine hdn u hu' ?_
        have := Nat.mul_le_mul_right (2 ^ (-FloatKind.f64.format.leastPlace).toNat) ma'
        omega
      · exact Nat.zero_le _
    · rw [hkw]
      refine Int.ofNat_le.2 ?_
      generalize hu : (match FloatKind.f64.format.sqrt I.hi.toNat with | some w => min (w + 1) FloatKind.f64.format.infRung | none => FloatKind.f64.format.infRung) = u
      have hu' : u ≤ FloatKind.f64.format.infRung := by
        rw [← hu]
        split
        · exact Nat.min_le_right _ _
        · first | exact Nat.zero_le _ | exact Nat.le_refl _
      split
      · rename_i hc
        refine hup u hu' ?_
        have := Nat.mul_le_mul_right (2 ^ (-FloatKind.f64.format.leastPlace).toNat) ma
        omega
      · exact hg.le
  · cases h

/-! ### From one kind to the other -/

def convIv (s d : FloatKind) (I : Iv) : Option Iv :=
  if s ≠ d && finIv s I then some ⟨rndI d (valK s I.lo) s.format.leastPlace, rndI d (valK s I.hi) s.format.leastPlace, I.nz && decide (0 < rndI d (valK s 1) s.format.leastPlace)⟩ else none

theorem rndI_neg {d : FloatKind} (z p : Int) : rndI d (-z) p = -rndI d z p := by
  unfold rndI
  rcases Int.lt_trichotomy z 0 with h | h | h
  · rw [if_neg (by omega), if_pos h, Int.natAbs_neg]; simp
  · subst h; simp [rungN_zero]
  · rw [if_pos (by omega), if_neg (by omega), Int.natAbs_neg]

theorem conv_key {s d : FloatKind} (hne : s ≠ d) {a : Nat} (hf : IsFinW s a) : ∃ w, Fl.conv s d (some a) = some w ∧ Good d w ∧ key d w = rndI d (worth s a) s.format.leastPlace := by
  obtain ⟨sg, m, p, h1, h2, h3⟩ := read_worth hf
  have hd : s.decode a = .number sg m p := h1
  refine ⟨d.encode (.number sg m p), by simp only [Fl.conv, if_neg hne, hd], ⟨encode_lt d _, ?_⟩, ?_⟩
  · exact nearest_not_nan d sg m p
  · have e : d.encode (.number sg m p) = d.format.nearest sg m p := rfl
    rw [e, h3, rndI_up, show s.format.leastPlace + ((p - s.format.leastPlace).toNat : Int) = p by omega]
    refine key_signed ?_
    unfold signed; cases sg <;> simp

theorem convIv_ok {s d : FloatKind} {I R : Iv} {x : Fl} (h : convIv s d I = some R) (hx : InIv s I x) : InIv d R (Fl.conv s d x) := by
  unfold convIv at h
  split at h
  · rename_i hc
    simp only [Bool.and_eq_true, ne_eq, decide_not, Bool.not_eq_true', decide_eq_false_iff_not] at hc
    cases h
    obtain ⟨a, rfl, ga, a1, a2, a3⟩ := hx
    obtain ⟨w, hw, hg, hk⟩ := conv_key hc.1 (fin_of hc.2 a1 a2)
    refine ⟨w, hw, hg, ?_, ?_, fun h => ?_⟩
    · rw [hk, worth_key]; exact rndI_mono (valK_mono a1) _
    · rw [hk, worth_key]; exact rndI_mono (valK_mono a2) _
    · simp only [Bool.and_eq_true, decide_eq_true_eq] at h
      have hnz := a3 h.1
      rw [hk, worth_key]
      rcases Int.lt_or_gt_of_ne hnz with h' | h'
      · have e1 : valK s (key s a) ≤ -valK s 1 := by rw [← valK_neg]; exact valK_mono (by omega)
        have e2 := rndI_mono (k := d) e1 s.format.leastPlace
        rw [rndI_neg] at e2
        omega
      · have e1 : valK s 1 ≤ valK s (key s a) := valK_mono (by omega)
        have e2 := rndI_mono (k := d) e1 s.format.leastPlace
        omega
  · cases h

/-- No overflow. -/
def convOkIv (s d : FloatKind) (I : Iv) : Bool :=
  match convIv s d I with
  | some R => finIv d R
  | none => false

theorem convOkIv_ok {s d : FloatKind} {I : Iv} {x : Fl} (h : convOkIv s d I = true) (hx : InIv s I x) : Fl.convOk s d x = true := by
  unfold convOkIv at h
  split at h
  · rename_i R hR
    have hr := convIv_ok hR hx
    have hc := hR
    unfold convIv at hc
    split at hc
    · rename_i hcc
      simp only [Bool.and_eq_true, ne_eq, decide_not, Bool.not_eq_true', decide_eq_false_iff_not] at hcc
      obtain ⟨a, rfl, ga, a1, a2, a3⟩ := hx
      obtain ⟨w, hw, hg, w1, w2, _⟩ := hr
      have hf := fin_of h w1 w2
      obtain ⟨m, p, e, _, _⟩ := read_fin hf
      simp only [Fl.conv, if_neg hcc.1, Option.some.injEq] at hw
      simp only [Fl.convOk, Bool.or_eq_true, decide_eq_true_eq, Bool.not_eq_true']
      right
      rw [hw]
      have e : d.decode w = .number (isNeg d w) m p := e
      rw [e]; rfl
    · cases hc
  · cases h
end
end Go.Sx
