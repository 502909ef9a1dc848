/-
  Sx, part Zi: the checker that knows intervals.
-/
import Derived.Test.YtaflnmmnaiaceaaSxZh
namespace Go.Sx
open Ieee
open E (mk1 mk2 mkIte mk1_ev mk2_ev mkIte_ev)

/-! ### Roots fit -/

def rootTop : Int := 5183643171103440896

theorem root_fits : (match sqrtIv .f64 ⟨0, rootTop, false⟩ with | some R => convOkIv .f64 .f32 R | none => false) = true := by decide +kernel
theorem rootTop_mag : mag .f64 rootTop.toNat = mag .f32 FloatKind.f32.format.infRung * 2 ^ wideUp := by decide +kernel
theorem root_infs : Fl.convOk .f64 .f32 (Fl.sqrt (some (double.word false FloatKind.f64.format.infRung))) = true ∧ Fl.convOk .f64 .f32 (Fl.sqrt (some (double.word true FloatKind.f64.format.infRung))) = true := by decide +kernel

theorem root_ok32 (x : Fl) : Fl.convOk .f64 .f32 (Fl.sqrt (Fl.conv .f32 .f64 x)) = true := by
  cases x with
  | none => rfl
  | some a =>
    rcases widen_read a with ⟨s, m, p, ha, a1, a2, a3, a4⟩ | ⟨s, ha, a1⟩ | ⟨s, t, ha, w, a1, a2⟩
    · obtain ⟨w, hw, hg, _⟩ := conv_key (s := .f32) (d := .f64) (by decide) a4
      rw [a2] at hw
      cases hw
      rw [a2]
      rcases Int.lt_or_le (key .f64 (double.nearest s m p)) 0 with hneg | hpos
      · have hs : Fl.sqrt (some (double.nearest s m p)) = none := by
          obtain ⟨m', p', e', h2, h3⟩ := read_fin a1
          have e' : double.read (double.nearest s m p) = .number _ m' p' := e'
          show ((double.read (double.nearest s m p)).root _).map double.write = none
          have hn : isNeg .f64 (double.nearest s m p) = true := by
            cases hh : isNeg .f64 (double.nearest s m p) with
            | true => rfl
            | false => unfold key at hneg; rw [hh] at hneg; simp only [Bool.false_eq_true, if_false] at hneg; omega
          have hm : m' ≠ 0 := by
            rintro rfl
            rw [Nat.zero_mul] at h3
            have : rungOf .f64 (double.nearest s m p) = 0 := mag_inj .f64 (by rw [mag_zero, ← h3])
            unfold key at hneg
            rw [this] at hneg
            split at hneg <;> omega
          rw [e', hn]
          simp only [Datum.root, if_neg hm, if_true]
          rfl
        rw [hs]; rfl
      · have hle : key .f64 (double.nearest s m p) ≤ rootTop := by
          rcases Int.lt_or_le rootTop (key .f64 (double.nearest s m p)) with h | h
          · have h5 := valK_lt (k := .f64) h
            rw [← worth_key, a3, worth_key] at h5
            have h6 : valK .f32 (key .f32 a) ≤ (mag .f32 FloatKind.f32.format.infRung : Int) := by
              have := valK_mono (k := .f32) (show key .f32 a ≤ (FloatKind.f32.format.infRung : Int) by have := key_abs (k := .f32) a; omega)
              have e : valK .f32 (FloatKind.f32.format.infRung : Int) = (mag .f32 FloatKind.f32.format.infRung : Int) := by decide +kernel
              omega
            have h7 : valK .f64 rootTop = ((mag .f32 FloatKind.f32.format.infRung * 2 ^ wideUp : Nat) : Int) := by
              rw [← rootTop_mag]; decide +kernel
            rw [h7, Int.natCast_mul] at h5
            have := Int.mul_le_mul_of_nonneg_right h6 (show (0 : Int) ≤ ((2 ^ wideUp : Nat) : Int) from Int.natCast_nonneg _)
            omega
          · exact h
        have hin : InIv .f64 ⟨0, rootTop, false⟩ (some (double.nearest s m p)) := ⟨_, rfl, hg, hpos, hle, fun h => by cases h⟩
        have hf := root_fits
        split at hf
        · rename_i R hR
          exact convOkIv_ok hf (sqrtIv_ok hR hin)
        · cases hf
    · rw [a1]
      cases s
      · exact root_infs.1
      · exact root_infs.2
    · rw [a1]
      have : Fl.sqrt (some w) = none := by
        obtain ⟨s', t', e⟩ := read_nan a2
        have e : double.read w = .nan s' t' := e
        show ((double.read w).root _).map double.write = none
        rw [e]; rfl
      rw [this]; rfl

/-! ### What intervals decide -/

def rootE (env : List (Nat × E)) : E → Bool
  | .v n => match lkM n env with
    | some (.o1 .sqrt y) => (unw env y).isSome
    | _ => false
  | _ => false

def isConv64 : FloatKind → FloatKind → Bool
  | .f64, .f32 => true
  | _, _ => false

/-- What the intervals tell of a test. -/
def decI (env : List (Nat × E)) (T : IvT) : E → Option Bool
  | .b x => some x
  | .o2 (.flt k) a b => match ivA T k a, ivA T k b with
    | some I, some J => if I.hi < J.lo then some true else if J.hi ≤ I.lo then some false else none
    | _, _ => none
  | .o2 (.fle k) a b => match ivA T k a, ivA T k b with
    | some I, some J => if I.hi ≤ J.lo then some true else if J.hi < I.lo then some false else none
    | _, _ => none
  | .o2 (.feq k) a b => match ivA T k a, ivA T k b with
    | some I, some J => if I.hi < J.lo ∨ J.hi < I.lo then some false else if I.lo = I.hi ∧ J.lo = J.hi ∧ I.lo = J.lo then some true
      else if I.nz = true ∧ J.lo = 0 ∧ J.hi = 0 then some false else if J.nz = true ∧ I.lo = 0 ∧ I.hi = 0 then some false else none
    | _, _ => none
  | .o1 (.convOk s d) a => match ivA T s a with
    | some I => if convOkIv s d I then some true else none
    | none => if isConv64 s d && rootE env a then some true else none
  | _ => none

section
variable {U : Nat → D → D} {r : Nat → D}

theorem ord_iv {k : FloatKind} {I J : Iv} {x y : Fl} (hx : InIv k I x) (hy : InIv k J y) : ∃ a b, Fl.ord k x y = some (compare a b) ∧ I.lo ≤ a ∧ a ≤ I.hi ∧ J.lo ≤ b ∧ b ≤ J.hi ∧ (I.nz = true → a ≠ 0) ∧ (J.nz = true → b ≠ 0) := by
  obtain ⟨a, rfl, ga, a1, a2, a3⟩ := hx
  obtain ⟨b, rfl, gb, b1, b2, b3⟩ := hy
  exact ⟨key k a, key k b, order_key ga gb, a1, a2, b1, b2, a3, b3⟩

theorem decI_ok {env : List (Nat × E)} {T : IvT} (he : EnvOk U r env) (hT : TOk r T) {c : E} {b : Bool} (h : decI env T c = some b) : (c.ev U r).toB = b := by
  unfold decI at h
  split at h
  · cases h; rfl
  · rename_i k x y
    split at h
    · rename_i I J hI hJ
      obtain ⟨p, q, ho, p1, p2, q1, q2, p3, q3⟩ := ord_iv (ivA_ok (U := U) hT hI) (ivA_ok (U := U) hT hJ)
      simp only [E.ev, O2.ev, D.toB_b, Fl.lt, ho]
      split at h
      · cases h; rw [cmp_lt (by omega)]; rfl
      · split at h
        · cases h
          cases hc : compare p q
          · have := compare_lt_iff.1 hc; omega
          · rfl
          · rfl
        · cases h
    · cases h
  · rename_i k x y
    split at h
    · rename_i I J hI hJ
      obtain ⟨p, q, ho, p1, p2, q1, q2, p3, q3⟩ := ord_iv (ivA_ok (U := U) hT hI) (ivA_ok (U := U) hT hJ)
      simp only [E.ev, O2.ev, D.toB_b, Fl.le, ho]
      split at h
      · cases h
        cases hc : compare p q
        · rfl
        · rfl
        · have : ¬ (p < q) := fun h' => by rw [cmp_lt h'] at hc; cases hc
          have : ¬ (p = q) := fun h' => by rw [cmp_eq h'] at hc; cases hc
          omega
      · split at h
        · cases h; rw [cmp_gt (by omega)]; rfl
        · cases h
    · cases h
  · rename_i k x y
    split at h
    · rename_i I J hI hJ
      obtain ⟨p, q, ho, p1, p2, q1, q2, p3, q3⟩ := ord_iv (ivA_ok (U := U) hT hI) (ivA_ok (U := U) hT hJ)
      simp only [E.ev, O2.ev, D.toB_b, Fl.eq, ho]
      have ne : p ≠ q → (some (compare p q) == some Ordering.eq) = false := by
        intro hn
        cases hc : compare p q
        · rfl
        · exact absurd (compare_eq_iff.1 hc) hn
        · rfl
      split at h
      · cases h; exact ne (by omega)
      · split at h
        · cases h; rw [cmp_eq (by omega)]; rfl
        · split at h
          · rename_i hc
            cases h
            have := p3 hc.1
            exact ne (by omega)
          · split at h
            · rename_i hc
              cases h
              have := q3 hc.1
              exact ne (by omega)
            · cases h
    · cases h
  · rename_i s d a
    split at h
    · rename_i I hI
      split at h
      · rename_i hc
        cases h
        exact convOkIv_ok hc (ivA_ok (U := U) hT hI)
      · cases h
    · split at h
      · rename_i hc
        cases h
        rw [Bool.and_eq_true] at hc
        obtain ⟨hk, hr⟩ := hc
        cases s <;> cases d <;> simp [isConv64] at hk
        unfold rootE at hr
        split at hr
        · rename_i n
          split at hr
          · rename_i y hl
            obtain ⟨z, hz⟩ := Option.isSome_iff_exists.1 hr
            have h1 := he _ (lkM_mem hl)
            have h2 := unw_ok he hz
            simp only [E.ev, O1.ev, D.toB_b] at h1 ⊢
            rw [h1]
            simp only [D.toF_f, h2]
            exact root_ok32 _
          · cases hr
        · cases hr
      · cases h
  · cases h

/-! ### What a test tells of intervals -/

def factA (k : FloatKind) (a : E) (I : Iv) : IvT := match a with
  | .v n => [(n, k, I)]
  | _ => []

/-- A name that is finite. -/
def refF (wfs : List (Nat × FloatKind)) (T : IvT) (p : E × Bool) : IvT :=
  match p.2, isFin? [] p.1 with
  | true, some (k, .v n) => if wfs.any (fun p => Nat.beq p.1 n && decide (p.2 = k)) && (ivLook n k T).isNone then [(n, k, finTop k)] else []
  | _, _ => []

/-- Facts of a test that was met. -/
def refI (T : IvT) : E × Bool → IvT
  | (.o2 (.flt k) a b, t) => match ivA T k a, ivA T k b with
    | some I, some J => if t then factA k a ⟨I.lo, min I.hi (J.hi - 1), I.nz⟩ ++ factA k b ⟨max J.lo (I.lo + 1), J.hi, J.nz⟩
      else factA k a ⟨max I.lo J.lo, I.hi, I.nz⟩ ++ factA k b ⟨J.lo, min J.hi I.hi, J.nz⟩
    | _, _ => []
  | (.o2 (.fle k) a b, t) => match ivA T k a, ivA T k b with
    | some I, some J => if t then factA k a ⟨I.lo, min I.hi J.hi, I.nz⟩ ++ factA k b ⟨max J.lo I.lo, J.hi, J.nz⟩
      else factA k a ⟨max I.lo (J.lo + 1), I.hi, I.nz⟩ ++ factA k b ⟨J.lo, min J.hi (I.hi - 1), J.nz⟩
    | _, _ => []
  | (.o2 (.feq k) a b, t) => match ivA T k a, ivA T k b with
    | some I, some J => if t then factA k a (meet I J) ++ factA k b (meet I J)
      else (if J.lo = 0 ∧ J.hi = 0 then factA k a ⟨I.lo, I.hi, true⟩ else []) ++ (if I.lo = 0 ∧ I.hi = 0 then factA k b ⟨J.lo, J.hi, true⟩ else [])
    | _, _ => []
  | _ => []

def WfsOk (r : Nat → D) (wfs : List (Nat × FloatKind)) : Prop := ∀ p ∈ wfs, Wf p.2 (r p.1).toF

theorem factA_ok {k : FloatKind} {a : E} {I : Iv} (h : InIv k I (a.ev U r).toF) : TOk r (factA k a I) := by
  unfold factA
  split
  · intro p hp
    rcases List.mem_cons.1 hp with rfl | hp
    · exact h
    · cases hp
  · intro p hp; cases hp

theorem TOk.append {A B : IvT} (ha : TOk r A) (hb : TOk r B) : TOk r (A ++ B) := fun p hp => (List.mem_append.1 hp).elim (ha p) (hb p)
theorem TOk.nil : TOk r [] := fun _ h => by cases h

theorem inIv_of {k : FloatKind} {I J : Iv} {x : Fl} (h : InIv k I x) (hJ : ∀ a, I.lo ≤ a → a ≤ I.hi → (I.nz = true → a ≠ 0) → x = x → (∀ w, x = some w → key k w = a) → J.lo ≤ a ∧ a ≤ J.hi ∧ (J.nz = true → a ≠ 0)) : InIv k J x := by
  obtain ⟨w, rfl, g, a1, a2, a3⟩ := h
  obtain ⟨h1, h2, h3⟩ := hJ _ a1 a2 a3 rfl (fun w' h => by cases h; rfl)
  exact ⟨w, rfl, g, h1, h2, h3⟩

theorem two_iv {k : FloatKind} {I J : Iv} {x y : Fl} (hx : InIv k I x) (hy : InIv k J y) : ∃ a b, Fl.ord k x y = some (compare a b) ∧ (I.lo ≤ a ∧ a ≤ I.hi ∧ (I.nz = true → a ≠ 0)) ∧ (J.lo ≤ b ∧ b ≤ J.hi ∧ (J.nz = true → b ≠ 0)) ∧
    (∀ I' : Iv, I'.lo ≤ a → a ≤ I'.hi → (I'.nz = true → a ≠ 0) → InIv k I' x) ∧ (∀ J' : Iv, J'.lo ≤ b → b ≤ J'.hi → (J'.nz = true → b ≠ 0) → InIv k J' y) := by
  obtain ⟨a, rfl, ga, a1, a2, a3⟩ := hx
  obtain ⟨b, rfl, gb, b1, b2, b3⟩ := hy
  exact ⟨key k a, key k b, order_key ga gb, ⟨a1, a2, a3⟩, ⟨b1, b2, b3⟩, fun I' h1 h2 h3 => ⟨a, rfl, ga, h1, h2, h3⟩, fun J' h1 h2 h3 => ⟨b, rfl, gb, h1, h2, h3⟩⟩

theorem num_top {k : FloatKind} {x : Fl} (hw : Wf k x) (hn : IsNum k x) : InIv k (finTop k) x := by
  obtain ⟨a, rfl, s, m, p, hr⟩ := hn
  obtain ⟨h1, h2⟩ := hw.some_lt
  have hl := rung_not_nan h2
  have hlt : rungOf k a < k.format.infRung := by
    rcases Nat.lt_or_eq_of_le hl with h | h
    · exact h
    · rw [read_inf h] at hr; cases hr
  have := key_abs (k := k) a
  refine ⟨a, rfl, ⟨h1, h2⟩, ?_, ?_, fun h => by cases h⟩
  · show 1 - (k.format.infRung : Int) ≤ _; omega
  · show _ ≤ (k.format.infRung : Int) - 1; omega

theorem refF_ok {wfs : List (Nat × FloatKind)} {T : IvT} (hw : WfsOk r wfs) {p : E × Bool} (hp : (p.1.ev U r).toB = p.2) : TOk r (refF wfs T p) := by
  unfold refF
  split
  · rename_i k n ht hf
    rw [ht] at hp
    have hf := isFin?_ok (U := U) (r := r) (env := []) (fun _ h => by cases h) hf
    rw [hf, finF_iff] at hp
    split
    · rename_i hc
      rw [Bool.and_eq_true, List.any_eq_true] at hc
      obtain ⟨⟨q, hq, h2⟩, _⟩ := hc
      simp only [Bool.and_eq_true, decide_eq_true_eq] at h2
      have hwf := hw q hq
      rw [Nat.eq_of_beq_eq_true h2.1, h2.2] at hwf
      intro y hy
      rcases List.mem_cons.1 hy with rfl | hy
      · exact num_top hwf hp
      · cases hy
    · exact TOk.nil
  · exact TOk.nil

theorem refI_ok {T : IvT} (hT : TOk r T) {p : E × Bool} (hp : (p.1.ev U r).toB = p.2) : TOk r (refI T p) := by
  unfold refI
  split
  · rename_i k a b t
    split
    · rename_i I J hI hJ
      obtain ⟨x, y, ho, ⟨p1, p2, p3⟩, ⟨q1, q2, q3⟩, mx, my⟩ := two_iv (ivA_ok (U := U) hT hI) (ivA_ok (U := U) hT hJ)
      simp only [E.ev, O2.ev, D.toB_b, Fl.lt, ho] at hp
      cases t with
      | true =>
        have hlt : x < y := compare_lt_iff.1 (by simpa using hp)
        simp only [if_true]
        refine TOk.append (factA_ok (mx _ ?_ ?_ ?_)) (factA_ok (my _ ?_ ?_ ?_)) <;> first | exact p3 | exact q3 | (dsimp only; omega)
      | false =>
        have hge : y ≤ x := by
          rcases Int.lt_or_le x y with h | h
          · rw [cmp_lt h] at hp; cases hp
          · exact h
        simp only [Bool.false_eq_true, if_false]
        refine TOk.append (factA_ok (mx _ ?_ ?_ ?_)) (factA_ok (my _ ?_ ?_ ?_)) <;> first | exact p3 | exact q3 | (dsimp only; omega)
    · exact TOk.nil
  · rename_i k a b t
    split
    · rename_i I J hI hJ
      obtain ⟨x, y, ho, ⟨p1, p2, p3⟩, ⟨q1, q2, q3⟩, mx, my⟩ := two_iv (ivA_ok (U := U) hT hI) (ivA_ok (U := U) hT hJ)
      simp only [E.ev, O2.ev, D.toB_b, Fl.le, ho] at hp
      cases t with
      | true =>
        have hle : x ≤ y := by
          rcases Int.lt_or_le y x with h | h
          · rw [cmp_gt h] at hp; cases hp
          · exact h
        simp only [if_true]
        refine TOk.append (factA_ok (mx _ ?_ ?_ ?_)) (factA_ok (my _ ?_ ?_ ?_)) <;> first | exact p3 | exact q3 | (dsimp only; omega)
      | false =>
        have hgt : y < x := by
          rcases Int.lt_trichotomy x y with h | h | h
          · rw [cmp_lt h] at hp; cases hp
          · rw [cmp_eq h] at hp; cases hp
          · exact h
        simp only [Bool.false_eq_true, if_false]
        refine TOk.append (factA_ok (mx _ ?_ ?_ ?_)) (factA_ok (my _ ?_ ?_ ?_)) <;> first | exact p3 | exact q3 | (dsimp only; omega)
    · exact TOk.nil
  · rename_i k a b t
    split
    · rename_i I J hI hJ
      obtain ⟨x, y, ho, ⟨p1, p2, p3⟩, ⟨q1, q2, q3⟩, mx, my⟩ := two_iv (ivA_ok (U := U) hT hI) (ivA_ok (U := U) hT hJ)
      simp only [E.ev, O2.ev, D.toB_b, Fl.eq, ho] at hp
      cases t with
      | true =>
        have heq : x = y := compare_eq_iff.1 (by simpa using hp)
        subst heq
        simp only [if_true]
        have hnz : (meet I J).nz = true → x ≠ 0 := fun h => by
          have h : (I.nz || J.nz) = true := h
          rw [Bool.or_eq_true] at h
          exact h.elim p3 q3
        exact (factA_ok (mx _ (show max I.lo J.lo ≤ _ by omega) (show _ ≤ min I.hi J.hi by omega) hnz)).append (factA_ok (my _ (show max I.lo J.lo ≤ _ by omega) (show _ ≤ min I.hi J.hi by omega) hnz))
      | false =>
        have hne : x ≠ y := fun h => by rw [cmp_eq h] at hp; cases hp
        simp only [Bool.false_eq_true, if_false]
        refine TOk.append ?_ ?_
        · split
          · exact factA_ok (mx _ p1 p2 (fun _ => by omega))
          · exact TOk.nil
        · split
          · exact factA_ok (my _ q1 q2 (fun _ => by omega))
          · exact TOk.nil
    · exact TOk.nil
  · exact TOk.nil
end
end Go.Sx
