/-
  Sx, part Zh: what is known on a way: intervals of the names, tests that were met; ways that cannot be.
-/
import Derived.Test.YtaflnmmnaiaceaaSxZg
namespace Go.Sx
open Ieee
open E (mk1 mk2 mkIte mk1_ev mk2_ev mkIte_ev)

/-! ### Tests in one form -/

/-- A float64 that is a float32, as that. -/
def unw (env : List (Nat × E)) : E → Option E
  | .v n => match lkM n env with
    | some (.o1 (.conv .f32 .f64) x) => some x
    | _ => none
  | .f (some w) => match Fl.conv .f64 .f32 (some w) with
    | some u => if decide (Fl.conv .f32 .f64 (some u) = some w) then some (.f (some u)) else none
    | none => none
  | _ => none

/-- The test 'is finite' as one form. -/
def finE (k : FloatKind) (x : E) : E := .o2 (.feq k) (.o2 (.fsub k) x x) (.f (some 0))

def unw2 (env : List (Nat × E)) (o : O2) (c a b : E) : E :=
  match unw env a, unw env b with
  | some x, some y => .o2 o x y
  | _, _ => c

/-- A test in its plain form. -/
def norm (env : List (Nat × E)) (c : E) : E :=
  match isFin? env c with
  | some (.f64, x) => (match unw env x with
    | some y => finE .f32 y
    | none => finE .f64 x)
  | some (.f32, x) => finE .f32 x
  | none => match c with
    | .o2 (.flt .f64) a b => unw2 env (.flt .f32) (.o2 (.flt .f64) a b) a b
    | .o2 (.fle .f64) a b => unw2 env (.fle .f32) (.o2 (.fle .f64) a b) a b
    | .o2 (.feq .f64) a b => unw2 env (.feq .f32) (.o2 (.feq .f64) a b) a b
    | c => c

/-- A test and its sense: '(x, s)': the test holds where 'x' is 's'. -/
def normP (env : List (Nat × E)) : E → E × Bool
  | .o1 .not c => (norm env c, false)
  | c => (norm env c, true)

section
variable {U : Nat → D → D} {r : Nat → D}

theorem unw_ok {env : List (Nat × E)} (he : EnvOk U r env) {e x : E} (h : unw env e = some x) : (e.ev U r).toF = Fl.conv .f32 .f64 (x.ev U r).toF := by
  unfold unw at h
  split at h
  · rename_i n
    split at h
    · rename_i y hl
      cases h
      have := he _ (lkM_mem hl)
      simp only [E.ev, O1.ev] at this ⊢
      rw [this]; rfl
    · cases h
  · rename_i w
    split at h
    · rename_i u hu
      split at h
      · rename_i hc
        cases h
        simp only [decide_eq_true_eq] at hc
        simp only [E.ev, D.toF_f, hc]
      · cases h
    · cases h
  · cases h

theorem unw_under {env : List (Nat × E)} {m : Nat} (he : EnvUnder m env) {e x : E} (h : unw env e = some x) : x.under m = true := by
  unfold unw at h
  split at h
  · rename_i n
    split at h
    · rename_i y hl
      cases h
      have := (he _ (lkM_mem hl)).2
      simpa [E.under] using this
    · cases h
  · rename_i w
    split at h
    · split at h
      · cases h; rfl
      · cases h
    · cases h
  · cases h

theorem finE_ev (k : FloatKind) (x : E) : ((finE k x).ev U r).toB = finF k (x.ev U r).toF := rfl

theorem unw2_ok {env : List (Nat × E)} (he : EnvOk U r env) {o o' : O2} {a b : E} (ho : ∀ x y : Fl, (o.ev (.f x) (.f y)).toB = (o'.ev (.f (Fl.conv .f32 .f64 x)) (.f (Fl.conv .f32 .f64 y))).toB)
    (hs : ∀ d d' : D, o.ev d d' = o.ev (.f d.toF) (.f d'.toF)) (hs' : ∀ d d' : D, o'.ev d d' = o'.ev (.f d.toF) (.f d'.toF)) : ((unw2 env o (.o2 o' a b) a b).ev U r).toB = ((E.o2 o' a b).ev U r).toB := by
  unfold unw2
  split
  · rename_i x y hx hy
    simp only [E.ev]
    rw [hs, hs', unw_ok he hx, unw_ok he hy, ho]
  · rfl

theorem norm_ok {env : List (Nat × E)} (he : EnvOk U r env) (c : E) : ((norm env c).ev U r).toB = (c.ev U r).toB := by
  unfold norm
  split
  · rename_i x hf
    rw [isFin?_ok he hf]
    split
    · rename_i y hy
      rw [finE_ev, unw_ok he hy, widen_fin]
    · rw [finE_ev]
  · rename_i x hf
    rw [isFin?_ok he hf, finE_ev]
  · split
    · exact unw2_ok he (fun x y => by simp only [O2.ev, D.toB_b, D.toF_f, Fl.lt, widen_ord]) (fun _ _ => rfl) (fun _ _ => rfl)
    · exact unw2_ok he (fun x y => by simp only [O2.ev, D.toB_b, D.toF_f, Fl.le, widen_ord]) (fun _ _ => rfl) (fun _ _ => rfl)
    · exact unw2_ok he (fun x y => by simp only [O2.ev, D.toB_b, D.toF_f, Fl.eq, widen_ord]) (fun _ _ => rfl) (fun _ _ => rfl)
    · rfl

theorem finE_under {k : FloatKind} {x : E} {m : Nat} (h : x.under m = true) : (finE k x).under m = true := by simp [finE, E.under, h]

theorem unw2_under {env : List (Nat × E)} {m : Nat} (he : EnvUnder m env) {o o' : O2} {a b : E} (hu : (E.o2 o' a b).under m = true) : (unw2 env o (.o2 o' a b) a b).under m = true := by
  unfold unw2
  split
  · rename_i x y hx hy
    simp only [E.under, unw_under he hx, unw_under he hy, Bool.and_self]
  · exact hu

theorem norm_under {env : List (Nat × E)} {m : Nat} (he : EnvUnder m env) {c : E} (hu : c.under m = true) : (norm env c).under m = true := by
  unfold norm
  split
  · rename_i x hf
    split
    · rename_i y hy
      exact finE_under (unw_under he hy)
    · exact finE_under (isFin?_under he hu hf)
  · rename_i x hf
    exact finE_under (isFin?_under he hu hf)
  · split
    · exact unw2_under he hu
    · exact unw2_under he hu
    · exact unw2_under he hu
    · exact hu

theorem normP_ok {env : List (Nat × E)} (he : EnvOk U r env) (c : E) : (c.ev U r).toB = (((normP env c).1.ev U r).toB == (normP env c).2) := by
  unfold normP
  split
  · rename_i c
    show (!(c.ev U r).toB) = _
    rw [norm_ok he]; cases (c.ev U r).toB <;> rfl
  · rw [norm_ok he]
    show _ = (_ == true)
    rw [beq_true]

theorem normP_under {env : List (Nat × E)} {m : Nat} (he : EnvUnder m env) {c : E} (hu : c.under m = true) : (normP env c).1.under m = true := by
  unfold normP
  split
  · exact norm_under he (by simpa [E.under] using hu)
  · exact norm_under he hu
end

/-! ### Tables of intervals -/

abbrev IvT := List (Nat × FloatKind × Iv)

def ivLook (n : Nat) (k : FloatKind) : IvT → Option Iv
  | [] => none
  | (i, q, I) :: l => bif Nat.beq i n then (if q = k then some I else ivLook n k l) else ivLook n k l

/-- The bounds of what is not nought. -/
def tight (I : Iv) : Iv := ⟨if I.nz && decide (I.lo = 0) then 1 else I.lo, if I.nz && decide (I.hi = 0) then -1 else I.hi, I.nz⟩

theorem tight_ok {k : FloatKind} {I : Iv} {x : Fl} (h : InIv k I x) : InIv k (tight I) x := by
  obtain ⟨w, rfl, g, a1, a2, a3⟩ := h
  refine ⟨w, rfl, g, ?_, ?_, a3⟩
  · unfold tight
    dsimp only
    split
    · rename_i hc
      simp only [Bool.and_eq_true, decide_eq_true_eq] at hc
      have := a3 hc.1
      omega
    · exact a1
  · unfold tight
    dsimp only
    split
    · rename_i hc
      simp only [Bool.and_eq_true, decide_eq_true_eq] at hc
      have := a3 hc.1
      omega
    · exact a2

/-- The interval of an atom. -/
def ivA (T : IvT) (k : FloatKind) : E → Option Iv
  | .v n => (ivLook n k T).map tight
  | .f (some w) => if decide (w < 2 ^ k.format.width) && !isNanW k w then some ⟨key k w, key k w, !decide (key k w = 0)⟩ else none
  | _ => none

def ivB (T : IvT) (k : FloatKind) (a b : E) (f : Iv → Iv → Option Iv) : Option (FloatKind × Iv) :=
  match ivA T k a, ivA T k b with
  | some I, some J => (f I J).map fun R => (k, R)
  | _, _ => none

def knows (cs : List (E × Bool)) (c : E) (b : Bool) : Bool := match look c cs with
  | some b' => b' == b
  | none => false

/-- 'a' is not above 'b', so far as the tests tell. -/
def leKn (cs : List (E × Bool)) (k : FloatKind) (a b : E) : Bool :=
  knows cs (.o2 (.flt k) a b) true || (knows cs (.o2 (.fle k) a b) true || knows cs (.o2 (.flt k) b a) false)

/-- A square is not below nought. -/
def sqIv (I : Iv) : Iv := if 0 ≤ I.lo then I else ⟨0, I.hi, false⟩

def ivE (T : IvT) (cs : List (E × Bool)) : E → Option (FloatKind × Iv)
  | .o2 (.fadd k) a b => ivB T k a b (addIv k)
  | .o2 (.fsub k) a b => ivB T k a b (subIv k)
  | .o2 (.fmul k) a b => ivB T k a b (mulIv k)
  | .o2 (.fdiv k) a b => ivB T k a b (divIv k (leKn cs k a b))
  | .o1 (.fneg k) a => (ivA T k a).map fun I => (k, negIv I)
  | .o1 (.fabs k) a => (ivA T k a).map fun I => (k, absIv I)
  | .o1 .sqrt a => (ivA T .f64 a).bind fun I => (sqrtIv .f64 I).map fun R => (.f64, R)
  | .o1 (.conv s d) a => (ivA T s a).bind fun I => (convIv s d I).map fun R => (d, R)
  | _ => none

def meet (I J : Iv) : Iv := ⟨max I.lo J.lo, min I.hi J.hi, I.nz || J.nz⟩

/-- An interval with what else is known of the name. -/
def ivPut (i : Nat) (k : FloatKind) (I : Iv) (T : IvT) : IvT :=
  match ivLook i k T with
  | some J => (i, k, meet I J) :: T
  | none => (i, k, I) :: T

/-- All intervals anew, the oldest name first. -/
def ivAll (cs : List (E × Bool)) (facts : IvT) : List (Nat × E) → IvT
  | [] => facts
  | (i, e) :: env =>
    let T := ivAll cs facts env
    match ivE T cs e with
    | some (k, I) => ivPut i k I T
    | none => T

def TOk (r : Nat → D) (T : IvT) : Prop := ∀ p ∈ T, InIv p.2.1 p.2.2 (r p.1).toF
def TUnder (m : Nat) (T : IvT) : Prop := ∀ p ∈ T, p.1 < m

section
variable {U : Nat → D → D} {r : Nat → D}

theorem ivLook_mem {n : Nat} {k : FloatKind} {I : Iv} : ∀ {T : IvT}, ivLook n k T = some I → (n, k, I) ∈ T := by
  intro T
  induction T with
  | nil => intro h; cases h
  | cons p T ih =>
    obtain ⟨i, q, J⟩ := p
    intro h
    unfold ivLook at h
    cases hb : Nat.beq i n with
    | true =>
      rw [hb] at h
      simp only [cond_true] at h
      split at h
      · rename_i hk
        cases h
        rw [Nat.eq_of_beq_eq_true hb, hk]; exact List.mem_cons_self ..
      · exact List.mem_cons_of_mem _ (ih h)
    | false => rw [hb] at h; exact List.mem_cons_of_mem _ (ih h)

theorem ivA_ok {T : IvT} (hT : TOk r T) {k : FloatKind} {e : E} {I : Iv} (h : ivA T k e = some I) : InIv k I (e.ev U r).toF := by
  unfold ivA at h
  split at h
  · rw [Option.map_eq_some_iff] at h
    obtain ⟨J, h1, rfl⟩ := h
    exact tight_ok (hT _ (ivLook_mem h1))
  · rename_i w
    split at h
    · rename_i hc
      simp only [Bool.and_eq_true, decide_eq_true_eq, Bool.not_eq_true'] at hc
      cases h
      exact ⟨w, rfl, ⟨hc.1, hc.2⟩, Int.le_refl _, Int.le_refl _, fun h => by simpa using h⟩
    · cases h
  · cases h

theorem ivB_ok {T : IvT} (hT : TOk r T) {k q : FloatKind} {a b : E} {f : Iv → Iv → Option Iv} {R : Iv} {op : Fl → Fl → Fl} (hf : ∀ I J R x y, f I J = some R → InIv k I x → InIv k J y → x = (a.ev U r).toF → y = (b.ev U r).toF → InIv k R (op x y))
    (h : ivB T k a b f = some (q, R)) : InIv q R (op (a.ev U r).toF (b.ev U r).toF) := by
  unfold ivB at h
  split at h
  · rename_i I J hI hJ
    rw [Option.map_eq_some_iff] at h
    obtain ⟨R', h1, h2⟩ := h
    cases h2
    exact hf I J _ _ _ h1 (ivA_ok hT hI) (ivA_ok hT hJ) rfl rfl
  · cases h

theorem knows_ok {cs : List (E × Bool)} (hc : PcOk U r cs) {c : E} {b : Bool} (h : knows cs c b = true) : (c.ev U r).toB = b := by
  unfold knows at h
  split at h
  · rename_i b' hl
    rw [look_ok hc hl]; simpa using h
  · cases h

theorem leKn_ok {cs : List (E × Bool)} (hc : PcOk U r cs) {k : FloatKind} {a b : E} (h : leKn cs k a b = true) {x y : Nat} (hx : (a.ev U r).toF = some x) (hy : (b.ev U r).toF = some y) (gx : Good k x) (gy : Good k y) : key k x ≤ key k y := by
  unfold leKn at h
  simp only [Bool.or_eq_true] at h
  have ho : Fl.ord k (some x) (some y) = some (compare (key k x) (key k y)) := order_key gx gy
  have ho' : Fl.ord k (some y) (some x) = some (compare (key k y) (key k x)) := order_key gy gx
  rcases h with h | h | h
  · have := knows_ok hc h
    simp only [E.ev, O2.ev, D.toB_b, hx, hy, Fl.lt, ho] at this
    have := compare_lt_iff.1 (by simpa using this)
    omega
  · have := knows_ok hc h
    simp only [E.ev, O2.ev, D.toB_b, hx, hy, Fl.le, ho, Bool.or_eq_true] at this
    rcases this with h' | h'
    · have := compare_lt_iff.1 (by simpa using h'); omega
    · have := compare_eq_iff.1 (by simpa using h'); omega
  · have := knows_ok hc h
    simp only [E.ev, O2.ev, D.toB_b, hx, hy, Fl.lt, ho'] at this
    rcases Int.lt_or_le (key k y) (key k x) with h' | h'
    · rw [cmp_lt h'] at this; cases this
    · exact h'

theorem ivE_ok {T : IvT} {cs : List (E × Bool)} (hT : TOk r T) (hc : PcOk U r cs) {e : E} {k : FloatKind} {I : Iv} (h : ivE T cs e = some (k, I)) : InIv k I (e.ev U r).toF := by
  unfold ivE at h
  split at h
  · rename_i q a b; exact ivB_ok (op := Fl.add q) hT (fun I J R x y h hx hy _ _ => addIv_ok h hx hy) h
  · rename_i q a b; exact ivB_ok (op := Fl.sub q) hT (fun I J R x y h hx hy _ _ => subIv_ok h hx hy) h
  · rename_i q a b; exact ivB_ok (op := Fl.mul q) hT (fun I J R x y h hx hy _ _ => mulIv_ok h hx hy) h
  · rename_i q a b
    refine ivB_ok (op := Fl.div q) hT (fun I J R x y h hx hy ex ey => divIv_ok h hx hy fun hl u v hu hv => ?_) h
    obtain ⟨u', hu', gu, _⟩ := hx
    obtain ⟨v', hv', gv, _⟩ := hy
    rw [hu] at hu'; rw [hv] at hv'; cases hu'; cases hv'
    exact leKn_ok hc hl (ex ▸ hu) (ey ▸ hv) gu gv
  · rename_i q a
    rw [Option.map_eq_some_iff] at h
    obtain ⟨J, h1, h2⟩ := h
    cases h2
    exact negIv_ok (ivA_ok (U := U) hT h1)
  · rename_i q a
    rw [Option.map_eq_some_iff] at h
    obtain ⟨J, h1, h2⟩ := h
    cases h2
    exact absIv_ok (ivA_ok (U := U) hT h1)
  · rename_i a
    rw [Option.bind_eq_some_iff] at h
    obtain ⟨J, h1, h2⟩ := h
    rw [Option.map_eq_some_iff] at h2
    obtain ⟨R, h3, h4⟩ := h2
    cases h4
    exact sqrtIv_ok h3 (ivA_ok (U := U) hT h1)
  · rename_i s d a
    rw [Option.bind_eq_some_iff] at h
    obtain ⟨J, h1, h2⟩ := h
    rw [Option.map_eq_some_iff] at h2
    obtain ⟨R, h3, h4⟩ := h2
    cases h4
    exact convIv_ok h3 (ivA_ok (U := U) hT h1)
  · cases h

theorem meet_ok {k : FloatKind} {I J : Iv} {x : Fl} (h : InIv k I x) (h' : InIv k J x) : InIv k (meet I J) x := by
  obtain ⟨w, rfl, g, a1, a2, a3⟩ := h
  obtain ⟨w', e, g', b1, b2, b3⟩ := h'
  cases e
  refine ⟨w, rfl, g, ?_, ?_, fun h => ?_⟩
  · show max I.lo J.lo ≤ _; omega
  · show _ ≤ min I.hi J.hi; omega
  · have h : (I.nz || J.nz) = true := h
    rw [Bool.or_eq_true] at h
    exact h.elim a3 b3

theorem ivPut_ok {T : IvT} (hT : TOk r T) {i : Nat} {k : FloatKind} {I : Iv} (h : InIv k I (r i).toF) : TOk r (ivPut i k I T) := by
  unfold ivPut
  split
  · rename_i J hJ
    intro p hp
    rcases List.mem_cons.1 hp with rfl | hp
    · exact meet_ok h (hT _ (ivLook_mem hJ))
    · exact hT p hp
  · intro p hp
    rcases List.mem_cons.1 hp with rfl | hp
    · exact h
    · exact hT p hp

theorem ivAll_ok {cs : List (E × Bool)} (hc : PcOk U r cs) {facts : IvT} (hf : TOk r facts) : ∀ {env : List (Nat × E)}, EnvOk U r env → TOk r (ivAll cs facts env) := by
  intro env
  induction env with
  | nil => intro _; exact hf
  | cons p env ih =>
    obtain ⟨i, e⟩ := p
    intro he
    have hT := ih (fun q hq => he q (List.mem_cons_of_mem _ hq))
    have hi : r i = e.ev U r := he (i, e) (List.mem_cons_self ..)
    unfold ivAll
    dsimp only
    split
    · rename_i k I h
      refine ivPut_ok hT ?_
      rw [hi]; exact ivE_ok hT hc h
    · exact hT

theorem ivPut_under {m i : Nat} {k : FloatKind} {I : Iv} {T : IvT} (hT : TUnder m T) (h : i < m) : TUnder m (ivPut i k I T) := by
  unfold ivPut
  split
  all_goals
    intro p hp
    rcases List.mem_cons.1 hp with rfl | hp
    · exact h
    · exact hT p hp

theorem ivAll_under {cs : List (E × Bool)} {m : Nat} {facts : IvT} (hf : TUnder m facts) : ∀ {env : List (Nat × E)}, EnvUnder m env → TUnder m (ivAll cs facts env) := by
  intro env
  induction env with
  | nil => intro _; exact hf
  | cons p env ih =>
    obtain ⟨i, e⟩ := p
    intro he
    have hT := ih (fun q hq => he q (List.mem_cons_of_mem _ hq))
    unfold ivAll
    dsimp only
    split
    · exact ivPut_under hT (he (i, e) (List.mem_cons_self ..)).1
    · exact hT
end
end Go.Sx
