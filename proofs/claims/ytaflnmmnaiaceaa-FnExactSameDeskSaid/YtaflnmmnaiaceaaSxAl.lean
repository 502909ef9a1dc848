/-
  Sx, part Al: whole numbers: what follows from what a way has met, by sums.
-/
import Derived.Test.YtaflnmmnaiaceaaSxA
namespace Go.Sx
open E (mk1 mk2 mkIte mk1_ev mk2_ev mkIte_ev)

/-- The truths that a way has met. -/
def PcOk (U : Nat → D → D) (r : Nat → D) (pc : List (E × Bool)) : Prop := ∀ x ∈ pc, (x.1.ev U r).toB = x.2

/-- A sum: a number, and words with how often each is taken. -/
structure Lin where
  c : Int
  ts : List (E × Int)

def addT (e : E) (k : Int) : List (E × Int) → List (E × Int)
  | [] => [(e, k)]
  | (x, j) :: l => if x.same e then (if j + k = 0 then l else (x, j + k) :: l) else (x, j) :: addT e k l

def addTs : List (E × Int) → List (E × Int) → List (E × Int)
  | [], m => m
  | (x, k) :: l, m => addTs l (addT x k m)

def Lin.add (a b : Lin) : Lin := ⟨a.c + b.c, addTs a.ts b.ts⟩
def Lin.mul (n : Int) (a : Lin) : Lin := if n = 0 then ⟨0, []⟩ else ⟨n * a.c, a.ts.map fun t => (t.1, n * t.2)⟩
def Lin.sub (a b : Lin) : Lin := a.add (Lin.mul (-1) b)

def linE : E → Lin
  | .i n => ⟨n, []⟩
  | .o2 o x y => match o with
    | .iadd => (linE x).add (linE y)
    | .isub => (linE x).sub (linE y)
    | .imul => (match x, y with
      | .i n, y => Lin.mul n (linE y)
      | x, .i n => Lin.mul n (linE x)
      | x, y => ⟨0, [(.o2 .imul x y, 1)]⟩)
    | o => ⟨0, [(.o2 o x y, 1)]⟩
  | e => ⟨0, [(e, 1)]⟩

section
variable (U : Nat → D → D) (r : Nat → D)
def evTs : List (E × Int) → Int
  | [] => 0
  | (e, k) :: l => k * (e.ev U r).toI + evTs l
def Lin.ev (a : Lin) : Int := a.c + evTs U r a.ts
end

section
variable {U : Nat → D → D} {r : Nat → D}

theorem addT_ev (e : E) (k : Int) : ∀ l : List (E × Int), evTs U r (addT e k l) = k * (e.ev U r).toI + evTs U r l := by
  intro l
  induction l with
  | nil => simp [addT, evTs]
  | cons a l ih =>
    obtain ⟨x, j⟩ := a
    unfold addT
    split
    · rename_i hs
      rw [E.same_eq hs]
      split
      · rename_i h0
        have : j = -k := by omega
        subst this
        simp only [evTs, Int.neg_mul]; omega
      · simp only [evTs, Int.add_mul]; omega
    · simp only [evTs, ih]; omega

theorem addTs_ev : ∀ l m : List (E × Int), evTs U r (addTs l m) = evTs U r l + evTs U r m := by
  intro l
  induction l with
  | nil => intro m; simp [addTs, evTs]
  | cons a l ih => intro m; obtain ⟨x, k⟩ := a; simp only [addTs, ih, addT_ev, evTs]; omega

theorem Lin.add_ev (a b : Lin) : (a.add b).ev U r = a.ev U r + b.ev U r := by
  simp only [Lin.add, Lin.ev, addTs_ev]; omega

theorem mulTs_ev (n : Int) : ∀ l : List (E × Int), evTs U r (l.map fun t => (t.1, n * t.2)) = n * evTs U r l := by
  intro l
  induction l with
  | nil => simp [evTs]
  | cons a l ih => obtain ⟨x, k⟩ := a; simp only [List.map_cons, evTs, ih, Int.mul_add, Int.mul_assoc]

theorem Lin.mul_ev (n : Int) (a : Lin) : (Lin.mul n a).ev U r = n * a.ev U r := by
  unfold Lin.mul
  split
  · rename_i h; subst h; simp [Lin.ev, evTs]
  · simp only [Lin.ev, mulTs_ev, Int.mul_add]

theorem Lin.sub_ev (a b : Lin) : (a.sub b).ev U r = a.ev U r - b.ev U r := by
  simp only [Lin.sub, Lin.add_ev, Lin.mul_ev]; omega

theorem linE_ev : ∀ e : E, (linE e).ev U r = (e.ev U r).toI := by
  intro e
  induction e with
  | i n => simp [linE, Lin.ev, evTs, E.ev, D.toI]
  | o2 o x y ihx ihy =>
    cases o with
    | iadd => simp only [linE, Lin.add_ev, ihx, ihy, E.ev, O2.ev, D.toI_i]
    | isub => simp only [linE, Lin.sub_ev, ihx, ihy, E.ev, O2.ev, D.toI_i]
    | imul =>
      unfold linE
      dsimp only
      split
      · rename_i n y; simp only [Lin.mul_ev, ihy, E.ev, O2.ev, D.toI_i]
      · rename_i n h1 h2; simp only [Lin.mul_ev, ihx, E.ev, O2.ev, D.toI_i, Int.mul_comm]
      · simp [Lin.ev, evTs]
    | _ => simp [linE, Lin.ev, evTs]
  | _ => simp [linE, Lin.ev, evTs]

/-- Sums that are not above 0, from what a way has met. -/
def factsOf : List (E × Bool) → List Lin
  | [] => []
  | (.o2 o x y, b) :: l => match o, b with
    | .ilt, true => ((linE x).sub (linE y)).add ⟨1, []⟩ :: factsOf l
    | .ilt, false => (linE y).sub (linE x) :: factsOf l
    | .ile, true => (linE x).sub (linE y) :: factsOf l
    | .ile, false => ((linE y).sub (linE x)).add ⟨1, []⟩ :: factsOf l
    | .ieq, true => (linE x).sub (linE y) :: (linE y).sub (linE x) :: factsOf l
    | _, _ => factsOf l
  | _ :: l => factsOf l

theorem factsOf_ok : ∀ {pc : List (E × Bool)}, PcOk U r pc → ∀ F ∈ factsOf pc, F.ev U r ≤ 0 := by
  intro pc
  induction pc with
  | nil => intro _ F hF; simp [factsOf] at hF
  | cons a l ih =>
    intro hp F hF
    have hl := ih (fun y hy => hp y (by simp [hy]))
    have h0 := hp a (by simp)
    obtain ⟨e, b⟩ := a
    cases e with
    | o2 o x y =>
      unfold factsOf at hF
      split at hF
      · rcases List.mem_cons.1 hF with rfl | hF
        · simp only [E.ev, O2.ev, D.toB_b, decide_eq_true_eq] at h0
          simp only [Lin.add_ev, Lin.sub_ev, linE_ev]; simp only [Lin.ev, evTs]; omega
        · exact hl F hF
      · rcases List.mem_cons.1 hF with rfl | hF
        · simp only [E.ev, O2.ev, D.toB_b, decide_eq_false_iff_not] at h0
          simp only [Lin.sub_ev, linE_ev]; omega
        · exact hl F hF
      · rcases List.mem_cons.1 hF with rfl | hF
        · simp only [E.ev, O2.ev, D.toB_b, decide_eq_true_eq] at h0
          simp only [Lin.sub_ev, linE_ev]; omega
        · exact hl F hF
      · rcases List.mem_cons.1 hF with rfl | hF
        · simp only [E.ev, O2.ev, D.toB_b, decide_eq_false_iff_not] at h0
          simp only [Lin.add_ev, Lin.sub_ev, linE_ev]; simp only [Lin.ev, evTs]; omega
        · exact hl F hF
      · have h0 : (x.ev U r).toI = (y.ev U r).toI := by simpa [E.ev, O2.ev, D.toB_b] using h0
        rcases List.mem_cons.1 hF with rfl | hF
        · simp only [Lin.sub_ev, linE_ev]; omega
        · rcases List.mem_cons.1 hF with rfl | hF
          · simp only [Lin.sub_ev, linE_ev]; omega
          · exact hl F hF
      · exact hl F hF
    | _ => simp only [factsOf] at hF; exact hl F hF

/-- Is a word never below 0? -/
def nonneg : E → Bool
  | .o1 .llen _ => true
  | .o1 .slen _ => true
  | .o2 .sidx _ _ => true
  | _ => false

theorem nonneg_ok {e : E} (h : nonneg e = true) : 0 ≤ (e.ev U r).toI := by
  unfold nonneg at h
  split at h
  · simp only [E.ev, O1.ev, D.toI_i]; omega
  · simp only [E.ev, O1.ev, D.toI_i]; omega
  · simp only [E.ev, O2.ev, D.toI_i]; omega
  · cases h

/-- The greatest that a sum can be. -/
def ubTs : List (E × Int) → Option Int
  | [] => some 0
  | (e, k) :: l => match ubTs l with
    | some u => if k ≤ 0 then (if nonneg e then some u else none)
      else (match e with
        | .o2 .sidx _ _ => some (u + 255 * k)
        | _ => none)
    | none => none

theorem ubTs_ok : ∀ {l : List (E × Int)} {u : Int}, ubTs l = some u → evTs U r l ≤ u := by
  intro l
  induction l with
  | nil => intro u h; cases h; simp [evTs]
  | cons a l ih =>
    intro u h
    obtain ⟨e, k⟩ := a
    unfold ubTs at h
    split at h
    · rename_i u' hu
      have := ih hu
      split at h
      · rename_i hk
        split at h
        · rename_i hn
          cases h
          have h1 := nonneg_ok (U := U) (r := r) hn
          have : k * (e.ev U r).toI ≤ 0 := Int.mul_nonpos_of_nonpos_of_nonneg hk h1
          simp only [evTs]; omega
        · cases h
      · rename_i hk
        split at h
        case h_2 => cases h
        rename_i x y
        cases h
        have hk : 0 ≤ k := by omega
        have h1 : ((E.o2 .sidx x y).ev U r).toI ≤ 255 := by
          simp only [E.ev, O2.ev, D.toI_i]
          have := ((x.ev U r).toS.data[(y.ev U r).toI.toNat]?.getD 0).toNat_lt
          omega
        have : k * ((E.o2 .sidx x y).ev U r).toI ≤ k * 255 := Int.mul_le_mul_of_nonneg_left h1 hk
        simp only [evTs]; omega
    · cases h

def Lin.small (a : Lin) : Bool := match ubTs a.ts with
  | some u => decide (a.c + u ≤ 0)
  | none => false

theorem Lin.small_ok {a : Lin} (h : a.small = true) : a.ev U r ≤ 0 := by
  unfold Lin.small at h
  split at h
  · rename_i u hu
    have := ubTs_ok (U := U) (r := r) hu
    have h := of_decide_eq_true h
    simp only [Lin.ev]; omega
  · cases h

/-- Does a sum take away from what another one has? -/
def meetsT (e : E) (k : Int) : List (E × Int) → Bool
  | [] => false
  | (x, j) :: l => (decide (0 < k * j) && x.same e) || meetsT e k l
def meets (a b : Lin) : Bool := a.ts.any fun t => meetsT t.1 t.2 b.ts

/-- Is a sum never above 0? -/
def provesG (mx : Int) (facts : List Lin) : Nat → Lin → Bool
  | 0, a => a.small
  | n + 1, a => a.small || facts.any fun F => meets a F && (decide (a.c - F.c ≤ (n : Int) * mx) && provesG mx facts n (a.sub F))

theorem provesG_ok {mx : Int} {facts : List Lin} (hf : ∀ F ∈ facts, F.ev U r ≤ 0) : ∀ {n : Nat} {a : Lin}, provesG mx facts n a = true → a.ev U r ≤ 0 := by
  intro n
  induction n with
  | zero => intro a h; exact Lin.small_ok h
  | succ n ih =>
    intro a h
    simp only [provesG, Bool.or_eq_true, List.any_eq_true, Bool.and_eq_true] at h
    rcases h with h | ⟨F, hF, _, _, h⟩
    · exact Lin.small_ok h
    · have h1 := ih h
      have h2 := hf F hF
      rw [Lin.sub_ev] at h1
      omega

/-- The greatest number among sums. -/
def topC : List Lin → Int
  | [] => 0
  | F :: l => if topC l < F.c then F.c else topC l
def proves (facts : List Lin) (n : Nat) (a : Lin) : Bool := provesG (topC facts) facts n a
theorem proves_ok {facts : List Lin} (hf : ∀ F ∈ facts, F.ev U r ≤ 0) {n : Nat} {a : Lin} (h : proves facts n a = true) : a.ev U r ≤ 0 := provesG_ok hf h

def depthI : Nat := 3

/-- What follows of a test of whole numbers. -/
def askI (pc : List (E × Bool)) (e : E) : Option Bool :=
  match e with
  | .o2 .ilt x y =>
    let fs := factsOf pc
    let d := (linE x).sub (linE y)
    if proves fs depthI (d.add ⟨1, []⟩) then some true else if proves fs depthI (Lin.mul (-1) d) then some false else none
  | .o2 .ile x y =>
    let fs := factsOf pc
    let d := (linE x).sub (linE y)
    if proves fs depthI d then some true else if proves fs depthI ((Lin.mul (-1) d).add ⟨1, []⟩) then some false else none
  | .o2 .ieq x y =>
    let fs := factsOf pc
    let d := (linE x).sub (linE y)
    if proves fs depthI (d.add ⟨1, []⟩) then some false else if proves fs depthI ((Lin.mul (-1) d).add ⟨1, []⟩) then some false
    else if proves fs depthI d && proves fs depthI (Lin.mul (-1) d) then some true else none
  | _ => none

theorem askI_ok {pc : List (E × Bool)} {e : E} {b : Bool} (hp : PcOk U r pc) (h : askI pc e = some b) : (e.ev U r).toB = b := by
  have hf := factsOf_ok hp
  have one : (⟨1, []⟩ : Lin).ev U r = 1 := rfl
  unfold askI at h
  split at h
  · rename_i x y
    dsimp only at h
    simp only [E.ev, O2.ev, D.toB_b]
    split at h
    · rename_i h1
      cases h
      have := proves_ok hf h1
      rw [Lin.add_ev, Lin.sub_ev, linE_ev, linE_ev, one] at this
      exact decide_eq_true (by omega)
    · split at h
      · rename_i h1
        cases h
        have := proves_ok hf h1
        rw [Lin.mul_ev, Lin.sub_ev, linE_ev, linE_ev] at this
        exact decide_eq_false (by omega)
      · cases h
  · rename_i x y
    dsimp only at h
    simp only [E.ev, O2.ev, D.toB_b]
    split at h
    · rename_i h1
      cases h
      have := proves_ok hf h1
      rw [Lin.sub_ev, linE_ev, linE_ev] at this
      exact decide_eq_true (by omega)
    · split at h
      · rename_i h1
        cases h
        have := proves_ok hf h1
        rw [Lin.add_ev, Lin.mul_ev, Lin.sub_ev, linE_ev, linE_ev, one] at this
        exact decide_eq_false (by omega)
      · cases h
  · rename_i x y
    dsimp only at h
    simp only [E.ev, O2.ev, D.toB_b]
    split at h
    · rename_i h1
      cases h
      have := proves_ok hf h1
      rw [Lin.add_ev, Lin.sub_ev, linE_ev, linE_ev, one] at this
      exact beq_eq_false_iff_ne.2 (by omega)
    · split at h
      · rename_i h1
        cases h
        have := proves_ok hf h1
        rw [Lin.add_ev, Lin.mul_ev, Lin.sub_ev, linE_ev, linE_ev, one] at this
        exact beq_eq_false_iff_ne.2 (by omega)
      · split at h
        · rename_i h1
          cases h
          rw [Bool.and_eq_true] at h1
          have h2 := proves_ok hf h1.1
          have h3 := proves_ok hf h1.2
          rw [Lin.sub_ev, linE_ev, linE_ev] at h2
          rw [Lin.mul_ev, Lin.sub_ev, linE_ev, linE_ev] at h3
          exact beq_iff_eq.2 (by omega)
        · cases h
  · cases h

/-- A sum as a word, where it is short. -/
def shortE (e : E) : E :=
  match linE e with
  | ⟨c, []⟩ => .i c
  | ⟨c, [(a, k)]⟩ => if k = 1 then (if c = 0 then a else .o2 .iadd a (.i c)) else e
  | _ => e

theorem shortE_ev (e : E) : ((shortE e).ev U r).toI = (e.ev U r).toI := by
  have h := linE_ev (U := U) (r := r) e
  unfold shortE
  split
  · rename_i c hc; rw [hc] at h; rw [← h]; simp [Lin.ev, evTs, E.ev, D.toI]
  · rename_i c a k hc
    rw [hc] at h
    split
    · rename_i hk
      subst hk
      rw [← h]
      split
      · rename_i h0; subst h0; simp [Lin.ev, evTs]
      · simp only [Lin.ev, evTs, E.ev, O2.ev, D.toI_i]; omega
    · rfl
  · rfl

def loOf (k : IntKind) : Int := if k.signed then -(2 ^ (k.bits - 1)) else 0
def hiOf (k : IntKind) : Int := if k.signed then 2 ^ (k.bits - 1) - 1 else 2 ^ k.bits - 1

theorem wrap_in {k : IntKind} {x : Int} (h0 : loOf k ≤ x) (h1 : x ≤ hiOf k) : k.wrap x = x := by
  unfold loOf at h0
  unfold hiOf at h1
  unfold IntKind.wrap
  cases k <;> simp [IntKind.bits, IntKind.signed] at h0 h1 ⊢ <;> omega

/-- A number held to its kind: as it is, where what a way has met says that it fits. -/
def wrapC (pc : List (E × Bool)) (k : IntKind) (e : E) : E :=
  match e with
  | .i n => mk1 (.wrap k) (.i n)
  | e =>
    let fs := factsOf pc
    let d := linE e
    let s := shortE e
    if proves fs depthI (d.sub ⟨hiOf k, []⟩) && proves fs depthI ((Lin.mul (-1) d).add ⟨loOf k, []⟩) then s else .o1 (.wrap k) s

theorem wrapC_ev {pc : List (E × Bool)} (hp : PcOk U r pc) (k : IntKind) (e : E) : ((wrapC pc k e).ev U r).toI = k.wrap (e.ev U r).toI := by
  have hf := factsOf_ok hp
  unfold wrapC
  split
  · rw [mk1_ev]; rfl
  · dsimp only
    split
    · rename_i h
      rw [Bool.and_eq_true] at h
      have h2 := proves_ok hf h.1
      have h3 := proves_ok hf h.2
      rw [Lin.sub_ev, linE_ev] at h2
      rw [Lin.add_ev, Lin.mul_ev, linE_ev] at h3
      rw [shortE_ev, wrap_in]
      · have : (⟨loOf k, []⟩ : Lin).ev U r = loOf k := by simp [Lin.ev, evTs]
        omega
      · have : (⟨hiOf k, []⟩ : Lin).ev U r = hiOf k := by simp [Lin.ev, evTs]
        omega
    · simp only [E.ev, O1.ev, D.toI_i, shortE_ev]
end
end Go.Sx
