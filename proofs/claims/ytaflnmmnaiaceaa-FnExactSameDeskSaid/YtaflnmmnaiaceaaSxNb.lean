/-
  Sx, part Nb: statements in which a step that writes stands behind free moves.
-/
import Derived.Test.YtaflnmmnaiaceaaSxN
namespace Go.Sx
open E (mk1 mk2 mkIte mk1_ev mk2_ev mkIte_ev)

section
variable {U : Nat → D → D} {r r' : Nat → D} {P : Program} {cf : FuncId → List SV → Cx → Tree (SV × Cx)} {ops : Array Oper} {n : Nat} {lat : Nat → Option (Nat × SB)} {st : Nat → St}
variable {L : Nat → Prop} {g0 g g' : Gh} {c : Cx} {w0 w w' : World} {listed : Array Bool} {a : Act} {Q Q' : Exit → Act → World → Prop}

/-! ### Exits -/

theorem wpO_monoQ (hQ : ∀ e a w, Q' e a w → Q e a w) {o : Oper} {K : Act → World → Prop} (h : o.wp P a w K Q') : o.wp P a w K Q := by
  unfold Oper.wp at *
  generalize (execOp a.eval o).run P w = res at *
  have hl : LetsOut Q' → LetsOut Q := fun ⟨a, w, h⟩ => ⟨a, w, hQ _ _ _ h⟩
  cases res with
  | ok n w' =>
    cases n <;> simp only [Oper.upon] at h ⊢ <;>
      first
        | exact h
        | exact Calls.mono h (fun e w'' he => by cases e <;> first | exact he | exact hQ _ _ _ he | exact hl he)
  | halt x w' => cases x <;> simp only [Oper.upon] at h ⊢ <;> first | exact h | exact hQ _ _ _ h

theorem wpAny_monoQ (hQ : ∀ e a w, Q' e a w → Q e a w) : ∀ (fuel : Nat) (listed : Array Bool) (a : Act) (w : World), wpAny P .any ops Q' fuel listed a w → wpAny P .any ops Q fuel listed a w := by
  have hl : LetsOut Q' → LetsOut Q := fun ⟨a, w, h⟩ => ⟨a, w, hQ _ _ _ h⟩
  intro fuel
  induction fuel with
  | zero => intro listed a w h; exact ⟨h.1, hQ _ _ _ h.2⟩
  | succ fuel ih =>
    intro listed a w h
    refine ⟨fun h0 => hQ _ _ _ (h.1 h0), fun i hi => ?_⟩
    have h1 := wpOp_mono (fun a' w' h' => ih _ a' w' h') (h.2 i hi)
    unfold wpOp at h1 ⊢
    split
    · rename_i h0; rw [h0] at h1; exact h1
    · rename_i o h0
      rw [h0] at h1
      dsimp only at h1
      split
      · rename_i hw
        rw [if_pos hw] at h1
        rcases h1 with h1 | h1
        · exact .inl (wpO_monoQ hQ h1)
        · exact .inr ⟨h1.1, hl h1.2⟩
      · rename_i hw
        rw [if_neg hw] at h1; exact h1

/-! ### Who waits for whom, in the end -/

def waitC (acc : List Nat) (o : Oper) : Nat := (waitList o.after.toList).foldl (fun m j => m ||| (2 ^ j ||| acc.getD j 0)) 0

def closGo : List Oper → List Nat → List Nat
  | [], acc => acc
  | o :: rest, acc => closGo rest (acc ++ [waitC acc o])

/-- What is listed is listed with all for which it waits. -/
def Down (ops : Array Oper) (listed : Array Bool) : Prop :=
  ∀ (j : Nat) (o : Oper), ops.toList[j]? = some o → listed.getD j false = true → ∀ e ∈ o.after, Region.binds .any e = true → listed.getD e.on false = true

theorem foldl_bit {acc : List Nat} {j : Nat} : ∀ {l : List Nat} {m : Nat}, (l.foldl (fun m j => m ||| (2 ^ j ||| acc.getD j 0)) m).testBit j = true → m.testBit j = true ∨ ∃ i ∈ l, j = i ∨ (acc.getD i 0).testBit j = true := by
  intro l
  induction l with
  | nil => intro m h; exact .inl h
  | cons x l ih =>
    intro m h
    rcases ih h with h | ⟨i, hi, h⟩
    · rw [Nat.testBit_or, Nat.testBit_or, Nat.testBit_two_pow] at h
      simp only [Bool.or_eq_true, decide_eq_true_eq] at h
      rcases h with h | h | h
      · exact .inl h
      · exact .inr ⟨x, by simp, .inl h.symm⟩
      · exact .inr ⟨x, by simp, .inr h⟩
    · exact .inr ⟨i, by simp [hi], h⟩

/-- What a mask says. -/
def Says_ (ops : Array Oper) (i m : Nat) : Prop := ∀ (listed : Array Bool), Down ops listed → (∀ (o : Oper), ops.toList[i]? = some o → ∀ e ∈ o.after, Region.binds .any e = true → listed.getD e.on false = true) →
  ∀ j, m.testBit j = true → listed.getD j false = true

theorem waitC_says {acc : List Nat} {o : Oper} {i : Nat} (ho : ops.toList[i]? = some o) (hacc : ∀ k m, acc[k]? = some m → Says_ ops k m) : Says_ ops i (waitC acc o) := by
  intro listed hd hw j hj
  unfold waitC at hj
  rcases foldl_bit hj with h | ⟨k, hk, h⟩
  · simp at h
  · unfold waitList at hk
    obtain ⟨e, he, rfl⟩ := List.mem_map.1 hk
    obtain ⟨he, hb⟩ := List.mem_filter.1 he
    have hke := hw o ho e (by simpa using he) hb
    rcases h with rfl | h
    · exact hke
    · cases hm : acc[e.on]? with
      | none => rw [List.getD_eq_getElem?_getD, hm] at h; simp at h
      | some m =>
        rw [List.getD_eq_getElem?_getD, hm] at h
        refine hacc e.on m hm listed hd (fun o' ho' e' he' hb' => ?_) j h
        exact hd e.on o' ho' hke e' he' hb'

theorem closGo_says : ∀ {rest : List Oper} {acc : List Nat}, (∀ k (o : Oper), rest[k]? = some o → ops.toList[acc.length + k]? = some o) → (∀ k m, acc[k]? = some m → Says_ ops k m) → ∀ k m, (closGo rest acc)[k]? = some m → Says_ ops k m := by
  intro rest
  induction rest with
  | nil => intro acc _ h; exact h
  | cons o rest ih =>
    intro acc ho h
    refine ih (acc := acc ++ [waitC acc o]) (fun k p hp => ?_) (fun k m hm => ?_)
    · have := ho (k + 1) p (by simpa using hp)
      rw [List.length_append, List.length_singleton, show acc.length + 1 + k = acc.length + (k + 1) by omega]; exact this
    · by_cases hk : k < acc.length
      · rw [List.getElem?_append_left hk] at hm; exact h k m hm
      · rw [List.getElem?_append_right (by omega)] at hm
        have hk0 : k = acc.length := by
          have := (List.getElem?_eq_some_iff.1 hm).1; simp at this; omega
        subst hk0
        simp only [Nat.sub_self, List.getElem?_cons_zero, Option.some.injEq] at hm
        subst hm
        exact waitC_says (by have := ho 0 o rfl; simpa using this) h

/-- It waits in the end for all that stand before it, but for the free ones. -/
def lastC (cl : List Nat) (free k : Nat) : Bool := (cl.getD k 0 ||| free) &&& (2 ^ k - 1) == 2 ^ k - 1

theorem lastC_waits {cl : List Nat} {free k j : Nat} (h : lastC cl free k = true) (hj : j < k) : (cl.getD k 0).testBit j = true ∨ free.testBit j = true := by
  unfold lastC at h
  have h : (cl.getD k 0 ||| free) &&& (2 ^ k - 1) = 2 ^ k - 1 := by simpa using h
  have h1 := congrArg (fun m => m.testBit j) h
  simp only [Nat.testBit_and, Nat.testBit_or, Nat.testBit_two_pow_sub_one, hj, decide_true, Bool.and_true, Bool.or_eq_true] at h1
  exact h1

def headGoC (cl : List Nat) (free : Nat) : Nat → Nat
  | 0 => 0
  | k + 1 => if lastC cl free k then headGoC cl free k else k + 1

theorem headGoC_le (cl : List Nat) (free : Nat) : ∀ k, headGoC cl free k ≤ k
  | 0 => Nat.le_refl _
  | k + 1 => by unfold headGoC; split; · have := headGoC_le cl free k; omega
                · omega

theorem headGoC_last (cl : List Nat) (free : Nat) : ∀ k j, headGoC cl free k ≤ j → j < k → lastC cl free j = true
  | 0, j, _, h => by omega
  | k + 1, j, h1, h2 => by
    unfold headGoC at h1
    split at h1
    · rename_i hl
      by_cases hj : j = k
      · subst hj; exact hl
      · exact headGoC_last cl free k j h1 (by omega)
    · omega

/-! ### The rows anew, with free ones ahead -/

/-- The tail: each waits for all before it but the free ones, which are listed. -/
def TailOk (ops : Array Oper) (cl : List Nat) (free n : Nat) : Prop := (∀ k m, cl[k]? = some m → Says_ ops k m) ∧ (∀ k, n ≤ k → k < ops.size → lastC cl free k = true) ∧ ∀ j, free.testBit j = true → j < n

theorem TailOk.waits {cl : List Nat} {free : Nat} (h : TailOk ops cl free n) (hd : Down ops listed) {k j : Nat} (hk : n ≤ k) (hks : k < ops.size) (hj : j < k)
    (hall : ∀ (o : Oper), ops.toList[k]? = some o → ∀ e ∈ o.after, Region.binds .any e = true → listed.getD e.on false = true) : listed.getD j false = true ∨ free.testBit j = true := by
  rcases lastC_waits (h.2.1 k hk hks) hj with h1 | h1
  · left
    cases hm : cl[k]? with
    | none => rw [List.getD_eq_getElem?_getD, hm] at h1; simp at h1
    | some m =>
      rw [List.getD_eq_getElem?_getD, hm] at h1
      exact h.1 k m hm listed hd hall j h1
  · exact .inr h1

theorem Down.set (hd : Down ops listed) {i : Nat} (hi : i ∈ Region.ready .any ops listed) : Down ops (listed.setIfInBounds i true) := by
  obtain ⟨_, o, ho, hall⟩ := mem_ready.1 hi
  intro j p hp hl e he hb
  by_cases hij : i = j
  · subst hij
    have : p = o := by
      have ho' : ops.toList[i]? = some o := by simpa using ho
      rw [hp] at ho'; exact Option.some.inj ho'
    subst this
    exact getD_set_true (hall e he hb)
  · rw [getD_set_ne' hij] at hl
    exact getD_set_true (hd j p hp hl e he hb)

theorem tail_run2 (hcf : CallsOk U P cf) (hback : ∀ i, i < ops.toList.length → backOk ops.toList i = true) {cl : List Nat} {free : Nat} (ht : TailOk ops cl free n) : ∀ (m p : Nat) (listed : Array Bool) (L : Nat → Prop) (r : Nat → D) (g : Gh) (S : St) (a : Act) (w : World),
    p + m = ops.size → n ≤ p → listed.size = ops.size → Down ops listed → (∀ j, j < p → listed.getD j false = true) → (∀ j, p ≤ j → j < ops.size → listed.getD j true = false) →
    HeapDen U r g L S.c.h w → PcOk U r S.c.pc → Slots U r g L S.tmps a →
    (runOps P cf ops (ops.toList.drop p) S).sat U (SPost U L r g S.c w (Q .normal)) r → wpAny P .any ops Q m listed a w := by
  intro m
  induction m with
  | zero =>
    intro p listed L r g S a w hpm hnp hls hd hin hout hh hp hs hsat
    have hdrop : ops.toList.drop p = [] := List.drop_eq_nil_of_le (by simp; omega)
    rw [hdrop] at hsat
    refine ⟨?_, hsat g a w (Ext.refl hh hp) (by rw [Lx_self]; exact hs)⟩
    cases hr : Region.ready .any ops listed with
    | nil => rfl
    | cons i l =>
      exfalso
      obtain ⟨h1, o, ho, _⟩ := mem_ready.1 (show i ∈ Region.ready .any ops listed by rw [hr]; simp)
      have hi : i < ops.size := (Array.getElem?_eq_some_iff.1 ho).1
      have h2 := hin i (by omega)
      rw [getD_lt_of (by omega)] at h1
      rw [h1] at h2; cases h2
  | succ m ih =>
    intro p listed L r g S a w hpm hnp hls hd hin hout hh hp hs hsat
    have hpl : p < ops.size := by omega
    have hop : ops[p]? = some ops[p] := Array.getElem?_eq_getElem hpl
    have hol : ops.toList[p]? = some ops[p] := by rw [Array.getElem?_toList]; exact hop
    have hready : p ∈ Region.ready .any ops listed := by
      refine mem_ready.2 ⟨hout p (Nat.le_refl _) hpl, ops[p], hop, fun e he hb => ?_⟩
      exact hin _ (backOk_lt hol (hback p (by simp only [Array.length_toList]; exact hpl)) he hb)
    refine ⟨fun h0 => by rw [h0] at hready; (cases hready), fun i hi => ?_⟩
    have hip : i = p := by
      obtain ⟨h1, o, ho, hall⟩ := mem_ready.1 hi
      have hil : i < ops.size := (Array.getElem?_eq_some_iff.1 ho).1
      rcases Nat.lt_trichotomy i p with h | h | h
      · have h2 := hin i h; rw [getD_lt_of (by omega)] at h1; rw [h1] at h2; cases h2
      · exact h
      · have h5 := hout p (Nat.le_refl _) hpl
        rw [getD_lt_of (by omega)] at h5
        rcases ht.waits hd (k := i) (j := p) (by omega) hil h (fun o' ho' e he hb => by
          have ho'' : ops.toList[i]? = some o := by simpa using ho
          rw [ho'] at ho''
          rw [Option.some.inj ho''] at he
          exact hall e he hb) with h4 | h4
        · rw [h4] at h5; cases h5
        · have := ht.2.2 p h4; omega
    subst hip
    have hdrop : ops.toList.drop i = ops[i] :: ops.toList.drop (i + 1) := by
      rw [List.drop_eq_getElem_cons (by simpa using hpl)]; simp
    rw [hdrop, runOps, Tree.sat_bind] at hsat
    have hstep := stepX_ok (Q := Q) (K := fun a' w' => wpAny P .any ops Q m (listed.setIfInBounds i true) a' w') hcf hh hp hs (Tree.sat_mono ?_ hsat)
    · unfold wpOp
      rw [hop]
      dsimp only
      split
      · rename_i hw; rw [if_pos hw] at hstep; exact .inl hstep
      · rename_i hw; rw [if_neg hw] at hstep; exact hstep
    · intro r' S' hrest g' a' w' he hs'
      refine ih (i + 1) _ (Lx L S.c.h S'.c.h) r' g' S' a' w' (by omega) (by omega) (by simp [hls]) (hd.set hi) ?_ ?_ he.heap he.pc hs' (Tree.sat_mono ?_ hrest)
      · intro j hj
        by_cases hij : i = j
        · subst hij; exact getD_set_self' (by omega) _
        · rw [getD_set_ne' hij]; exact hin j (by omega)
      · intro j h1 h2; rw [getD_set_ne' (by omega)]; exact hout j (by omega) h2
      · intro r'' S'' hpost; exact hpost.shift he

theorem head_run2 (hcf : CallsOk U P cf) (H : Head U r P cf ops n lat st) (hb0 : ∀ id, L id → id < (st 0).c.h.length) {cl : List Nat} {free : Nat} (ht : TailOk ops cl free n) {m : Nat}
    (tail : ∀ listed g a w, Down ops listed → (∀ j, j < n → listed.getD j false = true) → Inv U r ops n lat st L g0 w0 listed g a w → wpAny P .any ops Q m listed a w) :
    ∀ (k : Nat) (listed : Array Bool) (g : Gh) (a : Act) (w : World), Down ops listed → (∀ j, free.testBit j = true → listed.getD j false = true) → Inv U r ops n lat st L g0 w0 listed g a w → unlisted listed n = k → wpAny P .any ops Q (k + m) listed a w := by
  intro k
  induction k with
  | zero =>
    intro listed g a w hd _ inv hk
    rw [Nat.zero_add]
    exact tail listed g a w hd (unlisted_zero hk) inv
  | succ k ih =>
    intro listed g a w hd hfr inv hk
    rw [show k + 1 + m = (k + m) + 1 by omega]
    have hex : ∃ j, j < n ∧ listed.getD j false = false ∧ ∀ i, i < j → listed.getD i false = true := by
      have hne : ∃ j, j < n ∧ listed.getD j false = false := by
        apply Classical.byContradiction
        intro hno
        have : unlisted listed n = 0 := by
          unfold unlisted
          rw [List.length_eq_zero_iff, List.filter_eq_nil_iff]
          intro j hj hx
          refine hno ⟨j, List.mem_range.1 hj, by simpa using hx⟩
        omega
      obtain ⟨j, hj, hx⟩ := hne
      induction j using Nat.strongRecOn with
      | _ j ihj =>
        by_cases hall : ∀ i, i < j → listed.getD i false = true
        · exact ⟨j, hj, hx, hall⟩
        · simp only [Classical.not_forall] at hall
          obtain ⟨i, hi, hi'⟩ := hall
          exact ihj i hi (by omega) (by simpa using hi')
    obtain ⟨j, hj, hjx, hjb⟩ := hex
    have hjl : j < ops.size := by have := H.len; simp at this; omega
    have hready : j ∈ Region.ready .any ops listed := by
      have hop : ops[j]? = some ops[j] := Array.getElem?_eq_getElem hjl
      have hol : ops.toList[j]? = some ops[j] := by rw [Array.getElem?_toList]; exact hop
      refine mem_ready.2 ⟨by rw [getD_lt_of (by rw [inv.lsz]; exact hjl)]; exact hjx, ops[j], hop, fun e he hb => ?_⟩
      exact hjb _ (backOk_lt hol (H.back j (by simp only [Array.length_toList]; exact hjl)) he hb)
    refine ⟨fun h0 => by rw [h0] at hready; (cases hready), fun i hi => ?_⟩
    have hin : i < n := by
      rcases Nat.lt_or_ge i n with h | h
      · exact h
      · exfalso
        obtain ⟨h1, o, ho, hall⟩ := mem_ready.1 hi
        have hil : i < ops.size := (Array.getElem?_eq_some_iff.1 ho).1
        rcases ht.waits hd (k := i) (j := j) h hil (by omega) (fun o' ho' e he hb => by
          have ho'' : ops.toList[i]? = some o := by simpa using ho
          rw [ho'] at ho''
          rw [Option.some.inj ho''] at he
          exact hall e he hb) with h4 | h4
        · rw [hjx] at h4; cases h4
        · rw [hfr j h4] at hjx; cases hjx
    refine wpOp_mono ?_ (inv.step hcf H hb0 hi hin)
    rintro a' w' ⟨g', inv'⟩
    refine ih _ g' a' w' (hd.set hi) (fun j hj => getD_set_true (hfr j hj)) inv' ?_
    obtain ⟨h1, o, ho, _⟩ := mem_ready.1 hi
    have hil : i < listed.size := by rw [inv.lsz]; exact (Array.getElem?_eq_some_iff.1 ho).1
    have := unlisted_set (listed := listed) hin (by rw [← getD_lt_of hil]; exact h1) hil
    omega

/-! ### Free moves ahead -/

def isMove (o : Oper) : Bool := match o.op, o.guard with
  | .move _, none => true
  | _, _ => false

/-- All of these may be carried out at once. -/
def hoistOk (ops : Array Oper) (n : Nat) : List Nat → Array Bool → Bool
  | [], _ => true
  | i :: l, listed => match ops[i]? with
    | some o => isMove o && (Nat.blt i n && (Region.free .any ops listed i && ((Region.ready .any ops listed).contains i && hoistOk ops n l (listed.setIfInBounds i true))))
    | none => false

def hoisted : List Nat → Array Bool → Array Bool
  | [], listed => listed
  | i :: l, listed => hoisted l (listed.setIfInBounds i true)

theorem move_yields {o : Oper} (h : isMove o = true) (a : Act) : ∃ v, Yields P ops o v a := by
  unfold isMove at h
  split at h
  · rename_i x hop hg
    refine ⟨a.eval x, .inl ⟨by unfold Region.wanted; rw [hg], fun w => ?_⟩⟩
    obtain ⟨dst, op, type, pos, after, guard⟩ := o
    obtain rfl : op = .move x := hop
    rfl
  · cases h

theorem hoist_run (hcf : CallsOk U P cf) (H : Head U r P cf ops n lat st) (hb0 : ∀ id, L id → id < (st 0).c.h.length) (hsel : Region.noSelect ops = true) (hQ : ∀ c a a' w, Q (.panic c) a w → Q (.panic c) a' w) {fuel : Nat} :
    ∀ (F : List Nat) (listed : Array Bool) (g : Gh) (a : Act) (w : World), hoistOk ops n F listed = true → Down ops listed → Inv U r ops n lat st L g0 w0 listed g a w →
      (∀ g' a', Down ops (hoisted F listed) → Inv U r ops n lat st L g0 w0 (hoisted F listed) g' a' w → wpAny P .any ops Q fuel (hoisted F listed) a' w) → wpAny P .any ops Q (fuel + F.length) listed a w := by
  intro F
  induction F with
  | nil => intro listed g a w _ hd inv h; exact h g a hd inv
  | cons i F ih =>
    intro listed g a w hok hd inv h
    unfold hoistOk at hok
    split at hok
    · rename_i o ho
      simp only [Bool.and_eq_true] at hok
      obtain ⟨h1, h2, h3, h4, h5⟩ := hok
      have hin : i < n := by rw [Nat.blt_eq] at h2; exact h2
      obtain ⟨v, hy⟩ := move_yields (P := P) (ops := ops) h1 a
      have hmem : i ∈ Region.ready .any ops listed := by simpa using h4
      rw [show fuel + (i :: F).length = (fuel + F.length) + 1 by simp; omega]
      refine wpAny_take ho hsel h3 h4 (fun c a w hq => hQ c _ _ w hq) hy ?_
      have hstep := inv.step (Q := fun _ _ _ => False) hcf H hb0 hmem hin
      have hinv : ∃ g', Inv U r ops n lat st L g0 w0 (listed.setIfInBounds i true) g' (a.put o.dst v) w := by
        unfold wpOp at hstep
        rw [ho] at hstep
        dsimp only at hstep
        rcases hy with ⟨hw, hv⟩ | ⟨hw, hv⟩
        · rw [if_pos hw] at hstep
          rcases hstep with hs | hs
          · unfold Oper.wp at hs; rw [hv w] at hs; exact hs
          · obtain ⟨_, _, _, hf⟩ := hs; exact hf.elim
        · rw [hw] at hstep; rw [hv]; exact hstep
      obtain ⟨g', inv'⟩ := hinv
      exact ih _ g' _ w h5 (hd.set hmem) inv' h
    · cases hok

/-- The free moves of a statement. -/
def freeGo (ops : Array Oper) : List Oper → Nat → List Nat
  | [], _ => []
  | o :: l, i => if isMove o && (o.after.isEmpty && (match o.op with
      | .move (.tmp t) => ops.all fun p => !(p.dst == some t)
      | _ => true)) then i :: freeGo ops l (i + 1) else freeGo ops l (i + 1)

def drawX2 (P : Program) (cf : FuncId → List SV → Cx → Tree (SV × Cx)) (ops : Array Oper) (S : St) : Tree St :=
  let l := ops.toList
  let F := freeGo ops l 0
  let free := maskOf F
  let cl := closGo l []
  let n := headGoC cl free l.length
  let F' := F.filter fun i => Nat.blt i n
  if regionOk l ops n && (Region.noSelect ops && (hoistOk ops n F' (Array.replicate ops.size false) && ((List.range ops.size).all (fun k => Nat.blt k n || lastC cl (maskOf F') k)))) then (runQ P cf ops (l.take n) S).bind (runOps P cf ops (l.drop n)) else .bad

theorem hoisted_mem : ∀ {F : List Nat} {listed : Array Bool} {j : Nat}, (listed.getD j false = true ∨ (j ∈ F ∧ j < listed.size)) → (hoisted F listed).getD j false = true := by
  intro F
  induction F with
  | nil =>
    intro listed j h
    rcases h with h | h
    · exact h
    · cases h.1
  | cons i F ih =>
    intro listed j h
    unfold hoisted
    refine ih ?_
    by_cases hij : i = j
    · subst hij
      left
      rcases h with h | h
      · exact getD_set_true h
      · exact getD_set_self' h.2 _
    · rcases h with h | h
      · left; rw [getD_set_ne' hij]; exact h
      · right
        refine ⟨?_, by simpa using h.2⟩
        rcases List.mem_cons.1 h.1 with h' | h'
        · exact absurd h'.symm hij
        · exact h'

theorem hoisted_only : ∀ {F : List Nat} {listed : Array Bool} {j : Nat}, j ∉ F → (hoisted F listed).getD j true = listed.getD j true := by
  intro F
  induction F with
  | nil => intro listed j _; rfl
  | cons i F ih =>
    intro listed j h
    unfold hoisted
    rw [ih (fun h' => h (List.mem_cons_of_mem _ h')), getD_set_ne' (fun e => h (by rw [e]; exact List.mem_cons_self ..))]

theorem hoisted_size : ∀ {F : List Nat} {listed : Array Bool}, (hoisted F listed).size = listed.size := by
  intro F
  induction F with
  | nil => intro listed; rfl
  | cons i F ih => intro listed; unfold hoisted; rw [ih]; simp

theorem unlisted_hoisted : ∀ {F : List Nat} {listed : Array Bool}, hoistOk ops n F listed = true → listed.size = ops.size → unlisted (hoisted F listed) n + F.length = unlisted listed n := by
  intro F
  induction F with
  | nil => intro listed _ _; rfl
  | cons i F ih =>
    intro listed hok hsz
    unfold hoistOk at hok
    split at hok
    · rename_i o ho
      simp only [Bool.and_eq_true] at hok
      obtain ⟨h1, h2, h3, h4, h5⟩ := hok
      have hin : i < n := by rw [Nat.blt_eq] at h2; exact h2
      have hmem : i ∈ Region.ready .any ops listed := by simpa using h4
      obtain ⟨hu, _⟩ := mem_ready.1 hmem
      have hil : i < listed.size := by rw [hsz]; exact (Array.getElem?_eq_some_iff.1 ho).1
      have h6 := unlisted_set (listed := listed) hin (by rw [← getD_lt_of hil]; exact hu) hil
      have h7 := ih h5 (by simp [hsz])
      unfold hoisted
      simp only [List.length_cons]
      omega
    · cases hok

theorem drawX2_ok (hm : P.follows .mixedOrders = true) (hcf : CallsOk U P cf) {id : Nat} {S : St} (hh : HeapDen U r g L S.c.h w) (hp : PcOk U r S.c.pc) (hs : Slots U r g L S.tmps a)
    (h : (drawX2 P cf ops S).sat U (SPost U L r g S.c w (Q .normal)) r) : (Code.region id ops true).wp P Q a w := by
  unfold drawX2 at h
  dsimp only at h
  generalize hF : freeGo ops ops.toList 0 = F at h
  generalize hcl : closGo ops.toList [] = cl at h
  generalize hn0 : headGoC cl (maskOf F) ops.toList.length = n at h
  generalize hF' : (F.filter fun i => Nat.blt i n) = F' at h
  split at h
  · rename_i hok
    simp only [Bool.and_eq_true] at hok
    obtain ⟨hreg, hsel, hhoist, hlastC⟩ := hok
    simp only [regionOk, Bool.and_eq_true, List.all_eq_true, List.mem_range] at hreg
    rw [Tree.sat_bind] at h
    obtain ⟨st, h1, h2, h3⟩ := runQ_states (base := S.c.h.length) hp h
    have hn : n ≤ ops.toList.length := by rw [← hn0]; exact headGoC_le _ _ _
    have hlen : (ops.toList.take n).length = n := by rw [List.length_take]; exact Nat.min_eq_left hn
    rw [hlen] at h3
    subst h1
    have H : Head U r P cf ops n (fun _ => none) st :=
      ⟨fun i o hi ho => h2 i o (by rw [List.getElem?_take, if_pos hi]; exact ho), hn, hreg.1, hreg.2.1, hreg.2.2, hp, fun k k' id b b' _ _ h => by cases h⟩
    have hTail : TailOk ops cl (maskOf F') n := by
      refine ⟨?_, ?_, ?_⟩
      · rw [← hcl]
        exact closGo_says (fun k o ho => by simpa using ho) (fun k m hm => by simp at hm)
      · intro k k1 k2
        rw [List.all_eq_true] at hlastC
        have := hlastC k (List.mem_range.2 k2)
        rw [Bool.or_eq_true, Nat.blt_eq] at this
        rcases this with h' | h'
        · omega
        · exact h'
      · intro j hj
        have := maskOf_test.1 hj
        rw [← hF'] at this
        have := (List.mem_filter.1 this).2
        rw [Nat.blt_eq] at this; exact this
    let w1 : World := { w with drawn := w.drawn + 1 }
    have hsame : Same w w1 := ⟨rfl, rfl, rfl, rfl⟩
    have hh1 : HeapDen U r g L (st 0).c.h w1 := hh.same hsame
    have hrep : ∀ t, (Array.replicate ops.size false).getD t false = false := fun t => by
      rw [Array.getD_eq_getD_getElem?, Array.getElem?_replicate]; split <;> rfl
    have inv0 : Inv U r ops n (fun _ => none) st L g w1 (Array.replicate ops.size false) g a w1 := by
      refine ⟨by simp, ?_, hs.defers, hs.size, fun t ht => ?_, ?_, fun t _ => hs.at_ t, fun _ _ => ⟨rfl, rfl⟩, ?_, hh1.blk, ?_, ?_, ?_, Frm.refl _ _, fun _ _ => rfl, ?_, fun k id b' _ _ h => (by cases h), hh1.lt⟩
      · intro t _ ht; rw [Array.getD_eq_getD_getElem?, Array.getElem?_replicate, if_pos ht]; rfl
      · have := hs.at_ t
        rw [Array.getD_eq_getD_getElem?, Array.getElem?_eq_none (by rw [hs.size]; exact ht)] at this; exact this
      · intro i o t _ _ _ hl; rw [hrep] at hl; cases hl
      · rintro id (hl | ⟨j, _, _, hl, _⟩)
        · exact hh1.lt id hl
        · rw [hrep] at hl; cases hl
      · intro i id b _ hl; rw [hrep] at hl; cases hl
      · intro i id _ hl; rw [hrep] at hl; cases hl
      · rintro id id' b b' (hl | ⟨j, _, _, hl, _⟩) _ h0
        · have := hh1.bnd id hl; omega
        · rw [hrep] at hl; cases hl
      · rintro id b ks e (hl | ⟨j, _, _, hl, _⟩) hb hr
        · rw [H.get (i := 0) (j := n) (Nat.zero_le _) (Nat.le_refl _) (hh1.bnd id hl)] at hb
          exact hh1.rows id b ks e hl hb hr
        · rw [hrep] at hl; cases hl
    have down0 : Down ops (Array.replicate ops.size false) := fun j o _ hl => by rw [hrep] at hl; cases hl
    refine wp_region_any hm ?_
    let Q0 : Exit → Act → World → Prop := fun e a w => (match e with | .panic _ => False | _ => True) ∧ Q e a w
    refine wpAny_monoQ (Q' := Q0) (fun _ _ _ h => h.2) _ _ _ _ ?_
    have hsize : n + (ops.size - n) = ops.size := by
      have : n ≤ ops.size := by simpa using hn
      omega
    have hun : unlisted (Array.replicate ops.size false) n = n := by
      unfold unlisted
      rw [List.filter_eq_self.2, List.length_range]
      intro j _
      rw [hrep]; rfl
    have hun' := unlisted_hoisted hhoist (by simp)
    rw [hun] at hun'
    have key := hoist_run (Q := Q0) (fuel := unlisted (hoisted F' (Array.replicate ops.size false)) n + (ops.size - n)) hcf H hh1.bnd hsel (fun c a a' w hq => hq.1.elim) F' _ g a w1 hhoist down0 inv0 ?_
    · rw [show unlisted (hoisted F' (Array.replicate ops.size false)) n + (ops.size - n) + F'.length = ops.size by omega] at key
      exact key
    · intro g1 a1 hd1 inv1
      refine head_run2 (Q := Q0) (m := ops.size - n) hcf H hh1.bnd hTail ?_ _ _ g1 a1 w1 hd1 (fun j hj => ?_) inv1 rfl
      · intro listed g' a' w' hd hall inv
        obtain ⟨e, hs'⟩ := inv.done H hh1 hall
        refine tail_run2 hcf hreg.1 hTail _ n listed (Lx L (st 0).c.h (st n).c.h) r g' (st n) a' w' hsize (Nat.le_refl _) inv.lsz hd hall inv.tail e.heap e.pc hs' (Tree.sat_mono ?_ h3)
        intro r'' S'' hpost
        have hpost' : SPost U L r g (st 0).c w (Q0 .normal) r'' S'' := fun g a w e s => ⟨trivial, hpost g a w e s⟩
        exact hpost'.shift (e.of_same hsame)
      · have hm' := maskOf_test.1 hj
        refine hoisted_mem (.inr ⟨hm', ?_⟩)
        rw [Array.size_replicate]
        have := hTail.2.2 j hj
        have : n ≤ ops.size := by simpa using hn
        omega
  · exact h.elim

/-! ### A statement -/

/-- A step that writes. -/
def writes (o : Oper) : Bool := match o.op with
  | .call cl => (match cl.callee with
    | .builtin .append | .builtin .copy => true
    | .value _ => true
    | _ => false)
  | .store _ _ _ => true
  | _ => false

/-- Whether the row in order, with its free moves, begins before the plain one does, and that is of use. -/
def second (ops : Array Oper) : Bool :=
  let l := ops.toList
  let n := headLen l
  (l.take n).any writes && Nat.blt (headGoC (closGo l []) (maskOf (freeGo ops l 0)) l.length) n

/-- A step of the head stores into a place of the statement itself. -/
def lateIn (ops : Array Oper) : Bool :=
  let l := ops.toList.take (headLen ops.toList)
  l.any (fills l)

/-- A statement, in the order of the text or in whatever order. -/
def regionX (P : Program) (cf : FuncId → List SV → Cx → Tree (SV × Cx)) (ops : Array Oper) (draw : Bool) (S : St) : Tree St :=
  if draw then (if second ops then drawX2 P cf ops S else if lateIn ops then drawX3 P cf ops S else drawX P cf ops S) else runOps P cf ops ops.toList S

theorem regionX_ok (hm : P.follows .mixedOrders = true) (hcf : CallsOk U P cf) {id : Nat} {draw : Bool} {S : St} (hh : HeapDen U r g L S.c.h w) (hp : PcOk U r S.c.pc) (hs : Slots U r g L S.tmps a)
    (h : (regionX P cf ops draw S).sat U (SPost U L r g S.c w (Q .normal)) r) : (Code.region id ops draw).wp P Q a w := by
  unfold regionX at h
  cases draw with
  | true =>
    simp only [if_true] at h
    split at h
    · exact drawX2_ok hm hcf hh hp hs h
    · split at h
      · exact drawX3_ok hm hcf hh hp hs h
      · exact drawX_ok hm hcf hh hp hs h
  | false => exact wp_region (runOps_ok hcf 0 _ S L r g a w (by simp) (Nat.zero_le _) hh hp hs h)
end
end Go.Sx
