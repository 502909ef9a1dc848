/-
  Sx, parts Nb, Nc, Ne, Nf, O, P.
-/
import Derived.Test.YtcloacigldklkaaDoorSxGc
import Derived.OrdersHeld
/-
  Sx, part Nb: statements in which a step that writes stands behind free moves.
-/
namespace Go.Sx
open E (mk1 mk2 mkIte mk1_ev mk2_ev mkIte_ev)

section
variable {U : Nat → D → D} {r r' : Nat → D} {P : Program} {cf : FuncId → List SV → Cx → Tree (SV × Cx)} {ops : Array Oper} {n : Nat} {lat : Nat → Option (Nat × SB)} {st : Nat → St} {ps : Nat → List (E × Bool)}
variable {L : Nat → Prop} {g0 g g' : Gh} {c : Cx} {w0 w w' : World} {listed : Array Bool} {a : Act} {Q Q' : Exit → Act → World → Prop}

/-! ### Exits -/

theorem wpO_monoQ (hQ : ∀ e a w, Q' e a w → Q e a w) {o : Oper} {K : Act → World → Prop} (h : o.wp P a w K Q') : o.wp P a w K Q := by
  unfold Oper.wp at *
  generalize (execOp a.eval o).run P w = res at *
  have hl : LetsOut Q' → LetsOut Q := fun ⟨a, w, h⟩ => ⟨a, w, hQ _ _ _ h⟩
  cases res with
  | ok n w' =>
    cases n <;> simp only [Oper.upon] at h ⊢ <;>
      first
        | exact h
        | exact Calls.mono h (fun e w'' he => by cases e <;> first | exact he | exact hQ _ _ _ he | exact hl he)
  | halt x w' => cases x <;> simp only [Oper.upon] at h ⊢ <;> first | exact h | exact hQ _ _ _ h

theorem wpAny_monoQ (hQ : ∀ e a w, Q' e a w → Q e a w) : ∀ (fuel : Nat) (listed : Array Bool) (a : Act) (w : World), wpAny P .any ops Q' fuel listed a w → wpAny P .any ops Q fuel listed a w := by
  have hl : LetsOut Q' → LetsOut Q := fun ⟨a, w, h⟩ => ⟨a, w, hQ _ _ _ h⟩
  intro fuel
  induction fuel with
  | zero => intro listed a w h; exact ⟨h.1, hQ _ _ _ h.2⟩
  | succ fuel ih =>
    intro listed a w h
    refine ⟨fun h0 => hQ _ _ _ (h.1 h0), fun i hi => ?_⟩
    have h1 := wpOp_mono (fun a' w' h' => ih _ a' w' h') (h.2 i hi)
    unfold wpOp at h1 ⊢
    split
    · rename_i h0; rw [h0] at h1; exact h1
    · rename_i o h0
      rw [h0] at h1
      dsimp only at h1
      split
      · rename_i hw
        rw [if_pos hw] at h1
        rcases h1 with h1 | h1
        · exact .inl (wpO_monoQ hQ h1)
        · exact .inr ⟨h1.1, hl h1.2⟩
      · rename_i hw
        rw [if_neg hw] at h1; exact h1

/-! ### Who waits for whom, in the end -/

def waitC (acc : List Nat) (o : Oper) : Nat := (waitList o.after.toList).foldl (fun m j => m ||| (2 ^ j ||| acc.getD j 0)) 0

def closGo : List Oper → List Nat → List Nat
  | [], acc => acc
  | o :: rest, acc => closGo rest (acc ++ [waitC acc o])

/-- What is listed is listed with all for which it waits. -/
def Down (ops : Array Oper) (listed : Array Bool) : Prop :=
  ∀ (j : Nat) (o : Oper), ops.toList[j]? = some o → listed.getD j false = true → ∀ e ∈ o.after, Region.binds .any e = true → listed.getD e.on false = true

theorem foldl_bit {acc : List Nat} {j : Nat} : ∀ {l : List Nat} {m : Nat}, (l.foldl (fun m j => m ||| (2 ^ j ||| acc.getD j 0)) m).testBit j = true → m.testBit j = true ∨ ∃ i ∈ l, j = i ∨ (acc.getD i 0).testBit j = true := by
  intro l
  induction l with
  | nil => intro m h; exact .inl h
  | cons x l ih =>
    intro m h
    rcases ih h with h | ⟨i, hi, h⟩
    · rw [Nat.testBit_or, Nat.testBit_or, Nat.testBit_two_pow] at h
      simp only [Bool.or_eq_true, decide_eq_true_eq] at h
      rcases h with h | h | h
      · exact .inl h
      · exact .inr ⟨x, by simp, .inl h.symm⟩
      · exact .inr ⟨x, by simp, .inr h⟩
    · exact .inr ⟨i, by simp [hi], h⟩

/-- What a mask says. -/
def Says_ (ops : Array Oper) (i m : Nat) : Prop := ∀ (listed : Array Bool), Down ops listed → (∀ (o : Oper), ops.toList[i]? = some o → ∀ e ∈ o.after, Region.binds .any e = true → listed.getD e.on false = true) →
  ∀ j, m.testBit j = true → listed.getD j false = true

theorem waitC_says {acc : List Nat} {o : Oper} {i : Nat} (ho : ops.toList[i]? = some o) (hacc : ∀ k m, acc[k]? = some m → Says_ ops k m) : Says_ ops i (waitC acc o) := by
  intro listed hd hw j hj
  unfold waitC at hj
  rcases foldl_bit hj with h | ⟨k, hk, h⟩
  · simp at h
  · unfold waitList at hk
    obtain ⟨e, he, rfl⟩ := List.mem_map.1 hk
    obtain ⟨he, hb⟩ := List.mem_filter.1 he
    have hke := hw o ho e (by simpa using he) hb
    rcases h with rfl | h
    · exact hke
    · cases hm : acc[e.on]? with
      | none => rw [List.getD_eq_getElem?_getD, hm] at h; simp at h
      | some m =>
        rw [List.getD_eq_getElem?_getD, hm] at h
        refine hacc e.on m hm listed hd (fun o' ho' e' he' hb' => ?_) j h
        exact hd e.on o' ho' hke e' he' hb'

theorem closGo_says : ∀ {rest : List Oper} {acc : List Nat}, (∀ k (o : Oper), rest[k]? = some o → ops.toList[acc.length + k]? = some o) → (∀ k m, acc[k]? = some m → Says_ ops k m) → ∀ k m, (closGo rest acc)[k]? = some m → Says_ ops k m := by
  intro rest
  induction rest with
  | nil => intro acc _ h; exact h
  | cons o rest ih =>
    intro acc ho h
    refine ih (acc := acc ++ [waitC acc o]) (fun k p hp => ?_) (fun k m hm => ?_)
    · have := ho (k + 1) p (by simpa using hp)
      rw [List.length_append, List.length_singleton, show acc.length + 1 + k = acc.length + (k + 1) by omega]; exact this
    · by_cases hk : k < acc.length
      · rw [List.getElem?_append_left hk] at hm; exact h k m hm
      · rw [List.getElem?_append_right (by omega)] at hm
        have hk0 : k = acc.length := by
          have := (List.getElem?_eq_some_iff.1 hm).1; simp at this; omega
        subst hk0
        simp only [Nat.sub_self, List.getElem?_cons_zero, Option.some.injEq] at hm
        subst hm
        exact waitC_says (by have := ho 0 o rfl; simpa using this) h

/-- It waits in the end for all that stand before it, but for the free ones. -/
def lastC (cl : List Nat) (free k : Nat) : Bool := (cl.getD k 0 ||| free) &&& (2 ^ k - 1) == 2 ^ k - 1

theorem lastC_waits {cl : List Nat} {free k j : Nat} (h : lastC cl free k = true) (hj : j < k) : (cl.getD k 0).testBit j = true ∨ free.testBit j = true := by
  unfold lastC at h
  have h : (cl.getD k 0 ||| free) &&& (2 ^ k - 1) = 2 ^ k - 1 := by simpa using h
  have h1 := congrArg (fun m => m.testBit j) h
  simp only [Nat.testBit_and, Nat.testBit_or, Nat.testBit_two_pow_sub_one, hj, decide_true, Bool.and_true, Bool.or_eq_true] at h1
  exact h1

def headGoC (cl : List Nat) (free : Nat) : Nat → Nat
  | 0 => 0
  | k + 1 => if lastC cl free k then headGoC cl free k else k + 1

theorem headGoC_le (cl : List Nat) (free : Nat) : ∀ k, headGoC cl free k ≤ k
  | 0 => Nat.le_refl _
  | k + 1 => by unfold headGoC; split; · have := headGoC_le cl free k; omega
                · omega

theorem headGoC_last (cl : List Nat) (free : Nat) : ∀ k j, headGoC cl free k ≤ j → j < k → lastC cl free j = true
  | 0, j, _, h => by omega
  | k + 1, j, h1, h2 => by
    unfold headGoC at h1
    split at h1
    · rename_i hl
      by_cases hj : j = k
      · subst hj; exact hl
      · exact headGoC_last cl free k j h1 (by omega)
    · omega

/-! ### The rows anew, with free ones ahead -/

/-- The tail: each waits for all before it but the free ones, which are listed. -/
def TailOk (ops : Array Oper) (cl : List Nat) (free n : Nat) : Prop := (∀ k m, cl[k]? = some m → Says_ ops k m) ∧ (∀ k, n ≤ k → k < ops.size → lastC cl free k = true) ∧ ∀ j, free.testBit j = true → j < n

theorem TailOk.waits {cl : List Nat} {free : Nat} (h : TailOk ops cl free n) (hd : Down ops listed) {k j : Nat} (hk : n ≤ k) (hks : k < ops.size) (hj : j < k)
    (hall : ∀ (o : Oper), ops.toList[k]? = some o → ∀ e ∈ o.after, Region.binds .any e = true → listed.getD e.on false = true) : listed.getD j false = true ∨ free.testBit j = true := by
  rcases lastC_waits (h.2.1 k hk hks) hj with h1 | h1
  · left
    cases hm : cl[k]? with
    | none => rw [List.getD_eq_getElem?_getD, hm] at h1; simp at h1
    | some m =>
      rw [List.getD_eq_getElem?_getD, hm] at h1
      exact h.1 k m hm listed hd hall j h1
  · exact .inr h1

theorem Down.set (hd : Down ops listed) {i : Nat} (hi : i ∈ Region.ready .any ops listed) : Down ops (listed.setIfInBounds i true) := by
  obtain ⟨_, o, ho, hall⟩ := mem_ready.1 hi
  intro j p hp hl e he hb
  by_cases hij : i = j
  · subst hij
    have : p = o := by
      have ho' : ops.toList[i]? = some o := by simpa using ho
      rw [hp] at ho'; exact Option.some.inj ho'
    subst this
    exact getD_set_true (hall e he hb)
  · rw [getD_set_ne' hij] at hl
    exact getD_set_true (hd j p hp hl e he hb)

theorem tail_run2 (hcf : CallsOk U P cf) (hback : ∀ i, i < ops.toList.length → backOk ops.toList i = true) {cl : List Nat} {free : Nat} (ht : TailOk ops cl free n) : ∀ (m p : Nat) (listed : Array Bool) (L : Nat → Prop) (r : Nat → D) (g : Gh) (S : St) (a : Act) (w : World),
    p + m = ops.size → n ≤ p → listed.size = ops.size → Down ops listed → (∀ j, j < p → listed.getD j false = true) → (∀ j, p ≤ j → j < ops.size → listed.getD j true = false) →
    HeapDen U r g L S.c.h w → PcOk U r S.c.pc → Slots U r g L S.tmps a →
    (runOps P cf ops (ops.toList.drop p) S).sat U (SPost U L r g S.c w (Q .normal)) r → wpAny P .any ops Q m listed a w := by
  intro m
  induction m with
  | zero =>
    intro p listed L r g S a w hpm hnp hls hd hin hout hh hp hs hsat
    have hdrop : ops.toList.drop p = [] := List.drop_eq_nil_of_le (by simp; omega)
    rw [hdrop] at hsat
    refine ⟨?_, hsat g a w (Ext.refl hh hp) (by rw [Lx_self]; exact hs)⟩
    cases hr : Region.ready .any ops listed with
    | nil => rfl
    | cons i l =>
      exfalso
      obtain ⟨h1, o, ho, _⟩ := mem_ready.1 (show i ∈ Region.ready .any ops listed by rw [hr]; simp)
      have hi : i < ops.size := (Array.getElem?_eq_some_iff.1 ho).1
      have h2 := hin i (by omega)
      rw [getD_lt_of (by omega)] at h1
      rw [h1] at h2; cases h2
  | succ m ih =>
    intro p listed L r g S a w hpm hnp hls hd hin hout hh hp hs hsat
    have hpl : p < ops.size := by omega
    have hop : ops[p]? = some ops[p] := Array.getElem?_eq_getElem hpl
    have hol : ops.toList[p]? = some ops[p] := by rw [Array.getElem?_toList]; exact hop
    have hready : p ∈ Region.ready .any ops listed := by
      refine mem_ready.2 ⟨hout p (Nat.le_refl _) hpl, ops[p], hop, fun e he hb => ?_⟩
      exact hin _ (backOk_lt hol (hback p (by simp only [Array.length_toList]; exact hpl)) he hb)
    refine ⟨fun h0 => by rw [h0] at hready; (cases hready), fun i hi => ?_⟩
    have hip : i = p := by
      obtain ⟨h1, o, ho, hall⟩ := mem_ready.1 hi
      have hil : i < ops.size := (Array.getElem?_eq_some_iff.1 ho).1
      rcases Nat.lt_trichotomy i p with h | h | h
      · have h2 := hin i h; rw [getD_lt_of (by omega)] at h1; rw [h1] at h2; cases h2
      · exact h
      · have h5 := hout p (Nat.le_refl _) hpl
        rw [getD_lt_of (by omega)] at h5
        rcases ht.waits hd (k := i) (j := p) (by omega) hil h (fun o' ho' e he hb => by
          have ho'' : ops.toList[i]? = some o := by simpa using ho
          rw [ho'] at ho''
          rw [Option.some.inj ho''] at he
          exact hall e he hb) with h4 | h4
        · rw [h4] at h5; cases h5
        · have := ht.2.2 p h4; omega
    subst hip
    have hdrop : ops.toList.drop i = ops[i] :: ops.toList.drop (i + 1) := by
      rw [List.drop_eq_getElem_cons (by simpa using hpl)]; simp
    rw [hdrop, runOps, Tree.sat_bind] at hsat
    have hstep := stepX_ok (Q := Q) (K := fun a' w' => wpAny P .any ops Q m (listed.setIfInBounds i true) a' w') hcf hh hp hs (Tree.sat_mono ?_ hsat)
    · unfold wpOp
      rw [hop]
      dsimp only
      split
      · rename_i hw; rw [if_pos hw] at hstep; exact .inl hstep
      · rename_i hw; rw [if_neg hw] at hstep; exact hstep
    · intro r' S' hrest g' a' w' he hs'
      refine ih (i + 1) _ (Lx L S.c.h S'.c.h) r' g' S' a' w' (by omega) (by omega) (by simp [hls]) (hd.set hi) ?_ ?_ he.heap he.pc hs' (Tree.sat_mono ?_ hrest)
      · intro j hj
        by_cases hij : i = j
        · subst hij; exact getD_set_self' (by omega) _
        · rw [getD_set_ne' hij]; exact hin j (by omega)
      · intro j h1 h2; rw [getD_set_ne' (by omega)]; exact hout j (by omega) h2
      · intro r'' S'' hpost; exact hpost.shift he

theorem head_run2 (hcf : CallsOk U P cf) (H : Head U r P cf ops n lat st ps) (hb0 : ∀ id, L id → id < (st 0).c.h.length) {cl : List Nat} {free : Nat} (ht : TailOk ops cl free n) {m : Nat}
    (tail : ∀ listed g a w, Down ops listed → (∀ j, j < n → listed.getD j false = true) → (∀ j, j < n → PcOk U r (ps j)) → Inv U r ops n lat st L g0 w0 listed g a w → wpAny P .any ops Q m listed a w) :
    ∀ (k : Nat) (listed : Array Bool) (g : Gh) (a : Act) (w : World), Down ops listed → (∀ j, free.testBit j = true → listed.getD j false = true) → Inv U r ops n lat st L g0 w0 listed g a w → (∀ j, j < n → listed.getD j false = true → PcOk U r (ps j)) → unlisted listed n = k → wpAny P .any ops Q (k + m) listed a w := by
  intro k
  induction k with
  | zero =>
    intro listed g a w hd _ inv hps hk
    rw [Nat.zero_add]
    exact tail listed g a w hd (unlisted_zero hk) (fun j hj => hps j hj (unlisted_zero hk j hj)) inv
  | succ k ih =>
    intro listed g a w hd hfr inv hps hk
    rw [show k + 1 + m = (k + m) + 1 by omega]
    have hex : ∃ j, j < n ∧ listed.getD j false = false ∧ ∀ i, i < j → listed.getD i false = true := by
      have hne : ∃ j, j < n ∧ listed.getD j false = false := by
        apply Classical.byContradiction
        intro hno
        have : unlisted listed n = 0 := by
          unfold unlisted
          rw [List.length_eq_zero_iff, List.filter_eq_nil_iff]
          intro j hj hx
          refine hno ⟨j, List.mem_range.1 hj, by simpa using hx⟩
        omega
      obtain ⟨j, hj, hx⟩ := hne
      induction j using Nat.strongRecOn with
      | _ j ihj =>
        by_cases hall : ∀ i, i < j → listed.getD i false = true
        · exact ⟨j, hj, hx, hall⟩
        · simp only [Classical.not_forall] at hall
          obtain ⟨i, hi, hi'⟩ := hall
          exact ihj i hi (by omega) (by simpa using hi')
    obtain ⟨j, hj, hjx, hjb⟩ := hex
    have hjl : j < ops.size := by have := H.len; simp at this; omega
    have hready : j ∈ Region.ready .any ops listed := by
      have hop : ops[j]? = some ops[j] := Array.getElem?_eq_getElem hjl
      have hol : ops.toList[j]? = some ops[j] := by rw [Array.getElem?_toList]; exact hop
      refine mem_ready.2 ⟨by rw [getD_lt_of (by rw [inv.lsz]; exact hjl)]; exact hjx, ops[j], hop, fun e he hb => ?_⟩
      exact hjb _ (backOk_lt hol (H.back j (by simp only [Array.length_toList]; exact hjl)) he hb)
    refine ⟨fun h0 => by rw [h0] at hready; (cases hready), fun i hi => ?_⟩
    have hin : i < n := by
      rcases Nat.lt_or_ge i n with h | h
      · exact h
      · exfalso
        obtain ⟨h1, o, ho, hall⟩ := mem_ready.1 hi
        have hil : i < ops.size := (Array.getElem?_eq_some_iff.1 ho).1
        rcases ht.waits hd (k := i) (j := j) h hil (by omega) (fun o' ho' e he hb => by
          have ho'' : ops.toList[i]? = some o := by simpa using ho
          rw [ho'] at ho''
          rw [Option.some.inj ho''] at he
          exact hall e he hb) with h4 | h4
        · rw [hjx] at h4; cases h4
        · rw [hfr j h4] at hjx; cases hjx
    refine wpOp_mono ?_ (inv.step hcf H hb0 hi hin)
    rintro a' w' ⟨g', inv', hpx⟩
    refine ih _ g' a' w' (hd.set hi) (fun j hj => getD_set_true (hfr j hj)) inv' (fun j hj hl => ?_) ?_
    · by_cases hij : i = j
      · subst hij; exact hpx
      · rw [getD_set_ne' hij] at hl; exact hps j hj hl
    obtain ⟨h1, o, ho, _⟩ := mem_ready.1 hi
    have hil : i < listed.size := by rw [inv.lsz]; exact (Array.getElem?_eq_some_iff.1 ho).1
    have := unlisted_set (listed := listed) hin (by rw [← getD_lt_of hil]; exact h1) hil
    omega

/-! ### Free moves ahead -/

def isMove (o : Oper) : Bool := match o.op, o.guard with
  | .move _, none => true
  | _, _ => false

/-- All of these may be carried out at once. -/
def hoistOk (ops : Array Oper) (n : Nat) : List Nat → Array Bool → Bool
  | [], _ => true
  | i :: l, listed => match ops[i]? with
    | some o => isMove o && (Nat.blt i n && (Region.free .any ops listed i && ((Region.ready .any ops listed).contains i && hoistOk ops n l (listed.setIfInBounds i true))))
    | none => false

def hoisted : List Nat → Array Bool → Array Bool
  | [], listed => listed
  | i :: l, listed => hoisted l (listed.setIfInBounds i true)

theorem move_yields {o : Oper} (h : isMove o = true) (a : Act) : ∃ v, Yields P ops o v a := by
  unfold isMove at h
  split at h
  · rename_i x hop hg
    refine ⟨a.eval x, .inl ⟨by unfold Region.wanted; rw [hg], fun w => ?_⟩⟩
    obtain ⟨dst, op, type, pos, after, guard⟩ := o
    obtain rfl : op = .move x := hop
    rfl
  · cases h

theorem hoist_run (hcf : CallsOk U P cf) (H : Head U r P cf ops n lat st ps) (hb0 : ∀ id, L id → id < (st 0).c.h.length) (hsel : Region.noSelect ops = true) (hQ : ∀ c a a' w, Q (.panic c) a w → Q (.panic c) a' w) {fuel : Nat} :
    ∀ (F : List Nat) (listed : Array Bool) (g : Gh) (a : Act) (w : World), hoistOk ops n F listed = true → Down ops listed → Inv U r ops n lat st L g0 w0 listed g a w → (∀ j, j < n → listed.getD j false = true → PcOk U r (ps j)) →
      (∀ g' a', Down ops (hoisted F listed) → Inv U r ops n lat st L g0 w0 (hoisted F listed) g' a' w → (∀ j, j < n → (hoisted F listed).getD j false = true → PcOk U r (ps j)) → wpAny P .any ops Q fuel (hoisted F listed) a' w) → wpAny P .any ops Q (fuel + F.length) listed a w := by
  intro F
  induction F with
  | nil => intro listed g a w _ hd inv hps h; exact h g a hd inv hps
  | cons i F ih =>
    intro listed g a w hok hd inv hps h
    unfold hoistOk at hok
    split at hok
    · rename_i o ho
      simp only [Bool.and_eq_true] at hok
      obtain ⟨h1, h2, h3, h4, h5⟩ := hok
      have hin : i < n := by rw [Nat.blt_eq] at h2; exact h2
      obtain ⟨v, hy⟩ := move_yields (P := P) (ops := ops) h1 a
      have hmem : i ∈ Region.ready .any ops listed := by simpa using h4
      rw [show fuel + (i :: F).length = (fuel + F.length) + 1 by simp; omega]
      refine wpAny_take ho hsel h3 h4 (fun c a w hq => hQ c _ _ w hq) hy ?_
      have hstep := inv.step (Q := fun _ _ _ => False) hcf H hb0 hmem hin
      have hinv : ∃ g', Inv U r ops n lat st L g0 w0 (listed.setIfInBounds i true) g' (a.put o.dst v) w ∧ PcOk U r (ps i) := by
        unfold wpOp at hstep
        rw [ho] at hstep
        dsimp only at hstep
        rcases hy with ⟨hw, hv⟩ | ⟨hw, hv⟩
        · rw [if_pos hw] at hstep
          rcases hstep with hs | hs
          · unfold Oper.wp at hs; rw [hv w] at hs; exact hs
          · obtain ⟨_, _, _, hf⟩ := hs; exact hf.elim
        · rw [hw] at hstep; rw [hv]; exact hstep
      obtain ⟨g', inv', hpx⟩ := hinv
      refine ih _ g' _ w h5 (hd.set hmem) inv' (fun j hj hl => ?_) h
      by_cases hij : i = j
      · subst hij; exact hpx
      · rw [getD_set_ne' hij] at hl; exact hps j hj hl
    · cases hok

/-- The free moves of a statement. -/
def freeGo (ops : Array Oper) : List Oper → Nat → List Nat
  | [], _ => []
  | o :: l, i => if isMove o && ((waitList o.after.toList).isEmpty && (match o.op with
      | .move (.tmp t) => ops.all fun p => !(p.dst == some t)
      | _ => true)) then i :: freeGo ops l (i + 1) else freeGo ops l (i + 1)

def drawX2 (P : Program) (cf : FuncId → List SV → Cx → Tree (SV × Cx)) (ops : Array Oper) (S : St) : Tree St :=
  let l := ops.toList
  let F := freeGo ops l 0
  let free := maskOf F
  let cl := closGo l []
  let n := headGoC cl free l.length
  let F' := F.filter fun i => Nat.blt i n
  if regionOk l ops n && (Region.noSelect ops && (hoistOk ops n F' (Array.replicate ops.size false) && ((List.range ops.size).all (fun k => Nat.blt k n || lastC cl (maskOf F') k)))) then (runQ P cf ops (l.take n) S).bind fun x => runOps P cf ops (l.drop n) (withPc x.1 x.2) else .bad

theorem hoisted_mem : ∀ {F : List Nat} {listed : Array Bool} {j : Nat}, (listed.getD j false = true ∨ (j ∈ F ∧ j < listed.size)) → (hoisted F listed).getD j false = true := by
  intro F
  induction F with
  | nil =>
    intro listed j h
    rcases h with h | h
    · exact h
    · cases h.1
  | cons i F ih =>
    intro listed j h
    unfold hoisted
    refine ih ?_
    by_cases hij : i = j
    · subst hij
      left
      rcases h with h | h
      · exact getD_set_true h
      · exact getD_set_self' h.2 _
    · rcases h with h | h
      · left; rw [getD_set_ne' hij]; exact h
      · right
        refine ⟨?_, by simpa using h.2⟩
        rcases List.mem_cons.1 h.1 with h' | h'
        · exact absurd h'.symm hij
        · exact h'

theorem hoisted_only : ∀ {F : List Nat} {listed : Array Bool} {j : Nat}, j ∉ F → (hoisted F listed).getD j true = listed.getD j true := by
  intro F
  induction F with
  | nil => intro listed j _; rfl
  | cons i F ih =>
    intro listed j h
    unfold hoisted
    rw [ih (fun h' => h (List.mem_cons_of_mem _ h')), getD_set_ne' (fun e => h (by rw [e]; exact List.mem_cons_self ..))]

theorem hoisted_size : ∀ {F : List Nat} {listed : Array Bool}, (hoisted F listed).size = listed.size := by
  intro F
  induction F with
  | nil => intro listed; rfl
  | cons i F ih => intro listed; unfold hoisted; rw [ih]; simp

theorem unlisted_hoisted : ∀ {F : List Nat} {listed : Array Bool}, hoistOk ops n F listed = true → listed.size = ops.size → unlisted (hoisted F listed) n + F.length = unlisted listed n := by
  intro F
  induction F with
  | nil => intro listed _ _; rfl
  | cons i F ih =>
    intro listed hok hsz
    unfold hoistOk at hok
    split at hok
    · rename_i o ho
      simp only [Bool.and_eq_true] at hok
      obtain ⟨h1, h2, h3, h4, h5⟩ := hok
      have hin : i < n := by rw [Nat.blt_eq] at h2; exact h2
      have hmem : i ∈ Region.ready .any ops listed := by simpa using h4
      obtain ⟨hu, _⟩ := mem_ready.1 hmem
      have hil : i < listed.size := by rw [hsz]; exact (Array.getElem?_eq_some_iff.1 ho).1
      have h6 := unlisted_set (listed := listed) hin (by rw [← getD_lt_of hil]; exact hu) hil
      have h7 := ih h5 (by simp [hsz])
      unfold hoisted
      simp only [List.length_cons]
      omega
    · cases hok

theorem drawX2_ok (hm : P.follows .mixedOrders = true) (hcf : CallsOk U P cf) {id : Nat} {S : St} (hh : HeapDen U r g L S.c.h w) (hp : PcOk U r S.c.pc) (hs : Slots U r g L S.tmps a)
    (h : (drawX2 P cf ops S).sat U (SPost U L r g S.c w (Q .normal)) r) : (Code.region id ops true).wp P Q a w := by
  unfold drawX2 at h
  dsimp only at h
  generalize hF : freeGo ops ops.toList 0 = F at h
  generalize hcl : closGo ops.toList [] = cl at h
  generalize hn0 : headGoC cl (maskOf F) ops.toList.length = n at h
  generalize hF' : (F.filter fun i => Nat.blt i n) = F' at h
  split at h
  · rename_i hok
    simp only [Bool.and_eq_true] at hok
    obtain ⟨hreg, hsel, hhoist, hlastC⟩ := hok
    simp only [regionOk, Bool.and_eq_true, List.all_eq_true, List.mem_range] at hreg
    rw [Tree.sat_bind] at h
    obtain ⟨st, ps, h1, h2, hpl, h3⟩ := runQ_states (base := S.c.h.length) hp h
    have hn : n ≤ ops.toList.length := by rw [← hn0]; exact headGoC_le _ _ _
    have hlen : (ops.toList.take n).length = n := by rw [List.length_take]; exact Nat.min_eq_left hn
    rw [hlen] at h3 hpl
    dsimp only at h3
    subst h1
    have H : Head U r P cf ops n (fun _ => none) st (fun i => ps.getD i []) :=
      ⟨fun i o hi ho => h2 i o (by rw [List.getElem?_take, if_pos hi]; exact ho), hn, hreg.1, hreg.2.1, hreg.2.2, hp, fun k k' id b b' _ _ h => by cases h⟩
    have hTail : TailOk ops cl (maskOf F') n := by
      refine ⟨?_, ?_, ?_⟩
      · rw [← hcl]
        exact closGo_says (fun k o ho => by simpa using ho) (fun k m hm => by simp at hm)
      · intro k k1 k2
        rw [List.all_eq_true] at hlastC
        have := hlastC k (List.mem_range.2 k2)
        rw [Bool.or_eq_true, Nat.blt_eq] at this
        rcases this with h' | h'
        · omega
        · exact h'
      · intro j hj
        have := maskOf_test.1 hj
        rw [← hF'] at this
        have := (List.mem_filter.1 this).2
        rw [Nat.blt_eq] at this; exact this
    let w1 : World := { w with drawn := w.drawn + 1 }
    have hsame : Same w w1 := ⟨rfl, rfl, rfl, rfl⟩
    have hh1 : HeapDen U r g L (st 0).c.h w1 := hh.same hsame
    have hrep : ∀ t, (Array.replicate ops.size false).getD t false = false := fun t => by
      rw [Array.getD_eq_getD_getElem?, Array.getElem?_replicate]; split <;> rfl
    have inv0 : Inv U r ops n (fun _ => none) st L g w1 (Array.replicate ops.size false) g a w1 := by
      refine ⟨by simp, ?_, hs.defers, hs.size, fun t ht => ?_, ?_, fun t _ => hs.at_ t, fun _ _ => ⟨rfl, rfl⟩, ?_, hh1.blk, ?_, ?_, ?_, Frm.refl _ _, fun _ _ => rfl, ?_, fun k id b' _ _ h => (by cases h), hh1.lt, hh1.inj⟩
      · intro t _ ht; rw [Array.getD_eq_getD_getElem?, Array.getElem?_replicate, if_pos ht]; rfl
      · have := hs.at_ t
        rw [Array.getD_eq_getD_getElem?, Array.getElem?_eq_none (by rw [hs.size]; exact ht)] at this; exact this
      · intro i o t _ _ _ hl; rw [hrep] at hl; cases hl
      · rintro id (hl | ⟨j, _, _, hl, _⟩)
        · exact hh1.lt id hl
        · rw [hrep] at hl; cases hl
      · intro i id b _ hl; rw [hrep] at hl; cases hl
      · intro i id _ hl; rw [hrep] at hl; cases hl
      · rintro id id' b b' (hl | ⟨j, _, _, hl, _⟩) _ h0
        · have := hh1.bnd id hl; omega
        · rw [hrep] at hl; cases hl
      · rintro id b ks e (hl | ⟨j, _, _, hl, _⟩) hb hr
        · rw [H.get (i := 0) (j := n) (Nat.zero_le _) (Nat.le_refl _) (hh1.bnd id hl)] at hb
          exact hh1.rows id b ks e hl hb hr
        · rw [hrep] at hl; cases hl
    have down0 : Down ops (Array.replicate ops.size false) := fun j o _ hl => by rw [hrep] at hl; cases hl
    refine wp_region_any hm ?_
    let Q0 : Exit → Act → World → Prop := fun e a w => (match e with | .panic _ => False | _ => True) ∧ Q e a w
    refine wpAny_monoQ (Q' := Q0) (fun _ _ _ h => h.2) _ _ _ _ ?_
    have hsize : n + (ops.size - n) = ops.size := by
      have : n ≤ ops.size := by simpa using hn
      omega
    have hun : unlisted (Array.replicate ops.size false) n = n := by
      unfold unlisted
      rw [List.filter_eq_self.2, List.length_range]
      intro j _
      rw [hrep]; rfl
    have hun' := unlisted_hoisted hhoist (by simp)
    rw [hun] at hun'
    have key := hoist_run (Q := Q0) (fuel := unlisted (hoisted F' (Array.replicate ops.size false)) n + (ops.size - n)) hcf H hh1.bnd hsel (fun c a a' w hq => hq.1.elim) F' _ g a w1 hhoist down0 inv0 (fun j _ hl => by rw [hrep] at hl; cases hl) ?_
    · rw [show unlisted (hoisted F' (Array.replicate ops.size false)) n + (ops.size - n) + F'.length = ops.size by omega] at key
      exact key
    · intro g1 a1 hd1 inv1 hps1
      refine head_run2 (Q := Q0) (m := ops.size - n) hcf H hh1.bnd hTail ?_ _ _ g1 a1 w1 hd1 (fun j hj => ?_) inv1 hps1 rfl
      · intro listed g' a' w' hd hall hps inv
        obtain ⟨e0, hs'⟩ := inv.done H hh1 hall
        have e := e0.withPc (flat_pc (l := ps) (fun j hj => hps j (by omega)))
        refine tail_run2 hcf hreg.1 hTail _ n listed (Lx L (st 0).c.h (st n).c.h) r g' (withPc (st n) ps.flatten) a' w' hsize (Nat.le_refl _) inv.lsz hd hall inv.tail e.heap e.pc hs' (Tree.sat_mono ?_ h3)
        intro r'' S'' hpost
        have hpost' : SPost U L r g (st 0).c w (Q0 .normal) r'' S'' := fun g a w e s => ⟨trivial, hpost g a w e s⟩
        exact hpost'.shift (e.of_same hsame)
      · have hm' := maskOf_test.1 hj
        refine hoisted_mem (.inr ⟨hm', ?_⟩)
        rw [Array.size_replicate]
        have := hTail.2.2 j hj
        have : n ≤ ops.size := by simpa using hn
        omega
  · exact h.elim

/-! ### A statement -/

/-- A step that writes. -/
def writes (o : Oper) : Bool := match o.op with
  | .call cl => (match cl.callee with
    | .builtin .append | .builtin .copy => true
    | .value _ => true
    | _ => false)
  | .store _ _ _ => true
  | _ => false

/-- Whether the row in order, with its free moves, begins before the plain one does, and that is of use. -/
def second (ops : Array Oper) : Bool :=
  let l := ops.toList
  let n := headLen l
  (l.take n).any writes && Nat.blt (headGoC (closGo l []) (maskOf (freeGo ops l 0)) l.length) n

/-- A step of the head stores into a place of the statement itself, or into one that was told before. -/
def lateIn (ops : Array Oper) : Bool :=
  let l := ops.toList.take (headLen ops.toList)
  l.any fun o => fills l o || (match o.op, o.guard, o.dst with
    | .store _ (.tmp p) _, none, none => !(l.any fun q => match q.dst with
      | some d => Nat.beq d p
      | none => false)
    | _, _, _ => false)
end
end Go.Sx

/-
  Sx, part Nc: statements in which a step that writes stands behind loads from places that nobody writes.
-/
namespace Go.Sx
open E (mk1 mk2 mkIte mk1_ev mk2_ev mkIte_ev)

section
variable {U : Nat → D → D} {r r' : Nat → D} {P : Program} {cf : FuncId → List SV → Cx → Tree (SV × Cx)} {ops : Array Oper} {n : Nat} {lat : Nat → Option (Nat × SB)} {st : Nat → St} {ps : Nat → List (E × Bool)}
variable {L : Nat → Prop} {g0 g g' : Gh} {c : Cx} {w0 w w' : World} {listed : Array Bool} {a : Act} {Q Q' : Exit → Act → World → Prop}

/-! ### Places locked -/

def lockIds : List Nat → SH → SH
  | [], h => h
  | id :: l, h => lockIds l (match h[id]? with
    | some (some b) => h.set id (some { b with wr := false })
    | _ => h)
theorem lockIds_length : ∀ {l : List Nat} {h : SH}, (lockIds l h).length = h.length := by
  intro l
  induction l with
  | nil => intro h; rfl
  | cons id l ih =>
    intro h
    simp only [lockIds]
    rw [ih]
    split
    · rw [List.length_set]
    · rfl
theorem lockIds_get : ∀ {l : List Nat} {h : SH} {id : Nat}, (lockIds l h)[id]? = h[id]? ∨ ∃ b, h[id]? = some (some b) ∧ (lockIds l h)[id]? = some (some { b with wr := false }) := by
  intro l
  induction l with
  | nil => intro h id; exact .inl rfl
  | cons i l ih =>
    intro h id
    simp only [lockIds]
    split
    · rename_i b hb
      have hlt := (List.getElem?_eq_some_iff.1 hb).1
      by_cases hi : i = id
      · subst hi
        rcases ih (h := h.set i (some { b with wr := false })) (id := i) with h1 | ⟨b1, h1, h3⟩
        · rw [List.getElem?_set_self hlt] at h1
          exact .inr ⟨b, hb, h1⟩
        · rw [List.getElem?_set_self hlt] at h1
          cases h1
          exact .inr ⟨b, hb, h3⟩
      · rcases ih (h := h.set i (some { b with wr := false })) (id := id) with h1 | ⟨b1, h1, h3⟩
        · rw [List.getElem?_set_ne hi] at h1; exact .inl h1
        · rw [List.getElem?_set_ne hi] at h1; exact .inr ⟨b1, h1, h3⟩
    · exact ih
theorem lockIds_back {l : List Nat} {h : SH} {id : Nat} {b : SB} (hb : (lockIds l h)[id]? = some (some b)) : ∃ b0, h[id]? = some (some b0) ∧ (b.wr = true → b0.wr = true) ∧ b.cs = b0.cs ∧ b.row = b0.row := by
  rcases lockIds_get (l := l) (h := h) (id := id) with h1 | ⟨b0, h1, h2⟩
  · rw [h1] at hb; exact ⟨b, hb, fun h => h, rfl, rfl⟩
  · rw [h2] at hb; cases hb; exact ⟨b0, h1, fun h => (by cases h), rfl, rfl⟩
theorem HeapDen.lockIds {l : List Nat} {h : SH} (hh : HeapDen U r g L h w) : HeapDen U r g L (lockIds l h) w := by
  refine ⟨fun id hl => by rw [lockIds_length]; exact hh.bnd id hl, hh.lt, fun id b hl hb => ?_, fun i j b b' hi hj hb hw hb' he => ?_, fun id b ks e hl hb hr => ?_, fun id b hb hw => ?_⟩
  · obtain ⟨b0, q1, q2, q3, _⟩ := lockIds_back hb
    obtain ⟨xs, t, fz, e1, e2, e3, e4, e5⟩ := hh.blk id b0 hl q1
    exact ⟨xs, t, fz, e1, e2, fun h => e3 (q2 h), by rw [q3]; exact e4, by rw [q3]; exact e5⟩
  · obtain ⟨b0, q1, q2, _⟩ := lockIds_back hb
    obtain ⟨b0', q1', _⟩ := lockIds_back hb'
    exact hh.inj i j b0 b0' hi hj q1 (q2 hw) q1' he
  · obtain ⟨b0, q1, _, _, q4⟩ := lockIds_back hb
    exact hh.rows id b0 ks e hl q1 (by rw [← q4]; exact hr)
  · obtain ⟨b0, q1, q2, _⟩ := lockIds_back hb
    exact hh.live id b0 q1 (q2 hw)
theorem Wr_lockIds {l : List Nat} {h : SH} {k : Nat} (hw : Wr g L (lockIds l h) k) : Wr g L h k := by
  obtain ⟨id, b, h1, h2, h3, h4⟩ := hw
  obtain ⟨b0, q1, q2, _⟩ := lockIds_back h2
  exact ⟨id, b0, h1, q1, q2 h3, h4⟩
theorem Lx_lockIds {l : List Nat} {h h' : SH} : Lx L (lockIds l h) h' = Lx L h h' := by
  funext id; unfold Lx; rw [lockIds_length]
theorem Ext.of_lockIds {l : List Nat} {c' : Cx} (e : Ext U L r g ⟨Sx.lockIds l c.h, c.nv, c.pc⟩ w r' g' c' w') : Ext U L r g c w r' g' c' w' := by
  have hl : (Sx.lockIds l c.h).length = c.h.length := lockIds_length
  refine ⟨e.nv, e.agr, by rw [← hl]; exact e.len, fun id h => e.ga id (by show ¬ ((Sx.lockIds l c.h).length ≤ id ∧ _); rw [hl]; exact h), fun id h => e.go id (by show ¬ ((Sx.lockIds l c.h).length ≤ id ∧ _); rw [hl]; exact h), by have := e.heap; rw [show (⟨Sx.lockIds l c.h, c.nv, c.pc⟩ : Cx).h = Sx.lockIds l c.h from rfl, Lx_lockIds] at this; exact this, e.pc, ?_, fun id b h hb hw => ?_, fun id h1 h2 => ?_⟩
  · exact ⟨e.frm.os, e.frm.tape, e.frm.output, e.frm.size, fun k hk hn => e.frm.block k hk fun hw => hn (Wr_lockIds hw)⟩
  · exact (e.wrs id b (by show Lx L (Sx.lockIds l c.h) c'.h id; rw [Lx_lockIds]; exact h) hb hw).imp_right fun h => Wr_lockIds h
  · exact (e.fresh id (by show (Sx.lockIds l c.h).length ≤ id; rw [hl]; exact h1) h2).imp_right fun h => Wr_lockIds h

/-! ### A load, in whatever world in which its place is as it was -/

theorem loadP_all {t : TypeId} {id off : Nat} {s : SV} {vx : Value} (hh : HeapDen U r g L c.h w) (hx : (SV.ptr id off).den U r g L vx) (h : loadP P c t (.ptr id off) = some s) :
    ∃ v, ∀ w', w'.heap[g.a id]? = w.heap[g.a id]? → (Instr.loadAt t vx).run P w' = .ok v w' := by
  unfold loadP at h
  simp only [SV.den] at hx
  obtain ⟨hl, rfl⟩ := hx
  have go : ∀ {ad : Addr} {v : Value} {w' : World}, (loadVar t ad).run P w' = .ok v w' → (Instr.loadAt t (.pointer (some ad))).run P w' = .ok v w' := by
    intro ad v w' h1
    simp only [Instr.loadAt, Instr.sureAddr, Sem.run_bind, Sem.run_pure, Result.andThen_ok]
    exact h1
  dsimp only at h
  split at h
  · rename_i b hb
    obtain ⟨xs, t', fz, e1, e2, e3, e4, e5⟩ := hh.blk id b hl hb
    split at h
    · rename_i ha
      split at h
      · rename_i n hs
        split at h
        · exact ⟨_, fun w' he => go (run_loadVar_agg (by rw [he]; exact e1) ha hs (by omega))⟩
        · cases h
      · cases h
    · rename_i ha
      obtain ⟨v, hv, hd⟩ := e5 off s h
      exact ⟨v, fun w' he => go (run_loadVar_one (by rw [he]; exact e1) ha hv)⟩
    · cases h
  · cases h

/-! ### The rows anew, with what the world keeps -/

theorem tail_run3 (hcf : CallsOk U P cf) (hback : ∀ i, i < ops.toList.length → backOk ops.toList i = true) {cl : List Nat} {free : Nat} (ht : TailOk ops cl free n) {L0 : Nat → Prop} {c0 : Cx} {r0 : Nat → D} : ∀ (m p : Nat) (listed : Array Bool) (r : Nat → D) (g : Gh) (S : St) (a : Act) (w : World),
    p + m = ops.size → n ≤ p → listed.size = ops.size → Down ops listed → (∀ j, j < p → listed.getD j false = true) → (∀ j, p ≤ j → j < ops.size → listed.getD j true = false) →
    Ext U L0 r0 g0 c0 w0 r g S.c w → Slots U r g (Lx L0 c0.h S.c.h) S.tmps a →
    (runOps P cf ops (ops.toList.drop p) S).sat U (SPost U L0 r0 g0 c0 w0 (Q .normal)) r → wpAnyH P .any ops Q (Frm (Wr g0 L0 c0.h) w0) m listed a w := by
  intro m
  induction m with
  | zero =>
    intro p listed r g S a w hpm hnp hls hd hin hout he hs hsat
    have hdrop : ops.toList.drop p = [] := List.drop_eq_nil_of_le (by simp; omega)
    rw [hdrop] at hsat
    refine ⟨?_, hsat g a w he hs⟩
    cases hr : Region.ready .any ops listed with
    | nil => rfl
    | cons i l =>
      exfalso
      obtain ⟨h1, o, ho, _⟩ := mem_ready.1 (show i ∈ Region.ready .any ops listed by rw [hr]; simp)
      have hi : i < ops.size := (Array.getElem?_eq_some_iff.1 ho).1
      have h2 := hin i (by omega)
      rw [getD_lt_of (by omega)] at h1
      rw [h1] at h2; cases h2
  | succ m ih =>
    intro p listed r g S a w hpm hnp hls hd hin hout he hs hsat
    have hpl : p < ops.size := by omega
    have hop : ops[p]? = some ops[p] := Array.getElem?_eq_getElem hpl
    have hol : ops.toList[p]? = some ops[p] := by rw [Array.getElem?_toList]; exact hop
    have hready : p ∈ Region.ready .any ops listed := by
      refine mem_ready.2 ⟨hout p (Nat.le_refl _) hpl, ops[p], hop, fun e he hb => ?_⟩
      exact hin _ (backOk_lt hol (hback p (by simp only [Array.length_toList]; exact hpl)) he hb)
    refine ⟨fun h0 => by rw [h0] at hready; (cases hready), fun i hi => ?_⟩
    have hip : i = p := by
      obtain ⟨h1, o, ho, hall⟩ := mem_ready.1 hi
      have hil : i < ops.size := (Array.getElem?_eq_some_iff.1 ho).1
      rcases Nat.lt_trichotomy i p with h | h | h
      · have h2 := hin i h; rw [getD_lt_of (by omega)] at h1; rw [h1] at h2; cases h2
      · exact h
      · have h5 := hout p (Nat.le_refl _) hpl
        rw [getD_lt_of (by omega)] at h5
        rcases ht.waits hd (k := i) (j := p) (by omega) hil h (fun o' ho' e he hb => by
          have ho'' : ops.toList[i]? = some o := by simpa using ho
          rw [ho'] at ho''
          rw [Option.some.inj ho''] at he
          exact hall e he hb) with h4 | h4
        · rw [h4] at h5; cases h5
        · have := ht.2.2 p h4; omega
    subst hip
    have hdrop : ops.toList.drop i = ops[i] :: ops.toList.drop (i + 1) := by
      rw [List.drop_eq_getElem_cons (by simpa using hpl)]; simp
    rw [hdrop, runOps, Tree.sat_bind] at hsat
    have hstep := stepX_ok (Q := Q) (K := fun a' w' => Frm (Wr g0 L0 c0.h) w0 w' ∧ wpAnyH P .any ops Q (Frm (Wr g0 L0 c0.h) w0) m (listed.setIfInBounds i true) a' w') hcf he.heap he.pc hs (Tree.sat_mono ?_ hsat)
    · unfold wpOp
      rw [hop]
      dsimp only
      split
      · rename_i hw; rw [if_pos hw] at hstep; exact .inl hstep
      · rename_i hw; rw [if_neg hw] at hstep; exact hstep
    · intro r' S' hrest g' a' w' he' hs'
      have hx := he.trans he'
      refine ⟨hx.frm, ih (i + 1) _ r' g' S' a' w' (by omega) (by omega) (by simp [hls]) (hd.set hi) ?_ ?_ hx ?_ hrest⟩
      · intro j hj
        by_cases hij : i = j
        · subst hij; exact getD_set_self' (by omega) _
        · rw [getD_set_ne' hij]; exact hin j (by omega)
      · intro j h1 h2; rw [getD_set_ne' (by omega)]; exact hout j (by omega) h2
      · rw [← Lx_trans he.len he'.len]; exact hs'

theorem head_run3 (hcf : CallsOk U P cf) (H : Head U r P cf ops n lat st ps) (hb0 : ∀ id, L id → id < (st 0).c.h.length) {cl : List Nat} {free : Nat} (ht : TailOk ops cl free n) {m : Nat}
    (tail : ∀ listed g a w, Down ops listed → (∀ j, j < n → listed.getD j false = true) → (∀ j, j < n → PcOk U r (ps j)) → Inv U r ops n lat st L g0 w0 listed g a w → wpAnyH P .any ops Q (Frm (Wr g0 L (st 0).c.h) w0) m listed a w) :
    ∀ (k : Nat) (listed : Array Bool) (g : Gh) (a : Act) (w : World), Down ops listed → (∀ j, free.testBit j = true → listed.getD j false = true) → Inv U r ops n lat st L g0 w0 listed g a w → (∀ j, j < n → listed.getD j false = true → PcOk U r (ps j)) → unlisted listed n = k → wpAnyH P .any ops Q (Frm (Wr g0 L (st 0).c.h) w0) (k + m) listed a w := by
  intro k
  induction k with
  | zero =>
    intro listed g a w hd _ inv hps hk
    rw [Nat.zero_add]
    exact tail listed g a w hd (unlisted_zero hk) (fun j hj => hps j hj (unlisted_zero hk j hj)) inv
  | succ k ih =>
    intro listed g a w hd hfr inv hps hk
    rw [show k + 1 + m = (k + m) + 1 by omega]
    have hex : ∃ j, j < n ∧ listed.getD j false = false ∧ ∀ i, i < j → listed.getD i false = true := by
      have hne : ∃ j, j < n ∧ listed.getD j false = false := by
        apply Classical.byContradiction
        intro hno
        have : unlisted listed n = 0 := by
          unfold unlisted
          rw [List.length_eq_zero_iff, List.filter_eq_nil_iff]
          intro j hj hx
          refine hno ⟨j, List.mem_range.1 hj, by simpa using hx⟩
        omega
      obtain ⟨j, hj, hx⟩ := hne
      induction j using Nat.strongRecOn with
      | _ j ihj =>
        by_cases hall : ∀ i, i < j → listed.getD i false = true
        · exact ⟨j, hj, hx, hall⟩
        · simp only [Classical.not_forall] at hall
          obtain ⟨i, hi, hi'⟩ := hall
          exact ihj i hi (by omega) (by simpa using hi')
    obtain ⟨j, hj, hjx, hjb⟩ := hex
    have hjl : j < ops.size := by have := H.len; simp at this; omega
    have hready : j ∈ Region.ready .any ops listed := by
      have hop : ops[j]? = some ops[j] := Array.getElem?_eq_getElem hjl
      have hol : ops.toList[j]? = some ops[j] := by rw [Array.getElem?_toList]; exact hop
      refine mem_ready.2 ⟨by rw [getD_lt_of (by rw [inv.lsz]; exact hjl)]; exact hjx, ops[j], hop, fun e he hb => ?_⟩
      exact hjb _ (backOk_lt hol (H.back j (by simp only [Array.length_toList]; exact hjl)) he hb)
    refine ⟨fun h0 => by rw [h0] at hready; (cases hready), fun i hi => ?_⟩
    have hin : i < n := by
      rcases Nat.lt_or_ge i n with h | h
      · exact h
      · exfalso
        obtain ⟨h1, o, ho, hall⟩ := mem_ready.1 hi
        have hil : i < ops.size := (Array.getElem?_eq_some_iff.1 ho).1
        rcases ht.waits hd (k := i) (j := j) h hil (by omega) (fun o' ho' e he hb => by
          have ho'' : ops.toList[i]? = some o := by simpa using ho
          rw [ho'] at ho''
          rw [Option.some.inj ho''] at he
          exact hall e he hb) with h4 | h4
        · rw [hjx] at h4; cases h4
        · rw [hfr j h4] at hjx; cases hjx
    refine wpOp_mono ?_ (inv.step hcf H hb0 hi hin)
    rintro a' w' ⟨g', inv', hpx⟩
    refine ⟨inv'.frm, ih _ g' a' w' (hd.set hi) (fun j hj => getD_set_true (hfr j hj)) inv' (fun j hj hl => by
      by_cases hij : i = j
      · subst hij; exact hpx
      · rw [getD_set_ne' hij] at hl; exact hps j hj hl) ?_⟩
    obtain ⟨h1, o, ho, _⟩ := mem_ready.1 hi
    have hil : i < listed.size := by rw [inv.lsz]; exact (Array.getElem?_eq_some_iff.1 ho).1
    have := unlisted_set (listed := listed) hin (by rw [← getD_lt_of hil]; exact h1) hil
    omega

/-! ### Moves, addresses and loads ahead -/

/-- Who puts something into that slot is listed. -/
def slotDone (ops : Array Oper) (listed : Array Bool) (p : Tmp) : Bool := (List.range ops.size).all fun j => match ops[j]? with
  | some q => !(q.dst == some p) || listed.getD j false
  | none => true
/-- A step that yields the same in every world in which what may not be written is as it was. -/
def pureAhead (P : Program) (ops : Array Oper) (S Sn : St) (listed : Array Bool) (o : Oper) : Bool := match o.op, o.guard with
  | .load t (.tmp p), none => slotDone ops listed p && (match Sn.tmps.get p with
    | .ptr id off => (match S.c.h[id]? with
      | some (some b) => !b.wr && (loadP P S.c t (.ptr id off)).isSome
      | _ => false)
    | _ => false)
  | .nilCheck (.tmp p), none => slotDone ops listed p && (match Sn.tmps.get p with
    | .ptr _ _ => true
    | .ptrI _ _ _ _ => true
    | _ => false)
  | .fieldAddr t (.tmp p) i, none => slotDone ops listed p && (match Sn.tmps.get p, P.underlying t with
    | .ptr _ _, some (.struct fields) => (match fields[i]? with
      | some f => (match szT P f.type with
        | some (_ + 1) => true
        | _ => false)
      | none => false)
    | .ptrI _ _ _ _, some (.struct fields) => (match fields[i]? with
      | some f => (match szT P f.type with
        | some (_ + 1) => true
        | _ => false)
      | none => false)
    | _, _ => false)
  | _, _ => false

def hoistOk3 (P : Program) (ops : Array Oper) (S Sn : St) (n : Nat) : List Nat → Array Bool → Bool
  | [], _ => true
  | i :: l, listed => match ops[i]? with
    | some o => (isMove o || pureAhead P ops S Sn listed o) && (Nat.blt i n && (Region.free .any ops listed i && ((Region.ready .any ops listed).contains i && hoistOk3 P ops S Sn n l (listed.setIfInBounds i true))))
    | none => false

/-- What stands in a slot whose writers are listed. -/
theorem slotDone_den (H : Head U r P cf ops n lat st ps) (inv : Inv U r ops n lat st L g0 w0 listed g a w) {p : Tmp} (h : slotDone ops listed p = true) : ((st n).tmps.get p).den U r g (Lv L st n listed n) (a.tmps.getD p undef) := by
  unfold slotDone at h
  rw [List.all_eq_true] at h
  have at_ : ∀ (j : Nat) (q : Oper), ops.toList[j]? = some q → q.dst = some p → listed.getD j false = true := by
    intro j q hq hd
    have hj : j < ops.size := by have := (List.getElem?_eq_some_iff.1 hq).1; simpa using this
    have := h j (List.mem_range.2 hj)
    have hq' : ops[j]? = some q := by simpa using hq
    rw [hq'] at this
    simpa [hd] using this
  by_cases hown : ∃ j q, j < n ∧ ops.toList[j]? = some q ∧ q.dst = some p
  · obtain ⟨j, q, hj, hq, hd⟩ := hown
    exact SV.den_mono ⟨fun id h => ⟨Lv_mono (by omega) h, rfl, rfl⟩, fun _ _ => rfl⟩ (inv.own j q p hj hq hd (at_ j q hq hd))
  · have h1 := inv.oth p fun k o' hk hok hd => hown ⟨k, o', hk, hok, hd⟩
    rw [H.slot (i := 0) (t := p) n (Nat.zero_le _) (Nat.le_refl _) fun k o' _ h2 h3 hd => hown ⟨k, o', h2, h3, hd⟩]
    exact SV.den_mono ⟨fun id h => ⟨.inl h, rfl, rfl⟩, fun _ _ => rfl⟩ h1

theorem pure_yields (H : Head U r P cf ops n lat st ps) (hh0 : HeapDen U r g0 L (st 0).c.h w0) (inv : Inv U r ops n lat st L g0 w0 listed g a w) {o : Oper} (h1 : pureAhead P ops (st 0) (st n) listed o = true) :
    ∃ v, YieldsIf P ops (Frm (Wr g0 L (st 0).c.h) w0) o v a := by
  obtain ⟨dst, op, type, pos, after, guard⟩ := o
  unfold pureAhead at h1
  split at h1
  · rename_i t p hop hg
    dsimp only at hop hg
    subst hop hg
    rw [Bool.and_eq_true] at h1
    obtain ⟨hs, h1⟩ := h1
    have hden := slotDone_den H inv hs
    split at h1
    · rename_i id off hp
      rw [hp] at hden
      split at h1
      · rename_i b hb
        rw [Bool.and_eq_true] at h1
        obtain ⟨k1, k2⟩ := h1
        obtain ⟨s, hs⟩ := Option.isSome_iff_exists.1 k2
        have hlt := (List.getElem?_eq_some_iff.1 hb).1
        have hL : L id := by
          rcases hden.1 with h | ⟨j, _, hj, _, h4, _⟩
          · exact h
          · have := H.nb (i := 0) (j := j) (Nat.zero_le _) (by omega); omega
        have hga : g.a id = g0.a id := (inv.ga id (by omega)).1
        have hnw : ¬ Wr g0 L (st 0).c.h (g0.a id) := by
          rintro ⟨id2, b2, q1, q2, q3, q4⟩
          have := hh0.inj id2 id b2 b q1 hL q2 q3 hb q4
          subst this
          rw [hb] at q2; cases q2
          rw [q3] at k1; cases k1
        have hden0 : (SV.ptr id off).den U r g0 L (a.tmps.getD p undef) := ⟨hL, by rw [hden.2, hga]⟩
        obtain ⟨v, hv⟩ := loadP_all (w := w0) hh0 hden0 hs
        refine ⟨v, .inl ⟨rfl, fun w' hw' => ?_⟩⟩
        have e1 := hv w' (hw'.block _ (hh0.lt id hL) hnw)
        show (Instr.loadAt t (a.tmps.getD p undef) >>= fun v => Pure.pure (Next.value v)).run P w' = _
        rw [Sem.run_bind, e1]; rfl
      · cases h1
    · cases h1
  · rename_i p hop hg
    dsimp only at hop hg
    subst hop hg
    rw [Bool.and_eq_true] at h1
    obtain ⟨hs, h1⟩ := h1
    have hden := slotDone_den H inv hs
    split at h1
    · rename_i id off hp
      rw [hp] at hden
      refine ⟨a.tmps.getD p undef, .inl ⟨rfl, fun w' _ => ?_⟩⟩
      have hev : a.eval (.tmp p) = a.tmps.getD p undef := rfl
      unfold execOp
      simp only [hev]
      rw [hden.2]; rfl
    · rename_i id sz i f hp
      rw [hp] at hden
      refine ⟨a.tmps.getD p undef, .inl ⟨rfl, fun w' _ => ?_⟩⟩
      have hev : a.eval (.tmp p) = a.tmps.getD p undef := rfl
      unfold execOp
      simp only [hev]
      rw [hden.2.2]; rfl
    · cases h1
  · rename_i t p i hop hg
    dsimp only at hop hg
    subst hop hg
    rw [Bool.and_eq_true] at h1
    obtain ⟨hs, h1⟩ := h1
    have hden := slotDone_den H inv hs
    split at h1
    · rename_i id off fields hp hu
      rw [hp] at hden
      split at h1
      · rename_i f hf
        split at h1
        · rename_i sz hsz
          refine ⟨.pointer (some ⟨g.a id, off + f.offset, none⟩), .inl ⟨rfl, fun w' _ => ?_⟩⟩
          show (Instr.fieldAt t (a.tmps.getD p undef) i >>= fun v => Pure.pure (Next.value v)).run P w' = _
          rw [hden.2]
          simp only [Instr.fieldAt, Sem.run_bind, run_und hu, Result.andThen_ok, hf, Instr.sureAddr, Sem.run_pure, fieldPlace, run_sizeOf_of hsz]
          rw [if_neg (by omega), add_none]; rfl
        · cases h1
      · cases h1
    · rename_i id sz0 e0 off fields hp hu
      rw [hp] at hden
      split at h1
      · rename_i f hf
        split at h1
        · rename_i sz hsz
          refine ⟨.pointer (some ⟨g.a id, g.o id + ((e0.ev U r).toI.toNat * sz0 + off) + f.offset, none⟩), .inl ⟨rfl, fun w' _ => ?_⟩⟩
          show (Instr.fieldAt t (a.tmps.getD p undef) i >>= fun v => Pure.pure (Next.value v)).run P w' = _
          rw [hden.2.2]
          simp only [Instr.fieldAt, Sem.run_bind, run_und hu, Result.andThen_ok, hf, Instr.sureAddr, Sem.run_pure, fieldPlace, run_sizeOf_of hsz]
          rw [if_neg (by omega), add_none]; rfl
        · cases h1
      · cases h1
    · cases h1
  · cases h1

theorem hoist_run3 (hcf : CallsOk U P cf) (H : Head U r P cf ops n (fun _ => none) st ps) (hh0 : HeapDen U r g0 L (st 0).c.h w0) (hsel : Region.noSelect ops = true) (hQ : ∀ c a a' w, Q (.panic c) a w → Q (.panic c) a' w) {fuel : Nat} :
    ∀ (F : List Nat) (listed : Array Bool) (g : Gh) (a : Act) (w : World), hoistOk3 P ops (st 0) (st n) n F listed = true → Down ops listed → Inv U r ops n (fun _ => none) st L g0 w0 listed g a w → (∀ j, j < n → listed.getD j false = true → PcOk U r (ps j)) →
      (∀ g' a', Down ops (hoisted F listed) → Inv U r ops n (fun _ => none) st L g0 w0 (hoisted F listed) g' a' w → (∀ j, j < n → (hoisted F listed).getD j false = true → PcOk U r (ps j)) → wpAnyH P .any ops Q (Frm (Wr g0 L (st 0).c.h) w0) fuel (hoisted F listed) a' w) → wpAnyH P .any ops Q (Frm (Wr g0 L (st 0).c.h) w0) (fuel + F.length) listed a w := by
  intro F
  induction F with
  | nil => intro listed g a w _ hd inv hps h; exact h g a hd inv hps
  | cons i F ih =>
    intro listed g a w hok hd inv hps h
    unfold hoistOk3 at hok
    split at hok
    · rename_i o ho
      simp only [Bool.and_eq_true] at hok
      obtain ⟨h1, h2, h3, h4, h5⟩ := hok
      have hin : i < n := by rw [Nat.blt_eq] at h2; exact h2
      have hmem : i ∈ Region.ready .any ops listed := by simpa using h4
      have hoi : ops.toList[i]? = some o := by simpa using ho
      obtain ⟨v, hy⟩ : ∃ v, YieldsIf P ops (Frm (Wr g0 L (st 0).c.h) w0) o v a := by
        rw [Bool.or_eq_true] at h1
        rcases h1 with h1 | h1
        · obtain ⟨v, hy⟩ := move_yields (P := P) (ops := ops) h1 a
          exact ⟨v, hy.yieldsIf⟩
        · exact pure_yields H hh0 inv h1
      rw [show fuel + (i :: F).length = (fuel + F.length) + 1 by simp; omega]
      refine wpAnyH_take ho hsel h3 h4 (fun c a w hq => hQ c _ _ w hq) hy inv.frm ?_
      have hstep := inv.step (Q := fun _ _ _ => False) hcf H hh0.bnd hmem hin
      have hinv : ∃ g', Inv U r ops n (fun _ => none) st L g0 w0 (listed.setIfInBounds i true) g' (a.put o.dst v) w ∧ PcOk U r (ps i) := by
        unfold wpOp at hstep
        rw [ho] at hstep
        dsimp only at hstep
        rcases hy with ⟨hw, hv⟩ | ⟨hw, hv⟩
        · rw [if_pos hw] at hstep
          rcases hstep with hs | hs
          · unfold Oper.wp at hs; rw [hv w inv.frm] at hs; exact hs
          · obtain ⟨_, _, _, hf⟩ := hs; exact hf.elim
        · rw [hw] at hstep; rw [hv]; exact hstep
      obtain ⟨g', inv', hpx⟩ := hinv
      refine ih _ g' _ w h5 (hd.set hmem) inv' (fun j hj hl => ?_) h
      by_cases hij : i = j
      · subst hij; exact hpx
      · rw [getD_set_ne' hij] at hl; exact hps j hj hl
    · cases hok

/-- Steps that may come first: moves, addresses and (if 'ld') loads, whose operands stand, or are such steps' own. -/
def freeGo3 (ld : Bool) (ops : Array Oper) : List Oper → Nat → List Nat → List Nat
  | [], _, F => F
  | o :: l, i, F =>
    let src (p : Tmp) : Bool := (List.range ops.size).all fun j => match ops[j]? with
      | some q => !(q.dst == some p) || F.any (Nat.beq j)
      | none => true
    if o.guard.isNone && ((waitList o.after.toList).all (fun j => F.any (Nat.beq j)) && (match o.op with
      | .move (.tmp t) => src t
      | .move _ => true
      | .nilCheck (.tmp t) => src t
      | .fieldAddr _ (.tmp t) _ => src t
      | .load _ (.tmp t) => ld && src t
      | _ => false)) then freeGo3 ld ops l (i + 1) (F ++ [i]) else freeGo3 ld ops l (i + 1) F
/-- The place that a slot tells, through addresses. -/
def rootOf (ops : Array Oper) (S : St) : Nat → Tmp → Option Nat
  | 0, _ => none
  | k + 1, p => match ops.find? fun q => q.dst == some p with
    | some q => (match q.op with
      | .move (.tmp t) => rootOf ops S k t
      | .nilCheck (.tmp t) => rootOf ops S k t
      | .fieldAddr _ (.tmp t) _ => rootOf ops S k t
      | _ => none)
    | none => (match S.tmps.get p with
      | .ptr id _ => some id
      | _ => none)
def loadIds (ops : Array Oper) (S : St) (F : List Nat) : List Nat := F.filterMap fun i => match ops[i]? with
  | some o => (match o.op with
    | .load _ (.tmp p) => rootOf ops S ops.size p
    | _ => none)
  | none => none

/-! ### Another order of the text -/

def renOp (f : Nat → Nat) (o : Oper) : Oper := { o with after := o.after.map fun e => { e with on := f e.on }, guard := o.guard.map fun p => (f p.1, p.2) }
def rankOf (pi : List Nat) (j : Nat) : Nat := pi.idxOf j
def permO (ops : Array Oper) (pi : List Nat) : Array Oper := (pi.map fun i => renOp (rankOf pi) (ops.getD i default)).toArray
/-- Each number stands once. -/
def permOk (n : Nat) (pi : List Nat) : Bool := Nat.beq pi.length n && ((List.range n).all fun j => pi[rankOf pi j]? == some j && (match pi[j]? with
  | some i => Nat.blt i n && Nat.beq (rankOf pi i) j
  | none => false))

structure PermAt (ops : Array Oper) (pi : List Nat) : Prop where
  len : pi.length = ops.size
  at_ : ∀ j, j < ops.size → rankOf pi j < ops.size ∧ pi[rankOf pi j]? = some j
  back : ∀ i, i < ops.size → ∃ j, pi[i]? = some j ∧ j < ops.size ∧ rankOf pi j = i
theorem permOk_at {ops : Array Oper} {pi : List Nat} (h : permOk ops.size pi = true) : PermAt ops pi := by
  unfold permOk at h
  rw [Bool.and_eq_true, List.all_eq_true] at h
  have hl := Nat.eq_of_beq_eq_true h.1
  refine ⟨hl, fun j hj => ?_, fun i hi => ?_⟩
  · have := h.2 j (List.mem_range.2 hj)
    rw [Bool.and_eq_true] at this
    have h1 := beq_iff_eq.1 this.1
    exact ⟨by rw [← hl]; exact (List.getElem?_eq_some_iff.1 h1).1, h1⟩
  · have := h.2 i (List.mem_range.2 hi)
    rw [Bool.and_eq_true] at this
    have h2 := this.2
    split at h2
    · rename_i j hj
      rw [Bool.and_eq_true, Nat.blt_eq] at h2
      exact ⟨j, hj, h2.1, Nat.eq_of_beq_eq_true h2.2⟩
    · cases h2
theorem rankOf_out {pi : List Nat} {j : Nat} (h : j ∉ pi) : rankOf pi j = pi.length := List.idxOf_eq_length h
section
variable {pi : List Nat}
theorem PermAt.out (hp : PermAt ops pi) {j : Nat} (hj : ops.size ≤ j) : rankOf pi j = ops.size := by
  rw [← hp.len]
  refine rankOf_out fun hm => ?_
  obtain ⟨i, hi, e⟩ := List.mem_iff_getElem.1 hm
  obtain ⟨k, h1, h2, _⟩ := hp.back i (by rw [← hp.len]; exact hi)
  rw [List.getElem?_eq_getElem hi, e] at h1
  injection h1 with h1
  omega
theorem permO_size : (permO ops pi).size = pi.length := by simp [permO]
theorem permO_get (hp : PermAt ops pi) {j : Nat} (hj : j < ops.size) : (permO ops pi)[rankOf pi j]? = some (renOp (rankOf pi) ops[j]) := by
  unfold permO
  rw [List.getElem?_toArray, List.getElem?_map, (hp.at_ j hj).2]
  simp [hj]
/-- The lists of what has come up. -/
def SameL (ops : Array Oper) (pi : List Nat) (listed listed' : Array Bool) : Prop := listed.size = ops.size ∧ listed'.size = ops.size ∧ ∀ j, j < ops.size → listed'.getD (rankOf pi j) false = listed.getD j false
theorem SameL.set (hp : PermAt ops pi) {listed listed' : Array Bool} (h : SameL ops pi listed listed') {i : Nat} (hi : i < ops.size) : SameL ops pi (listed.setIfInBounds i true) (listed'.setIfInBounds (rankOf pi i) true) := by
  refine ⟨by simp [h.1], by simp [h.2.1], fun j hj => ?_⟩
  by_cases hij : i = j
  · subst hij
    rw [getD_set_self' (by rw [h.2.1]; exact (hp.at_ i hi).1), getD_set_self' (by rw [h.1]; exact hi)]
  · have hne : rankOf pi i ≠ rankOf pi j := by
      intro e
      have h1 := (hp.at_ i hi).2
      have h2 := (hp.at_ j hj).2
      rw [e, h2] at h1
      injection h1 with h1
      exact hij h1.symm
    rw [getD_set_ne' hij, getD_set_ne' hne]; exact h.2.2 j hj
theorem ready_perm (hp : PermAt ops pi) {listed listed' : Array Bool} (h : SameL ops pi listed listed') {i : Nat} (hi : i < ops.size) : rankOf pi i ∈ Region.ready .any (permO ops pi) listed' ↔ i ∈ Region.ready .any ops listed := by
  rw [mem_ready, mem_ready, permO_get hp hi]
  have hop : ops[i]? = some ops[i] := Array.getElem?_eq_getElem hi
  have e1 : listed'.getD (rankOf pi i) true = listed.getD i true := by
    rw [getD_lt_of (by rw [h.2.1]; exact (hp.at_ i hi).1), getD_lt_of (by rw [h.1]; exact hi)]; exact h.2.2 i hi
  have e2 : ∀ k, listed'.getD (rankOf pi k) false = listed.getD k false := by
    intro k
    rcases Nat.lt_or_ge k ops.size with hk | hk
    · exact h.2.2 k hk
    · rw [hp.out hk, Array.getD_eq_getD_getElem?, Array.getElem?_eq_none (by rw [h.2.1]; exact Nat.le_refl _), Array.getD_eq_getD_getElem?, Array.getElem?_eq_none (by rw [h.1]; exact hk)]
  rw [e1]
  refine and_congr_right fun _ => ?_
  constructor
  · rintro ⟨o, ho, hall⟩
    cases ho
    refine ⟨ops[i], hop, fun e he hb => ?_⟩
    rw [← e2]
    exact hall { e with on := rankOf pi e.on } (Array.mem_map.2 ⟨e, he, rfl⟩) hb
  · rintro ⟨o, ho, hall⟩
    rw [hop] at ho
    cases ho
    refine ⟨_, rfl, fun e he hb => ?_⟩
    obtain ⟨e0, h0, rfl⟩ := Array.mem_map.1 he
    show listed'.getD (rankOf pi e0.on) false = true
    rw [e2]
    exact hall e0 h0 hb
theorem yielded_perm (hp : PermAt ops pi) (tmps : Array Value) (j : Nat) : yielded (permO ops pi) tmps (rankOf pi j) = yielded ops tmps j := by
  unfold yielded
  rcases Nat.lt_or_ge j ops.size with hj | hj
  · rw [permO_get hp hj, Array.getElem?_eq_getElem hj]; rfl
  · rw [hp.out hj, Array.getElem?_eq_none (by rw [permO_size, hp.len]; exact Nat.le_refl _), Array.getElem?_eq_none hj]
theorem wpOp_perm (hp : PermAt ops pi) {i : Nat} (hi : i < ops.size) {K : Act → World → Prop} (h : wpOp P (permO ops pi) Q (rankOf pi i) K a w) : wpOp P ops Q i K a w := by
  unfold wpOp at h ⊢
  rw [permO_get hp hi] at h
  rw [Array.getElem?_eq_getElem hi]
  dsimp only at h ⊢
  have hw : Region.wanted (renOp (rankOf pi) ops[i]) (yielded (permO ops pi) a.tmps) = Region.wanted ops[i] (yielded ops a.tmps) := by
    unfold Region.wanted renOp
    dsimp only
    cases hg : ops[i].guard with
    | none => rfl
    | some p => simp only [Option.map_some]; rw [yielded_perm hp]
  rw [hw] at h
  exact h
theorem wpAny_perm (hp : PermAt ops pi) : ∀ (fuel : Nat) (listed listed' : Array Bool) (a : Act) (w : World), SameL ops pi listed listed' → wpAny P .any (permO ops pi) Q fuel listed' a w → wpAny P .any ops Q fuel listed a w := by
  have none_ : ∀ {listed listed' : Array Bool}, SameL ops pi listed listed' → Region.ready .any ops listed = [] → Region.ready .any (permO ops pi) listed' = [] := by
    intro listed listed' hs h0
    cases hr : Region.ready .any (permO ops pi) listed' with
    | nil => rfl
    | cons i l =>
      exfalso
      have hm : i ∈ Region.ready .any (permO ops pi) listed' := by rw [hr]; simp
      obtain ⟨_, o, ho, _⟩ := mem_ready.1 hm
      have hi : i < ops.size := by have := (Array.getElem?_eq_some_iff.1 ho).1; rw [permO_size, hp.len] at this; exact this
      obtain ⟨j, _, hj, rfl⟩ := hp.back i hi
      have := (ready_perm hp hs hj).1 hm
      rw [h0] at this; cases this
  have some_ : ∀ {listed listed' : Array Bool}, SameL ops pi listed listed' → Region.ready .any (permO ops pi) listed' = [] → Region.ready .any ops listed = [] := by
    intro listed listed' hs h0
    cases hr : Region.ready .any ops listed with
    | nil => rfl
    | cons i l =>
      exfalso
      have hm : i ∈ Region.ready .any ops listed := by rw [hr]; simp
      obtain ⟨_, o, ho, _⟩ := mem_ready.1 hm
      have := (ready_perm hp hs (Array.getElem?_eq_some_iff.1 ho).1).2 hm
      rw [h0] at this; cases this
  intro fuel
  induction fuel with
  | zero => intro listed listed' a w hs h; exact ⟨some_ hs h.1, h.2⟩
  | succ fuel ih =>
    intro listed listed' a w hs h
    refine ⟨fun h0 => h.1 (none_ hs h0), fun i hi => ?_⟩
    obtain ⟨_, o, ho, _⟩ := mem_ready.1 hi
    have hil := (Array.getElem?_eq_some_iff.1 ho).1
    refine wpOp_perm hp hil ?_
    exact wpOp_mono (fun a' w' h' => ih _ _ a' w' (hs.set hp hil) h') (h.2 _ ((ready_perm hp hs hil).2 hi))
end

def drawX5c (P : Program) (cf : FuncId → List SV → Cx → Tree (SV × Cx)) (ops : Array Oper) (F' : List Nat) (n : Nat) (S : St) : Tree St :=
  let l := ops.toList
  let cl := closGo l []
  if Nat.ble n l.length && (regionOk l ops n && (Region.noSelect ops && ((F'.all fun i => Nat.blt i n) && ((List.range ops.size).all (fun k => Nat.blt k n || lastC cl (maskOf F') k))))) then (runQ P cf ops (l.take n) S).bind fun x =>
    if hoistOk3 P ops S x.1 n F' (Array.replicate ops.size false) = true then runOps P cf ops (l.drop n) (withPc x.1 x.2) else .bad
  else .bad

theorem unlisted_hoisted3 {S Sn : St} : ∀ {F : List Nat} {listed : Array Bool}, hoistOk3 P ops S Sn n F listed = true → listed.size = ops.size → unlisted (hoisted F listed) n + F.length = unlisted listed n := by
  intro F
  induction F with
  | nil => intro listed _ _; rfl
  | cons i F ih =>
    intro listed hok hsz
    unfold hoistOk3 at hok
    split at hok
    · rename_i o ho
      simp only [Bool.and_eq_true] at hok
      obtain ⟨h1, h2, h3, h4, h5⟩ := hok
      have hin : i < n := by rw [Nat.blt_eq] at h2; exact h2
      have hmem : i ∈ Region.ready .any ops listed := by simpa using h4
      obtain ⟨hu, _⟩ := mem_ready.1 hmem
      have hil : i < listed.size := by rw [hsz]; exact (Array.getElem?_eq_some_iff.1 ho).1
      have h6 := unlisted_set (listed := listed) hin (by rw [← getD_lt_of hil]; exact hu) hil
      have h7 := ih h5 (by simp [hsz])
      unfold hoisted
      simp only [List.length_cons]
      omega
    · cases hok

theorem drawX5c_ok (hcf : CallsOk U P cf) {F' : List Nat} {S : St} (hh : HeapDen U r g L S.c.h w) (hp : PcOk U r S.c.pc) (hs : Slots U r g L S.tmps a)
    (h : (drawX5c P cf ops F' n S).sat U (SPost U L r g S.c w (Q .normal)) r) : wpAny P .any ops Q ops.size (Array.replicate ops.size false) a { w with drawn := w.drawn + 1 } := by
  unfold drawX5c at h
  dsimp only at h
  generalize hcl : closGo ops.toList [] = cl at h
  split at h
  · rename_i hok
    simp only [Bool.and_eq_true] at hok
    obtain ⟨hn, hreg, hsel, hFn, hlastC⟩ := hok
    have hn : n ≤ ops.toList.length := Nat.le_of_ble_eq_true hn
    simp only [regionOk, Bool.and_eq_true, List.all_eq_true, List.mem_range] at hreg
    rw [Tree.sat_bind] at h
    obtain ⟨st, ps, h1, h2, hpl, h3⟩ := runQ_states (base := S.c.h.length) hp h
    have hlen : (ops.toList.take n).length = n := by rw [List.length_take]; exact Nat.min_eq_left hn
    rw [hlen] at h3 hpl
    dsimp only at h3
    split at h3
    rotate_left
    · exact h3.elim
    rename_i hhoist
    subst h1
    have H : Head U r P cf ops n (fun _ => none) st (fun i => ps.getD i []) :=
      ⟨fun i o hi ho => h2 i o (by rw [List.getElem?_take, if_pos hi]; exact ho), hn, hreg.1, hreg.2.1, hreg.2.2, hp, fun k k' id b b' _ _ h => by cases h⟩
    have hTail : TailOk ops cl (maskOf F') n := by
      refine ⟨?_, ?_, ?_⟩
      · rw [← hcl]
        exact closGo_says (fun k o ho => by simpa using ho) (fun k m hm => by simp at hm)
      · intro k k1 k2
        rw [List.all_eq_true] at hlastC
        have := hlastC k (List.mem_range.2 k2)
        rw [Bool.or_eq_true, Nat.blt_eq] at this
        rcases this with h' | h'
        · omega
        · exact h'
      · intro j hj
        have := maskOf_test.1 hj
        rw [List.all_eq_true] at hFn
        have := hFn j this
        rw [Nat.blt_eq] at this; exact this
    let w1 : World := { w with drawn := w.drawn + 1 }
    have hsame : Same w w1 := ⟨rfl, rfl, rfl, rfl⟩
    have hh1 : HeapDen U r g L (st 0).c.h w1 := hh.same hsame
    have hrep : ∀ t, (Array.replicate ops.size false).getD t false = false := fun t => by
      rw [Array.getD_eq_getD_getElem?, Array.getElem?_replicate]; split <;> rfl
    have inv0 : Inv U r ops n (fun _ => none) st L g w1 (Array.replicate ops.size false) g a w1 := by
      refine ⟨by simp, ?_, hs.defers, hs.size, fun t ht => ?_, ?_, fun t _ => hs.at_ t, fun _ _ => ⟨rfl, rfl⟩, ?_, hh1.blk, ?_, ?_, ?_, Frm.refl _ _, fun _ _ => rfl, ?_, fun k id b' _ _ h => (by cases h), hh1.lt, hh1.inj⟩
      · intro t _ ht; rw [Array.getD_eq_getD_getElem?, Array.getElem?_replicate, if_pos ht]; rfl
      · have := hs.at_ t
        rw [Array.getD_eq_getD_getElem?, Array.getElem?_eq_none (by rw [hs.size]; exact ht)] at this; exact this
      · intro i o t _ _ _ hl; rw [hrep] at hl; cases hl
      · rintro id (hl | ⟨j, _, _, hl, _⟩)
        · exact hh1.lt id hl
        · rw [hrep] at hl; cases hl
      · intro i id b _ hl; rw [hrep] at hl; cases hl
      · intro i id _ hl; rw [hrep] at hl; cases hl
      · rintro id id' b b' (hl | ⟨j, _, _, hl, _⟩) _ h0
        · have := hh1.bnd id hl; omega
        · rw [hrep] at hl; cases hl
      · rintro id b ks e (hl | ⟨j, _, _, hl, _⟩) hb hr
        · rw [H.get (i := 0) (j := n) (Nat.zero_le _) (Nat.le_refl _) (hh1.bnd id hl)] at hb
          exact hh1.rows id b ks e hl hb hr
        · rw [hrep] at hl; cases hl
    have down0 : Down ops (Array.replicate ops.size false) := fun j o _ hl => by rw [hrep] at hl; cases hl
    let Q0 : Exit → Act → World → Prop := fun e a w => (match e with | .panic _ => False | _ => True) ∧ Q e a w
    refine wpAny_monoQ (Q' := Q0) (fun _ _ _ h => h.2) _ _ _ _ ?_
    refine wpAny_of_held (S := Frm (Wr g L (st 0).c.h) w1) _ _ _ _ ?_
    have hsize : n + (ops.size - n) = ops.size := by
      have : n ≤ ops.size := by simpa using hn
      omega
    have hun : unlisted (Array.replicate ops.size false) n = n := by
      unfold unlisted
      rw [List.filter_eq_self.2, List.length_range]
      intro j _
      rw [hrep]; rfl
    have hun' := unlisted_hoisted3 hhoist (by simp)
    rw [hun] at hun'
    have key := hoist_run3 (Q := Q0) (fuel := unlisted (hoisted F' (Array.replicate ops.size false)) n + (ops.size - n)) hcf H hh1 hsel (fun c a a' w hq => hq.1.elim) F' _ g a w1 hhoist down0 inv0 (fun j _ hl => by rw [hrep] at hl; cases hl) ?_
    · rw [show unlisted (hoisted F' (Array.replicate ops.size false)) n + (ops.size - n) + F'.length = ops.size by omega] at key
      exact key
    · intro g1 a1 hd1 inv1 hps1
      refine head_run3 (Q := Q0) (m := ops.size - n) hcf H hh1.bnd hTail ?_ _ _ g1 a1 w1 hd1 (fun j hj => ?_) inv1 hps1 rfl
      · intro listed g' a' w' hd hall hps inv
        obtain ⟨e0, hs'⟩ := inv.done H hh1 hall
        have e := e0.withPc (flat_pc (l := ps) (fun j hj => hps j (by omega)))
        refine tail_run3 hcf hreg.1 hTail _ n listed r g' (withPc (st n) ps.flatten) a' w' hsize (Nat.le_refl _) inv.lsz hd hall inv.tail e hs' (Tree.sat_mono ?_ h3)
        intro r'' S'' hpost g2 a2 w2 e2 s2
        exact ⟨trivial, hpost g2 a2 w2 (e2.of_same hsame) s2⟩
      · have hm' := maskOf_test.1 hj
        refine hoisted_mem (.inr ⟨hm', ?_⟩)
        rw [Array.size_replicate]
        have := hTail.2.2 j hj
        have : n ≤ ops.size := by simpa using hn
        omega
  · exact h.elim

/-- A step that writes. -/
def writes3 (o : Oper) : Bool := match o.op with
  | .call cl => (match cl.callee with
    | .builtin .append | .builtin .copy => true
    | _ => false)
  | .store _ _ _ => true
  | _ => false
/-- What comes first, and the rest in the order of the text. -/
def orderOf (ops : Array Oper) (F : List Nat) : List Nat := F ++ (List.range ops.size).filter fun j => !F.any (Nat.beq j)
def headOf3 (ops : Array Oper) (F : List Nat) : Nat :=
  let n := headGoC (closGo (permO ops (orderOf ops F)).toList []) (maskOf (List.range F.length)) ops.size
  if Nat.blt n F.length then F.length else n
/-- A statement in which a step that writes stands behind free moves, addresses and loads: the places from which is loaded are not written. -/
def drawX5 (P : Program) (cf : FuncId → List SV → Cx → Tree (SV × Cx)) (ops : Array Oper) (S : St) : Tree St :=
  let F0 := freeGo3 false ops ops.toList 0 []
  let F := if ((permO ops (orderOf ops F0)).toList.take (headOf3 ops F0)).any writes3 then freeGo3 true ops ops.toList 0 [] else F0
  if permOk ops.size (orderOf ops F) = true then drawX5c P cf (permO ops (orderOf ops F)) (List.range F.length) (headOf3 ops F) ⟨S.tmps, { S.c with h := lockIds (loadIds ops S F) S.c.h }⟩ else .bad
theorem drawX5_ok (hm : P.follows .mixedOrders = true) (hcf : CallsOk U P cf) {id : Nat} {S : St} (hh : HeapDen U r g L S.c.h w) (hp : PcOk U r S.c.pc) (hs : Slots U r g L S.tmps a)
    (h : (drawX5 P cf ops S).sat U (SPost U L r g S.c w (Q .normal)) r) : (Code.region id ops true).wp P Q a w := by
  unfold drawX5 at h
  dsimp only at h
  generalize (if ((permO ops (orderOf ops (freeGo3 false ops ops.toList 0 []))).toList.take (headOf3 ops (freeGo3 false ops ops.toList 0 []))).any writes3 = true then freeGo3 true ops ops.toList 0 [] else freeGo3 false ops ops.toList 0 []) = F at h
  split at h
  · rename_i hpi
    have hpa := permOk_at hpi
    refine wp_region_any hm ?_
    have hrep : ∀ (n t : Nat), (Array.replicate n false).getD t false = false := fun n t => by
      rw [Array.getD_eq_getD_getElem?, Array.getElem?_replicate]; split <;> rfl
    have hsz : (permO ops (orderOf ops F)).size = ops.size := by rw [permO_size, hpa.len]
    refine wpAny_perm hpa _ (Array.replicate ops.size false) (Array.replicate ops.size false) a _ ⟨by simp, by simp, fun j _ => by rw [hrep, hrep]⟩ ?_
    have key := drawX5c_ok (ops := permO ops (orderOf ops F)) (Q := Q) (S := ⟨S.tmps, { S.c with h := lockIds (loadIds ops S F) S.c.h }⟩) hcf hh.lockIds hp hs (Tree.sat_mono ?_ h)
    · rw [hsz] at key; exact key
    · intro r'' S'' hpost g' a' w' e hs'
      refine hpost g' a' w' (Ext.of_lockIds e) ?_
      dsimp only at hs'
      rw [Lx_lockIds] at hs'
      exact hs'
  · exact h.elim

end
end Go.Sx

/-
  Sx, part Ne: statements in which reckoning goes on beside a step that writes.
-/
namespace Go.Sx
open E (mk1 mk2 mkIte mk1_ev mk2_ev mkIte_ev)

section
variable {U : Nat → D → D} {r r' : Nat → D} {P : Program} {cf : FuncId → List SV → Cx → Tree (SV × Cx)} {ops : Array Oper} {n : Nat} {lat : Nat → Option (Nat × SB)} {st : Nat → St} {ps : Nat → List (E × Bool)}
variable {L L' : Nat → Prop} {g0 g g' : Gh} {c : Cx} {w0 w w' : World} {listed : Array Bool} {a : Act} {Q Q' : Exit → Act → World → Prop}

/-- A value that tells no place. -/
def flatV : SV → Bool
  | .bool _ | .int _ _ | .flt _ _ | .fb _ _ | .str _ | .con _ => true
  | _ => false
theorem flat_den {s : SV} {v : Value} (h : flatV s = true) (hd : s.den U r g L v) : s.den U r g' L' v := by
  cases s <;> first | exact hd | cases h
def sameV : SV → SV → Bool
  | .bool x, .bool y => x.same y
  | .int k x, .int k' y => decide (k = k') && x.same y
  | .flt k x, .flt k' y => decide (k = k') && x.same y
  | .fb k x, .fb k' y => decide (k = k') && x.same y
  | .str x, .str y => x.same y
  | _, _ => false
theorem sameV_eq {x y : SV} (h : sameV x y = true) : x = y := by
  unfold sameV at h
  split at h
  · rw [E.same_eq h]
  · rw [Bool.and_eq_true, decide_eq_true_eq] at h; rw [h.1, E.same_eq h.2]
  · rw [Bool.and_eq_true, decide_eq_true_eq] at h; rw [h.1, E.same_eq h.2]
  · rw [Bool.and_eq_true, decide_eq_true_eq] at h; rw [h.1, E.same_eq h.2]
  · rw [E.same_eq h]
  · cases h

theorem HeapDen.nothing {h : SH} : HeapDen U r g (fun _ => False) (lockH h) w :=
  ⟨fun _ h => h.elim, fun _ h => h.elim, fun _ _ h => h.elim, fun _ _ _ _ h => h.elim, fun _ _ _ _ h => h.elim, fun id b hb hw => by rw [(lockH_get hb).1] at hw; cases hw⟩

/-- The worlds differ in new blocks alone. -/
abbrev Aside (w w' : World) : Prop := Frm (fun _ => False) w w'
theorem HeapDen.aside {h : SH} (hh : HeapDen U r g L h w) (f : Aside w w') : HeapDen U r g L h w' := by
  have blk : ∀ {k}, k < w.heap.size → w'.heap[k]? = w.heap[k]? := fun hk => f.block _ hk (fun h => h)
  refine ⟨hh.bnd, fun id h => Nat.lt_of_lt_of_le (hh.lt id h) f.size, fun id b h1 h2 => ?_, hh.inj, fun id b ks e h1 h2 h3 => ?_, hh.live⟩
  · rw [blk (hh.lt id h1)]; exact hh.blk id b h1 h2
  · rw [blk (hh.lt id h1)]; exact hh.rows id b ks e h1 h2 h3
theorem Ext.aside {c' : Cx} (e : Ext U L r g c w r' g' c' w') {w'' : World} (f : Aside w' w'') : Ext U L r g c w r' g' c' w'' :=
  ⟨e.nv, e.agr, e.len, e.ga, e.go, e.heap.aside f, e.pc, ⟨f.os.trans e.frm.os, f.tape.trans e.frm.tape, f.output.trans e.frm.output, Nat.le_trans e.frm.size f.size, fun k hk hn => (f.block k (Nat.lt_of_lt_of_le hk e.frm.size) (fun h => h)).trans (e.frm.block k hk hn)⟩, e.wrs, e.fresh⟩

/-- A step that only reckons: what is asked of it. -/
structure Reck (U : Nat → D → D) (r : Nat → D) (P : Program) (cf : FuncId → List SV → Cx → Tree (SV × Cx)) (ops : Array Oper) (n : Nat) (st : Nat → St) (i : Nat) (o : Oper) (d : Tmp) : Prop where
  lt : i < n
  op : ops[i]? = some o
  guard : o.guard = none
  dst : o.dst = some d
  len : (st (i + 1)).c.h.length = (st i).c.h.length
  flat : flatV ((st n).tmps.get d) = true
  looks : ∀ t ∈ o.looksAt ops, flatV ((st i).tmps.get t) = true
  room : d < (st 0).tmps.n

theorem reck_step (hcf : CallsOk U P cf) (H : Head U r P cf ops n (fun _ => none) st ps) {i : Nat} {o : Oper} {d : Tmp} (R : Reck U r P cf ops n st i o d) (hl : ∀ t ∈ o.looksAt ops, ((st i).tmps.get t).den U r g L (a.tmps.getD t undef)) {K : Act → World → Prop}
    (hK : ∀ v w', Aside w w' → ((st n).tmps.get d).den U r g L v → PcOk U r (ps i) → K (a.put o.dst v) w') : wpOp P ops Q i K a w := by
  have ho : ops.toList[i]? = some o := by simpa using R.op
  have q := H.rel i o R.lt ho
  unfold wpOp
  rw [R.op]
  dsimp only
  have hw1 : Region.wanted o (yielded ops a.tmps) = true := by unfold Region.wanted; rw [R.guard]
  rw [hw1]
  simp only [if_true]
  left
  rcases q.run with ⟨hg, hlat, z, pc, sv, c', hpx, hpc, hleaf, htm, hch⟩ | ⟨hg, hlat, hpx, htm, hch⟩ | ⟨hpx, hgd, hdst, _⟩
  · have hev : ∀ x, (evM (o.looksAt ops) (st i).tmps x).den U r g (fun _ => False) (a.eval x) := by
      intro x
      cases x with
      | tmp t =>
        unfold evM
        dsimp only
        split
        · rename_i hc
          have hm := maskOf_test.1 hc
          exact flat_den (R.looks t hm) (hl t hm)
        · trivial
      | const v => exact ofValue_den v
      | global n => rfl
      | func f => exact ⟨#[], #[], rfl, by simp [SV.denL], by simp [SV.denL]⟩
    have hsv : (st n).tmps.get d = sv := by
      have hno : ∀ k o', i + 1 ≤ k → k < n → ops.toList[k]? = some o' → o'.dst ≠ some d := fun k o' h1 h2 h3 => H.own h2 R.lt h3 ho R.dst (by omega)
      rw [H.slot (i := i + 1) (t := d) n (by have := R.lt; omega) (Nat.le_refl _) (fun k o' h1 h2 h3 => hno k o' h1 h2 h3), htm, R.dst]
      simp only [putS]
      exact Tm.get_put_self _ _ (by rw [H.size i (by have := R.lt; omega)]; exact R.room)
    refine wp_of_goal (opTree_ok hcf (c := ⟨lockH (st i).c.h, (st i).c.nv, pc⟩) HeapDen.nothing hpc hev (sat_leaf hleaf ?_))
    intro g' v w' he hd
    refine hK v w' ⟨he.frm.os, he.frm.tape, he.frm.output, he.frm.size, fun k hk _ => he.frm.block k hk lockH_noWr⟩ ?_ (fun x hx => he.pc x (hpx x hx))
    rw [hsv]
    have hf := R.flat
    rw [hsv] at hf
    exact flat_den hf hd
  · exfalso
    have hg' : guardS ops (st i).tmps o = .told true := by unfold guardS; rw [R.guard]
    rcases hg with hg | ⟨e, hg, _⟩
    · rw [hg'] at hg; cases hg
    · rw [hg'] at hg; cases hg
  · rw [R.dst] at hdst; cases hdst

/-! ### What the head leaves while some reckoning is under way -/

def isRA (A : List Nat) (i : Nat) : Bool := A.any (Nat.beq i)
theorem isRA_mem {A : List Nat} {i : Nat} : isRA A i = true ↔ i ∈ A := by
  unfold isRA
  rw [List.any_eq_true]
  constructor
  · rintro ⟨x, hx, h⟩; rw [Nat.eq_of_beq_eq_true h]; exact hx
  · intro h; exact ⟨i, h, Nat.beq_refl i⟩
/-- The slots of the steps under way: nothing is told of them. -/
def dstsA (ops : Array Oper) (A : List Nat) : List Tmp := A.filterMap fun i => (ops[i]?).bind (·.dst)
def blankS (ts : List Tmp) (T : Tm) : Tm := ts.foldl (fun T t => T.put t .any) T
def fillA (ts : List Tmp) (Tn T : Tm) : Tm := ts.foldl (fun T t => T.put t (Tn.get t)) T
theorem foldput_n {f : Tmp → SV} : ∀ {ts : List Tmp} {T : Tm}, (ts.foldl (fun T t => T.put t (f t)) T).n = T.n := by
  intro ts
  induction ts with
  | nil => intro T; rfl
  | cons t ts ih => intro T; simp only [List.foldl_cons]; rw [ih, Tm.put_n]
theorem foldput_out {f : Tmp → SV} {t : Tmp} : ∀ {ts : List Tmp} {T : Tm}, t ∉ ts → (ts.foldl (fun T t => T.put t (f t)) T).get t = T.get t := by
  intro ts
  induction ts with
  | nil => intro T _; rfl
  | cons x ts ih =>
    intro T h
    simp only [List.foldl_cons]
    rw [ih (fun h' => h (List.mem_cons_of_mem _ h')), Tm.get_put_ne _ _ (fun e => h (by rw [e]; exact List.mem_cons_self ..))]
theorem foldput_in {f : Tmp → SV} {t : Tmp} : ∀ {ts : List Tmp} {T : Tm}, t ∈ ts → t < T.n → (ts.foldl (fun T t => T.put t (f t)) T).get t = f t := by
  intro ts
  induction ts with
  | nil => intro T h; cases h
  | cons x ts ih =>
    intro T h ht
    simp only [List.foldl_cons]
    by_cases hin : t ∈ ts
    · exact ih hin (by rw [Tm.put_n]; exact ht)
    · rcases List.mem_cons.1 h with rfl | h
      · rw [foldput_out hin]; exact Tm.get_put_self _ _ ht
      · exact absurd h hin

/-- All that stands in the head while the steps of 'A' may be under way. -/
def HeldA (U : Nat → D → D) (r : Nat → D) (P : Program) (cf : FuncId → List SV → Cx → Tree (SV × Cx)) (ops : Array Oper) (n : Nat) (st : Nat → St) (A : List Nat) : Prop := ∀ i ∈ A, ∃ o d, Reck U r P cf ops n st i o d

theorem Inv.doneA (H : Head U r P cf ops n lat st ps) (hh : HeapDen U r g0 L (st 0).c.h w0) (inv : Inv U r ops n lat st L g0 w0 listed g a w) {A : List Nat} (hA : HeldA U r P cf ops n st A) (hall : ∀ j, j < n → j ∉ A → listed.getD j false = true) :
    Ext U L r g0 (st 0).c w0 r g (st n).c w ∧ Slots U r g (Lx L (st 0).c.h (st n).c.h) (blankS (dstsA ops A) (st n).tmps) a := by
  have cover : ∀ m, m ≤ n → ∀ id, (st 0).c.h.length ≤ id → id < (st m).c.h.length → ∃ j, j < m ∧ j ∉ A ∧ (st j).c.h.length ≤ id ∧ id < (st (j + 1)).c.h.length := by
    intro m
    induction m with
    | zero => intro _ id h1 h2; omega
    | succ m ih =>
      intro hm id h1 h2
      by_cases h : id < (st m).c.h.length
      · obtain ⟨j, h3, h4⟩ := ih (by omega) id h1 h; exact ⟨j, by omega, h4⟩
      · refine ⟨m, by omega, fun hmA => ?_, by omega, h2⟩
        obtain ⟨o, d, R⟩ := hA m hmA
        have := R.len; omega
  have lvx : ∀ id, Lx L (st 0).c.h (st n).c.h id → Lv L st n listed n id := by
    rintro id (h | ⟨h1, h2⟩)
    · exact .inl h
    · obtain ⟨j, h3, hj, h4, h5⟩ := cover n (Nat.le_refl _) id h1 h2
      exact .inr ⟨j, h3, h3, hall j h3 hj, h4, h5⟩
  have xlv : ∀ m, m ≤ n → ∀ id, Lv L st n listed m id → Lx L (st 0).c.h (st n).c.h id := by
    rintro m hm id (h | ⟨j, h1, h2, h3, h4, h5⟩)
    · exact .inl h
    · right
      have := H.nb (i := 0) (j := j) (Nat.zero_le _) (by omega)
      have := H.nb (i := j + 1) (j := n) (by omega) (Nat.le_refl _)
      omega
  have glx : ∀ m, m ≤ n → GLe g (Lv L st n listed m) g (Lx L (st 0).c.h (st n).c.h) := fun m hm => ⟨fun id h => ⟨xlv m hm id h, rfl, rfl⟩, fun _ _ => rfl⟩
  have gl0 : GLe g L g (Lx L (st 0).c.h (st n).c.h) := ⟨fun id h => ⟨.inl h, rfl, rfl⟩, fun _ _ => rfl⟩
  have nb := H.nb (i := 0) (j := n) (Nat.zero_le _) (Nat.le_refl _)
  have ga0 : ∀ id, L id → g.a id = g0.a id := fun id h => (inv.ga id (by have := hh.bnd id h; omega)).1
  have split : ∀ id, Lx L (st 0).c.h (st n).c.h id → (L id ∧ id < (st 0).c.h.length) ∨ ((st 0).c.h.length ≤ id ∧ id < (st n).c.h.length ∧ w0.heap.size ≤ g.a id) := by
    rintro id (h | ⟨h1, h2⟩)
    · exact .inl ⟨h, hh.bnd id h⟩
    · right
      obtain ⟨j, h3, hj, h4, h5⟩ := cover n (Nat.le_refl _) id h1 h2
      exact ⟨h1, h2, inv.new j id h3 (hall j h3 hj) h4 h5⟩
  have get0 : ∀ {id}, id < (st 0).c.h.length → (st n).c.h[id]? = (st 0).c.h[id]? := fun h => H.get (Nat.zero_le _) (Nat.le_refl _) h
  refine ⟨⟨H.nv n (Nat.le_refl _), fun _ => rfl, nb, inv.ga, inv.go, ?_, H.pc n (Nat.le_refl _), ?_, ?_, ?_⟩, ?_⟩
  · refine ⟨?_, fun id h => inv.lt id (lvx id h), ?_, ?_, fun id b ks e h hb hr => inv.rows id b ks e (lvx id h) hb hr, fun id b hb hwr => ?_⟩
    · intro id h
      rcases split id h with ⟨_, h2⟩ | ⟨_, h2, _⟩
      · omega
      · exact h2
    · intro id b h hb
      rcases split id h with ⟨h1, h2⟩ | ⟨h1, h2, _⟩
      · rw [get0 h2] at hb
        obtain ⟨xs, t, fz, e1, e2, e3, e4, e5⟩ := inv.blk0 id b h1 hb
        exact ⟨xs, t, fz, e1, e2, e3, e4, fun j s hs => (by obtain ⟨v, hv, hd⟩ := e5 j s hs; exact ⟨v, hv, SV.den_mono gl0 hd⟩)⟩
      · obtain ⟨j, h3, hj, h4, h5⟩ := cover n (Nat.le_refl _) id h1 h2
        obtain ⟨xs, t, fz, e1, e2, e3, e4, e5⟩ := inv.blkn j id b h3 (hall j h3 hj) h4 h5 hb
        exact ⟨xs, t, fz, e1, e2, e3, e4, fun k s hs => (by obtain ⟨v, hv, hd⟩ := e5 k s hs; exact ⟨v, hv, SV.den_mono (glx (j + 1) (by omega)) hd⟩)⟩
    · intro i j b b' hi hj hb hwr hb' he
      rcases split i hi with ⟨h1, h2⟩ | ⟨h1, h2, h3⟩ <;> rcases split j hj with ⟨k1, k2⟩ | ⟨k1, k2, k3⟩
      · rw [get0 h2] at hb
        rw [get0 k2] at hb'
        rw [ga0 i h1, ga0 j k1] at he
        exact hh.inj i j b b' h1 k1 hb hwr hb' he
      · rw [ga0 i h1] at he; have := hh.lt i h1; omega
      · rw [ga0 j k1] at he; have := hh.lt j k1; omega
      · exact inv.inj i j b b' (lvx i hi) (lvx j hj) h1 k1 hb hwr hb' he
    · by_cases hlt : id < (st 0).c.h.length
      · rw [get0 hlt] at hb; exact .inl (hh.live id b hb hwr)
      · exact .inr ⟨by omega, (List.getElem?_eq_some_iff.1 hb).1⟩
  · have f := inv.frm
    exact ⟨f.os, f.tape, f.output, f.size, fun k hk hn => f.block k hk hn⟩
  · intro id b h hb hwr
    rcases split id h with ⟨h1, h2⟩ | ⟨h1, h2, h3⟩
    · right
      rw [get0 h2] at hb
      exact ⟨id, b, h1, hb, hwr, (ga0 id h1).symm⟩
    · exact .inl h3
  · intro id h1 h2
    rcases split id (.inr ⟨h1, h2⟩) with ⟨h3, h4⟩ | ⟨_, _, h3⟩
    · omega
    · exact .inl h3
  · refine ⟨inv.defers, by unfold blankS; rw [foldput_n, inv.size, H.size n (Nat.le_refl _)], fun t => ?_⟩
    unfold blankS
    by_cases htA : t ∈ dstsA ops A
    · obtain ⟨i, hi, hd⟩ := List.mem_filterMap.1 htA
      obtain ⟨o, d, R⟩ := hA i hi
      rw [R.op] at hd
      have hd : o.dst = some t := hd
      rw [R.dst] at hd
      cases hd
      rw [foldput_in htA (by rw [H.size n (Nat.le_refl _)]; exact R.room)]
      trivial
    · rw [foldput_out htA]
      by_cases hown : ∃ j p, j < n ∧ ops.toList[j]? = some p ∧ p.dst = some t
      · obtain ⟨j, p, hj, hp, hd⟩ := hown
        have hjA : j ∉ A := fun h => htA (List.mem_filterMap.2 ⟨j, h, by rw [show ops[j]? = some p by simpa using hp]; exact hd⟩)
        exact SV.den_mono (glx (j + 1) (by omega)) (inv.own j p t hj hp hd (hall j hj hjA))
      · have h1 := inv.oth t fun k o' hk hok hd => hown ⟨k, o', hk, hok, hd⟩
        rw [H.slot (i := 0) (t := t) n (Nat.zero_le _) (Nat.le_refl _) fun k o' _ h2 h3 hd => hown ⟨k, o', h2, h3, hd⟩]
        exact SV.den_mono gl0 h1

/-! ### A step leaves all other slots as they are -/

theorem wpO_frame {o : Oper} {K : Act → World → Prop} (h : o.wp P a w K Q) : o.wp P a w (fun a' w' => K a' w' ∧ (∀ t, o.dst ≠ some t → a'.tmps.getD t undef = a.tmps.getD t undef) ∧ a'.tmps.size = a.tmps.size) Q := by
  unfold Oper.wp at *
  generalize (execOp a.eval o).run P w = res at *
  cases res with
  | ok n w' =>
    cases n <;> simp only [Oper.upon] at h ⊢ <;> first
      | exact ⟨h, fun t ht => put_getD_ne ht, put_size _ _⟩
      | exact h
      | (refine Calls.mono h (fun e w'' he => ?_); cases e <;> first | exact ⟨he, fun t ht => put_getD_ne ht, put_size _ _⟩ | exact he)
      | (refine Rows.mono h (fun u w'' he => ?_); exact ⟨he, fun t ht => put_getD_ne ht, put_size _ _⟩)
  | halt x w' => cases x <;> simp only [Oper.upon] at h ⊢ <;> exact h
theorem wpOp_frame {i : Nat} {o : Oper} (ho : ops[i]? = some o) {K : Act → World → Prop} (h : wpOp P ops Q i K a w) : wpOp P ops Q i (fun a' w' => K a' w' ∧ (∀ t, o.dst ≠ some t → a'.tmps.getD t undef = a.tmps.getD t undef) ∧ a'.tmps.size = a.tmps.size) a w := by
  unfold wpOp at h ⊢
  rw [ho] at h ⊢
  dsimp only at h ⊢
  split
  · rename_i hw
    rw [if_pos hw] at h
    exact h.imp_left wpO_frame
  · rename_i hw
    rw [if_neg hw] at h
    exact ⟨h, fun t ht => put_getD_ne ht, put_size _ _⟩

/-! ### The rows, with reckoning under way -/

def looksA (ops : Array Oper) (A : List Nat) : List Tmp := A.flatMap fun i => match ops[i]? with
  | some o => o.looksAt ops
  | none => []
/-- What is known of the slots of the reckoning. -/
def VA (U : Nat → D → D) (r : Nat → D) (g : Gh) (ops : Array Oper) (A : List Nat) (Tn : Tm) (listed : Array Bool) (a : Act) : Prop :=
  ∀ t, (t ∈ looksA ops A ∨ t ∈ dstsA ops A) → (t ∈ dstsA ops A → ∃ i ∈ A, listed.getD i false = true ∧ ∃ o, ops[i]? = some o ∧ o.dst = some t) → flatV (Tn.get t) = true ∧ (Tn.get t).den U r g (fun _ => False) (a.tmps.getD t undef)
def unlistedA (A : List Nat) (listed : Array Bool) (n : Nat) : Nat := ((List.range n).filter fun j => isRA A j && !listed.getD j false).length
theorem unlistedA_set {A : List Nat} {i : Nat} (hi : i < n) (hA : i ∈ A) (hu : listed.getD i false = false) (hl : i < listed.size) : unlistedA A (listed.setIfInBounds i true) n + 1 = unlistedA A listed n := by
  unfold unlistedA
  have key : ∀ (l : List Nat), l.Nodup → i ∈ l → (l.filter fun j => isRA A j && !(listed.setIfInBounds i true).getD j false).length + 1 = (l.filter fun j => isRA A j && !listed.getD j false).length := by
    intro l
    induction l with
    | nil => intro _ h; cases h
    | cons x l ih =>
      intro hnd hm
      rw [List.nodup_cons] at hnd
      by_cases hx : x = i
      · subst hx
        have e1 : (isRA A x && !(listed.setIfInBounds x true).getD x false) = false := by rw [getD_set_self' hl]; simp
        have e2 : (isRA A x && !listed.getD x false) = true := by rw [hu, isRA_mem.2 hA]; rfl
        rw [List.filter_cons, List.filter_cons, e1, e2]
        simp only [Bool.false_eq_true, if_false, if_true, List.length_cons]
        congr 2
        refine List.filter_congr fun y hy => ?_
        rw [getD_set_ne' (fun e => hnd.1 (by rw [e]; exact hy))]
      · have hm' : i ∈ l := by
          rcases List.mem_cons.1 hm with h | h
          · exact absurd h.symm hx
          · exact h
        rw [List.filter_cons, List.filter_cons, getD_set_ne' (fun e => hx e.symm)]
        have := ih hnd.2 hm'
        split
        · simp only [List.length_cons]; omega
        · exact this
  exact key _ List.nodup_range (List.mem_range.2 hi)
theorem unlistedA_same {A : List Nat} {i : Nat} (hA : i ∉ A) : unlistedA A (listed.setIfInBounds i true) n = unlistedA A listed n := by
  unfold unlistedA
  congr 1
  refine List.filter_congr fun y _ => ?_
  by_cases hy : i = y
  · subst hy
    have : isRA A i = false := by
      cases h : isRA A i with
      | false => rfl
      | true => exact absurd (isRA_mem.1 h) hA
    rw [this]; rfl
  · rw [getD_set_ne' hy]
theorem unlistedA_zero {A : List Nat} (h : unlistedA A listed n = 0) : ∀ j ∈ A, j < n → listed.getD j false = true := by
  intro j hj hjn
  unfold unlistedA at h
  have h0 := List.eq_nil_of_length_eq_zero h
  cases hx : listed.getD j false with
  | true => rfl
  | false =>
    have : j ∈ (List.range n).filter fun j => isRA A j && !listed.getD j false := List.mem_filter.2 ⟨List.mem_range.2 hjn, by rw [hx, isRA_mem.2 hj]; rfl⟩
    rw [h0] at this; cases this

theorem look_same (H : Head U r P cf ops n lat st ps) {i : Nat} (hi : i < n) {o : Oper} (ho : ops.toList[i]? = some o) {t : Tmp} (ht : t ∈ o.looksAt ops) : (st i).tmps.get t = (st n).tmps.get t := by
  refine (H.slot (i := i) (t := t) n (by omega) (Nat.le_refl _) fun k o' h1 h2 h3 hd => ?_).symm
  have := (H.look hi h2 ho h3 hd ht).1
  omega

/-- A row of steps beside the reckoning: its slots are not looked at. -/
def runB (P : Program) (cf : FuncId → List SV → Cx → Tree (SV × Cx)) (ops : Array Oper) (ts : List Tmp) : List Oper → St → Tree St
  | [], S => .ret S
  | o :: rest, S => (stepX P cf ops o ⟨blankS ts S.tmps, S.c⟩).bind (runB P cf ops ts rest)

theorem tail_run4 (hcf : CallsOk U P cf) (H : Head U r P cf ops n (fun _ => none) st ps) {A : List Nat} (hA : HeldA U r P cf ops n st A) {cl : List Nat} {free freeA q : Nat} (ht1 : TailOk ops cl freeA n) (ht2 : TailOk ops cl free q) (hnq : n ≤ q) (hqs : q ≤ ops.size)
    (hfree : ∀ j, free.testBit j = true → j < n ∧ j ∉ A) (hdst : ∀ k o, n ≤ k → k < q → ops.toList[k]? = some o → ∀ t, (t ∈ looksA ops A ∨ t ∈ dstsA ops A) → o.dst ≠ some t) {L0 : Nat → Prop} {c0 : Cx} {gV : Gh} :
    ∀ (N p : Nat) (listed : Array Bool) (r1 : Nat → D) (g : Gh) (S : St) (a : Act) (w : World), r1 = r → n ≤ p → p ≤ q → (q - p) + unlistedA A listed n = N → listed.size = ops.size → Down ops listed → (∀ j, j < p → j ∉ A → listed.getD j false = true) → (∀ j, p ≤ j → j < ops.size → listed.getD j true = false) →
    Ext U L0 r g0 c0 w0 r1 g S.c w → Slots U r1 g (Lx L0 c0.h S.c.h) (blankS (dstsA ops A) S.tmps) a → VA U r gV ops A (st n).tmps listed a → a.tmps.size = (st 0).tmps.n →
    (runB P cf ops (dstsA ops A) ((ops.toList.drop p).take (q - p)) S).sat U (fun r' S' => (runOps P cf ops (ops.toList.drop q) ⟨fillA (dstsA ops A) (st n).tmps S'.tmps, S'.c⟩).sat U (SPost U L0 r g0 c0 w0 (Q .normal)) r') r1 →
    wpAnyH P .any ops Q (Frm (Wr g0 L0 c0.h) w0) (N + (ops.size - q)) listed a w := by
  intro N
  have dA : ∀ {t}, t ∈ dstsA ops A → ∃ i ∈ A, ∃ o d, Reck U r P cf ops n st i o d ∧ o.dst = some t ∧ d = t := by
    intro t htA
    obtain ⟨i, hi, hid⟩ := List.mem_filterMap.1 htA
    obtain ⟨o, d, R⟩ := hA i hi
    have hod : o.dst = some t := by rw [R.op] at hid; exact hid
    exact ⟨i, hi, o, d, R, hod, by rw [R.dst] at hod; exact Option.some.inj hod⟩
  induction N with
  | zero =>
    intro p listed r1 g S a w hr1 hnp hpq hN hls hd hin hout he hs hva hsz hsat
    subst hr1
    have hpq' : p = q := by omega
    subst hpq'
    have hun : unlistedA A listed n = 0 := by omega
    rw [Nat.sub_self, List.take_zero] at hsat
    have hsat : (runOps P cf ops (ops.toList.drop p) ⟨fillA (dstsA ops A) (st n).tmps S.tmps, S.c⟩).sat U (SPost U L0 r1 g0 c0 w0 (Q .normal)) r1 := hsat
    rw [Nat.zero_add]
    have hall : ∀ j, j < p → listed.getD j false = true := by
      intro j hj
      by_cases hjA : j ∈ A
      · obtain ⟨o, d, R⟩ := hA j hjA
        exact unlistedA_zero hun j hjA R.lt
      · exact hin j hj hjA
    have hSn : S.tmps.n = (st 0).tmps.n := by
      have := hs.size
      unfold blankS at this
      rw [foldput_n] at this
      rw [← this]; exact hsz
    refine tail_run3 hcf H.back ht2 _ p listed r1 g ⟨fillA (dstsA ops A) (st n).tmps S.tmps, S.c⟩ a w (by omega) (Nat.le_refl _) hls hd hall hout he ?_ hsat
    refine ⟨hs.defers, by unfold fillA; rw [foldput_n, hSn]; exact hsz, fun t => ?_⟩
    unfold fillA
    by_cases htA : t ∈ dstsA ops A
    · obtain ⟨i, hi, o, d, R, hod, rfl⟩ := dA htA
      have hv := hva d (.inr htA) fun _ => ⟨i, hi, unlistedA_zero hun i hi R.lt, o, R.op, hod⟩
      rw [foldput_in htA (by rw [hSn]; exact R.room)]
      exact flat_den hv.1 hv.2
    · rw [foldput_out htA]
      have := hs.at_ t
      unfold blankS at this
      rw [foldput_out htA] at this; exact this
  | succ N ih =>
    intro p listed r1 g S a w hr1 hnp hpq hN hls hd hin hout he hs hva hsz hsat
    subst hr1
    rw [show N + 1 + (ops.size - q) = (N + (ops.size - q)) + 1 by omega]
    have edges : ∀ {i : Nat}, i < ops.size → (∀ k, k < i → listed.getD k false = true) → listed.getD i true = false → i ∈ Region.ready .any ops listed := by
      intro i hi hk hu
      have hop : ops[i]? = some ops[i] := Array.getElem?_eq_getElem hi
      have hol : ops.toList[i]? = some ops[i] := by rw [Array.getElem?_toList]; exact hop
      exact mem_ready.2 ⟨hu, ops[i], hop, fun e he hb => hk _ (backOk_lt hol (H.back i (by simp only [Array.length_toList]; exact hi)) he hb)⟩
    have hready : ∃ j, j ∈ Region.ready .any ops listed := by
      by_cases hun : unlistedA A listed n = 0
      · refine ⟨p, edges (by omega) (fun k hk => ?_) (hout p (Nat.le_refl _) (by omega))⟩
        by_cases hkA : k ∈ A
        · obtain ⟨o, d, R⟩ := hA k hkA
          exact unlistedA_zero hun k hkA R.lt
        · exact hin k hk hkA
      · have hex : ∃ j, j ∈ A ∧ j < n ∧ listed.getD j false = false := by
          apply Classical.byContradiction
          intro hno
          refine hun ?_
          unfold unlistedA
          rw [List.length_eq_zero_iff, List.filter_eq_nil_iff]
          intro j hj hx
          rw [Bool.and_eq_true] at hx
          exact hno ⟨j, isRA_mem.1 hx.1, List.mem_range.1 hj, by simpa using hx.2⟩
        obtain ⟨j, hjA, hjn, hx⟩ := hex
        induction j using Nat.strongRecOn with
        | _ j ihj =>
          by_cases hall : ∀ k, k < j → listed.getD k false = true
          · exact ⟨j, edges (by omega) hall (by rw [getD_lt_of (by rw [hls]; omega)]; exact hx)⟩
          · simp only [Classical.not_forall] at hall
            obtain ⟨k, hk, hk'⟩ := hall
            have hkf : listed.getD k false = false := by simpa using hk'
            by_cases hkA : k ∈ A
            · exact ihj k hk hkA (by omega) hkf
            · rw [hin k (by omega) hkA] at hkf; cases hkf
    refine ⟨fun h0 => (by obtain ⟨j, hj⟩ := hready; rw [h0] at hj; cases hj), fun i hi => ?_⟩
    obtain ⟨h1, o, ho, hall⟩ := mem_ready.1 hi
    have hil : i < ops.size := (Array.getElem?_eq_some_iff.1 ho).1
    have hol : ops.toList[i]? = some o := by simpa using ho
    have hif : listed.getD i false = false := by rw [← getD_lt_of (by rw [hls]; exact hil)]; exact h1
    by_cases hin' : i < n
    · have hiA : i ∈ A := by
        apply Classical.byContradiction
        intro hno
        rw [hin i (by omega) hno] at hif; cases hif
      obtain ⟨o', d, R⟩ := hA i hiA
      have : o' = o := by have := R.op; rw [ho] at this; exact (Option.some.inj this).symm
      subst this
      have hl : ∀ t ∈ o'.looksAt ops, ((st i).tmps.get t).den U r1 g (Lx L0 c0.h S.c.h) (a.tmps.getD t undef) := by
        intro t ht
        have hv := hva t (.inl (List.mem_flatMap.2 ⟨i, hiA, by rw [ho]; exact ht⟩)) fun htA => by
          obtain ⟨i', hi', o'', d', R', hod', rfl⟩ := dA htA
          have hol'' : ops.toList[i']? = some o'' := by simpa using R'.op
          have hlk := H.look hin' R'.lt hol hol'' hod' ht
          exact ⟨i', hi', waitsOn_listed hlk.2 hall, o'', R'.op, hod'⟩
        rw [look_same H hin' hol ht]
        exact flat_den hv.1 hv.2
      refine reck_step hcf H R hl fun v w' hasd hden _ => ?_
      have he' := he.aside hasd
      have hun := unlistedA_set (n := n) hin' hiA hif (by rw [hls]; exact hil)
      refine ⟨he'.frm, ih p _ r1 g S _ w' rfl hnp hpq (by omega) (by simp [hls]) (hd.set hi) (fun j hj hjA => getD_set_true (hin j hj hjA)) (fun j h1 h2 => by rw [getD_set_ne' (by omega)]; exact hout j h1 h2) he' ?_ ?_ (by rw [put_size]; exact hsz) hsat⟩
      · refine ⟨by rw [put_defers]; exact hs.defers, by rw [put_size]; exact hs.size, fun t => ?_⟩
        by_cases htd : o'.dst = some t
        · have hd2 : d = t := by have := R.dst; rw [htd] at this; exact (Option.some.inj this).symm
          subst hd2
          have htA : d ∈ dstsA ops A := List.mem_filterMap.2 ⟨i, hiA, by rw [ho]; exact htd⟩
          have hSn : S.tmps.n = (st 0).tmps.n := by
            have := hs.size
            unfold blankS at this
            rw [foldput_n] at this
            rw [← this]; exact hsz
          unfold blankS
          rw [foldput_in htA (by rw [hSn]; exact R.room)]
          trivial
        · rw [put_getD_ne htd]; exact hs.at_ t
      · intro t ht hc
        by_cases htd : o'.dst = some t
        · have hd2 : d = t := by have := R.dst; rw [htd] at this; exact (Option.some.inj this).symm
          subst hd2
          refine ⟨R.flat, ?_⟩
          have hget : (a.put o'.dst v).tmps.getD d undef = v := by
            rw [htd]
            simp only [Act.put]
            rw [Array.getD_eq_getD_getElem?, Array.getElem?_setIfInBounds_self_of_lt (by rw [hsz]; exact R.room)]; rfl
          rw [hget]
          exact flat_den R.flat hden
        · rw [put_getD_ne htd]
          refine hva t ht fun htA => ?_
          obtain ⟨i', h1', h2', o'', h3', h4'⟩ := hc htA
          refine ⟨i', h1', ?_, o'', h3', h4'⟩
          by_cases hii : i = i'
          · subst hii
            rw [ho] at h3'; cases h3'
            exact absurd h4' htd
          · rwa [getD_set_ne' hii] at h2'
    · have hni : n ≤ i := Nat.not_lt.1 hin'
      have hall' : ∀ (o' : Oper), ops.toList[i]? = some o' → ∀ e ∈ o'.after, Region.binds .any e = true → listed.getD e.on false = true := fun o' ho' e he hb => by
        rw [hol] at ho'
        rw [← Option.some.inj ho'] at he
        exact hall e he hb
      have hip : p ≤ i := by
        rcases Nat.lt_or_ge i p with h | h
        · have hiA : i ∉ A := fun h' => by obtain ⟨o', d, R⟩ := hA i h'; exact hin' R.lt
          rw [hin i h hiA] at hif; cases hif
        · exact h
      have hpf : p < i → listed.getD p false = false := fun h => by
        have := hout p (Nat.le_refl _) (by omega)
        rwa [getD_lt_of (by rw [hls]; omega)] at this
      have hiq : i < q := by
        rcases Nat.lt_or_ge i q with h | h
        · exact h
        · exfalso
          by_cases hpq2 : p < q
          · rcases ht2.waits hd h hil (show p < i by omega) hall' with h4 | h4
            · rw [hpf (by omega)] at h4; cases h4
            · have := (hfree p h4).1; omega
          · have hun : unlistedA A listed n ≠ 0 := by omega
            refine hun ?_
            unfold unlistedA
            rw [List.length_eq_zero_iff, List.filter_eq_nil_iff]
            intro j hj hx
            rw [Bool.and_eq_true] at hx
            have hjA := isRA_mem.1 hx.1
            have hjn := List.mem_range.1 hj
            rcases ht2.waits hd h hil (show j < i by omega) hall' with h4 | h4
            · rw [h4] at hx; simp at hx
            · exact (hfree j h4).2 hjA
      have hip' : i = p := by
        rcases Nat.lt_or_ge p i with h | h
        · exfalso
          rcases ht1.waits hd hni hil h hall' with h4 | h4
          · rw [hpf h] at h4; cases h4
          · have := ht1.2.2 p h4; omega
        · omega
      subst hip'
      have hiA : i ∉ A := fun h' => by obtain ⟨o', d, R⟩ := hA i h'; exact hin' R.lt
      have hdrop : (ops.toList.drop i).take (q - i) = o :: (ops.toList.drop (i + 1)).take (q - (i + 1)) := by
        rw [List.drop_eq_getElem_cons (by simpa using hil), show q - i = (q - (i + 1)) + 1 by omega, List.take_succ_cons]
        congr 1
        rw [List.getElem?_eq_getElem (by simpa using hil)] at hol
        exact Option.some.inj hol
      rw [hdrop, runB, Tree.sat_bind] at hsat
      have hdso := hdst i o hni hiq hol
      have hstep := stepX_ok (Q := Q) (K := fun a' w' => ((∀ t, o.dst ≠ some t → a'.tmps.getD t undef = a.tmps.getD t undef) ∧ a'.tmps.size = a.tmps.size) → Frm (Wr g0 L0 c0.h) w0 w' ∧ wpAnyH P .any ops Q (Frm (Wr g0 L0 c0.h) w0) (N + (ops.size - q)) (listed.setIfInBounds i true) a' w') (S := ⟨blankS (dstsA ops A) S.tmps, S.c⟩) hcf he.heap he.pc hs (Tree.sat_mono ?_ hsat)
      · have hop : wpOp P ops Q i (fun a' w' => ((∀ t, o.dst ≠ some t → a'.tmps.getD t undef = a.tmps.getD t undef) ∧ a'.tmps.size = a.tmps.size) → Frm (Wr g0 L0 c0.h) w0 w' ∧ wpAnyH P .any ops Q (Frm (Wr g0 L0 c0.h) w0) (N + (ops.size - q)) (listed.setIfInBounds i true) a' w') a w := by
          unfold wpOp
          rw [ho]
          dsimp only
          split
          · rename_i hw; rw [if_pos hw] at hstep; exact .inl hstep
          · rename_i hw; rw [if_neg hw] at hstep; exact hstep
        exact wpOp_mono (fun a' w' h => h.1 h.2) (wpOp_frame ho hop)
      · intro r2 S' hrest g' a' w' he2 hs' hfr
        have hr2 : r2 = r1 := funext he2.agr
        subst hr2
        have hx := he.trans he2
        refine ⟨hx.frm, ih (i + 1) _ r2 g' S' a' w' rfl (by omega) (by omega) (by rw [unlistedA_same hiA]; omega) (by simp [hls]) (hd.set hi) (fun j hj hjA => ?_) (fun j h1 h2 => by rw [getD_set_ne' (by omega)]; exact hout j (by omega) h2) hx ?_ ?_ (by rw [hfr.2]; exact hsz) hrest⟩
        · by_cases hij : i = j
          · subst hij; exact getD_set_self' (by rw [hls]; exact hil) _
          · rw [getD_set_ne' hij]; exact hin j (by omega) hjA
        · rw [← Lx_trans he.len he2.len]
          refine ⟨hs'.defers, by unfold blankS; rw [foldput_n]; exact hs'.size, fun t => ?_⟩
          unfold blankS
          by_cases htA : t ∈ dstsA ops A
          · obtain ⟨i', hi', o', d', R', hod', rfl⟩ := dA htA
            have hSn : S'.tmps.n = (st 0).tmps.n := by rw [← hs'.size, hfr.2]; exact hsz
            rw [foldput_in htA (by rw [hSn]; exact R'.room)]
            trivial
          · rw [foldput_out htA]; exact hs'.at_ t
        · intro t ht hc
          rw [hfr.1 t (hdso t ht)]
          refine hva t ht fun htA => ?_
          obtain ⟨i', h1', h2', h3'⟩ := hc htA
          refine ⟨i', h1', ?_, h3'⟩
          by_cases hii : i = i'
          · subst hii; exact absurd h1' hiA
          · rwa [getD_set_ne' hii] at h2'

theorem head_run4 (hcf : CallsOk U P cf) (H : Head U r P cf ops n lat st ps) (hb0 : ∀ id, L id → id < (st 0).c.h.length) {A : List Nat} {cl : List Nat} {freeA : Nat} (ht : TailOk ops cl freeA n) {m : Nat}
    (tail : ∀ k listed g a w, Down ops listed → (∀ j, j < n → j ∉ A → listed.getD j false = true) → Inv U r ops n lat st L g0 w0 listed g a w → unlisted listed n = k → wpAnyH P .any ops Q (Frm (Wr g0 L (st 0).c.h) w0) (k + m) listed a w) :
    ∀ (k : Nat) (listed : Array Bool) (g : Gh) (a : Act) (w : World), Down ops listed → (∀ j, freeA.testBit j = true → j ∉ A → listed.getD j false = true) → Inv U r ops n lat st L g0 w0 listed g a w → unlisted listed n = k → wpAnyH P .any ops Q (Frm (Wr g0 L (st 0).c.h) w0) (k + m) listed a w := by
  intro k
  induction k with
  | zero =>
    intro listed g a w hd _ inv hk
    exact tail 0 listed g a w hd (fun j hj _ => unlisted_zero hk j hj) inv hk
  | succ k ih =>
    intro listed g a w hd hfr inv hk
    by_cases hNA : ∀ j, j < n → j ∉ A → listed.getD j false = true
    · exact tail (k + 1) listed g a w hd hNA inv hk
    simp only [Classical.not_forall] at hNA
    obtain ⟨jn, hjn, hjA, hjx0⟩ := hNA
    have hjnx : listed.getD jn false = false := by simpa using hjx0
    rw [show k + 1 + m = (k + m) + 1 by omega]
    have hex : ∃ j, j < n ∧ listed.getD j false = false ∧ ∀ i, i < j → listed.getD i false = true := by
      have hne : ∃ j, j < n ∧ listed.getD j false = false := ⟨jn, hjn, hjnx⟩
      obtain ⟨j, hj, hx⟩ := hne
      induction j using Nat.strongRecOn with
      | _ j ihj =>
        by_cases hall : ∀ i, i < j → listed.getD i false = true
        · exact ⟨j, hj, hx, hall⟩
        · simp only [Classical.not_forall] at hall
          obtain ⟨i, hi, hi'⟩ := hall
          exact ihj i hi (by omega) (by simpa using hi')
    obtain ⟨j, hj, hjx, hjb⟩ := hex
    have hjl : j < ops.size := by have := H.len; simp at this; omega
    have hready : j ∈ Region.ready .any ops listed := by
      have hop : ops[j]? = some ops[j] := Array.getElem?_eq_getElem hjl
      have hol : ops.toList[j]? = some ops[j] := by rw [Array.getElem?_toList]; exact hop
      refine mem_ready.2 ⟨by rw [getD_lt_of (by rw [inv.lsz]; exact hjl)]; exact hjx, ops[j], hop, fun e he hb => ?_⟩
      exact hjb _ (backOk_lt hol (H.back j (by simp only [Array.length_toList]; exact hjl)) he hb)
    refine ⟨fun h0 => by rw [h0] at hready; (cases hready), fun i hi => ?_⟩
    have hin : i < n := by
      rcases Nat.lt_or_ge i n with h | h
      · exact h
      · exfalso
        obtain ⟨h1, o, ho, hall⟩ := mem_ready.1 hi
        have hil : i < ops.size := (Array.getElem?_eq_some_iff.1 ho).1
        rcases ht.waits hd (k := i) (j := jn) h hil (by omega) (fun o' ho' e he hb => by
          have ho'' : ops.toList[i]? = some o := by simpa using ho
          rw [ho'] at ho''
          rw [Option.some.inj ho''] at he
          exact hall e he hb) with h4 | h4
        · rw [hjnx] at h4; cases h4
        · rw [hfr jn h4 hjA] at hjnx; cases hjnx
    refine wpOp_mono ?_ (inv.step hcf H hb0 hi hin)
    rintro a' w' ⟨g', inv', hpx⟩
    refine ⟨inv'.frm, ih _ g' a' w' (hd.set hi) (fun j hj hjA => getD_set_true (hfr j hj hjA)) inv' ?_⟩
    obtain ⟨h1, o, ho, _⟩ := mem_ready.1 hi
    have hil : i < listed.size := by rw [inv.lsz]; exact (Array.getElem?_eq_some_iff.1 ho).1
    have := unlisted_set (listed := listed) hin (by rw [← getD_lt_of hil]; exact h1) hil
    omega

theorem unlisted_A {A : List Nat} (h : ∀ j, j < n → j ∉ A → listed.getD j false = true) : unlisted listed n = unlistedA A listed n := by
  unfold unlisted unlistedA
  congr 1
  refine List.filter_congr fun j hj => ?_
  have hjn := List.mem_range.1 hj
  cases hA : isRA A j with
  | true => rfl
  | false => rw [h j hjn (fun hm => by rw [isRA_mem.2 hm] at hA; cases hA)]; rfl

/-! ### A statement -/

/-- The walk of a head in which the steps of a set make no place. -/
def runQA (P : Program) (cf : FuncId → List SV → Cx → Tree (SV × Cx)) (ops : Array Oper) (A : List Nat) : Nat → List Oper → St → Tree (St × List (E × Bool))
  | _, [], S => .ret (S, [])
  | i, o :: rest, S => (quietX P cf ops o S).bind fun x => if isRA A i && !Nat.beq x.1.c.h.length S.c.h.length then .bad else (runQA P cf ops A (i + 1) rest x.1).bind fun y => .ret (y.1, x.2 ++ y.2)
theorem runQA_states {A : List Nat} {base : Nat} : ∀ {l : List Oper} {k : Nat} {S : St} {Q : (Nat → D) → St × List (E × Bool) → Prop}, PcOk U r S.c.pc → (runQA P cf ops A k l S).sat U Q r →
    ∃ (st : Nat → St) (ps : List (List (E × Bool))), st 0 = S ∧ (∀ i o, l[i]? = some o → QRel U r P cf ops base none (st i) o (st (i + 1)) (ps.getD i []) ∧ (k + i ∈ A → (st (i + 1)).c.h.length = (st i).c.h.length)) ∧ ps.length = l.length ∧ Q r (st l.length, ps.flatten) := by
  intro l
  induction l with
  | nil => intro k S Q _ h; exact ⟨fun _ => S, [], rfl, fun i o ho => by simp at ho, rfl, h⟩
  | cons o l ih =>
    intro k S Q hp h
    rw [runQA, Tree.sat_bind] at h
    obtain ⟨x, h0, he, h2⟩ := quietX_rel (base := base) hp h
    obtain ⟨S', px⟩ := x
    dsimp only at h0 he h2
    have h1 : QRel U r P cf ops base none S o S' px := by
      have := h0 false
      have e2 : (⟨S'.tmps, ⟨S.c.h ++ fog false (S'.c.h.drop S.c.h.length), S'.c.nv, S'.c.pc⟩⟩ : St) = S' := by
        simp only [fog, cond_false]; rw [← he]
      rwa [e2] at this
    split at h2
    · exact h2.elim
    rename_i hc
    rw [Tree.sat_bind] at h2
    obtain ⟨st, ps, k1, k2, k3, k4⟩ := ih h1.pc h2
    refine ⟨fun i => match i with | 0 => S | i + 1 => st i, px :: ps, rfl, fun i p hi => ?_, by simp [k3], k4⟩
    cases i with
    | zero =>
      simp at hi; subst hi
      refine ⟨?_, fun hk => ?_⟩
      · show QRel U r P cf ops base none S o (st 0) px; rw [k1]; exact h1
      · show (st 0).c.h.length = S.c.h.length
        rw [k1]
        rw [isRA_mem.2 (by simpa using hk)] at hc
        simpa using hc
    | succ i =>
      have := k2 i p (by simpa using hi)
      refine ⟨this.1, fun hk => this.2 (by rw [show k + 1 + i = k + (i + 1) by omega]; exact hk)⟩

/-- What is asked of the steps under way. -/
def reckOk (ops : Array Oper) (n : Nat) (A : List Nat) (S0 Sn : St) : Bool := A.all fun i => Nat.blt i n && (match ops[i]? with
  | some o => o.guard.isNone && ((o.looksAt ops).all (fun t => flatV (Sn.tmps.get t)) && (match o.dst with
    | some d => flatV (Sn.tmps.get d) && Nat.blt d S0.tmps.n
    | none => false))
  | none => false)
def drawX6c (P : Program) (cf : FuncId → List SV → Cx → Tree (SV × Cx)) (ops : Array Oper) (nF n q : Nat) (A : List Nat) (S : St) : Tree St :=
  let l := ops.toList
  let cl := closGo l []
  if Nat.ble n q && (Nat.ble q l.length && (Nat.ble nF n && ((A.all fun i => Nat.ble nF i) && (regionOk l ops n && (Region.noSelect ops && (((List.range ops.size).all (fun k => Nat.blt k n || lastC cl (maskOf (List.range nF ++ A)) k)) && (((List.range ops.size).all (fun k => Nat.blt k q || lastC cl (maskOf (List.range nF)) k)) &&
      ((List.range ops.size).all fun k => Nat.blt k n || (Nat.ble q k || (match ops[k]? with
        | some o => (match o.dst with
          | some d => !((looksA ops A).any (Nat.beq d) || (dstsA ops A).any (Nat.beq d))
          | none => true)
        | none => true)))))))))) then (runQA P cf ops A 0 (l.take n) S).bind fun x =>
    if hoistOk3 P ops S x.1 n (List.range nF) (Array.replicate ops.size false) && reckOk ops n A S x.1 then (runB P cf ops (dstsA ops A) ((l.drop n).take (q - n)) x.1).bind fun S' => runOps P cf ops (l.drop q) ⟨fillA (dstsA ops A) x.1.tmps S'.tmps, S'.c⟩ else .bad
  else .bad

theorem drawX6c_ok (hcf : CallsOk U P cf) {nF q : Nat} {A : List Nat} {S : St} (hh : HeapDen U r g L S.c.h w) (hp : PcOk U r S.c.pc) (hs : Slots U r g L S.tmps a)
    (h : (drawX6c P cf ops nF n q A S).sat U (SPost U L r g S.c w (Q .normal)) r) : wpAny P .any ops Q ops.size (Array.replicate ops.size false) a { w with drawn := w.drawn + 1 } := by
  unfold drawX6c at h
  dsimp only at h
  generalize hcl : closGo ops.toList [] = cl at h
  split at h
  · rename_i hok
    simp only [Bool.and_eq_true] at hok
    obtain ⟨hnq, hql, hFn, hAF, hreg, hsel, hl1, hl2, hdc⟩ := hok
    have hnq : n ≤ q := Nat.le_of_ble_eq_true hnq
    have hql : q ≤ ops.toList.length := Nat.le_of_ble_eq_true hql
    have hFn : nF ≤ n := Nat.le_of_ble_eq_true hFn
    have hn : n ≤ ops.toList.length := by omega
    have hAF : ∀ i ∈ A, nF ≤ i := fun i hi => Nat.le_of_ble_eq_true (List.all_eq_true.1 hAF i hi)
    simp only [regionOk, Bool.and_eq_true, List.all_eq_true, List.mem_range] at hreg
    rw [Tree.sat_bind] at h
    obtain ⟨st, ps, h1, h2, hpl, h3⟩ := runQA_states (base := S.c.h.length) hp h
    have hlen : (ops.toList.take n).length = n := by rw [List.length_take]; exact Nat.min_eq_left hn
    rw [hlen] at h3 hpl
    dsimp only at h3
    split at h3
    rotate_left
    · exact h3.elim
    rename_i hhr
    rw [Bool.and_eq_true] at hhr
    obtain ⟨hhoist, hreck⟩ := hhr
    rw [Tree.sat_bind] at h3
    subst h1
    have H : Head U r P cf ops n (fun _ => none) st (fun i => ps.getD i []) :=
      ⟨fun i o hi ho => (h2 i o (by rw [List.getElem?_take, if_pos hi]; exact ho)).1, hn, hreg.1, hreg.2.1, hreg.2.2, hp, fun k k' id b b' _ _ h => by cases h⟩
    have hA : HeldA U r P cf ops n st A := by
      intro i hi
      have hr := List.all_eq_true.1 hreck i hi
      rw [Bool.and_eq_true, Nat.blt_eq] at hr
      obtain ⟨hin, hr⟩ := hr
      split at hr
      · rename_i o ho
        simp only [Bool.and_eq_true] at hr
        obtain ⟨hg, hlk, hr⟩ := hr
        split at hr
        · rename_i d hd
          rw [Bool.and_eq_true, Nat.blt_eq] at hr
          have hol : ops.toList[i]? = some o := by simpa using ho
          refine ⟨o, d, hin, ho, by simpa using hg, hd, (h2 i o (by rw [List.getElem?_take, if_pos hin]; exact hol)).2 (by simpa using hi), hr.1, fun t ht => ?_, hr.2⟩
          rw [look_same H hin hol ht]
          exact List.all_eq_true.1 hlk t ht
        · cases hr
      · cases hr
    have says : ∀ k m, cl[k]? = some m → Says_ ops k m := by
      rw [← hcl]
      exact closGo_says (fun k o ho => by simpa using ho) (fun k m hm => by simp at hm)
    have hT1 : TailOk ops cl (maskOf (List.range nF ++ A)) n := by
      refine ⟨says, fun k k1 k2 => ?_, fun j hj => ?_⟩
      · have := List.all_eq_true.1 hl1 k (List.mem_range.2 k2)
        rw [Bool.or_eq_true, Nat.blt_eq] at this
        rcases this with h' | h'
        · omega
        · exact h'
      · rcases List.mem_append.1 (maskOf_test.1 hj) with h' | h'
        · have := List.mem_range.1 h'; omega
        · obtain ⟨o, d, R⟩ := hA j h'; exact R.lt
    have hT2 : TailOk ops cl (maskOf (List.range nF)) q := by
      refine ⟨says, fun k k1 k2 => ?_, fun j hj => ?_⟩
      · have := List.all_eq_true.1 hl2 k (List.mem_range.2 k2)
        rw [Bool.or_eq_true, Nat.blt_eq] at this
        rcases this with h' | h'
        · omega
        · exact h'
      · have := List.mem_range.1 (maskOf_test.1 hj); omega
    have hfree : ∀ j, (maskOf (List.range nF)).testBit j = true → j < n ∧ j ∉ A := by
      intro j hj
      have h' := List.mem_range.1 (maskOf_test.1 hj)
      exact ⟨by omega, fun hjA => by have := hAF j hjA; omega⟩
    have hdst : ∀ k o, n ≤ k → k < q → ops.toList[k]? = some o → ∀ t, (t ∈ looksA ops A ∨ t ∈ dstsA ops A) → o.dst ≠ some t := by
      intro k o k1 k2 hk t ht hd
      have hks : k < ops.size := by have := (List.getElem?_eq_some_iff.1 hk).1; simpa using this
      have := List.all_eq_true.1 hdc k (List.mem_range.2 hks)
      rw [Bool.or_eq_true, Nat.blt_eq, Bool.or_eq_true] at this
      rcases this with h' | h' | h'
      · omega
      · have := Nat.le_of_ble_eq_true h'; omega
      · rw [show ops[k]? = some o by simpa using hk] at h'
        dsimp only at h'
        rw [hd] at h'
        dsimp only at h'
        rw [Bool.not_eq_true', Bool.or_eq_false_iff] at h'
        rcases ht with ht | ht
        · have := List.any_eq_false.1 h'.1 t ht; simp at this
        · have := List.any_eq_false.1 h'.2 t ht; simp at this
    let w1 : World := { w with drawn := w.drawn + 1 }
    have hsame : Same w w1 := ⟨rfl, rfl, rfl, rfl⟩
    have hh1 : HeapDen U r g L (st 0).c.h w1 := hh.same hsame
    have hrep : ∀ t, (Array.replicate ops.size false).getD t false = false := fun t => by
      rw [Array.getD_eq_getD_getElem?, Array.getElem?_replicate]; split <;> rfl
    have inv0 : Inv U r ops n (fun _ => none) st L g w1 (Array.replicate ops.size false) g a w1 := by
      refine ⟨by simp, ?_, hs.defers, hs.size, fun t ht => ?_, ?_, fun t _ => hs.at_ t, fun _ _ => ⟨rfl, rfl⟩, ?_, hh1.blk, ?_, ?_, ?_, Frm.refl _ _, fun _ _ => rfl, ?_, fun k id b' _ _ h => (by cases h), hh1.lt, hh1.inj⟩
      · intro t _ ht; rw [Array.getD_eq_getD_getElem?, Array.getElem?_replicate, if_pos ht]; rfl
      · have := hs.at_ t
        rw [Array.getD_eq_getD_getElem?, Array.getElem?_eq_none (by rw [hs.size]; exact ht)] at this; exact this
      · intro i o t _ _ _ hl; rw [hrep] at hl; cases hl
      · rintro id (hl | ⟨j, _, _, hl, _⟩)
        · exact hh1.lt id hl
        · rw [hrep] at hl; cases hl
      · intro i id b _ hl; rw [hrep] at hl; cases hl
      · intro i id _ hl; rw [hrep] at hl; cases hl
      · rintro id id' b b' (hl | ⟨j, _, _, hl, _⟩) _ h0
        · have := hh1.bnd id hl; omega
        · rw [hrep] at hl; cases hl
      · rintro id b ks e (hl | ⟨j, _, _, hl, _⟩) hb hr
        · rw [H.get (i := 0) (j := n) (Nat.zero_le _) (Nat.le_refl _) (hh1.bnd id hl)] at hb
          exact hh1.rows id b ks e hl hb hr
        · rw [hrep] at hl; cases hl
    have down0 : Down ops (Array.replicate ops.size false) := fun j o _ hl => by rw [hrep] at hl; cases hl
    let Q0 : Exit → Act → World → Prop := fun e a w => (match e with | .panic _ => False | _ => True) ∧ Q e a w
    refine wpAny_monoQ (Q' := Q0) (fun _ _ _ h => h.2) _ _ _ _ ?_
    refine wpAny_of_held (S := Frm (Wr g L (st 0).c.h) w1) _ _ _ _ ?_
    have hns : n ≤ ops.size := by simpa using hn
    have hqs : q ≤ ops.size := by simpa using hql
    have hun : unlisted (Array.replicate ops.size false) n = n := by
      unfold unlisted
      rw [List.filter_eq_self.2, List.length_range]
      intro j _
      rw [hrep]; rfl
    have hun' := unlisted_hoisted3 hhoist (by simp)
    rw [hun] at hun'
    have key := hoist_run3 (Q := Q0) (fuel := unlisted (hoisted (List.range nF) (Array.replicate ops.size false)) n + (ops.size - n)) hcf H hh1 hsel (fun c a a' w hq => hq.1.elim) (List.range nF) _ g a w1 hhoist down0 inv0 (fun j _ hl => by rw [hrep] at hl; cases hl) ?_
    · rw [show unlisted (hoisted (List.range nF) (Array.replicate ops.size false)) n + (ops.size - n) + (List.range nF).length = ops.size by omega] at key
      exact key
    · intro g1 a1 hd1 inv1 _
      refine head_run4 (Q := Q0) (A := A) (m := ops.size - n) hcf H hh1.bnd hT1 ?_ _ _ g1 a1 w1 hd1 (fun j hj hjA => ?_) inv1 rfl
      · intro k listed g' a' w' hd hall inv hk
        obtain ⟨e, hs'⟩ := inv.doneA H hh1 hA hall
        have hfuel : k + (ops.size - n) = ((q - n) + unlistedA A listed n) + (ops.size - q) := by
          rw [← unlisted_A hall, hk]; omega
        rw [hfuel]
        refine tail_run4 (Q := Q0) (gV := g') hcf H hA hT1 hT2 hnq hqs hfree hdst _ n listed r g' (st n) a' w' rfl (Nat.le_refl _) hnq rfl inv.lsz hd hall inv.tail e hs' ?_ inv.size (Tree.sat_mono ?_ h3)
        · intro t ht hc
          have inA : ∀ {i : Nat}, i ∈ A → ∃ o d, Reck U r P cf ops n st i o d := fun hi => hA _ hi
          by_cases htA : t ∈ dstsA ops A
          · obtain ⟨i, hi, hl, o, ho, hod⟩ := hc htA
            obtain ⟨o', d, R⟩ := hA i hi
            have : o' = o := by have := R.op; rw [ho] at this; exact (Option.some.inj this).symm
            subst this
            have hdt : d = t := by have := R.dst; rw [hod] at this; exact (Option.some.inj this).symm
            subst hdt
            exact ⟨R.flat, flat_den R.flat (inv.own i o' d R.lt (by simpa using ho) hod hl)⟩
          · rcases ht with ht | ht
            · obtain ⟨i, hi, hti⟩ := List.mem_flatMap.1 ht
              obtain ⟨o, d, R⟩ := hA i hi
              rw [R.op] at hti
              have hol : ops.toList[i]? = some o := by simpa using R.op
              have hf := R.looks t hti
              rw [look_same H R.lt hol hti] at hf
              have hd' := hs'.at_ t
              unfold blankS at hd'
              rw [foldput_out htA] at hd'
              exact ⟨hf, flat_den hf hd'⟩
            · exact absurd ht htA
        · intro r2 S2 hrest
          refine Tree.sat_mono ?_ hrest
          intro r3 S3 hpost g2 a2 w2 e2 s2
          exact ⟨trivial, hpost g2 a2 w2 (e2.of_same hsame) s2⟩
      · rcases List.mem_append.1 (maskOf_test.1 hj) with h' | h'
        · refine hoisted_mem (.inr ⟨h', ?_⟩)
          rw [Array.size_replicate]
          have := List.mem_range.1 h'; omega
        · exact absurd h' hjA
  · exact h.elim

/-- Steps that only reckon. -/
def reckons (o : Oper) : Bool := o.guard.isNone && (o.dst.isSome && (match o.op with
  | .binOp .. => true
  | .unOp .. => true
  | .convert .. => true
  | _ => false))
/-- How a statement is cut: where the row that writes begins; from where on all is waited for; what may be under way between. -/
def cutOf (ops : Array Oper) (nF : Nat) : Nat × Nat × List Nat :=
  let cl := closGo ops.toList []
  let A0 := (List.range ops.size).filter fun i => Nat.ble nF i && (match ops[i]? with
    | some o => reckons o
    | none => false)
  let n0 := headGoC cl (maskOf (List.range nF ++ A0)) ops.size
  let n := if Nat.blt n0 nF then nF else n0
  let q0 := headGoC cl (maskOf (List.range nF)) ops.size
  let q := if Nat.blt q0 n then n else q0
  (n, q, A0.filter fun i => Nat.blt i n && (List.range q).any fun k => Nat.ble n k && !(cl.getD k 0).testBit i)
/-- A statement in which a step that writes stands behind free moves, addresses and loads, and beside reckoning. -/
def drawX7 (P : Program) (cf : FuncId → List SV → Cx → Tree (SV × Cx)) (ops : Array Oper) (S : St) : Tree St :=
  let F0 := freeGo3 false ops ops.toList 0 []
  let F := if ((permO ops (orderOf ops F0)).toList.take (cutOf (permO ops (orderOf ops F0)) F0.length).1).any writes3 then freeGo3 true ops ops.toList 0 [] else F0
  let cut := cutOf (permO ops (orderOf ops F)) F.length
  if permOk ops.size (orderOf ops F) = true then drawX6c P cf (permO ops (orderOf ops F)) F.length cut.1 cut.2.1 cut.2.2 ⟨S.tmps, { S.c with h := lockIds (loadIds ops S F) S.c.h }⟩ else .bad
theorem drawX7_ok (hm : P.follows .mixedOrders = true) (hcf : CallsOk U P cf) {id : Nat} {S : St} (hh : HeapDen U r g L S.c.h w) (hp : PcOk U r S.c.pc) (hs : Slots U r g L S.tmps a)
    (h : (drawX7 P cf ops S).sat U (SPost U L r g S.c w (Q .normal)) r) : (Code.region id ops true).wp P Q a w := by
  unfold drawX7 at h
  dsimp only at h
  generalize (if ((permO ops (orderOf ops (freeGo3 false ops ops.toList 0 []))).toList.take (cutOf (permO ops (orderOf ops (freeGo3 false ops ops.toList 0 []))) (freeGo3 false ops ops.toList 0 []).length).1).any writes3 = true then freeGo3 true ops ops.toList 0 [] else freeGo3 false ops ops.toList 0 []) = F at h
  split at h
  · rename_i hpi
    have hpa := permOk_at hpi
    refine wp_region_any hm ?_
    have hrep : ∀ (n t : Nat), (Array.replicate n false).getD t false = false := fun n t => by
      rw [Array.getD_eq_getD_getElem?, Array.getElem?_replicate]; split <;> rfl
    have hsz : (permO ops (orderOf ops F)).size = ops.size := by rw [permO_size, hpa.len]
    refine wpAny_perm hpa _ (Array.replicate ops.size false) (Array.replicate ops.size false) a _ ⟨by simp, by simp, fun j _ => by rw [hrep, hrep]⟩ ?_
    have key := drawX6c_ok (ops := permO ops (orderOf ops F)) (Q := Q) (S := ⟨S.tmps, { S.c with h := lockIds (loadIds ops S F) S.c.h }⟩) hcf hh.lockIds hp hs (Tree.sat_mono ?_ h)
    · rw [hsz] at key; exact key
    · intro r'' S'' hpost g' a' w' e hs'
      refine hpost g' a' w' (Ext.of_lockIds e) ?_
      dsimp only at hs'
      rw [Lx_lockIds] at hs'
      exact hs'
  · exact h.elim
end
end Go.Sx

/-
  Sx, part Nf: places unlocked again behind a statement; a statement cut in two.
-/
namespace Go.Sx
open E (mk1 mk2 mkIte mk1_ev mk2_ev mkIte_ev)

section
variable {U : Nat → D → D} {r r' : Nat → D} {P : Program} {cf : FuncId → List SV → Cx → Tree (SV × Cx)} {ops : Array Oper} {n : Nat}
variable {L : Nat → Prop} {g g' : Gh} {c c' : Cx} {w w' : World} {listed : Array Bool} {a : Act} {Q Q' : Exit → Act → World → Prop}

/-! ### Places unlocked -/

def unlock1 (h0 : SH) (id : Nat) (h : SH) : SH := match h0[id]?, h[id]? with
  | some (some b0), some (some b) => if b0.wr then h.set id (some { b with wr := true }) else h
  | _, _ => h
def unlockIds (h0 : SH) : List Nat → SH → SH
  | [], h => h
  | id :: l, h => unlockIds h0 l (unlock1 h0 id h)
/-- A place that was given up is told of no more. -/
def noRevive (h0 h : SH) : Bool := (List.range h0.length).all fun j => match h0[j]? with
  | some (some _) => true
  | _ => (match h[j]? with
    | some (some _) => false
    | _ => true)
theorem noRevive_at {h0 h : SH} (hn : noRevive h0 h = true) {j : Nat} {b : SB} (hj : j < h0.length) (hb : h[j]? = some (some b)) : ∃ b0, h0[j]? = some (some b0) := by
  have := List.all_eq_true.1 hn j (List.mem_range.2 hj)
  split at this
  · rename_i b0 hb0; exact ⟨b0, hb0⟩
  · rw [hb] at this; cases this
theorem unlock1_length {h0 : SH} {id : Nat} {h : SH} : (unlock1 h0 id h).length = h.length := by
  unfold unlock1
  split
  · split
    · rw [List.length_set]
    · rfl
  · rfl
theorem unlockIds_length {h0 : SH} : ∀ {l : List Nat} {h : SH}, (unlockIds h0 l h).length = h.length := by
  intro l
  induction l with
  | nil => intro h; rfl
  | cons id l ih => intro h; simp only [unlockIds]; rw [ih, unlock1_length]
theorem unlock1_back {h0 : SH} {i id : Nat} {h : SH} {b : SB} (hb : (unlock1 h0 i h)[id]? = some (some b)) :
    ∃ b1, h[id]? = some (some b1) ∧ b.cs = b1.cs ∧ b.row = b1.row ∧ (b.wr = b1.wr ∨ (id = i ∧ ∃ b0, h0[id]? = some (some b0) ∧ b0.wr = true)) := by
  unfold unlock1 at hb
  split at hb
  · rename_i b0 b1 h1 h2
    split at hb
    · rename_i hw
      have hlt := (List.getElem?_eq_some_iff.1 h2).1
      by_cases hi : i = id
      · subst hi
        rw [List.getElem?_set_self hlt] at hb
        cases hb
        exact ⟨b1, h2, rfl, rfl, .inr ⟨rfl, b0, h1, hw⟩⟩
      · rw [List.getElem?_set_ne hi] at hb
        exact ⟨b, hb, rfl, rfl, .inl rfl⟩
    · exact ⟨b, hb, rfl, rfl, .inl rfl⟩
  · exact ⟨b, hb, rfl, rfl, .inl rfl⟩
theorem unlockIds_back {h0 : SH} : ∀ {l : List Nat} {id : Nat} {h : SH} {b : SB}, (unlockIds h0 l h)[id]? = some (some b) →
    ∃ b1, h[id]? = some (some b1) ∧ b.cs = b1.cs ∧ b.row = b1.row ∧ (b.wr = b1.wr ∨ (id ∈ l ∧ ∃ b0, h0[id]? = some (some b0) ∧ b0.wr = true)) := by
  intro l
  induction l with
  | nil => intro id h b hb; exact ⟨b, hb, rfl, rfl, .inl rfl⟩
  | cons i l ih =>
    intro id h b hb
    obtain ⟨b1, h1, h2, h3, h4⟩ := ih hb
    obtain ⟨b2, k1, k2, k3, k4⟩ := unlock1_back h1
    refine ⟨b2, k1, h2.trans k2, h3.trans k3, ?_⟩
    rcases h4 with h4 | ⟨h4, h5⟩
    · rcases k4 with k4 | ⟨rfl, k5⟩
      · exact .inl (h4.trans k4)
      · exact .inr ⟨List.mem_cons_self .., k5⟩
    · exact .inr ⟨List.mem_cons_of_mem _ h4, h5⟩
theorem lockIds_keeps {id : Nat} : ∀ {l : List Nat} {h : SH}, (∀ b, h[id]? = some (some b) → b.wr = false) → ∀ b, (lockIds l h)[id]? = some (some b) → b.wr = false := by
  intro l h hf b hb
  rcases lockIds_get (l := l) (h := h) (id := id) with h1 | ⟨b1, h1, h2⟩
  · rw [h1] at hb; exact hf b hb
  · rw [h2] at hb; cases hb; rfl
theorem lockIds_in {id : Nat} : ∀ {l : List Nat} {h : SH} {b : SB}, id ∈ l → (lockIds l h)[id]? = some (some b) → b.wr = false := by
  intro l
  induction l with
  | nil => intro h b hi; cases hi
  | cons i l ih =>
    intro h b hi hb
    simp only [lockIds] at hb
    rcases List.mem_cons.1 hi with rfl | hi
    · refine lockIds_keeps (fun b' hb' => ?_) b hb
      split at hb'
      · rename_i b0 h0
        rw [List.getElem?_set_self (List.getElem?_eq_some_iff.1 h0).1] at hb'
        cases hb'; rfl
      · rename_i h0
        exact absurd hb' (h0 b')
    · exact ih hi hb

theorem Ext.unlock {l : List Nat} (hh : HeapDen U r g L c.h w) (e : Ext U L r g ⟨Sx.lockIds l c.h, c.nv, c.pc⟩ w r' g' c' w') (hn : noRevive c.h c'.h = true) :
    Ext U L r g c w r' g' ⟨unlockIds c.h l c'.h, c'.nv, c'.pc⟩ w' := by
  have e0 := Ext.of_lockIds e
  have hl : (Sx.lockIds l c.h).length = c.h.length := lockIds_length
  have hLx : Lx L c.h (unlockIds c.h l c'.h) = Lx L c.h c'.h := by funext id; unfold Lx; rw [unlockIds_length]
  have notWr : ∀ {id b0}, id ∈ l → c.h[id]? = some (some b0) → b0.wr = true → ¬ Wr g L (Sx.lockIds l c.h) (g.a id) := by
    rintro id b0 hi hb0 hw ⟨i2, b2, hL2, hb2, hw2, ha⟩
    obtain ⟨b20, k1, k2, _⟩ := lockIds_back hb2
    have := hh.inj i2 id b20 b0 hL2 (hh.live id b0 hb0 hw) k1 (k2 hw2) hb0 ha
    subst this
    rw [lockIds_in hi hb2] at hw2; cases hw2
  have old : ∀ {id b0}, c.h[id]? = some (some b0) → ¬ (c.h.length ≤ id ∧ id < c'.h.length) := fun hb h => by
    have := (List.getElem?_eq_some_iff.1 hb).1; omega
  refine ⟨e0.nv, e0.agr, by show c.h.length ≤ (unlockIds c.h l c'.h).length; rw [unlockIds_length]; exact e0.len, fun id h => e0.ga id (by rw [show (unlockIds c.h l c'.h).length = c'.h.length from unlockIds_length] at h; exact h), fun id h => e0.go id (by rw [show (unlockIds c.h l c'.h).length = c'.h.length from unlockIds_length] at h; exact h), ?_, e0.pc, e0.frm, ?_, fun id h1 h2 => e0.fresh id h1 (by rw [show (unlockIds c.h l c'.h).length = c'.h.length from unlockIds_length] at h2; exact h2)⟩
  · show HeapDen U r' g' (Lx L c.h (unlockIds c.h l c'.h)) (unlockIds c.h l c'.h) w'
    rw [hLx]
    refine ⟨fun id h => by rw [unlockIds_length]; exact e0.heap.bnd id h, e0.heap.lt, fun id b h hb => ?_, fun i j b b' hi hj hb hw hb' he => ?_, fun id b ks x h hb hr => ?_, fun id b hb hw => ?_⟩
    · obtain ⟨b1, k1, k2, k3, k4⟩ := unlockIds_back hb
      obtain ⟨xs, t, fz, e1, e2, e3, e4, e5⟩ := e0.heap.blk id b1 h k1
      refine ⟨xs, t, fz, e1, e2, fun hw => ?_, by rw [k2]; exact e4, by rw [k2]; exact e5⟩
      rcases k4 with k4 | ⟨hi, b0, hb0, hw0⟩
      · exact e3 (k4 ▸ hw)
      · have hL := hh.live id b0 hb0 hw0
        obtain ⟨xs0, t0, fz0, q1, _, q3, _⟩ := hh.blk id b0 hL hb0
        have hblk := e.frm.block (g.a id) (hh.lt id hL) (notWr hi hb0 hw0)
        rw [(e0.ga id (old hb0)).1, hblk, q1] at e1
        cases e1
        exact q3 hw0
    · obtain ⟨b1, k1, _, _, k4⟩ := unlockIds_back hb
      obtain ⟨b1', k1', _, _, _⟩ := unlockIds_back hb'
      rcases k4 with k4 | ⟨hil, b0, hb0, hw0⟩
      · exact e0.heap.inj i j b1 b1' hi hj k1 (k4 ▸ hw) k1' he
      · have hLi := hh.live i b0 hb0 hw0
        have hai := (e0.ga i (old hb0)).1
        by_cases hjo : j < c.h.length
        · obtain ⟨b0', hb0'⟩ := noRevive_at hn hjo k1'
          have hLj : L j := by
            rcases hj with hj | ⟨hj, _⟩
            · exact hj
            · omega
          rw [hai, (e0.ga j (old hb0')).1] at he
          exact hh.inj i j b0 b0' hLi hLj hb0 hw0 hb0' he
        · have hjn : j < c'.h.length := (List.getElem?_eq_some_iff.1 k1').1
          rw [hai] at he
          rcases e.fresh j (by show (Sx.lockIds l c.h).length ≤ j; rw [hl]; omega) hjn with h1 | h1
          · have := hh.lt i hLi; omega
          · rw [← he] at h1
            exact absurd h1 (notWr hil hb0 hw0)
    · obtain ⟨b1, k1, _, k3, _⟩ := unlockIds_back hb
      exact e0.heap.rows id b1 ks x h k1 (by rw [← k3]; exact hr)
    · obtain ⟨b1, k1, _, _, k4⟩ := unlockIds_back hb
      rcases k4 with k4 | ⟨_, b0, hb0, hw0⟩
      · exact e0.heap.live id b1 k1 (k4 ▸ hw)
      · exact .inl (hh.live id b0 hb0 hw0)
  · intro id b h hb hw
    have h : Lx L c.h c'.h id := by rw [← hLx]; exact h
    obtain ⟨b1, k1, _, _, k4⟩ := unlockIds_back hb
    rcases k4 with k4 | ⟨_, b0, hb0, hw0⟩
    · exact e0.wrs id b1 h k1 (k4 ▸ hw)
    · exact .inr ⟨id, b0, hh.live id b0 hb0 hw0, hb0, hw0, ((e0.ga id (old hb0)).1).symm⟩

/-- What is left behind a statement under locks, unlocked where that can be. -/
def unlockS (h0 : SH) (l : List Nat) (S : St) : St := if noRevive h0 S.c.h = true then ⟨S.tmps, ⟨unlockIds h0 l S.c.h, S.c.nv, S.c.pc⟩⟩ else S
theorem unlock_post {l : List Nat} {S' : St} (hh : HeapDen U r g L c.h w) {K : Act → World → Prop} (h : SPost U L r g c w K r' (unlockS c.h l S')) :
    SPost U L r g ⟨lockIds l c.h, c.nv, c.pc⟩ w K r' S' := by
  intro g' a' w' e hs
  dsimp only at hs
  rw [Lx_lockIds] at hs
  unfold unlockS at h
  split at h
  · rename_i hn
    refine h g' a' w' (e.unlock hh hn) ?_
    have hLx : Lx L c.h (unlockIds c.h l S'.c.h) = Lx L c.h S'.c.h := by funext id; unfold Lx; rw [unlockIds_length]
    dsimp only
    rw [hLx]; exact hs
  · exact h g' a' w' (Ext.of_lockIds e) hs

/-! ### The statement of SxNe, with its places unlocked -/

def drawX7F (P : Program) (cf : FuncId → List SV → Cx → Tree (SV × Cx)) (ops : Array Oper) (F : List Nat) (S : St) : Tree St :=
  let cut := cutOf (permO ops (orderOf ops F)) F.length
  if permOk ops.size (orderOf ops F) = true then (drawX6c P cf (permO ops (orderOf ops F)) F.length cut.1 cut.2.1 cut.2.2 ⟨S.tmps, { S.c with h := lockIds (loadIds ops S F) S.c.h }⟩).bind fun S' => .ret (unlockS S.c.h (loadIds ops S F) S') else .bad
theorem drawX7F_any (hcf : CallsOk U P cf) {F : List Nat} {S : St} (hh : HeapDen U r g L S.c.h w) (hp : PcOk U r S.c.pc) (hs : Slots U r g L S.tmps a)
    (h : (drawX7F P cf ops F S).sat U (SPost U L r g S.c w (Q .normal)) r) : wpAny P .any ops Q ops.size (Array.replicate ops.size false) a { w with drawn := w.drawn + 1 } := by
  unfold drawX7F at h
  dsimp only at h
  split at h
  · rename_i hpi
    have hpa := permOk_at hpi
    have hrep : ∀ (n t : Nat), (Array.replicate n false).getD t false = false := fun n t => by
      rw [Array.getD_eq_getD_getElem?, Array.getElem?_replicate]; split <;> rfl
    have hsz : (permO ops (orderOf ops F)).size = ops.size := by rw [permO_size, hpa.len]
    refine wpAny_perm hpa _ (Array.replicate ops.size false) (Array.replicate ops.size false) a _ ⟨by simp, by simp, fun j _ => by rw [hrep, hrep]⟩ ?_
    rw [Tree.sat_bind] at h
    have key := drawX6c_ok (ops := permO ops (orderOf ops F)) (Q := Q) (S := ⟨S.tmps, { S.c with h := lockIds (loadIds ops S F) S.c.h }⟩) hcf hh.lockIds hp hs (Tree.sat_mono ?_ h)
    · rw [hsz] at key; exact key
    · intro r'' S'' hpost
      exact unlock_post hh hpost
  · exact h.elim
def drawX7U (P : Program) (cf : FuncId → List SV → Cx → Tree (SV × Cx)) (ops : Array Oper) (S : St) : Tree St :=
  let F0 := freeGo3 false ops ops.toList 0 []
  let F := if ((permO ops (orderOf ops F0)).toList.take (cutOf (permO ops (orderOf ops F0)) F0.length).1).any writes3 then freeGo3 true ops ops.toList 0 [] else F0
  drawX7F P cf ops F S
theorem drawX7U_ok (hm : P.follows .mixedOrders = true) (hcf : CallsOk U P cf) {id : Nat} {S : St} (hh : HeapDen U r g L S.c.h w) (hp : PcOk U r S.c.pc) (hs : Slots U r g L S.tmps a)
    (h : (drawX7U P cf ops S).sat U (SPost U L r g S.c w (Q .normal)) r) : (Code.region id ops true).wp P Q a w :=
  wp_region_any hm (drawX7F_any hcf hh hp hs h)

/-! ### A statement cut in two -/

theorem wpO_monoN (hQ : ∀ e a w, e ≠ Exit.normal → Q' e a w → Q e a w) {o : Oper} {K : Act → World → Prop} (h : o.wp P a w K Q') : o.wp P a w K Q := by
  unfold Oper.wp at *
  generalize (execOp a.eval o).run P w = res at *
  have hl : LetsOut Q' → LetsOut Q := fun ⟨a, w, h⟩ => ⟨a, w, hQ _ _ _ (by simp) h⟩
  cases res with
  | ok n w' =>
    cases n <;> simp only [Oper.upon] at h ⊢ <;>
      first
        | exact h
        | exact Calls.mono h (fun e w'' he => by cases e <;> first | exact he | exact hQ _ _ _ (by simp) he | exact hl he)
  | halt x w' => cases x <;> simp only [Oper.upon] at h ⊢ <;> first | exact h | exact hQ _ _ _ (by simp) h

/-- The first steps of a statement. -/
def initO (ops : Array Oper) (q : Nat) : Array Oper := (ops.toList.take q).toArray
theorem initO_get {q j : Nat} (hj : j < q) : (initO ops q)[j]? = ops[j]? := by
  unfold initO
  rw [List.getElem?_toArray, List.getElem?_take, if_pos hj, Array.getElem?_toList]
theorem initO_none {q j : Nat} (hj : q ≤ j) : (initO ops q)[j]? = none := by
  unfold initO
  rw [List.getElem?_toArray, List.getElem?_take, if_neg (by omega)]
theorem initO_size {q : Nat} (hq : q ≤ ops.size) : (initO ops q).size = q := by
  unfold initO; simp; omega

/-- All before 'q' is listed, and nothing from there on. -/
def UpTo (ops : Array Oper) (q : Nat) (listed : Array Bool) : Prop := listed.size = ops.size ∧ (∀ j, j < q → listed.getD j false = true) ∧ ∀ j, q ≤ j → j < ops.size → listed.getD j true = false
/-- Behind the first steps come the others. -/
def QCut (P : Program) (ops : Array Oper) (q : Nat) (Q : Exit → Act → World → Prop) : Exit → Act → World → Prop
  | .normal, a, w => ∀ listed, UpTo ops q listed → wpAny P .any ops Q (ops.size - q) listed a w
  | e, a, w => Q e a w
theorem wpAny_cut {q : Nat} (hq : q ≤ ops.size) (hback : ∀ i, i < ops.toList.length → backOk ops.toList i = true) (hlast : ∀ k, q ≤ k → k < ops.size → lastOf ops.toList k = true)
    (hg : ∀ i o, i < q → ops[i]? = some o → o.guard = none) : ∀ (m : Nat) (listed listed' : Array Bool) (a : Act) (w : World), listed'.size = q → listed.size = ops.size → (∀ j, j < q → listed.getD j false = listed'.getD j false) →
      (∀ j, q ≤ j → j < ops.size → listed.getD j true = false) → unlisted listed' q = m → wpAny P .any (initO ops q) (QCut P ops q Q) m listed' a w → wpAny P .any ops Q (m + (ops.size - q)) listed a w := by
  intro m
  induction m with
  | zero =>
    intro listed listed' a w h1 h2 h3 h4 h5 h
    rw [Nat.zero_add]
    exact h.2 listed ⟨h2, fun j hj => by rw [h3 j hj]; exact unlisted_zero h5 j hj, h4⟩
  | succ m ih =>
    intro listed listed' a w h1 h2 h3 h4 h5 h
    rw [show m + 1 + (ops.size - q) = (m + (ops.size - q)) + 1 by omega]
    have get3 : ∀ j, j < q → listed.getD j true = listed'.getD j true := fun j hj => by
      rw [getD_lt_of (by omega), getD_lt_of (by omega)]; exact h3 j hj
    have hex : ∃ j, j < q ∧ listed.getD j false = false := by
      apply Classical.byContradiction
      intro hno
      have : unlisted listed' q = 0 := by
        unfold unlisted
        rw [List.length_eq_zero_iff, List.filter_eq_nil_iff]
        intro j hj hx
        exact hno ⟨j, List.mem_range.1 hj, by rw [h3 j (List.mem_range.1 hj)]; simpa using hx⟩
      omega
    have hready : ∀ i, i ∈ Region.ready .any ops listed → i < q ∧ i ∈ Region.ready .any (initO ops q) listed' := by
      intro i hi
      obtain ⟨k1, o, ho, hall⟩ := mem_ready.1 hi
      have hil : i < ops.size := (Array.getElem?_eq_some_iff.1 ho).1
      have hiq : i < q := by
        rcases Nat.lt_or_ge i q with h | h
        · exact h
        · exfalso
          obtain ⟨j, hj, hjx⟩ := hex
          have hol : ops.toList[i]? = some o := by simpa using ho
          have := waitsOn_listed (lastOf_waits hol (hlast i h hil) (show j < i by omega)) hall
          rw [hjx] at this; cases this
      refine ⟨hiq, mem_ready.2 ⟨by rw [← get3 i hiq]; exact k1, o, by rw [initO_get hiq]; exact ho, fun e he hb => ?_⟩⟩
      have hol : ops.toList[i]? = some o := by simpa using ho
      have := backOk_lt hol (hback i (by simpa using hil)) he hb
      rw [← h3 e.on (by omega)]; exact hall e he hb
    refine ⟨fun h0 => ?_, fun i hi => ?_⟩
    · exfalso
      have hex2 : ∃ j, j < q ∧ listed.getD j false = false ∧ ∀ i, i < j → listed.getD i false = true := by
        obtain ⟨j, hj, hx⟩ := hex
        induction j using Nat.strongRecOn with
        | _ j ihj =>
          by_cases hall : ∀ i, i < j → listed.getD i false = true
          · exact ⟨j, hj, hx, hall⟩
          · simp only [Classical.not_forall] at hall
            obtain ⟨i, hi, hi'⟩ := hall
            exact ihj i hi (by omega) (by simpa using hi')
      obtain ⟨j, hj, hx, hall⟩ := hex2
      have hjl : j < ops.size := by omega
      have hol : ops.toList[j]? = some ops[j] := by rw [Array.getElem?_toList]; exact Array.getElem?_eq_getElem hjl
      have : j ∈ Region.ready .any ops listed := mem_ready.2 ⟨by rw [getD_lt_of (by omega)]; exact hx, ops[j], Array.getElem?_eq_getElem hjl, fun e he hb => hall _ (backOk_lt hol (hback j (by simpa using hjl)) he hb)⟩
      rw [h0] at this; cases this
    · obtain ⟨hiq, hri⟩ := hready i hi
      have hop : ops[i]? = some ops[i] := Array.getElem?_eq_getElem (by omega)
      have hstep := h.2 i hri
      have hgi := hg i _ hiq hop
      have hrec : ∀ a' w', wpAny P .any (initO ops q) (QCut P ops q Q) m (listed'.setIfInBounds i true) a' w' → wpAny P .any ops Q (m + (ops.size - q)) (listed.setIfInBounds i true) a' w' := by
        intro a' w' hh
        refine ih _ _ a' w' (by simp [h1]) (by simp [h2]) (fun j hj => ?_) (fun j k1 k2 => ?_) ?_ hh
        · by_cases hij : i = j
          · subst hij; rw [getD_set_self' (by omega), getD_set_self' (by omega)]
          · rw [getD_set_ne' hij, getD_set_ne' hij]; exact h3 j hj
        · rw [getD_set_ne' (by omega)]; exact h4 j k1 k2
        · obtain ⟨k1, _⟩ := mem_ready.1 hri
          have := unlisted_set (listed := listed') hiq (by rw [← getD_lt_of (by omega)]; exact k1) (by omega)
          omega
      unfold wpOp at hstep ⊢
      rw [initO_get hiq, hop] at hstep
      rw [hop]
      dsimp only at hstep ⊢
      have hw1 : ∀ y, Region.wanted ops[i] y = true := fun y => by unfold Region.wanted; rw [hgi]
      rw [hw1] at hstep ⊢
      simp only [if_true] at hstep ⊢
      rcases hstep with hstep | hstep
      · exact .inl (Oper.wp_mono hrec (wpO_monoN (fun e a w hne h => by cases e <;> first | exact absurd rfl hne | exact h) hstep))
      · exact .inr hstep

/-- Loads for which a step that writes does not wait. -/
def freeCut (ops : Array Oper) : List Nat :=
  let cl := closGo ops.toList []
  let ws := (List.range ops.size).filter fun k => match ops[k]? with
    | some o => writes3 o
    | none => false
  (freeGo3 true ops ops.toList 0 []).filter fun i => match ops[i]? with
    | some o => (match o.op with
      | .load _ _ => !(ws.all fun k => Nat.ble k i || (cl.getD k 0).testBit i)
      | _ => true)
    | none => false
/-- A statement whose last steps wait for all others: these first. -/
def drawX8 (P : Program) (cf : FuncId → List SV → Cx → Tree (SV × Cx)) (ops : Array Oper) (S : St) : Tree St :=
  let l := ops.toList
  let q := headLen l
  if Nat.ble q ops.size && (((List.range l.length).all (backOk l)) && (((List.range ops.size).all fun k => Nat.blt k q || lastOf l k) && ((List.range q).all fun i => match ops[i]? with
    | some o => o.guard.isNone
    | none => true))) then (drawX7F P cf (initO ops q) (freeCut (initO ops q)) S).bind fun S' => runOps P cf ops (l.drop q) S' else .bad
theorem drawX8_ok (hm : P.follows .mixedOrders = true) (hcf : CallsOk U P cf) {id : Nat} {S : St} (hh : HeapDen U r g L S.c.h w) (hp : PcOk U r S.c.pc) (hs : Slots U r g L S.tmps a)
    (h : (drawX8 P cf ops S).sat U (SPost U L r g S.c w (Q .normal)) r) : (Code.region id ops true).wp P Q a w := by
  unfold drawX8 at h
  dsimp only at h
  generalize headLen ops.toList = q at h
  split at h
  · rename_i hok
    simp only [Bool.and_eq_true, List.all_eq_true, List.mem_range] at hok
    obtain ⟨hq, hback, hlast, hg⟩ := hok
    have hq : q ≤ ops.size := Nat.le_of_ble_eq_true hq
    have hlast' : ∀ k, q ≤ k → k < ops.size → lastOf ops.toList k = true := by
      intro k k1 k2
      have := hlast k k2
      rw [Bool.or_eq_true, Nat.blt_eq] at this
      rcases this with h' | h'
      · omega
      · exact h'
    rw [Tree.sat_bind] at h
    refine wp_region_any hm ?_
    have hrep : ∀ (n t : Nat), (Array.replicate n false).getD t false = false := fun n t => by
      rw [Array.getD_eq_getD_getElem?, Array.getElem?_replicate]; split <;> rfl
    have hun : unlisted (Array.replicate q false) q = q := by
      unfold unlisted
      rw [List.filter_eq_self.2, List.length_range]
      intro j _
      rw [hrep]; rfl
    have key := drawX7F_any (ops := initO ops q) (Q := QCut P ops q Q) (a := a) hcf hh hp hs (Tree.sat_mono ?_ h)
    · rw [initO_size hq] at key
      have := wpAny_cut (Q := Q) hq hback hlast' (fun i o hi ho => by have := hg i hi; rw [ho] at this; simpa using this) q (Array.replicate ops.size false) (Array.replicate q false) a { w with drawn := w.drawn + 1 } (by simp) (by simp) (fun j _ => by rw [hrep, hrep]) (fun j _ hj => by rw [getD_lt_of (by simpa using hj), hrep]) hun key
      rw [show q + (ops.size - q) = ops.size by omega] at this
      exact this
    · intro r' S' hrest g' a' w' e hs' listed hu
      refine tail_run hcf hback (ops.size - q) q listed (Lx L S.c.h S'.c.h) r' g' S' a' w' (by omega) hu.1 hu.2.1 hu.2.2 hlast' e.heap e.pc hs' (Tree.sat_mono ?_ hrest)
      intro r2 S2 hpost g2 a2 w2 e2 s2
      refine hpost g2 a2 w2 (e.trans e2) ?_
      rw [← Lx_trans e.len e2.len]; exact s2
  · exact h.elim

def noBad {α : Type} : Tree α → Bool
  | .ret _ => true
  | .chk _ t => noBad t
  | .asm _ t => noBad t
  | .ite _ t e => noBad t && noBad e
  | .all _ t => noBad t
  | .bad => false

/-! ### A statement, whichever -/


/-- A step that writes stands in the head. -/
def headWrites (ops : Array Oper) : Bool :=
  let l := ops.toList
  (l.take (headGoC (closGo l []) (maskOf (freeGo ops l 0)) l.length)).any writes3

/-- A statement, in the order of the text or in whatever order. -/
def regionX (P : Program) (cf : FuncId → List SV → Cx → Tree (SV × Cx)) (ops : Array Oper) (draw : Bool) (S : St) : Tree St :=
  if draw then (if second ops then (if headWrites ops then (if noBad (drawX7U P cf ops S) then drawX7U P cf ops S else drawX2 P cf ops S) else drawX2 P cf ops S) else if lateIn ops then (if noBad (drawX3 P cf ops S) then drawX3 P cf ops S else drawX8 P cf ops S) else drawX P cf ops S) else runOps P cf ops ops.toList S

theorem regionX_ok (hm : P.follows .mixedOrders = true) (hcf : CallsOk U P cf) {id : Nat} {draw : Bool} {S : St} (hh : HeapDen U r g L S.c.h w) (hp : PcOk U r S.c.pc) (hs : Slots U r g L S.tmps a)
    (h : (regionX P cf ops draw S).sat U (SPost U L r g S.c w (Q .normal)) r) : (Code.region id ops draw).wp P Q a w := by
  unfold regionX at h
  cases draw with
  | true =>
    simp only [if_true] at h
    split at h
    · split at h
      · split at h
        · exact drawX7U_ok hm hcf hh hp hs h
        · exact drawX2_ok hm hcf hh hp hs h
      · exact drawX2_ok hm hcf hh hp hs h
    · split at h
      · split at h
        · exact drawX3_ok hm hcf hh hp hs h
        · exact drawX8_ok hm hcf hh hp hs h
      · exact drawX_ok hm hcf hh hp hs h
  | false => exact wp_region (runOps_ok hcf 0 _ S L r g a w (by simp) (Nat.zero_le _) hh hp hs h)
end
end Go.Sx

/-
  Sx, part O: whole functions.
-/
namespace Go.Sx
open E (mk1 mk2 mkIte mk1_ev mk2_ev mkIte_ev)

/-- How a walk leaves a piece of code. -/
inductive Ex where
  | normal
  | exit (id : Nat)
  | ret

def Ex.out : Ex → Exit
  | .normal => .normal
  | .exit id => .exit id
  | .ret => .ret

/-- The results of a function. -/
def resS (P : Program) (S : St) : List ResultVar → Option (List SV)
  | [] => some []
  | .tmp t :: l => (resS P S l).map (S.tmps.get t :: ·)
  | .cell x t :: l =>
    match loadP P S.c t (S.tmps.get x), resS P S l with
    | some s, some ss => some (s :: ss)
    | _, _ => none

def oneOf (ss : List SV) : SV :=
  match ss with
  | [s] => s
  | ss => .tup ss

def resX (P : Program) (fn : Func) (x : Ex × St) : Tree (SV × Cx) :=
  match x.1 with
  | .exit _ => .bad
  | _ => match resS P x.2 fn.results.toList with
    | some ss => .ret (oneOf ss, x.2.c)
    | none => .bad

def argGo : Nat → List SV → List (Nat × SV)
  | _, [] => []
  | i, s :: l => (i, s) :: argGo (i + 1) l

/-- The slots as a call begins. -/
def argTm (args : List SV) (n : Nat) : Tm := ⟨args.length + (n - args.length), argGo 0 args⟩

theorem argGo_get : ∀ (l : List SV) (i t : Nat), lkp t (argGo i l) = if i ≤ t then l.getD (t - i) .any else .any := by
  intro l
  induction l with
  | nil => intro i t; simp [argGo, lkp]
  | cons s l ih =>
    intro i t
    simp only [argGo, lkp]
    cases hb : Nat.beq i t with
    | true =>
      have := Nat.eq_of_beq_eq_true hb
      subst this
      simp
    | false =>
      have hne : i ≠ t := fun e => by subst e; rw [Nat.beq_refl] at hb; cases hb
      simp only [cond_false, ih]
      by_cases hle : i ≤ t
      · rw [if_pos hle, if_pos (by omega), show t - i = (t - (i + 1)) + 1 by omega]; rfl
      · rw [if_neg hle, if_neg (by omega)]

theorem argTm_get (args : List SV) (n t : Nat) : (argTm args n).get t = args.getD t .any := by
  unfold argTm Tm.get
  rw [argGo_get]; simp

abbrev Contracts := FuncId → Option (List SV → Cx → Tree (SV × Cx))

/-- A call: by its contract, or by its text. -/
def callX (P : Program) (ct : Contracts) (ex : Code → St → Tree (Ex × St)) (f : FuncId) (args : List SV) (c : Cx) : Tree (SV × Cx) :=
  match ct f with
  | some run => run args c
  | none =>
    match P.funcs[f]? with
    | some fn =>
      match fn.body with
      | some body => (ex body ⟨argTm args fn.ntmps, c⟩).bind (resX P fn)
      | none => .bad
    | none => .bad

def loopX (ex : St → Tree (Ex × St)) : Nat → St → Tree (Ex × St)
  | 0, _ => .bad
  | n + 1, S => (ex S).bind fun x =>
    match x.1 with
    | .normal => loopX ex n x.2
    | e => .ret (e, x.2)

def exec (P : Program) (ct : Contracts) : Nat → Code → St → Tree (Ex × St)
  | 0, _, _ => .bad
  | n + 1, code, S =>
    match code with
    | .skip => .ret (.normal, S)
    | .region _ ops draw => (regionX P (callX P ct (exec P ct n)) ops draw S).bind fun S' => .ret (.normal, S')
    | .seq x y => (exec P ct n x S).bind fun z =>
      match z.1 with
      | .normal => exec P ct n y z.2
      | e => .ret (e, z.2)
    | .cond x t f =>
      match evS S.tmps x with
      | .bool e => br S.c e (fun c => exec P ct n t ⟨S.tmps, c⟩) (fun c => exec P ct n f ⟨S.tmps, c⟩)
      | _ => .bad
    | .block id b => (exec P ct n b S).bind fun z =>
      match z.1 with
      | .exit j => .ret (if j = id then .normal else .exit j, z.2)
      | e => .ret (e, z.2)
    | .loop b => loopX (exec P ct n b) n S
    | .scope b => exec P ct n b S
    | .exit id => .ret (.exit id, S)
    | .ret => .ret (.ret, S)
    | _ => .bad

section
variable {U : Nat → D → D} {L : Nat → Prop} {r r' : Nat → D} {g g' : Gh} {c c' : Cx} {w w' : World} {P : Program} {a : Act} {S : St} {Q : Exit → Act → World → Prop}

def EPost (U : Nat → D → D) (L : Nat → Prop) (r : Nat → D) (g : Gh) (c : Cx) (w : World) (Q : Exit → Act → World → Prop) (r' : Nat → D) (x : Ex × St) : Prop :=
  ∀ g' a' w', Ext U L r g c w r' g' x.2.c w' → Slots U r' g' (Lx L c.h x.2.c.h) x.2.tmps a' → Q x.1.out a' w'

theorem EPost.shift {r'' : Nat → D} {x : Ex × St} (e : Ext U L r g c w r' g' c' w') (h : EPost U L r g c w Q r'' x) : EPost U (Lx L c.h c'.h) r' g' c' w' Q r'' x := by
  intro g2 a2 w2 e2 s2
  refine h g2 a2 w2 (e.trans e2) ?_
  rw [← Lx_trans e.len e2.len]; exact s2

theorem EPost.here {e : Ex} (h : EPost U L r g S.c w Q r (e, S)) (hh : HeapDen U r g L S.c.h w) (hp : PcOk U r S.c.pc) (hs : Slots U r g L S.tmps a) : Q e.out a w :=
  h g a w (Ext.refl hh hp) (by rw [Lx_self]; exact hs)

/-- Code that is walked rightly. -/
def RunsOk (U : Nat → D → D) (P : Program) (ex : Code → St → Tree (Ex × St)) : Prop :=
  ∀ (code : Code) (S : St) (L : Nat → Prop) (r : Nat → D) (g : Gh) (a : Act) (w : World) (Q : Exit → Act → World → Prop),
    HeapDen U r g L S.c.h w → PcOk U r S.c.pc → Slots U r g L S.tmps a → (ex code S).sat U (EPost U L r g S.c w Q) r → code.wp P Q a w

/-- Contracts that the model bears out. -/
def ContractsOk (U : Nat → D → D) (P : Program) (ct : Contracts) : Prop :=
  ∀ (f : FuncId) (run : List SV → Cx → Tree (SV × Cx)), ct f = some run → ∀ (args : List SV) (c : Cx) (L : Nat → Prop) (r : Nat → D) (g : Gh) (w : World) (vs : Array Value) (K : Value → World → Prop),
    HeapDen U r g L c.h w → PcOk U r c.pc → SV.denL U r g L args vs.toList → (run args c).sat U (Post U L r g c w K) r → CallGoal P f vs w K

/-- No function has the one name that the model's call looks at. -/
def NamesOk (P : Program) : Prop := ∀ (f : FuncId) (fn : Func), P.funcs[f]? = some fn → (fn.name == "runtime.NumGoroutine") = false

theorem callGoal_of {f : FuncId} {fn : Func} {body : Code} {vs : Array Value} {K : Value → World → Prop} (hn : NamesOk P) (hf : P.funcs[f]? = some fn) (hb : fn.body = some body)
    (h : Calls P f vs w fun e w' => ∃ v, e = .returned v ∧ K v w') : CallGoal P f vs w K := by
  have hrun : (callFunc f vs).run P w = .ok (.enter f vs) w := by
    unfold callFunc
    simp only [Sem.run_bind, run_program, Result.andThen_ok, hf, hn f fn hf, Bool.false_eq_true, if_false, hb, Option.isNone_some]
    rfl
  unfold CallGoal
  rw [hrun]
  exact h

def resOne (tmps : Array Value) : ResultVar → Sem Value
  | .tmp t => pure (tmps.getD t undef)
  | .cell x t => do loadVar t (← asAddr (tmps.getD x undef))

theorem run_mapM_results {tmps : Array Value} (hh : HeapDen U r g L S.c.h w) (hs : ∀ t, (S.tmps.get t).den U r g L (tmps.getD t undef)) : ∀ {l : List ResultVar} {ss : List SV}, resS P S l = some ss →
    ∃ vs : List Value, (l.mapM (resOne tmps)).run P w = .ok vs w ∧ SV.denL U r g L ss vs := by
  intro l
  induction l with
  | nil => intro ss h; cases h; exact ⟨[], rfl, by simp [SV.denL]⟩
  | cons x l ih =>
    intro ss h
    cases x with
    | tmp t =>
      simp only [resS, Option.map_eq_some_iff] at h
      obtain ⟨ss', h1, rfl⟩ := h
      obtain ⟨vs, h2, h3⟩ := ih h1
      refine ⟨tmps.getD t undef :: vs, ?_, by simp only [SV.denL]; exact ⟨hs t, h3⟩⟩
      rw [List.mapM_cons]
      simp only [resOne, Sem.run_bind, Sem.run_pure, Result.andThen_ok, h2]
    | cell x t =>
      simp only [resS] at h
      split at h
      · rename_i s ss' h0 h1
        cases h
        obtain ⟨vs, h2, h3⟩ := ih h1
        obtain ⟨ad, v, h4, h5, h6⟩ := loadP_ok (w := w) hh (hs x) h0
        refine ⟨v :: vs, ?_, by simp only [SV.denL]; exact ⟨h6, h3⟩⟩
        have ha : (asAddr (tmps.getD x undef)).run P w = .ok ad w := by rw [h4]; rfl
        have hr : (resOne tmps (.cell x t)).run P w = .ok v w := by
          unfold resOne; rw [Sem.run_bind, ha]; exact h5
        rw [List.mapM_cons]
        simp only [Sem.run_bind, hr, Sem.run_pure, Result.andThen_ok, h2]
      · cases h

theorem results_eq (fn : Func) (tmps : Array Value) : results fn tmps = (do let vs ← fn.results.mapM (resOne tmps); pure (if h : vs.size = 1 then vs[0] else .tuple vs)) := by
  unfold results
  congr 2

theorem results_run {fn : Func} {tmps : Array Value} {ss : List SV} (hh : HeapDen U r g L S.c.h w) (hs : ∀ t, (S.tmps.get t).den U r g L (tmps.getD t undef)) (h : resS P S fn.results.toList = some ss) :
    ∃ v, (results fn tmps).run P w = .ok v w ∧ (oneOf ss).den U r g L v := by
  obtain ⟨vs, h1, h2⟩ := run_mapM_results (tmps := tmps) hh hs h
  rw [results_eq, Array.mapM_eq_mapM_toList, Sem.run_bind, Sem.run_map, h1]
  simp only [Result.andThen_ok, Sem.run_pure]
  have hl := SV.denL_length U r g L h2
  refine ⟨_, rfl, ?_⟩
  unfold oneOf
  split
  · rename_i s
    match vs, h2, hl with
    | [v], h2, _ => simp only [SV.denL] at h2; exact h2.1
  · rename_i hne
    have : ¬ vs.toArray.size = 1 := by
      intro h1
      match ss, hl, hne with
      | [s], _, hne => exact hne s rfl
      | [], hl, _ => simp at hl h1; omega
      | _ :: _ :: _, hl, _ => simp at hl h1; omega
    rw [dif_neg this]
    exact ⟨_, rfl, h2⟩

theorem callX_ok {ct : Contracts} {ex : Code → St → Tree (Ex × St)} (hn : NamesOk P) (hct : ContractsOk U P ct) (hex : RunsOk U P ex) : CallsOk U P (callX P ct ex) := by
  intro f args c L r g w vs K hh hp hd h
  unfold callX at h
  split at h
  · rename_i run hr
    exact hct f run hr args c L r g w vs K hh hp hd h
  · split at h
    · rename_i fn hf
      split at h
      · rename_i body hb
        rw [Tree.sat_bind] at h
        refine callGoal_of hn hf hb (calls_of_wp hf hb ?_)
        have hl := SV.denL_length U r g L hd
        simp only [Array.length_toList] at hl
        refine hex body _ L r g _ w _ hh hp ?_ (Tree.sat_mono ?_ h)
        · refine ⟨rfl, by simp [argTm, hl], fun t => ?_⟩
          show SV.den U r g L ((argTm args fn.ntmps).get t) _
          rw [argTm_get]
          cases ht : args[t]? with
          | none => rw [List.getD_eq_getElem?_getD, ht]; trivial
          | some s =>
            obtain ⟨v, hv, hd'⟩ := SV.denL_get U r g L hd ht
            rw [List.getD_eq_getElem?_getD, ht, Array.getD_eq_getD_getElem?]
            have hlt : t < vs.size := by have := (List.getElem?_eq_some_iff.1 hv).1; simpa using this
            have hv' : (vs ++ Array.replicate (fn.ntmps - vs.size) undef)[t]? = some v := by
              rw [Array.getElem?_append_left hlt]; simpa using hv
            rw [hv']; exact hd'
        · intro r' x hx g' a' w' he hs
          unfold resX at hx
          have fin : ∀ {ss}, resS P x.2 fn.results.toList = some ss → Post U L r g c w K r' (oneOf ss, x.2.c) → a'.defers = [] ∧ ∃ v, (results fn a'.tmps).run P w' = .ok v w' ∧ ∃ v', Ending.returned v = Ending.returned v' ∧ K v' w' := by
            intro ss hss hpost
            obtain ⟨v, h1, h2⟩ := results_run (fn := fn) (tmps := a'.tmps) he.heap hs.at_ hss
            exact ⟨hs.defers, v, h1, v, rfl, hpost g' v w' he h2⟩
          cases hx1 : x.1 with
          | exit id => rw [hx1] at hx; exact hx.elim
          | normal =>
            rw [hx1] at hx
            dsimp only at hx
            split at hx
            · rename_i ss hss; exact fin hss hx
            · exact hx.elim
          | ret =>
            rw [hx1] at hx
            dsimp only at hx
            split at hx
            · rename_i ss hss; exact fin hss hx
            · exact hx.elim
      · exact h.elim
    · exact h.elim

theorem loopX_ok {ex : St → Tree (Ex × St)} {b : Code} (hex : ∀ (S : St) (L : Nat → Prop) (r : Nat → D) (g : Gh) (a : Act) (w : World) (Q : Exit → Act → World → Prop),
    HeapDen U r g L S.c.h w → PcOk U r S.c.pc → Slots U r g L S.tmps a → (ex S).sat U (EPost U L r g S.c w Q) r → b.wp P Q a w) :
    ∀ (n : Nat) (S : St) (L : Nat → Prop) (r : Nat → D) (g : Gh) (a : Act) (w : World) (Q : Exit → Act → World → Prop),
      HeapDen U r g L S.c.h w → PcOk U r S.c.pc → Slots U r g L S.tmps a → (loopX ex n S).sat U (EPost U L r g S.c w Q) r → Code.rounds P b Q n a w := by
  intro n
  induction n with
  | zero => intro S L r g a w Q _ _ _ h; exact h.elim
  | succ n ih =>
    intro S L r g a w Q hh hp hs h
    rw [loopX, Tree.sat_bind] at h
    rw [rounds_succ]
    refine hex S L r g a w _ hh hp hs (Tree.sat_mono ?_ h)
    intro r' x hx g' a' w' he hs'
    cases hx1 : x.1 with
    | normal =>
      rw [hx1] at hx
      exact ih x.2 (Lx L S.c.h x.2.c.h) r' g' a' w' Q he.heap he.pc hs' (Tree.sat_mono (fun _ _ hy => hy.shift he) hx)
    | exit id => rw [hx1] at hx; exact hx g' a' w' he hs'
    | ret => rw [hx1] at hx; exact hx g' a' w' he hs'

theorem exec_ok {ct : Contracts} (hm : P.follows .mixedOrders = true) (hn : NamesOk P) (hct : ContractsOk U P ct) : ∀ n, RunsOk U P (exec P ct n) := by
  intro n
  induction n with
  | zero => intro code S L r g a w Q _ _ _ h; exact h.elim
  | succ n ih =>
    intro code S L r g a w Q hh hp hs h
    cases code <;> simp only [exec] at h <;> (try exact h.elim)
    case skip => exact wp_skip (EPost.here h hh hp hs)
    case region id ops draw =>
      rw [Tree.sat_bind] at h
      refine regionX_ok hm (callX_ok hn hct ih) hh hp hs (Tree.sat_mono ?_ h)
      intro r' S' hx g' a' w' he hs'
      exact hx g' a' w' he hs'
    case seq x y =>
      rw [Tree.sat_bind] at h
      refine wp_seq (ih x S L r g a w _ hh hp hs (Tree.sat_mono ?_ h))
      intro r' z hz g' a' w' he hs'
      cases hz1 : z.1 with
      | normal =>
        rw [hz1] at hz
        exact ih y z.2 (Lx L S.c.h z.2.c.h) r' g' a' w' Q he.heap he.pc hs' (Tree.sat_mono (fun _ _ hy => hy.shift he) hz)
      | exit id => rw [hz1] at hz; exact hz g' a' w' he hs'
      | ret => rw [hz1] at hz; exact hz g' a' w' he hs'
    case cond x t f =>
      split at h
      · rename_i e he
        have hx := hs.ev x
        rw [he] at hx
        simp only [SV.den] at hx
        obtain ⟨pc, hp', h | h⟩ := sat_br hp h
        · refine wp_cond hx ?_
          rw [h.1]
          exact ih t ⟨S.tmps, { S.c with pc := pc }⟩ L r g a w Q hh hp' hs (Tree.sat_mono (fun _ _ hy => fun g' a' w' he hs' => hy g' a' w' he.pcs hs') h.2)
        · refine wp_cond hx ?_
          rw [h.1]
          exact ih f ⟨S.tmps, { S.c with pc := pc }⟩ L r g a w Q hh hp' hs (Tree.sat_mono (fun _ _ hy => fun g' a' w' he hs' => hy g' a' w' he.pcs hs') h.2)
      · exact h.elim
    case block id b =>
      rw [Tree.sat_bind] at h
      refine wp_block (ih b S L r g a w _ hh hp hs (Tree.sat_mono ?_ h))
      intro r' z hz g' a' w' he hs'
      cases hz1 : z.1 with
      | normal => rw [hz1] at hz; exact hz g' a' w' he hs'
      | exit j =>
        rw [hz1] at hz
        have := hz g' a' w' he hs'
        show Exit.inBlock id Q (.exit j) a' w'
        unfold Exit.inBlock
        dsimp only at this ⊢
        split
        · rename_i hj; rw [if_pos hj] at this; exact this
        · rename_i hj; rw [if_neg hj] at this; exact this
      | ret => rw [hz1] at hz; exact hz g' a' w' he hs'
    case loop b => exact wp_loop_rounds n (loopX_ok (fun S L r g a w Q => ih b S L r g a w Q) n S L r g a w Q hh hp hs h)
    case scope b =>
      refine wp_scope_straight (ih b S L r g a w _ hh hp hs (Tree.sat_mono ?_ h))
      intro r' z hz g' a' w' he hs'
      have := hz g' a' w' he hs'
      cases hz1 : z.1 with
      | normal => rw [hz1] at this; exact this
      | exit j => rw [hz1] at this; exact this
      | ret => rw [hz1] at this; exact this
    case exit id => exact wp_exit (EPost.here h hh hp hs)
    case ret => exact wp_ret (EPost.here h hh hp hs)

/-- THE WALK OF A CALL: by contracts, else by the text. -/
theorem calls_ok {ct : Contracts} (hm : P.follows .mixedOrders = true) (hn : NamesOk P) (hct : ContractsOk U P ct) (n : Nat) : CallsOk U P (callX P ct (exec P ct n)) :=
  callX_ok hn hct (exec_ok hm hn hct n)

end
end Go.Sx

/-
  Sx, part P: a function's walk made once, at variables, and used at whatever is handed over.
-/
namespace Go.Sx
open E (mk1 mk2 mkIte mk1_ev mk2_ev mkIte_ev)

/-! ### Filling in -/

/-- What stands at a variable. -/
def lkM (n : Nat) : List (Nat × E) → Option E
  | [] => none
  | (i, e) :: l => bif Nat.beq i n then some e else lkM n l

def E.sub (m : List (Nat × E)) : E → Option E
  | .v n => lkM n m
  | .b x => some (.b x)
  | .i x => some (.i x)
  | .f x => some (.f x)
  | .s x => some (.s x)
  | .o1 o x => match E.sub m x with
    | some a => some (mk1 o a)
    | none => none
  | .o2 o x y => match E.sub m x, E.sub m y with
    | some x', some y' => some (mk2 o x' y')
    | _, _ => none
  | .o3 o x y z => match E.sub m x, E.sub m y, E.sub m z with
    | some x', some y', some z' => (match o with
      | .ite => some (mkIte x' y' z')
      | o => some (.o3 o x' y' z'))
    | _, _, _ => none
  | .app n x => match E.sub m x with
    | some a => some (.app n a)
    | none => none

/-- The variables as they are filled in. -/
def Fills (U : Nat → D → D) (r r' : Nat → D) (m : List (Nat × E)) : Prop := ∀ n e, lkM n m = some e → r' n = e.ev U r

theorem E.sub_ev {U : Nat → D → D} {r r' : Nat → D} {m : List (Nat × E)} (hf : Fills U r r' m) : ∀ {e e' : E}, e.sub m = some e' → e'.ev U r = e.ev U r' := by
  intro e
  induction e with
  | v n => intro e' h; exact (hf n e' h).symm
  | b x => intro e' h; simp only [E.sub, Option.some.injEq] at h; subst h; rfl
  | i x => intro e' h; simp only [E.sub, Option.some.injEq] at h; subst h; rfl
  | f x => intro e' h; simp only [E.sub, Option.some.injEq] at h; subst h; rfl
  | s x => intro e' h; simp only [E.sub, Option.some.injEq] at h; subst h; rfl
  | o1 o x ih =>
    intro e' h
    simp only [E.sub] at h
    split at h
    · rename_i a ha
      cases h
      simp only [mk1_ev, E.ev, ih ha]
    · cases h
  | o2 o x y ihx ihy =>
    intro e' h
    simp only [E.sub] at h
    split at h
    · rename_i a b ha hb
      cases h
      simp only [mk2_ev, E.ev, ihx ha, ihy hb]
    · cases h
  | o3 o x y z ihx ihy ihz =>
    intro e' h
    simp only [E.sub] at h
    split at h
    · rename_i a b c ha hb hc
      split at h
      · cases h
        simp only [mkIte_ev, E.ev, O3.ev, ihx ha, ihy hb, ihz hc]
      · cases h
        simp only [E.ev, ihx ha, ihy hb, ihz hc]
    · cases h
  | app n x ih =>
    intro e' h
    simp only [E.sub] at h
    split at h
    · rename_i a ha
      cases h
      simp only [E.ev, ih ha]
    · cases h

mutual
def SV.sub (m : List (Nat × E)) : SV → Option SV
  | .any => some .any
  | .bool e => (e.sub m).map .bool
  | .int k e => (e.sub m).map (.int k)
  | .flt k e => (e.sub m).map (.flt k)
  | .str e => (e.sub m).map .str
  | .fb k e => (e.sub m).map (.fb k)
  | .con v => some (.con v)
  | .agg cs => (SV.subL m cs).map .agg
  | .tup cs => (SV.subL m cs).map .tup
  | _ => none
def SV.subL (m : List (Nat × E)) : List SV → Option (List SV)
  | [] => some []
  | x :: l => match SV.sub m x, SV.subL m l with
    | some y, some z => some (y :: z)
    | _, _ => none
end

section
variable {U : Nat → D → D} {r r' : Nat → D} {m : List (Nat × E)} {g g' : Gh} {L L' : Nat → Prop}
mutual
theorem SV.sub_den (hf : Fills U r r' m) : ∀ {x y : SV} {v : Value}, x.sub m = some y → x.den U r' g L v → y.den U r g' L' v
  | .any, y, v, h, _ => by simp only [SV.sub, Option.some.injEq] at h; subst h; simp [SV.den]
  | .bool e, y, v, h, hd => by simp only [SV.sub, Option.map_eq_some_iff] at h; obtain ⟨a, ha, rfl⟩ := h; simp only [SV.den, E.sub_ev hf ha] at hd ⊢; exact hd
  | .int k e, y, v, h, hd => by simp only [SV.sub, Option.map_eq_some_iff] at h; obtain ⟨a, ha, rfl⟩ := h; simp only [SV.den, E.sub_ev hf ha] at hd ⊢; exact hd
  | .flt k e, y, v, h, hd => by simp only [SV.sub, Option.map_eq_some_iff] at h; obtain ⟨a, ha, rfl⟩ := h; simp only [SV.den, E.sub_ev hf ha] at hd ⊢; exact hd
  | .str e, y, v, h, hd => by simp only [SV.sub, Option.map_eq_some_iff] at h; obtain ⟨a, ha, rfl⟩ := h; simp only [SV.den, E.sub_ev hf ha] at hd ⊢; exact hd
  | .fb k e, y, v, h, hd => by simp only [SV.sub, Option.map_eq_some_iff] at h; obtain ⟨a, ha, rfl⟩ := h; simp only [SV.den, E.sub_ev hf ha] at hd ⊢; exact hd
  | .con u, y, v, h, hd => by simp only [SV.sub, Option.some.injEq] at h; subst h; exact hd
  | .agg cs, y, v, h, hd => by
    simp only [SV.sub, Option.map_eq_some_iff] at h
    obtain ⟨z, h1, rfl⟩ := h
    simp only [SV.den] at hd ⊢
    obtain ⟨xs, hv, hc⟩ := hd
    exact ⟨xs, hv, SV.subL_den hf h1 hc⟩
  | .tup cs, y, v, h, hd => by
    simp only [SV.sub, Option.map_eq_some_iff] at h
    obtain ⟨z, h1, rfl⟩ := h
    simp only [SV.den] at hd ⊢
    obtain ⟨xs, hv, hc⟩ := hd
    exact ⟨xs, hv, SV.subL_den hf h1 hc⟩
  | .ptr _ _, y, v, h, _ => by simp [SV.sub] at h
  | .sl _ _ _ _ _, y, v, h, _ => by simp [SV.sub] at h
  | .fn _ _ _, y, v, h, _ => by simp [SV.sub] at h
theorem SV.subL_den (hf : Fills U r r' m) : ∀ {x y : List SV} {v : List Value}, SV.subL m x = some y → SV.denL U r' g L x v → SV.denL U r g' L' y v
  | [], y, [], h, _ => by simp only [SV.subL, Option.some.injEq] at h; subst h; simp [SV.denL]
  | [], y, _ :: _, _, hd => by simp [SV.denL] at hd
  | _ :: _, y, [], _, hd => by simp [SV.denL] at hd
  | x :: l, y, v :: u, h, hd => by
    simp only [SV.subL] at h
    simp only [SV.denL] at hd
    split at h
    · rename_i y' m' h1 h2
      cases h
      simp only [SV.denL]
      exact ⟨SV.sub_den hf h1 hd.1, SV.subL_den hf h2 hd.2⟩
    · cases h
end
end

/-! ### Patterns: plain values, and rows of them -/

inductive Pt where
  | one (k : Sk)
  | ag (ks : List Sk)

def skE : Sk → SV → Option E
  | .b, .bool e => some e
  | .i k, .int k' e => if k = k' then some e else none
  | .f k, .flt k' e => if k = k' then some e else none
  | .s, .str e => some e
  | .byte, .int .u8 (.o1 (.wrap .u8) e) => some e
  | _, _ => none

theorem skE_eq {k : Sk} {s : SV} {e : E} (h : skE k s = some e) : s = skSV k e := by
  unfold skE at h
  split at h
  · cases h; rfl
  · split at h
    · rename_i hk; subst hk; cases h; rfl
    · cases h
  · split at h
    · rename_i hk; subst hk; cases h; rfl
    · cases h
  · cases h; rfl
  · cases h; rfl
  · cases h

def skGo : Nat → List Sk → List SV
  | _, [] => []
  | i, k :: l => skSV k (.v i) :: skGo (i + 1) l

/-- The pattern's own values: variables from 'i' on. -/
def ptGo : Nat → List Pt → List SV
  | _, [] => []
  | i, .one k :: l => skSV k (.v i) :: ptGo (i + 1) l
  | i, .ag ks :: l => .agg (skGo i ks) :: ptGo (i + ks.length) l

def skL : List Sk → List SV → Option (List E)
  | [], [] => some []
  | k :: l, s :: m => match skE k s, skL l m with
    | some e, some es => some (e :: es)
    | _, _ => none
  | _, _ => none

/-- What stands at the variables. -/
def ptE : List Pt → List SV → Option (List E)
  | [], [] => some []
  | .one k :: l, s :: m => match skE k s, ptE l m with
    | some e, some es => some (e :: es)
    | _, _ => none
  | .ag ks :: l, .agg cs :: m => match skL ks cs, ptE l m with
    | some es, some fs => some (es ++ fs)
    | _, _ => none
  | _, _ => none

section
variable {U : Nat → D → D} {r r' : Nat → D} {g g' : Gh} {L L' : Nat → Prop}

theorem skSV_den {k : Sk} {e : E} {i : Nat} {v : Value} (hr : r' i = e.ev U r) (hd : (skSV k e).den U r g L v) : (skSV k (.v i)).den U r' g' L' v := by
  cases k <;> simp only [skSV, SV.den, E.ev, O1.ev, D.toI_i, hr] at hd ⊢ <;> exact hd

theorem skL_den : ∀ {ks : List Sk} {cs : List SV} {es : List E} {vs : List Value} {i : Nat}, skL ks cs = some es → (∀ (j : Nat) (e : E), es[j]? = some e → r' (i + j) = e.ev U r) → SV.denL U r g L cs vs →
    es.length = ks.length ∧ SV.denL U r' g' L' (skGo i ks) vs := by
  intro ks
  induction ks with
  | nil =>
    intro cs es vs i h _ hd
    cases cs with
    | nil => simp only [skL, Option.some.injEq] at h; subst h; cases vs <;> simp_all [SV.denL, skGo]
    | cons a b => simp [skL] at h
  | cons k ks ih =>
    intro cs es vs i h hr hd
    cases cs with
    | nil => simp [skL] at h
    | cons s cs =>
      simp only [skL] at h
      split at h
      · rename_i e es' h1 h2
        cases h
        cases vs with
        | nil => simp [SV.denL] at hd
        | cons v vs =>
          simp only [SV.denL] at hd
          obtain ⟨k1, k2⟩ := ih (i := i + 1) h2 (fun j e he => by have := hr (j + 1) e (by simpa using he); rw [← this]; congr 1; omega) hd.2
          refine ⟨by simp [k1], ?_⟩
          simp only [skGo, SV.denL]
          rw [skE_eq h1] at hd
          exact ⟨skSV_den (by have := hr 0 e (by simp); simpa using this) hd.1, k2⟩
      · cases h

theorem ptE_den : ∀ {ps : List Pt} {args : List SV} {es : List E} {vs : List Value} {i : Nat}, ptE ps args = some es → (∀ (j : Nat) (e : E), es[j]? = some e → r' (i + j) = e.ev U r) → SV.denL U r g L args vs →
    SV.denL U r' g' L' (ptGo i ps) vs := by
  intro ps
  induction ps with
  | nil =>
    intro args es vs i h _ hd
    cases args with
    | nil => cases vs <;> simp_all [SV.denL, ptGo]
    | cons a b => simp [ptE] at h
  | cons p ps ih =>
    intro args es vs i h hr hd
    cases args with
    | nil => cases p <;> simp [ptE] at h
    | cons s args =>
      cases vs with
      | nil => simp [SV.denL] at hd
      | cons v vs =>
        simp only [SV.denL] at hd
        cases p with
        | one k =>
          simp only [ptE] at h
          split at h
          · rename_i e es' h1 h2
            cases h
            simp only [ptGo, SV.denL]
            rw [skE_eq h1] at hd
            refine ⟨skSV_den (by have := hr 0 e (by simp); simpa using this) hd.1, ih (i := i + 1) h2 (fun j e he => ?_) hd.2⟩
            have := hr (j + 1) e (by simpa using he)
            rw [← this]; congr 1; omega
          · cases h
        | ag ks =>
          cases s with
          | agg cs =>
            simp only [ptE] at h
            split at h
            · rename_i es1 es2 h1 h2
              cases h
              simp only [ptGo, SV.denL]
              simp only [SV.den] at hd
              obtain ⟨⟨xs, hv, hc⟩, hd2⟩ := hd
              obtain ⟨k1, k2⟩ := skL_den (i := i) (r' := r') (g' := g') (L' := L') h1 (fun j e he => hr j e (by
                rw [List.getElem?_append_left (List.getElem?_eq_some_iff.1 he).1]; exact he)) hc
              refine ⟨⟨xs, hv, k2⟩, ih (i := i + ks.length) h2 (fun j e he => ?_) hd2⟩
              have := hr (es1.length + j) e (by rw [List.getElem?_append_right (by omega)]; simpa using he)
              rw [← this]; congr 1; omega
            · cases h
          | _ => simp [ptE] at h
end

/-! ### A walk at variables -/

/-- Where a walk at variables begins. -/
def cx0 : Cx := ⟨[], 1000, []⟩

def resT (t : Tree (SV × Cx)) : Tree SV := t.bind fun x => .ret x.1

def subT : List (Nat × E) → Cx → Tree SV → Tree (SV × Cx)
  | m, c, .ret x => match x.sub m with
    | some y => .ret (y, c)
    | none => .bad
  | m, c, .ite e t f => match e.sub m with
    | some e' => br c e' (fun c => subT m c t) (fun c => subT m c f)
    | none => .bad
  | m, c, .chk e t => match e with
    | .o2 .fsame (.v i) e => (match lkM i m, e.sub m with
      | none, some e' =>
        if atomE e' then subT ((i, e') :: m) c t
        else match findE e' c.pc with
          | some j => subT ((i, .v j) :: m) c t
          | none => .chk (.o2 .fsame (.v c.nv) e') (subT ((i, .v c.nv) :: m) ⟨c.h, c.nv + 1, (.o2 .fsame (.v c.nv) e', true) :: c.pc⟩ t)
      | _, _ => .bad)
    | _ => .bad
  | _, _, _ => .bad

def numbered : Nat → List E → List (Nat × E)
  | _, [] => []
  | i, e :: l => (i, e) :: numbered (i + 1) l

def memoRun (ps : List Pt) (T : Tree SV) (args : List SV) (c : Cx) : Tree (SV × Cx) :=
  match ptE ps args with
  | some s => subT (numbered 0 s) c T
  | none => .bad

/-- A contract that the model bears out. -/
def EntryOk (U : Nat → D → D) (P : Program) (f : FuncId) (run : List SV → Cx → Tree (SV × Cx)) : Prop :=
  ∀ (args : List SV) (c : Cx) (L : Nat → Prop) (r : Nat → D) (g : Gh) (w : World) (vs : Array Value) (K : Value → World → Prop),
    HeapDen U r g L c.h w → PcOk U r c.pc → SV.denL U r g L args vs.toList → (run args c).sat U (Post U L r g c w K) r → CallGoal P f vs w K

def noContracts : Contracts := fun _ => none
def Contracts.add (ct : Contracts) (f : FuncId) (run : List SV → Cx → Tree (SV × Cx)) : Contracts := fun k => bif Nat.beq k f then some run else ct k

/-- What a tree says of a call that turns nothing. -/
def Says (U : Nat → D → D) (T : Tree SV) (K : Value → World → Prop) (w : World) (r : Nat → D) : Prop :=
  T.sat U (fun r' s => ∀ g' L' v w', Frm (fun _ => False) w w' → s.den U r' g' L' v → K v w') r

/-- The variables stand for values of the pattern. -/
def PtOk (U : Nat → D → D) (ps : List Pt) (r : Nat → D) : Prop := ∃ (g : Gh) (L : Nat → Prop) (vs : List Value), SV.denL U r g L (ptGo 0 ps) vs

section
variable {U : Nat → D → D} {r r' : Nat → D} {g : Gh} {L : Nat → Prop} {c : Cx} {w w' : World} {P : Program} {cf : FuncId → List SV → Cx → Tree (SV × Cx)} {K : Value → World → Prop}

theorem noContracts_ok : ContractsOk U P noContracts := fun _ _ h => by cases h

theorem ContractsOk.add {ct : Contracts} (h : ContractsOk U P ct) {f : FuncId} {run : List SV → Cx → Tree (SV × Cx)} (he : EntryOk U P f run) : ContractsOk U P (ct.add f run) := by
  intro k run' hk
  unfold Contracts.add at hk
  cases hb : Nat.beq k f with
  | true =>
    rw [hb] at hk
    simp only [cond_true, Option.some.injEq] at hk
    have := Nat.eq_of_beq_eq_true hb
    subst this hk
    exact he
  | false => rw [hb] at hk; exact h k run' hk

/-- Nothing that was there has turned. -/
theorem ext_frame (hh : HeapDen U r g L c.h w) {c' : Cx} (h1 : c'.h = c.h) (h2 : c.nv ≤ c'.nv) (hp : PcOk U r c'.pc) (f : Frm (fun _ => False) w w') : Ext U L r g c w r g c' w' where
  nv := h2
  agr := fun _ => rfl
  len := by rw [h1]; exact Nat.le_refl _
  ga := fun _ _ => ⟨rfl, rfl⟩
  go := fun _ _ => rfl
  heap := by
    rw [h1, Lx_self]
    exact ⟨hh.bnd, fun id h => Nat.lt_of_lt_of_le (hh.lt id h) f.size, fun id b h hb => by rw [f.block _ (hh.lt id h) (fun h => h)]; exact hh.blk id b h hb, hh.inj, fun id b ks e h hb hr => by rw [f.block _ (hh.lt id h) (fun h => h)]; exact hh.rows id b ks e h hb hr, hh.live⟩
  pc := hp
  frm := ⟨f.os, f.tape, f.output, f.size, fun k hk _ => f.block k hk (fun h => h)⟩
  wrs := fun id b k1 k2 k3 => by rw [h1, Lx_self] at k1; rw [h1] at k2; exact .inr ⟨id, b, k1, k2, k3, rfl⟩
  fresh := fun id k1 k2 => by rw [h1] at k2; omega

theorem noHeap : HeapDen U r g (fun _ => False) cx0.h w := ⟨fun _ h => h.elim, fun _ h => h.elim, fun _ _ h => h.elim, fun _ _ _ _ h => h.elim, fun _ _ _ _ h => h.elim, fun _ _ h => by simp [cx0] at h⟩

theorem says_resT {t : Tree (SV × Cx)} : Says U (resT t) K w r ↔ t.sat U (fun r' x => ∀ g' L' v w', Frm (fun _ => False) w w' → x.1.den U r' g' L' v → K v w') r := by
  unfold Says resT
  rw [Tree.sat_bind]
  rfl

/-- A walk at variables: what it says of a call. -/
theorem closed_ok (hcf : CallsOk U P cf) {f : FuncId} {args : List SV} {vs : Array Value} (hd : SV.denL U r g (fun _ => False) args vs.toList)
    (h : Says U (resT (cf f args cx0)) K w r) : CallGoal P f vs w K := by
  refine hcf f args cx0 (fun _ => False) r g w vs K noHeap (fun _ h => by cases h) hd (Tree.sat_mono ?_ (says_resT.1 h))
  intro r' x hx g' v w' he hd'
  refine hx g' _ v w' ?_ hd'
  exact ⟨he.frm.os, he.frm.tape, he.frm.output, he.frm.size, fun k hk _ => he.frm.block k hk (fun ⟨_, _, h, _⟩ => h)⟩

/-- The variables, filled in. -/
def fillM (U : Nat → D → D) (r : Nat → D) (m : List (Nat × E)) : Nat → D := fun n => match lkM n m with
  | some e => e.ev U r
  | none => r n

theorem fillM_ok (m : List (Nat × E)) : Fills U r (fillM U r m) m := fun n e h => by unfold fillM; rw [h]

theorem subT_says {c0 : Cx} (hh : HeapDen U r g L c0.h w) : ∀ {t : Tree SV} {m : List (Nat × E)} {c : Cx}, c.h = c0.h → c0.nv ≤ c.nv → PcOk U r c.pc → (subT m c t).sat U (Post U L r g c0 w K) r →
    ∃ r', Fills U r r' m ∧ Says U t K w r' := by
  intro t
  induction t with
  | ret x =>
    intro m c h1 h2 hp h
    simp only [subT] at h
    split at h
    · rename_i y hy
      exact ⟨fillM U r m, fillM_ok m, fun g' L' v w' hf hd => h g v w' (ext_frame hh h1 h2 hp hf) (SV.sub_den (fillM_ok m) hy hd)⟩
    · exact h.elim
  | ite e t f iht ihf =>
    intro m c h1 h2 hp h
    simp only [subT] at h
    split at h
    · rename_i e' he
      obtain ⟨pc', hp', h | h⟩ := br_sat hp h
      · obtain ⟨r', hf, hs⟩ := iht (c := { c with pc := pc' }) h1 h2 hp' h.2
        refine ⟨r', hf, ?_⟩
        unfold Says
        simp only [Tree.sat]
        rw [if_pos (by rw [← E.sub_ev hf he]; exact h.1)]
        exact hs
      · obtain ⟨r', hf, hs⟩ := ihf (c := { c with pc := pc' }) h1 h2 hp' h.2
        refine ⟨r', hf, ?_⟩
        unfold Says
        simp only [Tree.sat]
        rw [if_neg (by rw [← E.sub_ev hf he]; simp [h.1])]
        exact hs
    · exact h.elim
  | chk e t ih =>
    intro m c h1 h2 hp h
    simp only [subT] at h
    split at h
    · rename_i i e0
      split at h
      · rename_i e' hi he
        have fin : ∀ {x : E} {c' : Cx}, c'.h = c0.h → c0.nv ≤ c'.nv → PcOk U r c'.pc → (x.ev U r).toF = (e'.ev U r).toF → (subT ((i, x) :: m) c' t).sat U (Post U L r g c0 w K) r →
            ∃ r', Fills U r r' m ∧ Says U (.chk (.o2 .fsame (.v i) e0) t) K w r' := by
          intro x c' h1 h2 hp hx h
          obtain ⟨r', hf, hs⟩ := ih h1 h2 hp h
          have hf' : Fills U r r' m := fun n e hn => by
            refine hf n e ?_
            unfold lkM
            cases hb : Nat.beq i n with
            | true => rw [Nat.eq_of_beq_eq_true hb] at hi; rw [hi] at hn; cases hn
            | false => exact hn
          have hi' : r' i = x.ev U r := hf i x (by unfold lkM; rw [Nat.beq_refl]; rfl)
          refine ⟨r', hf', ?_, hs⟩
          simp only [E.ev, O2.ev, D.toB_b, hi', hx, ← E.sub_ev hf' he, beq_self_eq_true]
        split at h
        · exact fin h1 h2 hp rfl h
        · split at h
          · rename_i j hj
            exact fin h1 h2 hp (by simp only [E.ev]; exact findE_ok hp hj) h
          · simp only [Tree.sat] at h
            refine fin (c' := ⟨c.h, c.nv + 1, (.o2 .fsame (.v c.nv) e', true) :: c.pc⟩) h1 (Nat.le_succ_of_le h2) ?_ ?_ h.2
            · intro y hy
              rcases List.mem_cons.1 hy with rfl | hy
              · exact h.1
              · exact hp y hy
            · simpa [E.ev, O2.ev, D.toB_b] using h.1
      · exact h.elim
    · exact h.elim
  | all i t _ => intro m c _ _ _ h; exact h.elim
  | asm e t _ => intro m c _ _ _ h; exact h.elim
  | bad => intro m c _ _ _ h; exact h.elim

theorem lkM_numbered : ∀ {l : List E} {i n : Nat} {e : E}, l[n]? = some e → lkM (i + n) (numbered i l) = some e := by
  intro l
  induction l with
  | nil => intro i n e h; simp at h
  | cons a l ih =>
    intro i n e h
    unfold numbered lkM
    cases n with
    | zero => simp at h; subst h; simp
    | succ n =>
      have hb : Nat.beq i (i + (n + 1)) = false := by
        cases hb : Nat.beq i (i + (n + 1)) with
        | false => rfl
        | true => have := Nat.eq_of_beq_eq_true hb; omega
      rw [hb]
      simp only [cond_false]
      have := ih (i := i + 1) (n := n) (e := e) (by simpa using h)
      rw [← this]; congr 1; omega

/-- A contract: a tree that speaks for the function. -/
theorem entry_ok {f : FuncId} {ps : List Pt} {T : Tree SV}
    (hs : ∀ (r : Nat → D) (g : Gh) (vs : Array Value) (K : Value → World → Prop) (w : World), SV.denL U r g (fun _ => False) (ptGo 0 ps) vs.toList → Says U T K w r → CallGoal P f vs w K) : EntryOk U P f (memoRun ps T) := by
  intro args c L r g w vs K hh hp hd h
  unfold memoRun at h
  split at h
  · rename_i s hse
    obtain ⟨r', hf, hsays⟩ := subT_says hh rfl (Nat.le_refl _) hp h
    refine hs r' g vs K w (ptE_den hse (fun j e he => ?_) hd) hsays
    exact hf _ _ (lkM_numbered he)
  · exact h.elim

/-- THE WALK OF 'f', MADE ONCE. -/
theorem memo_ok (hcf : CallsOk U P cf) (f : FuncId) (ps : List Pt) : EntryOk U P f (memoRun ps (resT (cf f (ptGo 0 ps) cx0))) :=
  entry_ok fun _ _ _ _ _ hd h => closed_ok hcf hd h

/-! ### Names as words that are let in -/

/-- A tree read with its names let in; the names and all tests are over older variables. -/
def Lets (U : Nat → D → D) (K : Value → World → Prop) (w : World) : Nat → (Nat → D) → Tree SV → Prop
  | _, r, .ret s => ∀ g' L' v w', Frm (fun _ => False) w w' → s.den U r g' L' v → K v w'
  | m, r, .ite c t e => c.under m = true ∧ ((c.ev U r).toB = true → Lets U K w m r t) ∧ ((c.ev U r).toB = false → Lets U K w m r e)
  | m, r, .chk c t => ∃ i e, c = .o2 .fsame (.v i) e ∧ m ≤ i ∧ e.under m = true ∧ Lets U K w (i + 1) (Tree.upd r i (e.ev U r)) t
  | _, _, _ => False

theorem lets_says : ∀ {t : Tree SV} {m : Nat} {r : Nat → D}, Lets U K w m r t → ∃ r', (∀ n, n < m → r' n = r n) ∧ Says U t K w r' := by
  intro t
  induction t with
  | ret x => intro m r h; exact ⟨r, fun _ _ => rfl, h⟩
  | ite c t e iht ihe =>
    intro m r h
    simp only [Lets] at h
    obtain ⟨hu, h1, h2⟩ := h
    cases hc : (c.ev U r).toB with
    | true =>
      obtain ⟨r', ha, hs⟩ := iht (h1 hc)
      refine ⟨r', ha, ?_⟩
      unfold Says
      simp only [Tree.sat]
      rw [if_pos (by rw [E.ev_under U ha hu]; exact hc)]
      exact hs
    | false =>
      obtain ⟨r', ha, hs⟩ := ihe (h2 hc)
      refine ⟨r', ha, ?_⟩
      unfold Says
      simp only [Tree.sat]
      rw [if_neg (by rw [E.ev_under U ha hu, hc]; simp)]
      exact hs
  | chk c t ih =>
    intro m r h
    simp only [Lets] at h
    obtain ⟨i, e, rfl, hm, hu, h⟩ := h
    obtain ⟨r', ha, hs⟩ := ih h
    have hlow : ∀ n, n < m → r' n = r n := fun n hn => by
      rw [ha n (by omega)]
      unfold Tree.upd
      rw [if_neg (by omega)]
    refine ⟨r', hlow, ?_, hs⟩
    have : r' i = e.ev U r := by rw [ha i (by omega)]; unfold Tree.upd; rw [if_pos rfl]
    simp only [E.ev, O2.ev, D.toB_b, this, E.ev_under U hlow hu, beq_self_eq_true]
  | all i t _ => intro m r h; exact h.elim
  | asm e t _ => intro m r h; exact h.elim
  | bad => intro m r h; exact h.elim

/-- A walk at variables, its names let in: what it says of a call. -/
theorem closed_lets (hcf : CallsOk U P cf) {f : FuncId} {ps : List Pt} (hu : SV.underL 1000 (ptGo 0 ps) = true) {vs : Array Value} (hd : SV.denL U r g (fun _ => False) (ptGo 0 ps) vs.toList)
    (h : Lets U K w 1000 r (resT (cf f (ptGo 0 ps) cx0))) : CallGoal P f vs w K := by
  obtain ⟨r', ha, hs⟩ := lets_says h
  exact closed_ok hcf (SV.denL_under ha hu hd) hs

/-- A walk's tree put in another's place: 'T' speaks for the function. -/
theorem swap_ok (hcf : CallsOk U P cf) (f : FuncId) (ps : List Pt) (hu : SV.underL 1000 (ptGo 0 ps) = true) {T : Tree SV}
    (hs : ∀ (r : Nat → D) (K : Value → World → Prop) (w : World), PtOk U ps r → Says U T K w r → Lets U K w 1000 r (resT (cf f (ptGo 0 ps) cx0))) : EntryOk U P f (memoRun ps T) :=
  entry_ok fun r _ _ K w hd h => closed_lets hcf hu hd (hs r K w ⟨_, _, _, hd⟩ h)
end
end Go.Sx
