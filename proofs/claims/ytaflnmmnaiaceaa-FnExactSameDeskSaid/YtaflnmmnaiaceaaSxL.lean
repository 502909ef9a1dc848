/-
  Sx, part L: statements whose order is open: one walk in the order of the text serves every order.
-/
import Derived.Test.YtaflnmmnaiaceaaSxK
import Derived.Orders
namespace Go.Sx
open E (mk1 mk2 mkIte mk1_ev mk2_ev mkIte_ev)

/-! ### The looks over a region -/

/-- A set of numbers as one number. -/
def maskOf : List Nat → Nat
  | [] => 0
  | t :: l => maskOf l ||| 2 ^ t

theorem maskOf_test {l : List Nat} {t : Nat} : (maskOf l).testBit t = true ↔ t ∈ l := by
  induction l with
  | nil => simp [maskOf]
  | cons x l ih =>
    simp only [maskOf, Nat.testBit_or, Bool.or_eq_true, ih, Nat.testBit_two_pow, decide_eq_true_eq, List.mem_cons]
    constructor
    · rintro (h | h)
      · exact .inr h
      · exact .inl h.symm
    · rintro (h | h)
      · exact .inr h.symm
      · exact .inl h

/-- The operations for which it waits. -/
def waitList (es : List Edge) : List Nat := (es.filter (Region.binds .any)).map (·.on)

def waitsOn (o : Oper) (j : Nat) : Bool := (maskOf (waitList o.after.toList)).testBit j

/-- It waits for all that stand before it. -/
def lastOf (l : List Oper) (k : Nat) : Bool :=
  match l[k]? with
  | some o => maskOf (waitList o.after.toList) &&& (2 ^ k - 1) == 2 ^ k - 1
  | none => false

theorem lastOf_waits {l : List Oper} {k j : Nat} {o : Oper} (ho : l[k]? = some o) (h : lastOf l k = true) (hj : j < k) : waitsOn o j = true := by
  unfold lastOf at h
  rw [ho] at h
  have h : maskOf (waitList o.after.toList) &&& (2 ^ k - 1) = 2 ^ k - 1 := by simpa using h
  have h1 := congrArg (fun m => m.testBit j) h
  simp only [Nat.testBit_and, Nat.testBit_two_pow_sub_one, hj, decide_true, Bool.and_true] at h1
  exact h1

def headGo (l : List Oper) : Nat → Nat
  | 0 => 0
  | k + 1 => if lastOf l k then headGo l k else k + 1

/-- How many stand before the row that is in order. -/
def headLen (l : List Oper) : Nat := headGo l l.length

theorem headGo_le (l : List Oper) : ∀ k, headGo l k ≤ k
  | 0 => Nat.le_refl _
  | k + 1 => by unfold headGo; split; · have := headGo_le l k; omega
                · omega

theorem headGo_last (l : List Oper) : ∀ k j, headGo l k ≤ j → j < k → lastOf l j = true
  | 0, j, _, h => by omega
  | k + 1, j, h1, h2 => by
    unfold headGo at h1
    split at h1
    · rename_i hl
      by_cases hj : j = k
      · subst hj; exact hl
      · exact headGo_last l k j h1 (by omega)
    · omega

def dstList (l : List Oper) : List Nat := l.filterMap (·.dst)

/-- No two of them fill one slot. -/
def ownSlots : List Oper → Nat → Bool
  | [], _ => true
  | o :: l, m =>
    match o.dst with
    | some t => !m.testBit t && ownSlots l (m ||| 2 ^ t)
    | none => ownSlots l m

/-- The slots filled by those for which it waits. -/
def waitSlots (l : List Oper) (es : List Edge) (i : Nat) : List Nat := (waitList es).filterMap fun j => if j < i then (l[j]?).bind (·.dst) else none

/-- An operation of the head: what it looks at is made by those for which it waits. -/
def headOk (l : List Oper) (ops : Array Oper) (m i : Nat) : Bool :=
  match l[i]? with
  | some o => (maskOf (o.looksAt ops) &&& m) &&& maskOf (waitSlots l o.after.toList i) == maskOf (o.looksAt ops) &&& m
  | none => false

/-- Its edges point back. -/
def backOk (l : List Oper) (i : Nat) : Bool :=
  match l[i]? with
  | some o => decide (maskOf (waitList o.after.toList) < 2 ^ i)
  | none => false

theorem backOk_lt {l : List Oper} {i : Nat} {o : Oper} (ho : l[i]? = some o) (h : backOk l i = true) {e : Edge} (he : e ∈ o.after) (hb : Region.binds .any e = true) : e.on < i := by
  unfold backOk at h
  rw [ho] at h
  have h : maskOf (waitList o.after.toList) < 2 ^ i := by simpa using h
  have hm : e.on ∈ waitList o.after.toList := by
    unfold waitList
    exact List.mem_map.2 ⟨e, List.mem_filter.2 ⟨by simpa using he, hb⟩, rfl⟩
  have ht := maskOf_test.2 hm
  rcases Nat.lt_or_ge e.on i with hlt | hge
  · exact hlt
  · have : 2 ^ i ≤ 2 ^ e.on := Nat.pow_le_pow_right (by omega) hge
    have hlt : maskOf (waitList o.after.toList) < 2 ^ e.on := by omega
    rw [Nat.testBit_lt_two_pow hlt] at ht; cases ht

theorem ownSlots_ok : ∀ {l : List Oper} {m : Nat}, ownSlots l m = true → (∀ (j : Nat) (p : Oper) (t : Tmp), l[j]? = some p → p.dst = some t → m.testBit t = false) ∧
    ∀ (i j : Nat) (o p : Oper) (t : Tmp), l[i]? = some o → l[j]? = some p → o.dst = some t → p.dst = some t → i = j := by
  intro l
  induction l with
  | nil => intro m _; exact ⟨fun j p t h => by simp at h, fun i j o p t h => by simp at h⟩
  | cons x l ih =>
    intro m h
    unfold ownSlots at h
    cases hx : x.dst with
    | none =>
      rw [hx] at h
      obtain ⟨h1, h2⟩ := ih h
      refine ⟨fun j p t hj hd => ?_, fun i j o p t hi hj hd hd' => ?_⟩
      · cases j with
        | zero => simp at hj; subst hj; rw [hx] at hd; cases hd
        | succ j => exact h1 j p t (by simpa using hj) hd
      · cases i with
        | zero => simp at hi; subst hi; rw [hx] at hd; cases hd
        | succ i => cases j with
          | zero => simp at hj; subst hj; rw [hx] at hd'; cases hd'
          | succ j => have := h2 i j o p t (by simpa using hi) (by simpa using hj) hd hd'; omega
    | some s =>
      rw [hx] at h
      simp only [Bool.and_eq_true, Bool.not_eq_true'] at h
      obtain ⟨h0, h⟩ := h
      obtain ⟨h1, h2⟩ := ih h
      have h1' : ∀ (j : Nat) (p : Oper) (t : Tmp), l[j]? = some p → p.dst = some t → m.testBit t = false ∧ t ≠ s := by
        intro j p t hj hd
        have := h1 j p t hj hd
        rw [Nat.testBit_or, Bool.or_eq_false_iff, Nat.testBit_two_pow] at this
        refine ⟨this.1, fun e => ?_⟩
        subst e; simp at this
      refine ⟨fun j p t hj hd => ?_, fun i j o p t hi hj hd hd' => ?_⟩
      · cases j with
        | zero => simp at hj; subst hj; rw [hx] at hd; cases hd; exact h0
        | succ j => exact (h1' j p t (by simpa using hj) hd).1
      · cases i with
        | zero =>
          simp at hi; subst hi; rw [hx] at hd; cases hd
          cases j with
          | zero => rfl
          | succ j => exact absurd rfl (h1' j p _ (by simpa using hj) hd').2
        | succ i => cases j with
          | zero =>
            simp at hj; subst hj; rw [hx] at hd'; cases hd'
            exact absurd rfl (h1' i o _ (by simpa using hi) hd).2
          | succ j => have := h2 i j o p t (by simpa using hi) (by simpa using hj) hd hd'; omega

def regionOk (l : List Oper) (ops : Array Oper) (n : Nat) : Bool :=
  (List.range l.length).all (backOk l) && (ownSlots (l.take n) 0 && (List.range n).all (headOk l ops (maskOf (dstList (l.take n)))))

/-! ### One operation of the head -/

def lockB : Option SB → Option SB
  | some b => some { b with wr := false }
  | none => none
def lockH (h : SH) : SH := h.map lockB

/-- Of the slots only those that are looked at. -/
def evM (looks : List Tmp) (tmps : Tm) : Operand → SV
  | .tmp t => if (maskOf looks).testBit t then tmps.get t else .any
  | x => evS tmps x

/-- What was there, and what is new. -/
def glue (h h' : SH) : SH := if h'.length = h.length then h else h ++ h'.drop h.length

theorem glue_eq (h h' : SH) : glue h h' = h ++ h'.drop h.length := by
  unfold glue
  split
  · rename_i e; rw [← e, List.drop_length, List.append_nil]
  · rfl

/-- A tree with the names that are given on the way. -/
def facts {α : Type} : Tree α → List (E × Bool) → Tree (α × List (E × Bool))
  | .ret x, l => .ret (x, l)
  | .ite c t e, l => .ite c (facts t l) (facts e l)
  | .chk c t, l => .chk c (facts t ((c, true) :: l))
  | _, _ => .bad

theorem facts_plain {α : Type} {U : Nat → D → D} {r : Nat → D} {Q : (Nat → D) → α × List (E × Bool) → Prop} : ∀ {t : Tree α} {l : List (E × Bool)}, PcOk U r l → (facts t l).sat U Q r →
    ∃ a l', t.leaf? U r = some a ∧ PcOk U r l' ∧ Q r (a, l') := by
  intro t
  induction t with
  | ret b => intro l hl h; exact ⟨b, l, rfl, hl, h⟩
  | ite c t e iht ihe =>
    intro l hl h
    simp only [facts, Tree.sat] at h
    simp only [Tree.leaf?]
    split at h
    · rename_i hc; rw [if_pos hc]; exact iht hl h
    · rename_i hc; rw [if_neg hc]; exact ihe hl h
  | all i t ih => intro l _ h; exact h.elim
  | asm c t ih => intro l _ h; exact h.elim
  | chk c t ih =>
    intro l hl h
    simp only [facts, Tree.sat] at h
    simp only [Tree.leaf?]
    rw [if_pos h.1]
    exact ih (fun y hy => by
      rcases List.mem_cons.1 hy with rfl | hy
      · exact h.1
      · exact hl y hy) h.2
  | bad => intro l _ h; exact h.elim

def quietGo (P : Program) (cf : FuncId → List SV → Cx → Tree (SV × Cx)) (ops : Array Oper) (o : Oper) (tmps : Tm) (c : Cx) : Tree St :=
  let t := opTree P cf { c with h := lockH c.h } (evM (o.looksAt ops) tmps) o.op
  (facts t []).bind fun x => if c.nv ≤ x.1.2.nv then .ret ⟨putS tmps o.dst x.1.1, ⟨glue c.h x.1.2.h, x.1.2.nv, x.2 ++ c.pc⟩⟩ else .bad

def quietX (P : Program) (cf : FuncId → List SV → Cx → Tree (SV × Cx)) (ops : Array Oper) (o : Oper) (S : St) : Tree St :=
  match guardS ops S.tmps o with
  | .told true => quietGo P cf ops o S.tmps S.c
  | .told false => .ret ⟨putS S.tmps o.dst skipped, S.c⟩
  | .asks e => br S.c e (quietGo P cf ops o S.tmps) (fun c => .ret ⟨putS S.tmps o.dst skipped, c⟩)
  | .dark => .bad

def runQ (P : Program) (cf : FuncId → List SV → Cx → Tree (SV × Cx)) (ops : Array Oper) : List Oper → St → Tree St
  | [], S => .ret S
  | o :: rest, S => (quietX P cf ops o S).bind (runQ P cf ops rest)

def fogB : Option SB → Option SB
  | some b => some ⟨b.wr, b.cs.map fun _ => .any, none⟩
  | none => none
/-- New places of which nothing is known. -/
def fog (z : Bool) (h : SH) : SH := bif z then h.map fogB else h

theorem fog_length (z : Bool) (h : SH) : (fog z h).length = h.length := by cases z <;> simp [fog]

/-- Only one place may be written. -/
def onlyH (id : Nat) (b : SB) (h : SH) : SH := (lockH h).set id (some b)

def isAny : SV → Bool
  | .any => true
  | _ => false

/-- A place that a later store of the statement fills. -/
def fills (l : List Oper) (o : Oper) : Bool := match o.op, o.dst with
  | .alloc _, some d => l.any fun p => match p.op with
    | .store _ (.tmp t) _ => Nat.beq t d
    | _ => false
  | _, _ => false

def lateGo (P : Program) (cf : FuncId → List SV → Cx → Tree (SV × Cx)) (ops : Array Oper) (base : Nat) (o : Oper) (S : St) (p id : Nat) : Tree (St × Option (Nat × SB)) :=
  match S.c.h[id]? with
  | some (some b) =>
    if Nat.ble base id && (b.wr && (b.row.isNone && (b.cs.all isAny && (o.looksAt ops).contains p))) then
      (facts (opTree P cf { S.c with h := onlyH id b S.c.h } (evM (o.looksAt ops) S.tmps) o.op) []).bind fun x => match x.1.2.h[id]? with
        | some (some b') => if b'.wr && (b'.row.isNone && (Nat.beq b'.cs.length b.cs.length && (Nat.beq x.1.2.h.length S.c.h.length && Nat.ble S.c.nv x.1.2.nv))) then .ret (⟨S.tmps, ⟨S.c.h, x.1.2.nv, x.2 ++ S.c.pc⟩⟩, some (id, b')) else .bad
        | _ => .bad
    else .bad
  | _ => .bad

def lateX (P : Program) (cf : FuncId → List SV → Cx → Tree (SV × Cx)) (ops : Array Oper) (base : Nat) (l : List Oper) (o : Oper) (S : St) : Tree (St × Option (Nat × SB)) :=
  match o.op, o.guard, o.dst with
  | .store _ (.tmp p) _, none, none => (match S.tmps.get p with
    | .ptr id _ => lateGo P cf ops base o S p id
    | _ => .bad)
  | _, _, _ => (quietX P cf ops o S).bind fun S' => .ret (⟨S'.tmps, ⟨S.c.h ++ fog (fills l o) (S'.c.h.drop S.c.h.length), S'.c.nv, S'.c.pc⟩⟩, none)

def runL (P : Program) (cf : FuncId → List SV → Cx → Tree (SV × Cx)) (ops : Array Oper) (base : Nat) (all : List Oper) : List Oper → St → Tree (St × List (Option (Nat × SB)))
  | [], S => .ret (S, [])
  | o :: rest, S => (lateX P cf ops base all o S).bind fun x => (runL P cf ops base all rest x.1).bind fun y => .ret (y.1, x.2 :: y.2)

section
variable {U : Nat → D → D} {L : Nat → Prop} {r : Nat → D} {g : Gh} {w : World} {P : Program} {cf : FuncId → List SV → Cx → Tree (SV × Cx)}

/-- What the walk in the order of the text has shown of an operation. A store into a place of this statement itself is late: what it leaves is told apart. -/
structure QRel (U : Nat → D → D) (r : Nat → D) (P : Program) (cf : FuncId → List SV → Cx → Tree (SV × Cx)) (ops : Array Oper) (base : Nat) (late : Option (Nat × SB)) (S : St) (o : Oper) (S' : St) : Prop where
  nv : S.c.nv ≤ S'.c.nv
  pc : PcOk U r S'.c.pc
  run : ((guardS ops S.tmps o = .told true ∨ ∃ e, guardS ops S.tmps o = .asks e ∧ (e.ev U r).toB = true) ∧ late = none ∧
      ∃ z pc sv c', PcOk U r pc ∧ (opTree P cf ⟨lockH S.c.h, S.c.nv, pc⟩ (evM (o.looksAt ops) S.tmps) o.op).leaf? U r = some (sv, c') ∧ S'.tmps = putS S.tmps o.dst sv ∧ S'.c.h = S.c.h ++ fog z (c'.h.drop S.c.h.length)) ∨
    ((guardS ops S.tmps o = .told false ∨ ∃ e, guardS ops S.tmps o = .asks e ∧ (e.ev U r).toB = false) ∧ late = none ∧ S'.tmps = putS S.tmps o.dst skipped ∧ S'.c.h = S.c.h) ∨
    (o.guard = none ∧ o.dst = none ∧ S'.tmps = S.tmps ∧ S'.c.h = S.c.h ∧ ∃ id b b' p off pc sv c', late = some (id, b') ∧ base ≤ id ∧ S.c.h[id]? = some (some b) ∧ b.wr = true ∧ b.row = none ∧ (∀ c ∈ b.cs, c = .any) ∧
      b'.wr = true ∧ b'.row = none ∧ b'.cs.length = b.cs.length ∧ p ∈ o.looksAt ops ∧ S.tmps.get p = .ptr id off ∧ PcOk U r pc ∧
      (opTree P cf ⟨onlyH id b S.c.h, S.c.nv, pc⟩ (evM (o.looksAt ops) S.tmps) o.op).leaf? U r = some (sv, c') ∧ c'.h.length = S.c.h.length ∧ c'.h[id]? = some (some b'))

theorem quietGo_rel {ops : Array Oper} {o : Oper} {tmps : Tm} {c : Cx} {Q : (Nat → D) → St → Prop} (hp : PcOk U r c.pc) (h : (quietGo P cf ops o tmps c).sat U Q r) :
    ∃ sv c' pc', (opTree P cf ⟨lockH c.h, c.nv, c.pc⟩ (evM (o.looksAt ops) tmps) o.op).leaf? U r = some (sv, c') ∧ c.nv ≤ c'.nv ∧ PcOk U r pc' ∧ Q r ⟨putS tmps o.dst sv, ⟨c.h ++ c'.h.drop c.h.length, c'.nv, pc'⟩⟩ := by
  unfold quietGo at h
  dsimp only at h
  rw [Tree.sat_bind] at h
  obtain ⟨x, l, hx, hl, hq⟩ := facts_plain (fun _ h => by cases h) h
  split at hq
  · rename_i hn
    rw [glue_eq] at hq
    exact ⟨x.1, x.2, l ++ c.pc, hx, hn, fun y hy => by
      rcases List.mem_append.1 hy with hy | hy
      · exact hl y hy
      · exact hp y hy, hq⟩
  · exact hq.elim

theorem quietX_rel {ops : Array Oper} {o : Oper} {S : St} {Q : (Nat → D) → St → Prop} {base : Nat} (hp : PcOk U r S.c.pc) (h : (quietX P cf ops o S).sat U Q r) : ∃ S', (∀ z, QRel U r P cf ops base none S o ⟨S'.tmps, ⟨S.c.h ++ fog z (S'.c.h.drop S.c.h.length), S'.c.nv, S'.c.pc⟩⟩) ∧ S'.c.h = S.c.h ++ S'.c.h.drop S.c.h.length ∧ Q r S' := by
  have dropE : ∀ {h t : SH}, (h ++ t).drop h.length = t := fun {h t} => by rw [List.drop_append_of_le_length (Nat.le_refl _), List.drop_length, List.nil_append]
  have fogNil : ∀ z, S.c.h ++ fog z (S.c.h.drop S.c.h.length) = S.c.h := fun z => by rw [List.drop_length]; cases z <;> simp [fog]
  unfold quietX at h
  split at h
  · rename_i hg
    obtain ⟨sv, c', pc', h1, h2, h4, h3⟩ := quietGo_rel hp h
    exact ⟨⟨putS S.tmps o.dst sv, ⟨S.c.h ++ c'.h.drop S.c.h.length, c'.nv, pc'⟩⟩, fun z => ⟨h2, h4, .inl ⟨.inl hg, rfl, z, S.c.pc, sv, c', hp, h1, rfl, by dsimp only; rw [dropE]⟩⟩, by dsimp only; rw [dropE], h3⟩
  · rename_i hg
    exact ⟨⟨putS S.tmps o.dst skipped, S.c⟩, fun z => ⟨Nat.le_refl _, hp, .inr (.inl ⟨.inl hg, rfl, rfl, fogNil z⟩)⟩, by dsimp only; rw [List.drop_length, List.append_nil], h⟩
  · rename_i e hg
    obtain ⟨pc, hp', h | h⟩ := sat_br hp h
    · obtain ⟨sv, c', pc', h1, h2, h4, h3⟩ := quietGo_rel (c := { S.c with pc := pc }) hp' h.2
      exact ⟨⟨putS S.tmps o.dst sv, ⟨S.c.h ++ c'.h.drop S.c.h.length, c'.nv, pc'⟩⟩, fun z => ⟨h2, h4, .inl ⟨.inr ⟨e, hg, h.1⟩, rfl, z, pc, sv, c', hp', h1, rfl, by dsimp only; rw [dropE]⟩⟩, by dsimp only; rw [dropE], h3⟩
    · exact ⟨⟨putS S.tmps o.dst skipped, { S.c with pc := pc }⟩, fun z => ⟨Nat.le_refl _, hp', .inr (.inl ⟨.inr ⟨e, hg, h.1⟩, rfl, rfl, fogNil z⟩)⟩, by dsimp only; rw [List.drop_length, List.append_nil], h.2⟩
  · exact h.elim

/-- The states of the walk. -/
theorem runQ_states {ops : Array Oper} {base : Nat} : ∀ {l : List Oper} {S : St} {Q : (Nat → D) → St → Prop}, PcOk U r S.c.pc → (runQ P cf ops l S).sat U Q r →
    ∃ st : Nat → St, st 0 = S ∧ (∀ i o, l[i]? = some o → QRel U r P cf ops base none (st i) o (st (i + 1))) ∧ Q r (st l.length) := by
  intro l
  induction l with
  | nil => intro S Q _ h; exact ⟨fun _ => S, rfl, fun i o ho => by simp at ho, h⟩
  | cons o l ih =>
    intro S Q hp h
    rw [runQ, Tree.sat_bind] at h
    obtain ⟨S', h0, he, h2⟩ := quietX_rel (base := base) hp h
    have h1 : QRel U r P cf ops base none S o S' := by
      have := h0 false
      have e2 : (⟨S'.tmps, ⟨S.c.h ++ fog false (S'.c.h.drop S.c.h.length), S'.c.nv, S'.c.pc⟩⟩ : St) = S' := by
        simp only [fog, cond_false]; rw [← he]
      rwa [e2] at this
    obtain ⟨st, k1, k2, k3⟩ := ih h1.pc h2
    refine ⟨fun i => match i with | 0 => S | i + 1 => st i, rfl, fun i p hi => ?_, k3⟩
    cases i with
    | zero => simp at hi; subst hi; show QRel U r P cf ops base none S o (st 0); rw [k1]; exact h1
    | succ i => exact k2 i p (by simpa using hi)

theorem lateGo_rel {ops : Array Oper} {o : Oper} {S : St} {base p id off : Nat} {Q : (Nat → D) → St × Option (Nat × SB) → Prop} (hp : PcOk U r S.c.pc) (hg : o.guard = none) (hd : o.dst = none) (ht : S.tmps.get p = .ptr id off)
    (h : (lateGo P cf ops base o S p id).sat U Q r) : ∃ x, QRel U r P cf ops base x.2 S o x.1 ∧ Q r x := by
  unfold lateGo at h
  split at h
  · rename_i b hb
    split at h
    · rename_i hc
      simp only [Bool.and_eq_true, List.all_eq_true] at hc
      obtain ⟨c1, c2, c3, c4, c5⟩ := hc
      rw [Tree.sat_bind] at h
      obtain ⟨x, l, hx, hl, hq⟩ := facts_plain (fun _ h => by cases h) h
      dsimp only at hq
      split at hq
      · rename_i b' hb'
        split at hq
        · rename_i hc'
          simp only [Bool.and_eq_true] at hc'
          obtain ⟨d1, d2, d3, d4, d5⟩ := hc'
          refine ⟨_, ⟨Nat.le_of_ble_eq_true d5, fun y hy => ?_, .inr (.inr ⟨hg, hd, rfl, rfl, id, b, b', p, off, S.c.pc, x.1, x.2, rfl, Nat.le_of_ble_eq_true c1, hb, c2, by simpa using c3, fun c hcm => ?_, d1, by simpa using d2, Nat.eq_of_beq_eq_true d3, by simpa using c5, ht, hp, hx, Nat.eq_of_beq_eq_true d4, hb'⟩)⟩, hq⟩
          · rcases List.mem_append.1 hy with hy | hy
            · exact hl y hy
            · exact hp y hy
          · have := c4 c hcm
            cases c <;> simp_all [isAny]
        · exact hq.elim
      · exact hq.elim
    · exact h.elim
  · exact h.elim

theorem lateX_rel {ops : Array Oper} {l : List Oper} {o : Oper} {S : St} {base : Nat} {Q : (Nat → D) → St × Option (Nat × SB) → Prop} (hp : PcOk U r S.c.pc)
    (h : (lateX P cf ops base l o S).sat U Q r) : ∃ x, QRel U r P cf ops base x.2 S o x.1 ∧ Q r x := by
  unfold lateX at h
  split at h
  · rename_i hg hd
    split at h
    · rename_i ht; exact lateGo_rel hp hg hd ht h
    · exact h.elim
  · rw [Tree.sat_bind] at h
    obtain ⟨S', h0, _, h2⟩ := quietX_rel (base := base) hp h
    exact ⟨_, h0 _, h2⟩

/-- The states of the walk, and what late stores leave. -/
theorem runL_states {ops : Array Oper} {base : Nat} {all : List Oper} : ∀ {l : List Oper} {S : St} {Q : (Nat → D) → St × List (Option (Nat × SB)) → Prop}, PcOk U r S.c.pc → (runL P cf ops base all l S).sat U Q r →
    ∃ (st : Nat → St) (ls : List (Option (Nat × SB))), st 0 = S ∧ (∀ i o, l[i]? = some o → QRel U r P cf ops base (ls.getD i none) (st i) o (st (i + 1))) ∧ ls.length = l.length ∧ Q r (st l.length, ls) := by
  intro l
  induction l with
  | nil => intro S Q _ h; exact ⟨fun _ => S, [], rfl, fun i o ho => by simp at ho, rfl, h⟩
  | cons o l ih =>
    intro S Q hp h
    rw [runL, Tree.sat_bind] at h
    obtain ⟨x, h1, h2⟩ := lateX_rel hp h
    rw [Tree.sat_bind] at h2
    obtain ⟨st, ls, k1, k2, k3, k4⟩ := ih h1.pc h2
    refine ⟨fun i => match i with | 0 => S | i + 1 => st i, x.2 :: ls, rfl, fun i p hi => ?_, by simp [k3], k4⟩
    cases i with
    | zero => simp at hi; subst hi; show QRel U r P cf ops base x.2 S o (st 0); rw [k1]; exact h1
    | succ i => exact k2 i p (by simpa using hi)

theorem sat_leaf {α : Type} {Q : (Nat → D) → α → Prop} : ∀ {t : Tree α} {a : α}, t.leaf? U r = some a → Q r a → t.sat U Q r := by
  intro t
  induction t with
  | ret b => intro a h hq; simp [Tree.leaf?] at h; subst h; exact hq
  | ite c t e iht ihe =>
    intro a h hq
    simp only [Tree.leaf?] at h
    simp only [Tree.sat]
    split at h
    · rename_i hc; rw [if_pos hc]; exact iht h hq
    · rename_i hc; rw [if_neg hc]; exact ihe h hq
  | all i t ih => intro a h; simp [Tree.leaf?] at h
  | asm c t ih => intro a h; simp [Tree.leaf?] at h
  | chk c t ih =>
    intro a h hq
    simp only [Tree.leaf?] at h
    split at h
    · rename_i hc; exact ⟨hc, ih h hq⟩
    · cases h
  | bad => intro a h; simp [Tree.leaf?] at h

end
end Go.Sx
