/-
  Sx, parts K, L, M, N.
-/
import Derived.Test.YtcloacigldklkaaDoorSxGb
import Derived.LoopN
import Derived.Scope
import Derived.Orders
/-
  Sx, part K: states; calls; statements whose order is told.
-/
namespace Go.Sx
open E (mk1 mk2 mkIte mk1_ev mk2_ev mkIte_ev)

/-- A frame's slots: how many; what has been put where, the newest first. -/
structure Tm where
  n : Nat
  l : List (Nat × SV)

def lkp (t : Nat) : List (Nat × SV) → SV
  | [] => .any
  | p :: l => bif Nat.beq p.1 t then p.2 else lkp t l

def Tm.get (T : Tm) (t : Nat) : SV := lkp t T.l

def Tm.put (T : Tm) (d : Nat) (s : SV) : Tm := bif Nat.blt d T.n then ⟨T.n, (d, s) :: T.l⟩ else T

theorem Tm.put_n (T : Tm) (d : Nat) (s : SV) : (T.put d s).n = T.n := by
  unfold Tm.put; cases Nat.blt d T.n <;> rfl

theorem Tm.get_put_ne (T : Tm) {d t : Nat} (s : SV) (h : d ≠ t) : (T.put d s).get t = T.get t := by
  unfold Tm.put
  cases Nat.blt d T.n with
  | false => rfl
  | true =>
    show lkp t ((d, s) :: T.l) = lkp t T.l
    have : Nat.beq d t = false := by
      cases hb : Nat.beq d t with
      | false => rfl
      | true => exact absurd (Nat.eq_of_beq_eq_true hb) h
    simp only [lkp, this, cond_false]

theorem Tm.get_put_self (T : Tm) {d : Nat} (s : SV) (h : d < T.n) : (T.put d s).get d = s := by
  unfold Tm.put
  have : Nat.blt d T.n = true := by rw [Nat.blt_eq]; exact h
  rw [this]
  show lkp d ((d, s) :: T.l) = s
  simp only [lkp, Nat.beq_refl, cond_true]

theorem Tm.get_put_out (T : Tm) {d : Nat} (s : SV) (h : ¬ d < T.n) : T.put d s = T := by
  unfold Tm.put
  have : Nat.blt d T.n = false := by
    cases hb : Nat.blt d T.n with
    | false => rfl
    | true => rw [Nat.blt_eq] at hb; exact absurd hb h
  rw [this]; rfl

/-- All slots bear variables below a number. -/
def Tm.under (m : Nat) (T : Tm) : Bool := T.l.all fun p => p.2.under m

theorem Tm.get_under {m : Nat} {T : Tm} (h : T.under m = true) (t : Nat) : (T.get t).under m = true := by
  unfold Tm.under at h
  unfold Tm.get
  generalize T.l = l at h
  induction l with
  | nil => rfl
  | cons p l ih =>
    simp only [List.all_cons, Bool.and_eq_true] at h
    simp only [lkp]
    cases Nat.beq p.1 t with
    | true => exact h.1
    | false => exact ih h.2

/-- A frame's slots, and what goes with the walk. -/
structure St where
  tmps : Tm
  c : Cx

def evS (tmps : Tm) : Operand → SV
  | .tmp t => tmps.get t
  | .const v => ofValue v
  | .global n => .con (.pointer (some ⟨n, 0, none⟩))
  | .func f => .fn (.func f) [] []

def putS (tmps : Tm) (dst : Option Tmp) (s : SV) : Tm :=
  match dst with
  | some d => tmps.put d s
  | none => tmps

section
variable (U : Nat → D → D) (r : Nat → D) (g : Gh) (L : Nat → Prop)
/-- The slots stand for the frame's. -/
structure Slots (tmps : Tm) (a : Act) : Prop where
  defers : a.defers = []
  size : a.tmps.size = tmps.n
  at_ : ∀ t, (tmps.get t).den U r g L (a.tmps.getD t undef)
end

section
variable {U : Nat → D → D} {L L' : Nat → Prop} {r r' : Nat → D} {g g' : Gh} {c : Cx} {w w' : World} {P : Program} {a : Act} {tmps : Tm}

theorem Slots.ev (h : Slots U r g L tmps a) (x : Operand) : (evS tmps x).den U r g L (a.eval x) := by
  cases x with
  | tmp t => exact h.at_ t
  | const v => exact ofValue_den v
  | global n => rfl
  | func f => exact ⟨#[], #[], rfl, by simp [SV.denL], by simp [SV.denL]⟩

theorem put_den {t d : Nat} {s : SV} {v : Value} (hsz : a.tmps.size = tmps.n) (hd : s.den U r g L v) (h : (tmps.get t).den U r g L (a.tmps.getD t undef)) : ((tmps.put d s).get t).den U r g L ((a.put (some d) v).tmps.getD t undef) := by
  simp only [Act.put]
  by_cases htd : d = t
  · subst htd
    by_cases hlt : d < tmps.n
    · have h2 : (a.tmps.setIfInBounds d v).getD d undef = v := by
        rw [Array.getD_eq_getD_getElem?, Array.getElem?_setIfInBounds_self_of_lt (by rw [hsz]; exact hlt)]; rfl
      rw [Tm.get_put_self _ _ hlt, h2]; exact hd
    · have h2 : a.tmps.setIfInBounds d v = a.tmps := Array.setIfInBounds_eq_of_size_le (by omega)
      rw [Tm.get_put_out _ _ hlt, h2]; exact h
  · have h2 : (a.tmps.setIfInBounds d v).getD t undef = a.tmps.getD t undef := by
      rw [Array.getD_eq_getD_getElem?, Array.getElem?_setIfInBounds_ne htd, Array.getD_eq_getD_getElem?]
    rw [Tm.get_put_ne _ _ htd, h2]; exact h

theorem Slots.put (h : Slots U r g L tmps a) (dst : Option Tmp) {s : SV} {v : Value} (hd : s.den U r g L v) : Slots U r g L (putS tmps dst s) (a.put dst v) := by
  cases dst with
  | none => exact h
  | some d => exact ⟨h.defers, by simp [Act.put, putS, Tm.put_n, h.size], fun t => put_den h.size hd (h.at_ t)⟩

theorem Slots.mono (h : Slots U r g L tmps a) (gl : GLe g L g' L') : Slots U r g' L' tmps a := ⟨h.defers, h.size, fun t => SV.den_mono gl (h.at_ t)⟩

theorem Slots.under {m : Nat} (h : Slots U r g L tmps a) (hr : ∀ n, n < m → r' n = r n) (hu : tmps.under m = true) : Slots U r' g L tmps a :=
  ⟨h.defers, h.size, fun t => SV.den_under hr (Tm.get_under hu t) (h.at_ t)⟩
end

/-! ### Calls -/

/-- What is asked of a call of function 'f'. -/
def CallGoal (P : Program) (f : FuncId) (vs : Array Value) (w : World) (K : Value → World → Prop) : Prop :=
  match (callFunc f vs).run P w with
  | .ok (.value v) w' => K v w'
  | .ok (.enter f args) w' => Calls P f args w' fun e w'' => ∃ v, e = .returned v ∧ K v w''
  | _ => False

/-- A run of calls on symbolic values that the model bears out. -/
def CallsOk (U : Nat → D → D) (P : Program) (cf : FuncId → List SV → Cx → Tree (SV × Cx)) : Prop :=
  ∀ (f : FuncId) (args : List SV) (c : Cx) (L : Nat → Prop) (r : Nat → D) (g : Gh) (w : World) (vs : Array Value) (K : Value → World → Prop),
    HeapDen U r g L c.h w → PcOk U r c.pc → SV.denL U r g L args vs.toList → (cf f args c).sat U (Post U L r g c w K) r → CallGoal P f vs w K

/-- One operation. -/
def opTree0 (P : Program) (cf : FuncId → List SV → Cx → Tree (SV × Cx)) (c : Cx) (ev : Operand → SV) (op : Op) : Tree (SV × Cx) :=
  match op with
  | .call cl =>
    match cl.callee with
    | .value f =>
      match ev f with
      | .fn (.func fid) xs ys => cf fid (xs ++ cl.args.toList.map ev ++ ys) c
      | _ => .bad
    | _ => opx P c ev op
  | op => opx P c ev op

/-- One operation, its result under names. -/
def opTree (P : Program) (cf : FuncId → List SV → Cx → Tree (SV × Cx)) (c : Cx) (ev : Operand → SV) (op : Op) : Tree (SV × Cx) := (opTree0 P cf c ev op).bind nameRes

section
variable {U : Nat → D → D} {L : Nat → Prop} {r : Nat → D} {g : Gh} {c : Cx} {w : World} {P : Program} {K : Value → World → Prop} {cf : FuncId → List SV → Cx → Tree (SV × Cx)}

theorem opTree0_ok (hcf : CallsOk U P cf) {o : Oper} {a : Act} {ev : Operand → SV} (hh : HeapDen U r g L c.h w) (hp : PcOk U r c.pc) (hev : ∀ x, (ev x).den U r g L (a.eval x))
    (h : (opTree0 P cf c ev o.op).sat U (Post U L r g c w K) r) : OpGoal P o a w K := by
  unfold opTree0 at h
  split at h
  · rename_i cl hop
    split at h
    · rename_i f hcal
      split at h
      · rename_i fid xs ys hf
        have hv := hev f
        rw [hf] at hv
        simp only [SV.den] at hv
        obtain ⟨p, q, hv, hx, hy⟩ := hv
        have hd : SV.denL U r g L (xs ++ cl.args.toList.map ev ++ ys) (p ++ cl.args.map a.eval ++ q).toList := by
          have := SV.denL_append U r g L (SV.denL_append U r g L hx (denL_map_ev hev cl.args.toList)) hy
          simpa using this
        have hc := hcf fid _ c L r g w _ K hh hp hd h
        have he : execOp a.eval o = callFunc fid (p ++ cl.args.map a.eval ++ q) := by
          obtain ⟨dst, op, type, pos, after, guard⟩ := o
          obtain ⟨callee, args, argTypes⟩ := cl
          obtain rfl : op = .call ⟨callee, args, argTypes⟩ := hop
          obtain rfl : callee = .value f := hcal
          simp only [execOp, resolve, hv, Deferred.ofValue, pure_bind, invoke, Array.append_assoc]
        unfold OpGoal
        rw [he]
        unfold CallGoal at hc
        generalize (callFunc fid (p ++ cl.args.map a.eval ++ q)).run P w = res at hc
        cases res with
        | ok n w' => cases n <;> first | exact hc | exact hc.elim
        | halt x w' => exact hc.elim
      · exact h.elim
    · rw [hop] at h; exact opx_ok hh hp hev (by rw [hop]; exact h)
  · exact opx_ok hh hp hev h

theorem opTree_ok (hcf : CallsOk U P cf) {o : Oper} {a : Act} {ev : Operand → SV} (hh : HeapDen U r g L c.h w) (hp : PcOk U r c.pc) (hev : ∀ x, (ev x).den U r g L (a.eval x))
    (h : (opTree P cf c ev o.op).sat U (Post U L r g c w K) r) : OpGoal P o a w K := by
  unfold opTree at h
  rw [Tree.sat_bind] at h
  exact opTree0_ok hcf hh hp hev (Tree.sat_mono (fun _ _ hx => nameRes_ok hx) h)

/-! ### A row of operations, one after another -/

/-- What an operation leaves where it is not carried out. -/
def skipped : SV := .con undef

/-- The truth of a guard: 'none' where nothing is known; 'some (.inl b)': told; 'some (.inr e)': an expression's. -/
inductive Grd where
  | told (b : Bool)
  | asks (e : E)
  | dark

def guardS (ops : Array Oper) (tmps : Tm) (o : Oper) : Grd :=
  match o.guard with
  | none => .told true
  | some (j, want) =>
    match (ops[j]?).bind (·.dst) with
    | none => .told false
    | some d =>
      match tmps.get d with
      | .bool e => .asks (if want then e else mk1 .not e)
      | .con (.tuple _) => .told false
      | _ => .dark

theorem guardS_ok {ops : Array Oper} {tmps : Tm} {a : Act} {o : Oper} (hat : ∀ t, t ∈ o.looksAt ops → (tmps.get t).den U r g L (a.tmps.getD t undef)) :
    (∀ b, guardS ops tmps o = .told b → Region.wanted o (yielded ops a.tmps) = b) ∧ (∀ e, guardS ops tmps o = .asks e → Region.wanted o (yielded ops a.tmps) = (e.ev U r).toB) := by
  unfold guardS Region.wanted
  cases hg : o.guard with
  | none => exact ⟨fun b h => (by cases h; rfl), fun e h => (by cases h)⟩
  | some jw =>
    obtain ⟨j, want⟩ := jw
    unfold yielded
    dsimp only
    cases hd : (ops[j]?).bind (·.dst) with
    | none => exact ⟨fun b h => (by cases h; rfl), fun e h => (by cases h)⟩
    | some d =>
      simp only [Option.bind_some]
      have hm : d ∈ o.looksAt ops := by unfold Oper.looksAt; rw [hg]; simp [hd]
      have hat := hat d hm
      rw [Array.getD_eq_getD_getElem?] at hat
      cases hs : tmps.get d with
      | bool e =>
        refine ⟨fun b h => (by cases h), fun e' h => ?_⟩
        rw [hs] at hat
        simp only [SV.den] at hat
        have hget : a.tmps[d]? = some (.bool (e.ev U r).toB) := by
          cases hx : a.tmps[d]? with
          | none => rw [hx] at hat; cases hat
          | some v => rw [hx] at hat; exact congrArg some hat
        rw [hget]
        simp only [Grd.asks.injEq] at h
        subst h
        cases want
        · simp only [Bool.false_eq_true, if_false, mk1_ev, O1.ev, D.toB_b]
          cases (e.ev U r).toB <;> rfl
        · simp only [if_true]
          cases (e.ev U r).toB <;> rfl
      | con v =>
        rw [hs] at hat
        simp only [SV.den] at hat
        cases v <;> refine ⟨fun b h => ?_, fun e' h => (by cases h)⟩ <;> cases h
        cases hx : a.tmps[d]? with
        | none => rfl
        | some v => rw [hx] at hat; rw [show v = _ from hat]; rfl
      | _ => exact ⟨fun b h => (by cases h), fun e h => (by cases h)⟩

/-- Behind an operation: the slot is filled. -/
def afterOp (S : St) (o : Oper) (x : SV × Cx) : Tree St := .ret ⟨putS S.tmps o.dst x.1, x.2⟩

def stepX (P : Program) (cf : FuncId → List SV → Cx → Tree (SV × Cx)) (ops : Array Oper) (o : Oper) (S : St) : Tree St :=
  match guardS ops S.tmps o with
  | .told true => (opTree P cf S.c (evS S.tmps) o.op).bind (afterOp S o)
  | .told false => .ret ⟨putS S.tmps o.dst skipped, S.c⟩
  | .asks e => br S.c e (fun c => (opTree P cf c (evS S.tmps) o.op).bind (afterOp ⟨S.tmps, c⟩ o)) (fun c => .ret ⟨putS S.tmps o.dst skipped, c⟩)
  | .dark => .bad

def runOps (P : Program) (cf : FuncId → List SV → Cx → Tree (SV × Cx)) (ops : Array Oper) : List Oper → St → Tree St
  | [], S => .ret S
  | o :: rest, S => (stepX P cf ops o S).bind (runOps P cf ops rest)

/-- The leaf of a walk: in whatever frame and world. -/
def SPost (U : Nat → D → D) (L : Nat → Prop) (r : Nat → D) (g : Gh) (c : Cx) (w : World) (Q : Act → World → Prop) (r' : Nat → D) (S' : St) : Prop :=
  ∀ g' a' w', Ext U L r g c w r' g' S'.c w' → Slots U r' g' (Lx L c.h S'.c.h) S'.tmps a' → Q a' w'

/-- One operation's wp. -/
theorem wp_of_goal {o : Oper} {a : Act} {K : Act → World → Prop} {Q : Exit → Act → World → Prop} (h : OpGoal P o a w fun v w' => K (a.put o.dst v) w') : o.wp P a w K Q := by
  unfold OpGoal at h
  unfold Oper.wp
  generalize (execOp a.eval o).run P w = res at h
  cases res with
  | ok n w' =>
    cases n <;> simp only [Oper.upon] <;> simp only at h <;> first
      | exact h
      | exact h.elim
      | (exact Calls.mono h fun e w'' ⟨v, he, hk⟩ => by subst he; exact hk)
  | halt x w' => exact h.elim

theorem Ext.pcs {r' : Nat → D} {g' : Gh} {c' : Cx} {pc : List (E × Bool)} {w' : World} (e : Ext U L r g { c with pc := pc } w r' g' c' w') : Ext U L r g c w r' g' c' w' :=
  ⟨e.nv, e.agr, e.len, e.ga, e.go, e.heap, e.pc, e.frm, e.wrs, e.fresh⟩

theorem stepX_ok (hcf : CallsOk U P cf) {ops : Array Oper} {o : Oper} {S : St} {a : Act} {K : Act → World → Prop} {Q : Exit → Act → World → Prop} (hh : HeapDen U r g L S.c.h w) (hp : PcOk U r S.c.pc) (hs : Slots U r g L S.tmps a)
    (h : (stepX P cf ops o S).sat U (SPost U L r g S.c w K) r) : if Region.wanted o (yielded ops a.tmps) then o.wp P a w K Q else K (a.put o.dst undef) w := by
  obtain ⟨k1, k2⟩ := guardS_ok (ops := ops) (o := o) (fun t _ => hs.at_ t)
  have run : ∀ {c : Cx} (_ : c.h = S.c.h) (_ : c.nv = S.c.nv), PcOk U r c.pc → ((opTree P cf c (evS S.tmps) o.op).bind (afterOp ⟨S.tmps, c⟩ o)).sat U (SPost U L r g S.c w K) r → o.wp P a w K Q := by
    intro c hc hnv hpc hsat
    rw [Tree.sat_bind] at hsat
    refine wp_of_goal (opTree_ok hcf (c := c) (by rw [hc]; exact hh) hpc hs.ev (Tree.sat_mono ?_ hsat))
    intro r' x hx g' v w' he hd
    unfold afterOp at hx
    have he' : Ext U L r g S.c w r' g' x.2 w' := by
      refine ⟨by rw [← hnv]; exact he.nv, he.agr, by rw [← hc]; exact he.len, by rw [← hc]; exact he.ga, by rw [← hc]; exact he.go, by rw [← hc]; exact he.heap, he.pc, by rw [← hc]; exact he.frm, by rw [← hc]; exact he.wrs, by rw [← hc]; exact he.fresh⟩
    have hrr : r' = r := funext he.agr
    refine hx g' (a.put o.dst v) w' he' ?_
    have hsl : Slots U r' g' (Lx L S.c.h x.2.h) S.tmps a := by
      rw [hrr]; exact hs.mono (he'.gle hh.bnd)
    refine hsl.put _ ?_
    rw [← hc]; exact hd
  unfold stepX at h
  split at h
  · rename_i hg
    rw [k1 _ hg]
    simp only [if_true]
    exact run (c := S.c) rfl rfl hp h
  · rename_i hg
    rw [k1 _ hg]
    simp only [Bool.false_eq_true, if_false]
    exact h g _ w (Ext.refl hh hp) (by rw [Lx_self]; exact hs.put _ rfl)
  · rename_i e hg
    rw [k2 _ hg]
    obtain ⟨pc, hp', h | h⟩ := sat_br hp h
    · rw [if_pos h.1]
      exact run (c := { S.c with pc := pc }) rfl rfl hp' h.2
    · rw [if_neg (by simp [h.1])]
      exact h.2 g _ w (ext_same hh hp' (Same.refl w)) (by show Slots U r g (Lx L S.c.h S.c.h) _ _; rw [Lx_self]; exact hs.put _ rfl)
  · exact h.elim
end
end Go.Sx

/-
  Sx, part L: statements whose order is open: one walk in the order of the text serves every order.
-/
namespace Go.Sx
open E (mk1 mk2 mkIte mk1_ev mk2_ev mkIte_ev)

/-! ### The looks over a region -/

/-- A set of numbers as one number. -/
def maskOf : List Nat → Nat
  | [] => 0
  | t :: l => maskOf l ||| 2 ^ t

theorem maskOf_test {l : List Nat} {t : Nat} : (maskOf l).testBit t = true ↔ t ∈ l := by
  induction l with
  | nil => simp [maskOf]
  | cons x l ih =>
    simp only [maskOf, Nat.testBit_or, Bool.or_eq_true, ih, Nat.testBit_two_pow, decide_eq_true_eq, List.mem_cons]
    constructor
    · rintro (h | h)
      · exact .inr h
      · exact .inl h.symm
    · rintro (h | h)
      · exact .inr h.symm
      · exact .inl h

/-- The operations for which it waits. -/
def waitList (es : List Edge) : List Nat := (es.filter (Region.binds .any)).map (·.on)

def waitsOn (o : Oper) (j : Nat) : Bool := (maskOf (waitList o.after.toList)).testBit j

/-- It waits for all that stand before it. -/
def lastOf (l : List Oper) (k : Nat) : Bool :=
  match l[k]? with
  | some o => maskOf (waitList o.after.toList) &&& (2 ^ k - 1) == 2 ^ k - 1
  | none => false

theorem lastOf_waits {l : List Oper} {k j : Nat} {o : Oper} (ho : l[k]? = some o) (h : lastOf l k = true) (hj : j < k) : waitsOn o j = true := by
  unfold lastOf at h
  rw [ho] at h
  have h : maskOf (waitList o.after.toList) &&& (2 ^ k - 1) = 2 ^ k - 1 := by simpa using h
  have h1 := congrArg (fun m => m.testBit j) h
  simp only [Nat.testBit_and, Nat.testBit_two_pow_sub_one, hj, decide_true, Bool.and_true] at h1
  exact h1

def headGo (l : List Oper) : Nat → Nat
  | 0 => 0
  | k + 1 => if lastOf l k then headGo l k else k + 1

/-- How many stand before the row that is in order. -/
def headLen (l : List Oper) : Nat := headGo l l.length

theorem headGo_le (l : List Oper) : ∀ k, headGo l k ≤ k
  | 0 => Nat.le_refl _
  | k + 1 => by unfold headGo; split; · have := headGo_le l k; omega
                · omega

theorem headGo_last (l : List Oper) : ∀ k j, headGo l k ≤ j → j < k → lastOf l j = true
  | 0, j, _, h => by omega
  | k + 1, j, h1, h2 => by
    unfold headGo at h1
    split at h1
    · rename_i hl
      by_cases hj : j = k
      · subst hj; exact hl
      · exact headGo_last l k j h1 (by omega)
    · omega

def dstList (l : List Oper) : List Nat := l.filterMap (·.dst)

/-- No two of them fill one slot. -/
def ownSlots : List Oper → Nat → Bool
  | [], _ => true
  | o :: l, m =>
    match o.dst with
    | some t => !m.testBit t && ownSlots l (m ||| 2 ^ t)
    | none => ownSlots l m

/-- The slots filled by those for which it waits. -/
def waitSlots (l : List Oper) (es : List Edge) (i : Nat) : List Nat := (waitList es).filterMap fun j => if j < i then (l[j]?).bind (·.dst) else none

/-- An operation of the head: what it looks at is made by those for which it waits. -/
def headOk (l : List Oper) (ops : Array Oper) (m i : Nat) : Bool :=
  match l[i]? with
  | some o => (maskOf (o.looksAt ops) &&& m) &&& maskOf (waitSlots l o.after.toList i) == maskOf (o.looksAt ops) &&& m
  | none => false

/-- Its edges point back. -/
def backOk (l : List Oper) (i : Nat) : Bool :=
  match l[i]? with
  | some o => decide (maskOf (waitList o.after.toList) < 2 ^ i)
  | none => false

theorem backOk_lt {l : List Oper} {i : Nat} {o : Oper} (ho : l[i]? = some o) (h : backOk l i = true) {e : Edge} (he : e ∈ o.after) (hb : Region.binds .any e = true) : e.on < i := by
  unfold backOk at h
  rw [ho] at h
  have h : maskOf (waitList o.after.toList) < 2 ^ i := by simpa using h
  have hm : e.on ∈ waitList o.after.toList := by
    unfold waitList
    exact List.mem_map.2 ⟨e, List.mem_filter.2 ⟨by simpa using he, hb⟩, rfl⟩
  have ht := maskOf_test.2 hm
  rcases Nat.lt_or_ge e.on i with hlt | hge
  · exact hlt
  · have : 2 ^ i ≤ 2 ^ e.on := Nat.pow_le_pow_right (by omega) hge
    have hlt : maskOf (waitList o.after.toList) < 2 ^ e.on := by omega
    rw [Nat.testBit_lt_two_pow hlt] at ht; cases ht

theorem ownSlots_ok : ∀ {l : List Oper} {m : Nat}, ownSlots l m = true → (∀ (j : Nat) (p : Oper) (t : Tmp), l[j]? = some p → p.dst = some t → m.testBit t = false) ∧
    ∀ (i j : Nat) (o p : Oper) (t : Tmp), l[i]? = some o → l[j]? = some p → o.dst = some t → p.dst = some t → i = j := by
  intro l
  induction l with
  | nil => intro m _; exact ⟨fun j p t h => by simp at h, fun i j o p t h => by simp at h⟩
  | cons x l ih =>
    intro m h
    unfold ownSlots at h
    cases hx : x.dst with
    | none =>
      rw [hx] at h
      obtain ⟨h1, h2⟩ := ih h
      refine ⟨fun j p t hj hd => ?_, fun i j o p t hi hj hd hd' => ?_⟩
      · cases j with
        | zero => simp at hj; subst hj; rw [hx] at hd; cases hd
        | succ j => exact h1 j p t (by simpa using hj) hd
      · cases i with
        | zero => simp at hi; subst hi; rw [hx] at hd; cases hd
        | succ i => cases j with
          | zero => simp at hj; subst hj; rw [hx] at hd'; cases hd'
          | succ j => have := h2 i j o p t (by simpa using hi) (by simpa using hj) hd hd'; omega
    | some s =>
      rw [hx] at h
      simp only [Bool.and_eq_true, Bool.not_eq_true'] at h
      obtain ⟨h0, h⟩ := h
      obtain ⟨h1, h2⟩ := ih h
      have h1' : ∀ (j : Nat) (p : Oper) (t : Tmp), l[j]? = some p → p.dst = some t → m.testBit t = false ∧ t ≠ s := by
        intro j p t hj hd
        have := h1 j p t hj hd
        rw [Nat.testBit_or, Bool.or_eq_false_iff, Nat.testBit_two_pow] at this
        refine ⟨this.1, fun e => ?_⟩
        subst e; simp at this
      refine ⟨fun j p t hj hd => ?_, fun i j o p t hi hj hd hd' => ?_⟩
      · cases j with
        | zero => simp at hj; subst hj; rw [hx] at hd; cases hd; exact h0
        | succ j => exact (h1' j p t (by simpa using hj) hd).1
      · cases i with
        | zero =>
          simp at hi; subst hi; rw [hx] at hd; cases hd
          cases j with
          | zero => rfl
          | succ j => exact absurd rfl (h1' j p _ (by simpa using hj) hd').2
        | succ i => cases j with
          | zero =>
            simp at hj; subst hj; rw [hx] at hd'; cases hd'
            exact absurd rfl (h1' i o _ (by simpa using hi) hd).2
          | succ j => have := h2 i j o p t (by simpa using hi) (by simpa using hj) hd hd'; omega

def regionOk (l : List Oper) (ops : Array Oper) (n : Nat) : Bool :=
  (List.range l.length).all (backOk l) && (ownSlots (l.take n) 0 && (List.range n).all (headOk l ops (maskOf (dstList (l.take n)))))

/-! ### One operation of the head -/

def lockB : Option SB → Option SB
  | some b => some { b with wr := false }
  | none => none
def lockH (h : SH) : SH := h.map lockB

/-- Of the slots only those that are looked at. -/
def evM (looks : List Tmp) (tmps : Tm) : Operand → SV
  | .tmp t => if (maskOf looks).testBit t then tmps.get t else .any
  | x => evS tmps x

/-- What was there, and what is new. -/
def glue (h h' : SH) : SH := if h'.length = h.length then h else h ++ h'.drop h.length

theorem glue_eq (h h' : SH) : glue h h' = h ++ h'.drop h.length := by
  unfold glue
  split
  · rename_i e; rw [← e, List.drop_length, List.append_nil]
  · rfl

/-- A tree with the names that are given on the way. -/
def facts {α : Type} : Tree α → List (E × Bool) → Tree (α × List (E × Bool))
  | .ret x, l => .ret (x, l)
  | .ite c t e, l => .ite c (facts t l) (facts e l)
  | .chk c t, l => .chk c (facts t ((c, true) :: l))
  | _, _ => .bad

theorem facts_plain {α : Type} {U : Nat → D → D} {r : Nat → D} {Q : (Nat → D) → α × List (E × Bool) → Prop} : ∀ {t : Tree α} {l : List (E × Bool)}, PcOk U r l → (facts t l).sat U Q r →
    ∃ a l', t.leaf? U r = some a ∧ PcOk U r l' ∧ Q r (a, l') := by
  intro t
  induction t with
  | ret b => intro l hl h; exact ⟨b, l, rfl, hl, h⟩
  | ite c t e iht ihe =>
    intro l hl h
    simp only [facts, Tree.sat] at h
    simp only [Tree.leaf?]
    split at h
    · rename_i hc; rw [if_pos hc]; exact iht hl h
    · rename_i hc; rw [if_neg hc]; exact ihe hl h
  | all i t ih => intro l _ h; exact h.elim
  | asm c t ih => intro l _ h; exact h.elim
  | chk c t ih =>
    intro l hl h
    simp only [facts, Tree.sat] at h
    simp only [Tree.leaf?]
    rw [if_pos h.1]
    exact ih (fun y hy => by
      rcases List.mem_cons.1 hy with rfl | hy
      · exact h.1
      · exact hl y hy) h.2
  | bad => intro l _ h; exact h.elim

/-- The truths that a step has told, but for names. -/
def noName (p : E × Bool) : Bool := match p.1 with
  | .o2 .fsame (.v _) _ => false
  | _ => true
def newPc (old new : List (E × Bool)) : List (E × Bool) := (new.take (new.length - old.length)).filter noName
theorem newPc_sub {old new : List (E × Bool)} : ∀ x ∈ newPc old new, x ∈ new := fun _ h => List.mem_of_mem_take (List.mem_filter.1 h).1

def quietGo (P : Program) (cf : FuncId → List SV → Cx → Tree (SV × Cx)) (ops : Array Oper) (o : Oper) (tmps : Tm) (c : Cx) : Tree (St × List (E × Bool)) :=
  let t := opTree P cf { c with h := lockH c.h } (evM (o.looksAt ops) tmps) o.op
  (facts t []).bind fun x => if c.nv ≤ x.1.2.nv then .ret (⟨putS tmps o.dst x.1.1, ⟨glue c.h x.1.2.h, x.1.2.nv, x.2 ++ c.pc⟩⟩, newPc c.pc x.1.2.pc) else .bad

def quietX (P : Program) (cf : FuncId → List SV → Cx → Tree (SV × Cx)) (ops : Array Oper) (o : Oper) (S : St) : Tree (St × List (E × Bool)) :=
  match guardS ops S.tmps o with
  | .told true => quietGo P cf ops o S.tmps S.c
  | .told false => .ret (⟨putS S.tmps o.dst skipped, S.c⟩, [])
  | .asks e => br S.c e (quietGo P cf ops o S.tmps) (fun c => .ret (⟨putS S.tmps o.dst skipped, c⟩, []))
  | .dark => .bad

def runQ (P : Program) (cf : FuncId → List SV → Cx → Tree (SV × Cx)) (ops : Array Oper) : List Oper → St → Tree (St × List (E × Bool))
  | [], S => .ret (S, [])
  | o :: rest, S => (quietX P cf ops o S).bind fun x => (runQ P cf ops rest x.1).bind fun y => .ret (y.1, x.2 ++ y.2)
/-- A state, and what its steps have told. -/
def withPc (S : St) (l : List (E × Bool)) : St := ⟨S.tmps, { S.c with pc := l ++ S.c.pc }⟩

def fogB : Option SB → Option SB
  | some b => some ⟨b.wr, b.cs.map fun _ => .any, none⟩
  | none => none
/-- New places of which nothing is known. -/
def fog (z : Bool) (h : SH) : SH := bif z then h.map fogB else h

theorem fog_length (z : Bool) (h : SH) : (fog z h).length = h.length := by cases z <;> simp [fog]

/-- Only one place may be written. -/
def onlyH (id : Nat) (b : SB) (h : SH) : SH := (lockH h).set id (some b)

def isAny : SV → Bool
  | .any => true
  | _ => false

/-- A place that a later store of the statement fills. -/
def fills (l : List Oper) (o : Oper) : Bool := match o.op, o.dst with
  | .alloc _, some d => l.any fun p => match p.op with
    | .store _ (.tmp t) _ => Nat.beq t d
    | _ => false
  | _, _ => false

def lateGo (P : Program) (cf : FuncId → List SV → Cx → Tree (SV × Cx)) (ops : Array Oper) (_base : Nat) (o : Oper) (S : St) (p id : Nat) : Tree (St × Option (Nat × SB) × List (E × Bool)) :=
  match S.c.h[id]? with
  | some (some b) =>
    if b.wr && (b.row.isNone && (b.cs.all isAny && (o.looksAt ops).contains p)) then
      (facts (opTree P cf { S.c with h := onlyH id b S.c.h } (evM (o.looksAt ops) S.tmps) o.op) []).bind fun x => match x.1.2.h[id]? with
        | some (some b') => if b'.wr && (b'.row.isNone && (Nat.beq b'.cs.length b.cs.length && (Nat.beq x.1.2.h.length S.c.h.length && Nat.ble S.c.nv x.1.2.nv))) then .ret (⟨S.tmps, ⟨S.c.h, x.1.2.nv, x.2 ++ S.c.pc⟩⟩, some (id, b'), []) else .bad
        | _ => .bad
    else .bad
  | _ => .bad

def lateX (P : Program) (cf : FuncId → List SV → Cx → Tree (SV × Cx)) (ops : Array Oper) (base : Nat) (l : List Oper) (o : Oper) (S : St) : Tree (St × Option (Nat × SB) × List (E × Bool)) :=
  match o.op, o.guard, o.dst with
  | .store _ (.tmp p) _, none, none => (match S.tmps.get p with
    | .ptr id _ => lateGo P cf ops base o S p id
    | _ => .bad)
  | _, _, _ => (quietX P cf ops o S).bind fun x => .ret (⟨x.1.tmps, ⟨S.c.h ++ fog (fills l o) (x.1.c.h.drop S.c.h.length), x.1.c.nv, x.1.c.pc⟩⟩, none, x.2)

def runL (P : Program) (cf : FuncId → List SV → Cx → Tree (SV × Cx)) (ops : Array Oper) (base : Nat) (all : List Oper) : List Oper → St → Tree (St × List (Option (Nat × SB)) × List (E × Bool))
  | [], S => .ret (S, [], [])
  | o :: rest, S => (lateX P cf ops base all o S).bind fun x => (runL P cf ops base all rest x.1).bind fun y => .ret (y.1, x.2.1 :: y.2.1, x.2.2 ++ y.2.2)

section
variable {U : Nat → D → D} {L : Nat → Prop} {r : Nat → D} {g : Gh} {w : World} {P : Program} {cf : FuncId → List SV → Cx → Tree (SV × Cx)}

/-- What the walk in the order of the text has shown of an operation. A store into a place of which nothing is known is late: what it leaves is told apart. -/
structure QRel (U : Nat → D → D) (r : Nat → D) (P : Program) (cf : FuncId → List SV → Cx → Tree (SV × Cx)) (ops : Array Oper) (base : Nat) (late : Option (Nat × SB)) (S : St) (o : Oper) (S' : St) (px : List (E × Bool)) : Prop where
  nv : S.c.nv ≤ S'.c.nv
  pc : PcOk U r S'.c.pc
  run : ((guardS ops S.tmps o = .told true ∨ ∃ e, guardS ops S.tmps o = .asks e ∧ (e.ev U r).toB = true) ∧ late = none ∧
      ∃ z pc sv c', (∀ x ∈ px, x ∈ c'.pc) ∧ PcOk U r pc ∧ (opTree P cf ⟨lockH S.c.h, S.c.nv, pc⟩ (evM (o.looksAt ops) S.tmps) o.op).leaf? U r = some (sv, c') ∧ S'.tmps = putS S.tmps o.dst sv ∧ S'.c.h = S.c.h ++ fog z (c'.h.drop S.c.h.length)) ∨
    ((guardS ops S.tmps o = .told false ∨ ∃ e, guardS ops S.tmps o = .asks e ∧ (e.ev U r).toB = false) ∧ late = none ∧ px = [] ∧ S'.tmps = putS S.tmps o.dst skipped ∧ S'.c.h = S.c.h) ∨
    (px = [] ∧ o.guard = none ∧ o.dst = none ∧ S'.tmps = S.tmps ∧ S'.c.h = S.c.h ∧ ∃ id b b' p off pc sv c', late = some (id, b') ∧ S.c.h[id]? = some (some b) ∧ b.wr = true ∧ b.row = none ∧ (∀ c ∈ b.cs, c = .any) ∧
      b'.wr = true ∧ b'.row = none ∧ b'.cs.length = b.cs.length ∧ p ∈ o.looksAt ops ∧ S.tmps.get p = .ptr id off ∧ PcOk U r pc ∧
      (opTree P cf ⟨onlyH id b S.c.h, S.c.nv, pc⟩ (evM (o.looksAt ops) S.tmps) o.op).leaf? U r = some (sv, c') ∧ c'.h.length = S.c.h.length ∧ c'.h[id]? = some (some b'))

theorem quietGo_rel {ops : Array Oper} {o : Oper} {tmps : Tm} {c : Cx} {Q : (Nat → D) → St × List (E × Bool) → Prop} (hp : PcOk U r c.pc) (h : (quietGo P cf ops o tmps c).sat U Q r) :
    ∃ sv c' pc', (opTree P cf ⟨lockH c.h, c.nv, c.pc⟩ (evM (o.looksAt ops) tmps) o.op).leaf? U r = some (sv, c') ∧ c.nv ≤ c'.nv ∧ PcOk U r pc' ∧ Q r (⟨putS tmps o.dst sv, ⟨c.h ++ c'.h.drop c.h.length, c'.nv, pc'⟩⟩, newPc c.pc c'.pc) := by
  unfold quietGo at h
  dsimp only at h
  rw [Tree.sat_bind] at h
  obtain ⟨x, l, hx, hl, hq⟩ := facts_plain (fun _ h => by cases h) h
  split at hq
  · rename_i hn
    rw [glue_eq] at hq
    exact ⟨x.1, x.2, l ++ c.pc, hx, hn, fun y hy => by
      rcases List.mem_append.1 hy with hy | hy
      · exact hl y hy
      · exact hp y hy, hq⟩
  · exact hq.elim

theorem quietX_rel {ops : Array Oper} {o : Oper} {S : St} {Q : (Nat → D) → St × List (E × Bool) → Prop} {base : Nat} (hp : PcOk U r S.c.pc) (h : (quietX P cf ops o S).sat U Q r) : ∃ x : St × List (E × Bool), (∀ z, QRel U r P cf ops base none S o ⟨x.1.tmps, ⟨S.c.h ++ fog z (x.1.c.h.drop S.c.h.length), x.1.c.nv, x.1.c.pc⟩⟩ x.2) ∧ x.1.c.h = S.c.h ++ x.1.c.h.drop S.c.h.length ∧ Q r x := by
  have dropE : ∀ {h t : SH}, (h ++ t).drop h.length = t := fun {h t} => by rw [List.drop_append_of_le_length (Nat.le_refl _), List.drop_length, List.nil_append]
  have fogNil : ∀ z, S.c.h ++ fog z (S.c.h.drop S.c.h.length) = S.c.h := fun z => by rw [List.drop_length]; cases z <;> simp [fog]
  unfold quietX at h
  split at h
  · rename_i hg
    obtain ⟨sv, c', pc', h1, h2, h4, h3⟩ := quietGo_rel hp h
    exact ⟨(⟨putS S.tmps o.dst sv, ⟨S.c.h ++ c'.h.drop S.c.h.length, c'.nv, pc'⟩⟩, newPc S.c.pc c'.pc), fun z => ⟨h2, h4, .inl ⟨.inl hg, rfl, z, S.c.pc, sv, c', newPc_sub, hp, h1, rfl, by dsimp only; rw [dropE]⟩⟩, by dsimp only; rw [dropE], h3⟩
  · rename_i hg
    exact ⟨(⟨putS S.tmps o.dst skipped, S.c⟩, []), fun z => ⟨Nat.le_refl _, hp, .inr (.inl ⟨.inl hg, rfl, rfl, rfl, fogNil z⟩)⟩, by dsimp only; rw [List.drop_length, List.append_nil], h⟩
  · rename_i e hg
    obtain ⟨pc, hp', h | h⟩ := sat_br hp h
    · obtain ⟨sv, c', pc', h1, h2, h4, h3⟩ := quietGo_rel (c := { S.c with pc := pc }) hp' h.2
      exact ⟨(⟨putS S.tmps o.dst sv, ⟨S.c.h ++ c'.h.drop S.c.h.length, c'.nv, pc'⟩⟩, newPc pc c'.pc), fun z => ⟨h2, h4, .inl ⟨.inr ⟨e, hg, h.1⟩, rfl, z, pc, sv, c', newPc_sub, hp', h1, rfl, by dsimp only; rw [dropE]⟩⟩, by dsimp only; rw [dropE], h3⟩
    · exact ⟨(⟨putS S.tmps o.dst skipped, { S.c with pc := pc }⟩, []), fun z => ⟨Nat.le_refl _, hp', .inr (.inl ⟨.inr ⟨e, hg, h.1⟩, rfl, rfl, rfl, fogNil z⟩)⟩, by dsimp only; rw [List.drop_length, List.append_nil], h.2⟩
  · exact h.elim

/-- The states of the walk, and what each step has told. -/
theorem runQ_states {ops : Array Oper} {base : Nat} : ∀ {l : List Oper} {S : St} {Q : (Nat → D) → St × List (E × Bool) → Prop}, PcOk U r S.c.pc → (runQ P cf ops l S).sat U Q r →
    ∃ (st : Nat → St) (ps : List (List (E × Bool))), st 0 = S ∧ (∀ i o, l[i]? = some o → QRel U r P cf ops base none (st i) o (st (i + 1)) (ps.getD i [])) ∧ ps.length = l.length ∧ Q r (st l.length, ps.flatten) := by
  intro l
  induction l with
  | nil => intro S Q _ h; exact ⟨fun _ => S, [], rfl, fun i o ho => by simp at ho, rfl, h⟩
  | cons o l ih =>
    intro S Q hp h
    rw [runQ, Tree.sat_bind] at h
    obtain ⟨x, h0, he, h2⟩ := quietX_rel (base := base) hp h
    obtain ⟨S', px⟩ := x
    dsimp only at h0 he h2
    have h1 : QRel U r P cf ops base none S o S' px := by
      have := h0 false
      have e2 : (⟨S'.tmps, ⟨S.c.h ++ fog false (S'.c.h.drop S.c.h.length), S'.c.nv, S'.c.pc⟩⟩ : St) = S' := by
        simp only [fog, cond_false]; rw [← he]
      rwa [e2] at this
    rw [Tree.sat_bind] at h2
    obtain ⟨st, ps, k1, k2, k3, k4⟩ := ih h1.pc h2
    refine ⟨fun i => match i with | 0 => S | i + 1 => st i, px :: ps, rfl, fun i p hi => ?_, by simp [k3], k4⟩
    cases i with
    | zero => simp at hi; subst hi; show QRel U r P cf ops base none S o (st 0) px; rw [k1]; exact h1
    | succ i => exact k2 i p (by simpa using hi)

theorem lateGo_rel {ops : Array Oper} {o : Oper} {S : St} {base p id off : Nat} {Q : (Nat → D) → St × Option (Nat × SB) × List (E × Bool) → Prop} (hp : PcOk U r S.c.pc) (hg : o.guard = none) (hd : o.dst = none) (ht : S.tmps.get p = .ptr id off)
    (h : (lateGo P cf ops base o S p id).sat U Q r) : ∃ x, QRel U r P cf ops base x.2.1 S o x.1 x.2.2 ∧ Q r x := by
  unfold lateGo at h
  split at h
  · rename_i b hb
    split at h
    · rename_i hc
      simp only [Bool.and_eq_true, List.all_eq_true] at hc
      obtain ⟨c2, c3, c4, c5⟩ := hc
      rw [Tree.sat_bind] at h
      obtain ⟨x, l, hx, hl, hq⟩ := facts_plain (fun _ h => by cases h) h
      dsimp only at hq
      split at hq
      · rename_i b' hb'
        split at hq
        · rename_i hc'
          simp only [Bool.and_eq_true] at hc'
          obtain ⟨d1, d2, d3, d4, d5⟩ := hc'
          refine ⟨_, ⟨Nat.le_of_ble_eq_true d5, fun y hy => ?_, .inr (.inr ⟨rfl, hg, hd, rfl, rfl, id, b, b', p, off, S.c.pc, x.1, x.2, rfl, hb, c2, by simpa using c3, fun c hcm => ?_, d1, by simpa using d2, Nat.eq_of_beq_eq_true d3, by simpa using c5, ht, hp, hx, Nat.eq_of_beq_eq_true d4, hb'⟩)⟩, hq⟩
          · rcases List.mem_append.1 hy with hy | hy
            · exact hl y hy
            · exact hp y hy
          · have := c4 c hcm
            cases c <;> simp_all [isAny]
        · exact hq.elim
      · exact hq.elim
    · exact h.elim
  · exact h.elim

theorem lateX_rel {ops : Array Oper} {l : List Oper} {o : Oper} {S : St} {base : Nat} {Q : (Nat → D) → St × Option (Nat × SB) × List (E × Bool) → Prop} (hp : PcOk U r S.c.pc)
    (h : (lateX P cf ops base l o S).sat U Q r) : ∃ x, QRel U r P cf ops base x.2.1 S o x.1 x.2.2 ∧ Q r x := by
  unfold lateX at h
  split at h
  · rename_i hg hd
    split at h
    · rename_i ht; exact lateGo_rel hp hg hd ht h
    · exact h.elim
  · rw [Tree.sat_bind] at h
    obtain ⟨x, h0, _, h2⟩ := quietX_rel (base := base) hp h
    exact ⟨_, h0 _, h2⟩

/-- The states of the walk, and what late stores leave. -/
theorem runL_states {ops : Array Oper} {base : Nat} {all : List Oper} : ∀ {l : List Oper} {S : St} {Q : (Nat → D) → St × List (Option (Nat × SB)) × List (E × Bool) → Prop}, PcOk U r S.c.pc → (runL P cf ops base all l S).sat U Q r →
    ∃ (st : Nat → St) (ls : List (Option (Nat × SB))) (ps : List (List (E × Bool))), st 0 = S ∧ (∀ i o, l[i]? = some o → QRel U r P cf ops base (ls.getD i none) (st i) o (st (i + 1)) (ps.getD i [])) ∧ ls.length = l.length ∧ ps.length = l.length ∧ Q r (st l.length, ls, ps.flatten) := by
  intro l
  induction l with
  | nil => intro S Q _ h; exact ⟨fun _ => S, [], [], rfl, fun i o ho => by simp at ho, rfl, rfl, h⟩
  | cons o l ih =>
    intro S Q hp h
    rw [runL, Tree.sat_bind] at h
    obtain ⟨x, h1, h2⟩ := lateX_rel hp h
    rw [Tree.sat_bind] at h2
    obtain ⟨st, ls, ps, k1, k2, k3, k5, k4⟩ := ih h1.pc h2
    refine ⟨fun i => match i with | 0 => S | i + 1 => st i, x.2.1 :: ls, x.2.2 :: ps, rfl, fun i p hi => ?_, by simp [k3], by simp [k5], k4⟩
    cases i with
    | zero => simp at hi; subst hi; show QRel U r P cf ops base x.2.1 S o (st 0) x.2.2; rw [k1]; exact h1
    | succ i => exact k2 i p (by simpa using hi)

theorem sat_leaf {α : Type} {Q : (Nat → D) → α → Prop} : ∀ {t : Tree α} {a : α}, t.leaf? U r = some a → Q r a → t.sat U Q r := by
  intro t
  induction t with
  | ret b => intro a h hq; simp [Tree.leaf?] at h; subst h; exact hq
  | ite c t e iht ihe =>
    intro a h hq
    simp only [Tree.leaf?] at h
    simp only [Tree.sat]
    split at h
    · rename_i hc; rw [if_pos hc]; exact iht h hq
    · rename_i hc; rw [if_neg hc]; exact ihe h hq
  | all i t ih => intro a h; simp [Tree.leaf?] at h
  | asm c t ih => intro a h; simp [Tree.leaf?] at h
  | chk c t ih =>
    intro a h hq
    simp only [Tree.leaf?] at h
    split at h
    · rename_i hc; exact ⟨hc, ih h hq⟩
    · cases h
  | bad => intro a h; simp [Tree.leaf?] at h

end
end Go.Sx

/-
  Sx, part M: statements whose order is open, proved.
-/
namespace Go.Sx
open E (mk1 mk2 mkIte mk1_ev mk2_ev mkIte_ev)

/-- The walk of a head in the order of the text. -/
structure Head (U : Nat → D → D) (r : Nat → D) (P : Program) (cf : FuncId → List SV → Cx → Tree (SV × Cx)) (ops : Array Oper) (n : Nat) (lat : Nat → Option (Nat × SB)) (st : Nat → St) (ps : Nat → List (E × Bool)) : Prop where
  rel : ∀ i o, i < n → ops.toList[i]? = some o → QRel U r P cf ops (st 0).c.h.length (lat i) (st i) o (st (i + 1)) (ps i)
  len : n ≤ ops.toList.length
  back : ∀ i, i < ops.toList.length → backOk ops.toList i = true
  slots : ownSlots (ops.toList.take n) 0 = true
  ok : ∀ i, i < n → headOk ops.toList ops (maskOf (dstList (ops.toList.take n))) i = true
  pc0 : PcOk U r (st 0).c.pc
  latInj : ∀ k k' id b b', k < n → k' < n → lat k = some (id, b) → lat k' = some (id, b') → k = k'

section
variable {U : Nat → D → D} {r : Nat → D} {P : Program} {cf : FuncId → List SV → Cx → Tree (SV × Cx)} {ops : Array Oper} {n : Nat} {lat : Nat → Option (Nat × SB)} {st : Nat → St} {ps : Nat → List (E × Bool)}

theorem Head.op (H : Head U r P cf ops n lat st ps) {i : Nat} (hi : i < n) : ∃ o, ops.toList[i]? = some o := ⟨_, List.getElem?_eq_getElem (Nat.lt_of_lt_of_le hi H.len)⟩

theorem QRel.tmps {S S' : St} {o : Oper} {base : Nat} {late : Option (Nat × SB)} {px : List (E × Bool)} (q : QRel U r P cf ops base late S o S' px) : ∃ s, S'.tmps = putS S.tmps o.dst s := by
  rcases q.run with ⟨_, _, z, pc, sv, c', _, _, _, h, _⟩ | ⟨_, _, _, h, _⟩ | ⟨_, _, hd, h, _⟩
  · exact ⟨_, h⟩
  · exact ⟨_, h⟩
  · exact ⟨.any, by rw [h, hd]; rfl⟩

theorem QRel.heap {S S' : St} {o : Oper} {base : Nat} {late : Option (Nat × SB)} {px : List (E × Bool)} (q : QRel U r P cf ops base late S o S' px) : ∃ t, S'.c.h = S.c.h ++ t := by
  rcases q.run with ⟨_, _, z, pc, sv, c', _, _, _, _, h⟩ | ⟨_, _, _, _, h⟩ | ⟨_, _, _, _, h, _⟩
  · exact ⟨_, h⟩
  · exact ⟨[], by rw [h, List.append_nil]⟩
  · exact ⟨[], by rw [h, List.append_nil]⟩

theorem putS_n (tmps : Tm) (d : Option Tmp) (s : SV) : (putS tmps d s).n = tmps.n := by cases d <;> simp [putS, Tm.put_n]

theorem putS_ne {tmps : Tm} {d : Option Tmp} {s : SV} {t : Nat} (h : d ≠ some t) : (putS tmps d s).get t = tmps.get t := by
  cases d with
  | none => rfl
  | some d => exact Tm.get_put_ne _ _ fun e => h (by rw [e])

theorem Head.size (H : Head U r P cf ops n lat st ps) : ∀ i, i ≤ n → (st i).tmps.n = (st 0).tmps.n := by
  intro i
  induction i with
  | zero => intro _; rfl
  | succ i ih =>
    intro h
    obtain ⟨o, ho⟩ := H.op (i := i) (by omega)
    obtain ⟨s, hs⟩ := (H.rel i o (by omega) ho).tmps
    rw [hs, putS_n, ih (by omega)]

theorem Head.pre (H : Head U r P cf ops n lat st ps) {i : Nat} : ∀ j, i ≤ j → j ≤ n → ∃ t, (st j).c.h = (st i).c.h ++ t := by
  intro j
  induction j with
  | zero => intro h _; have : i = 0 := by omega
            subst this; exact ⟨[], by simp⟩
  | succ j ih =>
    intro h hj
    by_cases hij : i = j + 1
    · subst hij; exact ⟨[], by simp⟩
    · obtain ⟨t, ht⟩ := ih (by omega) (by omega)
      obtain ⟨o, ho⟩ := H.op (i := j) (by omega)
      obtain ⟨t', ht'⟩ := (H.rel j o (by omega) ho).heap
      exact ⟨t ++ t', by rw [ht', ht, List.append_assoc]⟩

theorem Head.nb (H : Head U r P cf ops n lat st ps) {i j : Nat} (h : i ≤ j) (hj : j ≤ n) : (st i).c.h.length ≤ (st j).c.h.length := by
  obtain ⟨t, ht⟩ := H.pre j h hj
  rw [ht]; simp

theorem Head.get (H : Head U r P cf ops n lat st ps) {i j id : Nat} (h : i ≤ j) (hj : j ≤ n) (hid : id < (st i).c.h.length) : (st j).c.h[id]? = (st i).c.h[id]? := by
  obtain ⟨t, ht⟩ := H.pre j h hj
  rw [ht, List.getElem?_append_left hid]

theorem Head.slot (H : Head U r P cf ops n lat st ps) {i t : Nat} : ∀ j, i ≤ j → j ≤ n → (∀ k o, i ≤ k → k < j → ops.toList[k]? = some o → o.dst ≠ some t) → (st j).tmps.get t = (st i).tmps.get t := by
  intro j
  induction j with
  | zero => intro h _ _; have : i = 0 := by omega
            subst this; rfl
  | succ j ih =>
    intro h hj hno
    by_cases hij : i = j + 1
    · subst hij; rfl
    · obtain ⟨o, ho⟩ := H.op (i := j) (by omega)
      obtain ⟨s, hs⟩ := (H.rel j o (by omega) ho).tmps
      rw [hs, putS_ne (hno j o (by omega) (by omega) ho)]
      exact ih (by omega) (by omega) fun k o h1 h2 => hno k o h1 (by omega)

theorem Head.pc (H : Head U r P cf ops n lat st ps) : ∀ i, i ≤ n → PcOk U r (st i).c.pc := by
  intro i hi
  cases i with
  | zero => exact H.pc0
  | succ i =>
    obtain ⟨o, ho⟩ := H.op (i := i) (by omega)
    exact (H.rel i o (by omega) ho).pc

theorem Head.nv (H : Head U r P cf ops n lat st ps) : ∀ i, i ≤ n → (st 0).c.nv ≤ (st i).c.nv := by
  intro i
  induction i with
  | zero => intro _; exact Nat.le_refl _
  | succ i ih =>
    intro hi
    obtain ⟨o, ho⟩ := H.op (i := i) (by omega)
    exact Nat.le_trans (ih (by omega)) (H.rel i o (by omega) ho).nv

theorem Head.own (H : Head U r P cf ops n lat st ps) {i j : Nat} {o p : Oper} {t : Tmp} (hi : i < n) (hj : j < n) (ho : ops.toList[i]? = some o) (hp : ops.toList[j]? = some p) (hd : p.dst = some t) (hne : j ≠ i) : o.dst ≠ some t := by
  intro hd'
  exact hne ((ownSlots_ok H.slots).2 j i p o t (by rw [List.getElem?_take, if_pos hj]; exact hp) (by rw [List.getElem?_take, if_pos hi]; exact ho) hd hd')

theorem Head.look (H : Head U r P cf ops n lat st ps) {i j : Nat} {o p : Oper} {t : Tmp} (hi : i < n) (hj : j < n) (ho : ops.toList[i]? = some o) (hp : ops.toList[j]? = some p) (hd : p.dst = some t) (hm : t ∈ o.looksAt ops) : j < i ∧ waitsOn o j = true := by
  have h := H.ok i hi
  unfold headOk at h
  rw [ho] at h
  have h : (maskOf (o.looksAt ops) &&& maskOf (dstList (ops.toList.take n))) &&& maskOf (waitSlots ops.toList o.after.toList i) = maskOf (o.looksAt ops) &&& maskOf (dstList (ops.toList.take n)) := by simpa using h
  have hmem : t ∈ dstList (ops.toList.take n) := by
    unfold dstList
    exact List.mem_filterMap.2 ⟨p, List.mem_of_getElem? (i := j) (by rw [List.getElem?_take, if_pos hj]; exact hp), hd⟩
  have h1 := congrArg (fun m => m.testBit t) h
  simp only [Nat.testBit_and, maskOf_test.2 hm, maskOf_test.2 hmem, Bool.true_and] at h1
  have h2 := maskOf_test.1 h1
  unfold waitSlots at h2
  obtain ⟨k, hk, hk'⟩ := List.mem_filterMap.1 h2
  split at hk'
  · rename_i hki
    cases hq : ops.toList[k]? with
    | none => rw [hq] at hk'; cases hk'
    | some q =>
      rw [hq] at hk'
      have hk' : q.dst = some t := hk'
      have : k = j := (ownSlots_ok H.slots).2 k j q p t (by rw [List.getElem?_take, if_pos (by omega)]; exact hq) (by rw [List.getElem?_take, if_pos hj]; exact hp) hk' hd
      subst this
      exact ⟨hki, maskOf_test.2 hk⟩
  · cases hk'

theorem waitsOn_listed {o : Oper} {j : Nat} {listed : Array Bool} (h : waitsOn o j = true) (hall : ∀ e ∈ o.after, Region.binds .any e = true → listed.getD e.on false = true) : listed.getD j false = true := by
  have hm := maskOf_test.1 h
  unfold waitList at hm
  obtain ⟨e, he, rfl⟩ := List.mem_map.1 hm
  obtain ⟨he, hb⟩ := List.mem_filter.1 he
  exact hall e (by simpa using he) hb

/-! ### What holds while the head is under way -/

/-- The places that are there, as far as the first 'm' operations go. -/
def Lv (L : Nat → Prop) (st : Nat → St) (n : Nat) (listed : Array Bool) (m : Nat) : Nat → Prop := fun id =>
  L id ∨ ∃ j, j < m ∧ j < n ∧ listed.getD j false = true ∧ (st j).c.h.length ≤ id ∧ id < (st (j + 1)).c.h.length

structure Inv (U : Nat → D → D) (r : Nat → D) (ops : Array Oper) (n : Nat) (lat : Nat → Option (Nat × SB)) (st : Nat → St) (L : Nat → Prop) (g0 : Gh) (w0 : World) (listed : Array Bool) (g : Gh) (a : Act) (w : World) : Prop where
  lsz : listed.size = ops.size
  tail : ∀ t, n ≤ t → t < ops.size → listed.getD t true = false
  defers : a.defers = []
  size : a.tmps.size = (st 0).tmps.n
  out : ∀ t, (st 0).tmps.n ≤ t → ((st 0).tmps.get t).den U r g L undef
  own : ∀ i o t, i < n → ops.toList[i]? = some o → o.dst = some t → listed.getD i false = true → ((st n).tmps.get t).den U r g (Lv L st n listed (i + 1)) (a.tmps.getD t undef)
  oth : ∀ t, (∀ i o, i < n → ops.toList[i]? = some o → o.dst ≠ some t) → ((st 0).tmps.get t).den U r g L (a.tmps.getD t undef)
  ga : ∀ id, ¬ ((st 0).c.h.length ≤ id ∧ id < (st n).c.h.length) → g.a id = g0.a id ∧ g.n id = g0.n id
  lt : ∀ id, Lv L st n listed n id → g.a id < w.heap.size
  blk0 : ∀ id b, L id → (st 0).c.h[id]? = some (some b) → ∃ xs t fz, w.heap[g.a id]? = some (.cells xs t fz) ∧ xs.size = g.n id ∧ (b.wr = true → fz = (0, 0)) ∧ b.cs.length ≤ xs.size ∧
    ∀ (j : Nat) (c : SV), b.cs[j]? = some c → ∃ v, xs[j]? = some v ∧ c.den U r g L v
  blkn : ∀ i id b, i < n → listed.getD i false = true → (st i).c.h.length ≤ id → id < (st (i + 1)).c.h.length → (st n).c.h[id]? = some (some b) →
    ∃ xs t fz, w.heap[g.a id]? = some (.cells xs t fz) ∧ xs.size = g.n id ∧ (b.wr = true → fz = (0, 0)) ∧ b.cs.length ≤ xs.size ∧
      ∀ (j : Nat) (c : SV), b.cs[j]? = some c → ∃ v, xs[j]? = some v ∧ c.den U r g (Lv L st n listed (i + 1)) v
  new : ∀ i id, i < n → listed.getD i false = true → (st i).c.h.length ≤ id → id < (st (i + 1)).c.h.length → w0.heap.size ≤ g.a id
  inj : ∀ id id' b b', Lv L st n listed n id → Lv L st n listed n id' → (st 0).c.h.length ≤ id → (st 0).c.h.length ≤ id' → (st n).c.h[id]? = some (some b) → b.wr = true → (st n).c.h[id']? = some (some b') → g.a id = g.a id' → id = id'
  frm : Frm (Wr g0 L (st 0).c.h) w0 w
  go : ∀ id, ¬ ((st 0).c.h.length ≤ id ∧ id < (st n).c.h.length) → g.o id = g0.o id
  rows : ∀ id b ks e, Lv L st n listed n id → (st n).c.h[id]? = some (some b) → b.row = some (ks, e) → ∃ xs t fz, w.heap[g.a id]? = some (.cells xs t fz) ∧ RowDen ks (e.ev U r).toL (g.o id) xs
  late : ∀ k id b', k < n → listed.getD k false = true → lat k = some (id, b') → Lv L st n listed (k + 1) id ∧ ∃ xs t fz, w.heap[g.a id]? = some (.cells xs t fz) ∧ b'.cs.length ≤ xs.size ∧
    ∀ (j : Nat) (c : SV), b'.cs[j]? = some c → ∃ v, xs[j]? = some v ∧ c.den U r g (Lv L st n listed (k + 1)) v
  lt0 : ∀ id, L id → g.a id < w0.heap.size
  inj0 : ∀ id id' b b', L id → L id' → (st 0).c.h[id]? = some (some b) → b.wr = true → (st 0).c.h[id']? = some (some b') → g.a id = g.a id' → id = id'

variable {L : Nat → Prop} {g0 g : Gh} {w0 w : World} {listed : Array Bool} {a : Act}

theorem Lv_mono {m m' : Nat} (h : m ≤ m') {id : Nat} (hl : Lv L st n listed m id) : Lv L st n listed m' id := by
  rcases hl with hl | ⟨j, h1, h2⟩
  · exact .inl hl
  · exact .inr ⟨j, by omega, h2⟩

theorem Head.lv_lt (H : Head U r P cf ops n lat st ps) (hb0 : ∀ id, L id → id < (st 0).c.h.length) {m id : Nat} (hm : m ≤ n) (hl : Lv L st n listed m id) : id < (st m).c.h.length := by
  rcases hl with hl | ⟨j, h1, h2, h3, h4, h5⟩
  · exact Nat.lt_of_lt_of_le (hb0 id hl) (H.nb (Nat.zero_le m) hm)
  · exact Nat.lt_of_lt_of_le h5 (H.nb (by omega) hm)

theorem getD_set_self' {i : Nat} (h : i < listed.size) (d : Bool) : (listed.setIfInBounds i true).getD i d = true := by
  rw [Array.getD_eq_getD_getElem?, Array.getElem?_setIfInBounds_self_of_lt h]; rfl
theorem getD_set_ne' {i j : Nat} (h : i ≠ j) (d : Bool) : (listed.setIfInBounds i true).getD j d = listed.getD j d := by
  rw [Array.getD_eq_getD_getElem?, Array.getElem?_setIfInBounds_ne h, Array.getD_eq_getD_getElem?]

/-- What was there stays there when one more is listed. -/
theorem Lv_set {i m id : Nat} (hl : Lv L st n listed m id) (hi : i < listed.size) : Lv L st n (listed.setIfInBounds i true) m id := by
  rcases hl with hl | ⟨j, h1, h2, h3, h4⟩
  · exact .inl hl
  · refine .inr ⟨j, h1, h2, ?_, h4⟩
    by_cases hij : i = j
    · subst hij; exact getD_set_self' hi _
    · rw [getD_set_ne' hij]; exact h3

theorem lockH_length (h : SH) : (lockH h).length = h.length := by simp [lockH]

theorem lockH_get {h : SH} {id : Nat} {b : SB} (hb : (lockH h)[id]? = some (some b)) : b.wr = false ∧ ∃ b0, h[id]? = some (some b0) ∧ b.cs = b0.cs ∧ b.row = b0.row := by
  unfold lockH at hb
  rw [List.getElem?_map] at hb
  cases hx : h[id]? with
  | none => rw [hx] at hb; cases hb
  | some o =>
    rw [hx] at hb
    simp only [Option.map_some, Option.some.injEq] at hb
    cases o with
    | none => cases hb
    | some b0 => simp only [lockB, Option.some.injEq] at hb; subst hb; exact ⟨rfl, b0, rfl, rfl, rfl⟩

theorem lockH_noWr {h : SH} {k : Nat} : ¬ Wr g L (lockH h) k := by
  rintro ⟨id, b, _, hb, hw, _⟩
  rw [(lockH_get hb).1] at hw; cases hw

theorem put_getD_ne {d : Option Tmp} {v : Value} {t : Nat} (h : d ≠ some t) : (a.put d v).tmps.getD t undef = a.tmps.getD t undef := by
  cases d with
  | none => rfl
  | some d =>
    have : d ≠ t := fun e => h (by rw [e])
    simp only [Act.put]
    rw [Array.getD_eq_getD_getElem?, Array.getElem?_setIfInBounds_ne this, Array.getD_eq_getD_getElem?]

theorem put_defers (d : Option Tmp) (v : Value) : (a.put d v).defers = a.defers := by cases d <;> rfl
theorem put_size (d : Option Tmp) (v : Value) : (a.put d v).tmps.size = a.tmps.size := by cases d <;> simp [Act.put]

set_option maxHeartbeats 1000000 in
/-- One operation of the head, whichever comes up. -/
theorem Inv.step (hcf : CallsOk U P cf) (H : Head U r P cf ops n lat st ps) (hb0 : ∀ id, L id → id < (st 0).c.h.length) (inv : Inv U r ops n lat st L g0 w0 listed g a w) {i : Nat}
    (hi : i ∈ Region.ready .any ops listed) (hin : i < n) {Q : Exit → Act → World → Prop} :
    wpOp P ops Q i (fun a' w' => ∃ g', Inv U r ops n lat st L g0 w0 (listed.setIfInBounds i true) g' a' w' ∧ PcOk U r (ps i)) a w := by
  obtain ⟨hun, o, ho, hall⟩ := mem_ready.1 hi
  have ho' : ops.toList[i]? = some o := by simpa using ho
  have q := H.rel i o hin ho'
  have hil : i < listed.size := by
    rw [inv.lsz]
    exact (Array.getElem?_eq_some_iff.1 ho).1
  have hunf : listed.getD i false = false := by
    cases hx : listed.getD i false with
    | false => rfl
    | true =>
      rw [Array.getD_eq_getD_getElem?, Array.getElem?_eq_getElem hil] at hx hun
      simp at hx hun; rw [hun] at hx; cases hx
  have hsz : a.tmps.size = (st i).tmps.n := inv.size.trans (H.size i (by omega)).symm
  -- the slots that are looked at
  have hslot : ∀ t, t ∈ o.looksAt ops → ((st i).tmps.get t).den U r g (Lv L st n listed i) (a.tmps.getD t undef) := by
    intro t hm
    by_cases hown : ∃ j p, j < n ∧ ops.toList[j]? = some p ∧ p.dst = some t
    · obtain ⟨j, p, hj, hp, hd⟩ := hown
      obtain ⟨hji, hw⟩ := H.look hin hj ho' hp hd hm
      have hl := waitsOn_listed hw hall
      have h1 := inv.own j p t hj hp hd hl
      have hno : ∀ k o', j + 1 ≤ k → k < n → ops.toList[k]? = some o' → o'.dst ≠ some t := fun k o' hk hk' hok => H.own hk' hj hok hp hd (by omega)
      have e1 := H.slot (i := j + 1) (t := t) n (by omega) (Nat.le_refl _) fun k o' h1 h2 h3 => hno k o' h1 h2 h3
      have e2 := H.slot (i := j + 1) (t := t) i (by omega) (by omega) fun k o' h1 h2 h3 => hno k o' h1 (by omega) h3
      rw [e1] at h1
      rw [e2]
      exact SV.den_mono ⟨fun id h => ⟨Lv_mono (by omega) h, rfl, rfl⟩, fun _ _ => rfl⟩ h1
    · have h1 := inv.oth t fun k o' hk hok hd => hown ⟨k, o', hk, hok, hd⟩
      have e1 := H.slot (i := 0) (t := t) i (Nat.zero_le _) (by omega) fun k o' _ h2 h3 hd => hown ⟨k, o', by omega, h3, hd⟩
      rw [e1]
      exact SV.den_mono ⟨fun id h => ⟨.inl h, rfl, rfl⟩, fun _ _ => rfl⟩ h1
  obtain ⟨k1, k2⟩ := guardS_ok hslot
  have hwant : ∀ {b : Bool}, (guardS ops (st i).tmps o = .told b ∨ ∃ e, guardS ops (st i).tmps o = .asks e ∧ (e.ev U r).toB = b) → Region.wanted o (yielded ops a.tmps) = b := by
    rintro b (h | ⟨e, h, h'⟩)
    · exact k1 _ h
    · rw [k2 _ h, h']
  -- what is known of the places
  have nbi : (st i).c.h.length ≤ (st (i + 1)).c.h.length := H.nb (by omega) (by omega)
  have nb0 : (st 0).c.h.length ≤ (st i).c.h.length := H.nb (Nat.zero_le _) (by omega)
  have nbn : (st (i + 1)).c.h.length ≤ (st n).c.h.length := H.nb (by omega) (Nat.le_refl _)
  have notNew : ∀ {m id}, Lv L st n listed m id → ¬ ((st i).c.h.length ≤ id ∧ id < (st (i + 1)).c.h.length) := by
    rintro m id (h | ⟨j, h1, h2, h3, h4, h5⟩) ⟨h6, h7⟩
    · have := hb0 id h; omega
    · rcases Nat.lt_trichotomy j i with hj | hj | hj
      · have := H.nb (i := j + 1) (j := i) (by omega) (by omega); omega
      · subst hj; rw [hunf] at h3; cases h3
      · have := H.nb (i := i + 1) (j := j) (by omega) (by omega); omega
  have alt : ∀ {m id}, Lv L st n (listed.setIfInBounds i true) m id → Lv L st n listed m id ∨ (i < m ∧ (st i).c.h.length ≤ id ∧ id < (st (i + 1)).c.h.length) := by
    rintro m id (h | ⟨j, h1, h2, h3, h4, h5⟩)
    · exact .inl (.inl h)
    · by_cases hij : i = j
      · subst hij; exact .inr ⟨h1, h4, h5⟩
      · rw [getD_set_ne' hij] at h3; exact .inl (.inr ⟨j, h1, h2, h3, h4, h5⟩)
  -- the places, and what has become of them, behind a step that leaves all old blocks as they were
  have build : lat i = none → ∀ {g' : Gh} {v : Value} {w' : World} {s : SV}, (∀ id, ¬ ((st i).c.h.length ≤ id ∧ id < (st (i + 1)).c.h.length) → g'.a id = g.a id ∧ g'.n id = g.n id) →
      (∀ id, ¬ ((st i).c.h.length ≤ id ∧ id < (st (i + 1)).c.h.length) → g'.o id = g.o id) →
      (∀ k, k < w.heap.size → w'.heap[k]? = w.heap[k]?) → w.heap.size ≤ w'.heap.size → w'.os = w.os → w'.tape = w.tape → w'.output = w.output →
      (st (i + 1)).tmps = putS (st i).tmps o.dst s → s.den U r g' (Lv L st n (listed.setIfInBounds i true) (i + 1)) v →
      (∀ id, (st i).c.h.length ≤ id → id < (st (i + 1)).c.h.length → w.heap.size ≤ g'.a id ∧ g'.a id < w'.heap.size) →
      (∀ id b, (st i).c.h.length ≤ id → id < (st (i + 1)).c.h.length → (st (i + 1)).c.h[id]? = some (some b) →
        ∃ xs t fz, w'.heap[g'.a id]? = some (.cells xs t fz) ∧ xs.size = g'.n id ∧ (b.wr = true → fz = (0, 0)) ∧ b.cs.length ≤ xs.size ∧
          ∀ (j : Nat) (c : SV), b.cs[j]? = some c → ∃ v, xs[j]? = some v ∧ c.den U r g' (Lv L st n (listed.setIfInBounds i true) (i + 1)) v) →
      (∀ id id' b b', (st i).c.h.length ≤ id → id < (st (i + 1)).c.h.length → (st i).c.h.length ≤ id' → id' < (st (i + 1)).c.h.length → (st (i + 1)).c.h[id]? = some (some b) → b.wr = true → (st (i + 1)).c.h[id']? = some (some b') →
        g'.a id = g'.a id' → id = id') →
      (∀ id b ks e, (st i).c.h.length ≤ id → id < (st (i + 1)).c.h.length → (st (i + 1)).c.h[id]? = some (some b) → b.row = some (ks, e) →
        ∃ xs t fz, w'.heap[g'.a id]? = some (.cells xs t fz) ∧ RowDen ks (e.ev U r).toL (g'.o id) xs) →
      Inv U r ops n lat st L g0 w0 (listed.setIfInBounds i true) g' (a.put o.dst v) w' := by
    intro hlat g' v w' s hga hgo hblk hsize hos htape hout htm hsd hnew hcont hinj hrow
    have gl : ∀ {m}, GLe g (Lv L st n listed m) g' (Lv L st n (listed.setIfInBounds i true) m) := fun {m} => ⟨fun id h => ⟨Lv_set h hil, hga id (notNew h)⟩, fun id h => hgo id (notNew h)⟩
    have gl0 : GLe g L g' L := ⟨fun id h => ⟨h, hga id (notNew (m := 0) (.inl h))⟩, fun id h => hgo id (notNew (m := 0) (.inl h))⟩
    have geti : ∀ {id}, id < (st (i + 1)).c.h.length → (st n).c.h[id]? = (st (i + 1)).c.h[id]? := fun h => H.get (by omega) (Nat.le_refl _) h
    refine ⟨by simp [inv.lsz], ?_, by rw [put_defers]; exact inv.defers, by rw [put_size]; exact inv.size, fun t ht => SV.den_mono gl0 (inv.out t ht), ?_, ?_, ?_, ?_, ?_, ?_, ?_, ?_, ?_, ?_, ?_, ?_, fun id h => by rw [(hga id (notNew (m := 0) (.inl h))).1]; exact inv.lt0 id h, fun id id' b b' h h' hb hw hb' he => inv.inj0 id id' b b' h h' hb hw hb' (by rw [(hga id (notNew (m := 0) (.inl h))).1, (hga id' (notNew (m := 0) (.inl h'))).1] at he; exact he)⟩
    · intro t h1 h2; rw [getD_set_ne' (by omega)]; exact inv.tail t h1 h2
    · intro j p t hj hp hd hl
      have hno : ∀ k o', j + 1 ≤ k → k < n → ops.toList[k]? = some o' → o'.dst ≠ some t := fun k o' hk hk' hok => H.own hk' hj hok hp hd (by omega)
      have e1 := H.slot (i := j + 1) (t := t) n (by omega) (Nat.le_refl _) fun k o' h1 h2 h3 => hno k o' h1 h2 h3
      by_cases hij : i = j
      · subst hij
        have : p = o := Option.some.inj (hp.symm.trans ho')
        subst this
        rw [e1, htm, hd]
        by_cases hlt : t < (st i).tmps.n
        · have h2 : (a.put (some t) v).tmps.getD t undef = v := by
            simp only [Act.put]
            rw [Array.getD_eq_getD_getElem?, Array.getElem?_setIfInBounds_self_of_lt (by rw [hsz]; exact hlt)]; rfl
          rw [h2]
          simp only [putS]
          rw [Tm.get_put_self _ _ hlt]; exact hsd
        · -- a slot that the frame has not: nothing is put
          have hge : (st i).tmps.n ≤ t := Nat.not_lt.1 hlt
          simp only [putS]
          rw [Tm.get_put_out _ _ hlt]
          have hn0 : ∀ k o', k < i → ops.toList[k]? = some o' → o'.dst ≠ some t := fun k o' hk hok => H.own (by omega) hj hok hp hd (by omega)
          have e0 := H.slot (i := 0) (t := t) i (Nat.zero_le _) (by omega) fun k o' _ h2 h3 => hn0 k o' h2 h3
          rw [e0]
          have h2 : (a.put (some t) v).tmps.getD t undef = undef := by
            rw [Array.getD_eq_getD_getElem?, Array.getElem?_eq_none (by rw [put_size, hsz]; exact hge)]; rfl
          rw [h2]
          exact SV.den_mono ⟨fun id h => ⟨.inl h, hga id (notNew (m := 0) (.inl h))⟩, fun id h => hgo id (notNew (m := 0) (.inl h))⟩ (inv.out t (by rw [← H.size i (by omega)]; exact hge))
      · rw [getD_set_ne' hij] at hl
        have h1 := inv.own j p t hj hp hd hl
        rw [put_getD_ne (H.own hin hj ho' hp hd (fun e => hij e.symm))]
        exact SV.den_mono gl h1
    · intro t hno
      rw [put_getD_ne (hno i o hin ho')]
      exact SV.den_mono gl0 (inv.oth t hno)
    · intro id h
      obtain ⟨h1, h2⟩ := hga id (by omega)
      obtain ⟨h3, h4⟩ := inv.ga id h
      exact ⟨h1.trans h3, h2.trans h4⟩
    · intro id h
      rcases alt h with h | ⟨_, h1, h2⟩
      · rw [(hga id (notNew h)).1]; have := inv.lt id h; omega
      · exact (hnew id h1 h2).2
    · intro id b hl hb
      obtain ⟨xs, t, fz, e1, e2, e3, e4, e5⟩ := inv.blk0 id b hl hb
      obtain ⟨h1, h2⟩ := hga id (notNew (m := 0) (.inl hl))
      refine ⟨xs, t, fz, by rw [h1, hblk _ (inv.lt id (.inl hl))]; exact e1, by rw [h2]; exact e2, e3, e4, fun j s hs => ?_⟩
      obtain ⟨v, hv, hd⟩ := e5 j s hs
      exact ⟨v, hv, SV.den_mono gl0 hd⟩
    · intro j id b hj hl h1 h2 hb
      by_cases hij : i = j
      · subst hij
        rw [geti h2] at hb
        exact hcont id b h1 h2 hb
      · rw [getD_set_ne' hij] at hl
        obtain ⟨xs, t, fz, e1, e2, e3, e4, e5⟩ := inv.blkn j id b hj hl h1 h2 hb
        have hlv : Lv L st n listed n id := .inr ⟨j, hj, hj, hl, h1, h2⟩
        obtain ⟨k1, k2⟩ := hga id (notNew hlv)
        refine ⟨xs, t, fz, by rw [k1, hblk _ (inv.lt id hlv)]; exact e1, by rw [k2]; exact e2, e3, e4, fun k s hs => ?_⟩
        obtain ⟨v, hv, hd⟩ := e5 k s hs
        exact ⟨v, hv, SV.den_mono gl hd⟩
    · intro j id hj hl h1 h2
      by_cases hij : i = j
      · subst hij; have := (hnew id h1 h2).1; have := inv.frm.size; omega
      · rw [getD_set_ne' hij] at hl
        have hlv : Lv L st n listed n id := .inr ⟨j, hj, hj, hl, h1, h2⟩
        rw [(hga id (notNew hlv)).1]
        exact inv.new j id hj hl h1 h2
    · intro id id' b b' h h' h0 h0' hb hwr hb' he
      rcases alt h with h | ⟨_, h1, h2⟩ <;> rcases alt h' with h' | ⟨_, h1', h2'⟩
      · rw [(hga id (notNew h)).1, (hga id' (notNew h')).1] at he
        exact inv.inj id id' b b' h h' h0 h0' hb hwr hb' he
      · rw [(hga id (notNew h)).1] at he
        have := inv.lt id h; have := (hnew id' h1' h2').1; omega
      · rw [(hga id' (notNew h')).1] at he
        have := inv.lt id' h'; have := (hnew id h1 h2).1; omega
      · rw [geti h2] at hb
        rw [geti h2'] at hb'
        exact hinj id id' b b' h1 h2 h1' h2' hb hwr hb' he
    · have f := inv.frm
      exact ⟨hos.trans f.os, htape.trans f.tape, hout.trans f.output, Nat.le_trans f.size hsize, fun k hk hn => (hblk k (Nat.lt_of_lt_of_le hk f.size)).trans (f.block k hk hn)⟩
    · intro id h
      exact (hgo id (by omega)).trans (inv.go id h)
    · intro id b ks e h hb hr
      rcases alt h with h | ⟨_, h1, h2⟩
      · obtain ⟨xs, t, fz, e1, e2⟩ := inv.rows id b ks e h hb hr
        exact ⟨xs, t, fz, by rw [(hga id (notNew h)).1, hblk _ (inv.lt id h)]; exact e1, by rw [hgo id (notNew h)]; exact e2⟩
      · rw [geti h2] at hb
        exact hrow id b ks e h1 h2 hb hr
    · intro k id b' hk hl hlk
      by_cases hij : i = k
      · subst hij; rw [hlat] at hlk; cases hlk
      · rw [getD_set_ne' hij] at hl
        obtain ⟨h0, xs, t, fz, e1, e2, e3⟩ := inv.late k id b' hk hl hlk
        have hlv : Lv L st n listed n id := Lv_mono (by omega) h0
        refine ⟨Lv_set h0 hil, xs, t, fz, by rw [(hga id (notNew hlv)).1, hblk _ (inv.lt id hlv)]; exact e1, e2, fun j c hc => ?_⟩
        obtain ⟨v, hv, hd⟩ := e3 j c hc
        exact ⟨v, hv, SV.den_mono gl hd⟩
  unfold wpOp
  rw [ho]
  dsimp only
  have hh : HeapDen U r g (Lv L st n listed i) (lockH (st i).c.h) w := by
    refine ⟨fun id h => by rw [lockH_length]; exact H.lv_lt hb0 (by omega) h, fun id h => inv.lt id (Lv_mono (by omega) h), fun id b h hb => ?_, fun id id' b b' _ _ hb hwr _ _ => (by rw [(lockH_get hb).1] at hwr; cases hwr), fun id b ks e h hb hr => ?_, fun id b hb hwr => (by rw [(lockH_get hb).1] at hwr; cases hwr)⟩
    rotate_left
    · obtain ⟨hw, b0, hb0', hcs, hrw⟩ := lockH_get hb
      have hn : (st n).c.h[id]? = some (some b0) := by
        rw [H.get (i := i) (j := n) (by omega) (Nat.le_refl _) (H.lv_lt hb0 (by omega) h)]; exact hb0'
      exact inv.rows id b0 ks e (Lv_mono (by omega) h) hn (by rw [← hrw]; exact hr)
    obtain ⟨hw, b0, hb0', hcs, _⟩ := lockH_get hb
    rcases h with h | ⟨j, h1, h2, h3, h4, h5⟩
    · have hb0'' : (st 0).c.h[id]? = some (some b0) := by rw [← H.get (i := 0) (j := i) (Nat.zero_le _) (by omega) (hb0 id h)]; exact hb0'
      obtain ⟨xs, t, fz, e1, e2, e3, e4, e5⟩ := inv.blk0 id b0 h hb0''
      refine ⟨xs, t, fz, e1, e2, fun hx => (by rw [hw] at hx; cases hx), by rw [hcs]; exact e4, fun k s hs => ?_⟩
      rw [hcs] at hs
      obtain ⟨v, hv, hd⟩ := e5 k s hs
      exact ⟨v, hv, SV.den_mono ⟨fun id h => ⟨.inl h, rfl, rfl⟩, fun _ _ => rfl⟩ hd⟩
    · have hlt : id < (st i).c.h.length := by have := H.nb (i := j + 1) (j := i) (by omega) (by omega); omega
      have hb0'' : (st n).c.h[id]? = some (some b0) := by rw [H.get (i := i) (j := n) (by omega) (Nat.le_refl _) hlt]; exact hb0'
      obtain ⟨xs, t, fz, e1, e2, e3, e4, e5⟩ := inv.blkn j id b0 h2 h3 h4 h5 hb0''
      refine ⟨xs, t, fz, e1, e2, fun hx => (by rw [hw] at hx; cases hx), by rw [hcs]; exact e4, fun k s hs => ?_⟩
      rw [hcs] at hs
      obtain ⟨v, hv, hd⟩ := e5 k s hs
      exact ⟨v, hv, SV.den_mono ⟨fun id h => ⟨Lv_mono (by omega) h, rfl, rfl⟩, fun _ _ => rfl⟩ hd⟩
  have hev : ∀ x, (evM (o.looksAt ops) (st i).tmps x).den U r g (Lv L st n listed i) (a.eval x) := by
    intro x
    cases x with
    | tmp t =>
      unfold evM
      dsimp only
      split
      · rename_i hc; exact hslot t (maskOf_test.1 hc)
      · trivial
    | const v => exact ofValue_den v
    | global n => rfl
    | func f => exact ⟨#[], #[], rfl, by simp [SV.denL], by simp [SV.denL]⟩
  rcases q.run with ⟨hg, hlat, z, pc, sv, c', hpx, hpc, hleaf, htm, hch⟩ | ⟨hg, hlat, hpx, htm, hch⟩ | ⟨hpx, hgd, hdst, htm, hch, id0, b0, b1, p0, off0, pc, sv, c', hlat, hbk, hwr, hrow, hany, hwr1, hrow1, hlen1, hlk, hptr, hpc, hleaf, hcl, hcb⟩
  · rw [hwant hg]
    simp only [if_true]
    left
    refine wp_of_goal (opTree_ok hcf (c := ⟨lockH (st i).c.h, (st i).c.nv, pc⟩) hh hpc hev (sat_leaf hleaf ?_))
    intro g' v w' he hd
    have hll : (lockH (st i).c.h).length = (st i).c.h.length := lockH_length _
    have hlen : (st i).c.h.length ≤ c'.h.length := by have := he.len; rw [← hll]; exact this
    have hnb : (st (i + 1)).c.h.length = c'.h.length := by rw [hch, List.length_append, fog_length, List.length_drop]; omega
    have hget : ∀ {id b}, (st i).c.h.length ≤ id → (st (i + 1)).c.h[id]? = some (some b) → ∃ b0, c'.h[id]? = some (some b0) ∧ b0.wr = b.wr ∧ b.cs.length = b0.cs.length ∧ (∀ (j : Nat) (c : SV), b.cs[j]? = some c → c = .any ∨ b0.cs[j]? = some c) ∧ ∀ x, b.row = some x → b0.row = some x := by
      intro id b h hb
      rw [hch, List.getElem?_append_right h] at hb
      cases z with
      | false =>
        simp only [fog, cond_false] at hb
        rw [List.getElem?_drop, show (st i).c.h.length + (id - (st i).c.h.length) = id by omega] at hb
        exact ⟨b, hb, rfl, rfl, fun j c hc => .inr hc, fun x hx => hx⟩
      | true =>
        simp only [fog, cond_true] at hb
        rw [List.getElem?_map, List.getElem?_drop, show (st i).c.h.length + (id - (st i).c.h.length) = id by omega] at hb
        cases hx : c'.h[id]? with
        | none => rw [hx] at hb; cases hb
        | some ob =>
          rw [hx] at hb
          cases ob with
          | none => simp [fogB] at hb
          | some b0 =>
            simp only [Option.map_some, fogB, Option.some.injEq] at hb
            subst hb
            refine ⟨b0, rfl, rfl, by simp, fun j c hc => .inl ?_, fun x hx => by cases hx⟩
            rw [List.getElem?_map] at hc
            cases hy : b0.cs[j]? with
            | none => rw [hy] at hc; cases hc
            | some y => rw [hy] at hc; simpa using hc.symm
    have hlx : ∀ {id}, Lx (Lv L st n listed i) (lockH (st i).c.h) c'.h id → Lv L st n (listed.setIfInBounds i true) (i + 1) id := by
      rintro id (h | ⟨h1, h2⟩)
      · exact Lv_mono (by omega) (Lv_set h hil)
      · rw [hll] at h1; exact .inr ⟨i, by omega, hin, getD_set_self' hil _, h1, by omega⟩
    have gx : GLe g' (Lx (Lv L st n listed i) (lockH (st i).c.h) c'.h) g' (Lv L st n (listed.setIfInBounds i true) (i + 1)) := ⟨fun id h => ⟨hlx h, rfl, rfl⟩, fun _ _ => rfl⟩
    refine ⟨g', build hlat (s := sv) ?_ ?_ ?_ he.frm.size he.frm.os he.frm.tape he.frm.output htm (SV.den_mono gx hd) ?_ ?_ ?_ ?_, fun x hx => he.pc x (hpx x hx)⟩
    · intro id h
      exact he.ga id (by show ¬ ((lockH (st i).c.h).length ≤ id ∧ id < c'.h.length); rw [hll, ← hnb]; exact h)
    · intro id h
      exact he.go id (by show ¬ ((lockH (st i).c.h).length ≤ id ∧ id < c'.h.length); rw [hll, ← hnb]; exact h)
    · intro k hk; exact he.frm.block k hk lockH_noWr
    · intro id h1 h2
      refine ⟨?_, he.heap.lt id (.inr ⟨by rw [hll]; exact h1, by show id < c'.h.length; omega⟩)⟩
      rcases he.fresh id (by show (lockH (st i).c.h).length ≤ id; rw [hll]; exact h1) (by show id < c'.h.length; omega) with h3 | h3
      · exact h3
      · exact absurd h3 lockH_noWr
    · intro id b h1 h2 hb
      obtain ⟨b0, hb0', q1, q2, q3, _⟩ := hget h1 hb
      obtain ⟨xs, t, fz, e1, e2, e3, e4, e5⟩ := he.heap.blk id b0 (.inr ⟨by rw [hll]; exact h1, by show id < c'.h.length; omega⟩) hb0'
      refine ⟨xs, t, fz, e1, e2, fun hx => e3 (by rw [q1]; exact hx), by omega, fun k s hs => ?_⟩
      have hks : k < xs.size := by have := (List.getElem?_eq_some_iff.1 hs).1; omega
      rcases q3 k s hs with rfl | h0
      · exact ⟨xs[k], Array.getElem?_eq_getElem hks, trivial⟩
      · obtain ⟨v, hv, hd⟩ := e5 k s h0
        exact ⟨v, hv, SV.den_mono gx hd⟩
    · intro id id' b b' h1 h2 h1' h2' hb hwr hb' hee
      obtain ⟨b0, hb0', q1, _⟩ := hget h1 hb
      obtain ⟨b0', hb0'', _⟩ := hget h1' hb'
      exact he.heap.inj id id' b0 b0' (.inr ⟨by rw [hll]; exact h1, by show id < c'.h.length; omega⟩) (.inr ⟨by rw [hll]; exact h1', by show id' < c'.h.length; omega⟩) hb0' (by rw [q1]; exact hwr) hb0'' hee
    · intro id b ks e h1 h2 hb hr
      obtain ⟨b0, hb0', _, _, _, q4⟩ := hget h1 hb
      exact he.heap.rows id b0 ks e (.inr ⟨by rw [hll]; exact h1, by show id < c'.h.length; omega⟩) hb0' (q4 _ hr)
  · rw [hwant hg]
    simp only [Bool.false_eq_true, if_false]
    have hnb : (st (i + 1)).c.h.length = (st i).c.h.length := by rw [hch]
    refine ⟨g, build hlat (s := skipped) (fun _ _ => ⟨rfl, rfl⟩) (fun _ _ => rfl) (fun _ _ => rfl) (Nat.le_refl _) rfl rfl rfl htm rfl ?_ ?_ ?_ ?_, by rw [hpx]; exact fun _ h => by cases h⟩
    · intro id h1 h2; omega
    · intro id b h1 h2; omega
    · intro id id' b b' h1 h2; omega
    · intro id b ks e h1 h2; omega
  · -- a store into a place of this statement itself
    have hw1 : Region.wanted o (yielded ops a.tmps) = true := by unfold Region.wanted; rw [hgd]
    rw [hw1]
    simp only [if_true]
    left
    have hlv : Lv L st n listed i id0 := by
      have := hslot p0 hlk
      rw [hptr] at this
      exact this.1
    have hlvn : Lv L st n listed n id0 := Lv_mono (by omega) hlv
    have hid : id0 < (st i).c.h.length := H.lv_lt hb0 (by omega) hlv
    have hbn : (st n).c.h[id0]? = some (some b0) := by rw [H.get (i := i) (j := n) (by omega) (Nat.le_refl _) hid]; exact hbk
    -- it was there, or it is of this statement
    have kind : (L id0 ∧ (st 0).c.h[id0]? = some (some b0)) ∨ ((st 0).c.h.length ≤ id0 ∧ w0.heap.size ≤ g.a id0) := by
      rcases hlv with h | ⟨j0, hj0, hj0n, hj0l, hj1, hj2⟩
      · exact .inl ⟨h, by rw [← H.get (i := 0) (j := i) (Nat.zero_le _) (by omega) (hb0 id0 h)]; exact hbk⟩
      · exact .inr ⟨Nat.le_trans (H.nb (i := 0) (j := j0) (Nat.zero_le _) (by omega)) hj1, inv.new j0 id0 hj0n hj0l hj1 hj2⟩
    have newOf : ∀ id, Lv L st n listed n id → (st 0).c.h.length ≤ id → w0.heap.size ≤ g.a id := by
      rintro id (h | ⟨j, h1, h2, h3, h4, h5⟩) hge
      · have := hb0 id h; omega
      · exact inv.new j id h2 h3 h4 h5
    -- another place is elsewhere
    have apart : ∀ id b, Lv L st n listed n id → (st n).c.h[id]? = some (some b) → id ≠ id0 → g.a id ≠ g.a id0 := by
      intro id b h hb hne he
      by_cases hL : (st 0).c.h.length ≤ id
      · rcases kind with ⟨h0, _⟩ | ⟨hbase, _⟩
        · have := newOf id h hL; have := inv.lt0 id0 h0; omega
        · exact hne (inv.inj id0 id b0 b hlvn h hbase hL hbn hwr hb he.symm).symm
      · rcases h with h | ⟨j, _, h2, _, h4, _⟩
        · rcases kind with ⟨h0, hk⟩ | ⟨_, hnew0⟩
          · have hb' : (st 0).c.h[id]? = some (some b) := by rw [← H.get (i := 0) (j := n) (Nat.zero_le _) (Nat.le_refl _) (hb0 id h)]; exact hb
            exact hne (inv.inj0 id0 id b0 b h0 h hk hwr hb' he.symm).symm
          · have := inv.lt0 id h; omega
        · have := H.nb (i := 0) (j := j) (Nat.zero_le _) (by omega); omega
    obtain ⟨xs0, t0, fz0, f1, f2, f3, f4⟩ : ∃ xs t fz, w.heap[g.a id0]? = some (.cells xs t fz) ∧ xs.size = g.n id0 ∧ (b0.wr = true → fz = (0, 0)) ∧ b0.cs.length ≤ xs.size := by
      rcases hlv with h | ⟨j0, hj0, hj0n, hj0l, hj1, hj2⟩
      · obtain ⟨xs, t, fz, e1, e2, e3, e4, _⟩ := inv.blk0 id0 b0 h (by rw [← H.get (i := 0) (j := i) (Nat.zero_le _) (by omega) (hb0 id0 h)]; exact hbk)
        exact ⟨xs, t, fz, e1, e2, e3, e4⟩
      · obtain ⟨xs, t, fz, e1, e2, e3, e4, _⟩ := inv.blkn j0 id0 b0 hj0n hj0l hj1 hj2 hbn
        exact ⟨xs, t, fz, e1, e2, e3, e4⟩
    have hoget : ∀ {id}, id ≠ id0 → (onlyH id0 b0 (st i).c.h)[id]? = (lockH (st i).c.h)[id]? := fun h => by unfold onlyH; rw [List.getElem?_set_ne (Ne.symm h)]
    have hoself : (onlyH id0 b0 (st i).c.h)[id0]? = some (some b0) := by unfold onlyH; rw [List.getElem?_set_self (by rw [lockH_length]; exact hid)]
    have holen : (onlyH id0 b0 (st i).c.h).length = (st i).c.h.length := by unfold onlyH; rw [List.length_set, lockH_length]
    have only_wr : ∀ {id b}, (onlyH id0 b0 (st i).c.h)[id]? = some (some b) → b.wr = true → id = id0 := by
      intro id b hb hx
      apply Classical.byContradiction
      intro hne
      rw [hoget hne] at hb
      rw [(lockH_get hb).1] at hx; cases hx
    have hho : HeapDen U r g (Lv L st n listed i) (onlyH id0 b0 (st i).c.h) w := by
      refine ⟨fun id h => by rw [holen]; exact H.lv_lt hb0 (by omega) h, fun id h => inv.lt id (Lv_mono (by omega) h), fun id b h hb => ?_, fun id id' b b' h h' hb hx hb' he => ?_, fun id b ks e h hb hr => ?_, fun id b hb hx => ?_⟩
      · by_cases hne : id = id0
        · subst hne
          rw [hoself] at hb
          cases hb
          refine ⟨xs0, t0, fz0, f1, f2, f3, f4, fun j c hc => ?_⟩
          have : c = .any := hany c (List.mem_of_getElem? hc)
          subst this
          have hlt : j < xs0.size := by have := (List.getElem?_eq_some_iff.1 hc).1; omega
          exact ⟨xs0[j], Array.getElem?_eq_getElem hlt, trivial⟩
        · rw [hoget hne] at hb
          exact hh.blk id b h hb
      · have e1 := only_wr hb hx
        subst e1
        apply Classical.byContradiction
        intro hne
        rw [hoget (Ne.symm hne)] at hb'
        obtain ⟨_, b2, hb2, _⟩ := lockH_get hb'
        have hb2' : (st n).c.h[id']? = some (some b2) := by rw [H.get (i := i) (j := n) (by omega) (Nat.le_refl _) (H.lv_lt hb0 (by omega) h')]; exact hb2
        exact apart id' b2 (Lv_mono (by omega) h') hb2' (Ne.symm hne) he.symm
      · by_cases hne : id = id0
        · subst hne; rw [hoself] at hb; cases hb; rw [hrow] at hr; cases hr
        · rw [hoget hne] at hb; exact hh.rows id b ks e h hb hr
      · rw [only_wr hb hx]; exact hlv
    refine wp_of_goal (opTree_ok hcf (c := ⟨onlyH id0 b0 (st i).c.h, (st i).c.nv, pc⟩) hho hpc hev (sat_leaf hleaf ?_))
    intro g' v w' he hd
    have hcl' : c'.h.length = (onlyH id0 b0 (st i).c.h).length := by rw [holen]; exact hcl
    have hga : ∀ id, g'.a id = g.a id ∧ g'.n id = g.n id := fun id => he.ga id (by show ¬ ((onlyH id0 b0 (st i).c.h).length ≤ id ∧ id < c'.h.length); omega)
    have hgo : ∀ id, g'.o id = g.o id := fun id => he.go id (by show ¬ ((onlyH id0 b0 (st i).c.h).length ≤ id ∧ id < c'.h.length); omega)
    have hLx : ∀ {id}, Lx (Lv L st n listed i) (onlyH id0 b0 (st i).c.h) c'.h id → Lv L st n listed i id := by
      rintro id (h | ⟨h1, h2⟩)
      · exact h
      · omega
    have gl : ∀ {m}, GLe g (Lv L st n listed m) g' (Lv L st n (listed.setIfInBounds i true) m) := fun {m} => ⟨fun id h => ⟨Lv_set h hil, hga id⟩, fun id _ => hgo id⟩
    have gl0 : GLe g L g' L := ⟨fun id h => ⟨h, hga id⟩, fun id _ => hgo id⟩
    have gx : GLe g' (Lx (Lv L st n listed i) (onlyH id0 b0 (st i).c.h) c'.h) g' (Lv L st n (listed.setIfInBounds i true) (i + 1)) := ⟨fun id h => ⟨Lv_mono (by omega) (Lv_set (hLx h) hil), rfl, rfl⟩, fun _ _ => rfl⟩
    have hnb : (st (i + 1)).c.h.length = (st i).c.h.length := by rw [hch]
    have old : ∀ {m id}, Lv L st n (listed.setIfInBounds i true) m id → Lv L st n listed m id := fun h => by
      rcases alt h with h | ⟨_, h1, h2⟩
      · exact h
      · omega
    have hblk : ∀ k, k < w.heap.size → k ≠ g.a id0 → w'.heap[k]? = w.heap[k]? := fun k hk hne => he.frm.block k hk (by
      rintro ⟨id, b, _, hb, hx, hk'⟩
      rw [only_wr hb hx] at hk'
      exact hne hk'.symm)
    rw [hdst]
    refine ⟨g', ⟨by simp [inv.lsz], fun t h1 h2 => by rw [getD_set_ne' (by omega)]; exact inv.tail t h1 h2, inv.defers, inv.size, fun t ht => SV.den_mono gl0 (inv.out t ht), fun j p t hj hp hpd hl => ?_, fun t hno => SV.den_mono gl0 (inv.oth t hno), fun id h => ?_, fun id h => ?_, fun id b hl hb => ?_, fun j id b hj hl h1 h2 hb => ?_, fun j id hj hl h1 h2 => ?_, fun id id' b b' h h' h0 h0' hb hx hb' hee => ?_, ?_, fun id h => (hgo id).trans (inv.go id h), fun id b ks e h hb hr => ?_, fun k id b' hk hl hlk => ?_, fun id h => by rw [(hga id).1]; exact inv.lt0 id h, fun id id' b b' h h' hb hw hb' he => inv.inj0 id id' b b' h h' hb hw hb' (by rw [(hga id).1, (hga id').1] at he; exact he)⟩, by rw [hpx]; exact fun _ h => by cases h⟩
    · by_cases hij : i = j
      · subst hij
        rw [ho'] at hp; cases hp
        rw [hdst] at hpd; cases hpd
      · rw [getD_set_ne' hij] at hl
        exact SV.den_mono gl (inv.own j p t hj hp hpd hl)
    · obtain ⟨h1, h2⟩ := hga id
      obtain ⟨h3, h4⟩ := inv.ga id h
      exact ⟨h1.trans h3, h2.trans h4⟩
    · rw [(hga id).1]; have := inv.lt id (old h); have := he.frm.size; omega
    · by_cases hne : id = id0
      · subst hne
        have e0 : b = b0 := by
          have h1 := H.get (i := 0) (j := n) (Nat.zero_le _) (Nat.le_refl _) (hb0 id hl)
          rw [hb, hbn] at h1
          exact (Option.some.inj (Option.some.inj h1)).symm
        subst e0
        obtain ⟨xs, t, fz, e1, e2, e3, e4, e5⟩ := he.heap.blk id b1 (.inl hlv) hcb
        refine ⟨xs, t, fz, e1, e2, fun _ => e3 hwr1, by omega, fun k s hs => ?_⟩
        have : s = .any := hany s (List.mem_of_getElem? hs)
        subst this
        have hlt : k < xs.size := by have := (List.getElem?_eq_some_iff.1 hs).1; omega
        exact ⟨xs[k], Array.getElem?_eq_getElem hlt, trivial⟩
      · obtain ⟨xs, t, fz, e1, e2, e3, e4, e5⟩ := inv.blk0 id b hl hb
        have hbn' : (st n).c.h[id]? = some (some b) := by rw [H.get (i := 0) (j := n) (Nat.zero_le _) (Nat.le_refl _) (hb0 id hl)]; exact hb
        refine ⟨xs, t, fz, by rw [(hga id).1, hblk _ (inv.lt id (.inl hl)) (apart id b (.inl hl) hbn' hne)]; exact e1, by rw [(hga id).2]; exact e2, e3, e4, fun j s hs => ?_⟩
        obtain ⟨v, hv, hd⟩ := e5 j s hs
        exact ⟨v, hv, SV.den_mono gl0 hd⟩
    · have hji : i ≠ j := fun e => by subst e; omega
      rw [getD_set_ne' hji] at hl
      have hlvj : Lv L st n listed n id := .inr ⟨j, hj, hj, hl, h1, h2⟩
      by_cases hne : id = id0
      · subst hne
        rw [hbn] at hb
        cases hb
        obtain ⟨xs, t, fz, e1, e2, e3, e4, e5⟩ := he.heap.blk id b1 (.inl hlv) hcb
        refine ⟨xs, t, fz, e1, e2, fun _ => e3 hwr1, by omega, fun k s hs => ?_⟩
        have : s = .any := hany s (List.mem_of_getElem? hs)
        subst this
        have hlt : k < xs.size := by have := (List.getElem?_eq_some_iff.1 hs).1; omega
        exact ⟨xs[k], Array.getElem?_eq_getElem hlt, trivial⟩
      · obtain ⟨xs, t, fz, e1, e2, e3, e4, e5⟩ := inv.blkn j id b hj hl h1 h2 hb
        refine ⟨xs, t, fz, by rw [(hga id).1, hblk _ (inv.lt id hlvj) (apart id b hlvj hb hne)]; exact e1, by rw [(hga id).2]; exact e2, e3, e4, fun k s hs => ?_⟩
        obtain ⟨v, hv, hd⟩ := e5 k s hs
        exact ⟨v, hv, SV.den_mono gl hd⟩
    · have hji : i ≠ j := fun e => by subst e; omega
      rw [getD_set_ne' hji] at hl
      rw [(hga id).1]; exact inv.new j id hj hl h1 h2
    · rw [(hga id).1, (hga id').1] at hee
      exact inv.inj id id' b b' (old h) (old h') h0 h0' hb hx hb' hee
    · have f := inv.frm
      have f' := he.frm
      exact ⟨f'.os.trans f.os, f'.tape.trans f.tape, f'.output.trans f.output, Nat.le_trans f.size f'.size, fun k hk hn => (hblk k (Nat.lt_of_lt_of_le hk f.size) (fun e => by
        rcases kind with ⟨h0, hk0⟩ | ⟨_, hnew0⟩
        · exact hn ⟨id0, b0, h0, hk0, hwr, by rw [e, (inv.ga id0 (by have := hb0 id0 h0; omega)).1]⟩
        · omega)).trans (f.block k hk hn)⟩
    · by_cases hne : id = id0
      · subst hne; rw [hbn] at hb; cases hb; rw [hrow] at hr; cases hr
      · obtain ⟨xs, t, fz, e1, e2⟩ := inv.rows id b ks e (old h) hb hr
        exact ⟨xs, t, fz, by rw [(hga id).1, hblk _ (inv.lt id (old h)) (apart id b (old h) hb hne)]; exact e1, by rw [hgo id]; exact e2⟩
    · by_cases hij : i = k
      · subst hij
        rw [hlat] at hlk
        cases hlk
        obtain ⟨xs, t, fz, e1, e2, e3, e4, e5⟩ := he.heap.blk id0 b1 (.inl hlv) hcb
        refine ⟨Lv_mono (by omega) (Lv_set hlv hil), xs, t, fz, e1, e4, fun j s hs => ?_⟩
        obtain ⟨v, hv, hd⟩ := e5 j s hs
        exact ⟨v, hv, SV.den_mono gx hd⟩
      · rw [getD_set_ne' hij] at hl
        obtain ⟨h0, xs, t, fz, e1, e2, e3⟩ := inv.late k id b' hk hl hlk
        have hne : id ≠ id0 := fun e => by subst e; exact hij (H.latInj i k id b1 b' hin hk hlat hlk)
        have hlvk : Lv L st n listed n id := Lv_mono (by omega) h0
        obtain ⟨ok, hok⟩ := H.op hk
        obtain ⟨bk, hbkk⟩ : ∃ bk, (st n).c.h[id]? = some (some bk) := by
          rcases (H.rel k ok hk hok).run with ⟨_, hn, _⟩ | ⟨_, hn, _⟩ | ⟨_, _, _, _, _, id2, b2, b2', p2, off2, pc2, sv2, c2, hl2, hb2, _⟩
          · rw [hlk] at hn; cases hn
          · rw [hlk] at hn; cases hn
          · rw [hlk] at hl2; cases hl2
            exact ⟨b2, by rw [H.get (i := k) (j := n) (by omega) (Nat.le_refl _) (List.getElem?_eq_some_iff.1 hb2).1]; exact hb2⟩
        refine ⟨Lv_set h0 hil, xs, t, fz, by rw [(hga id).1, hblk _ (inv.lt id hlvk) (apart id bk hlvk hbkk hne)]; exact e1, e2, fun j c hc => ?_⟩
        obtain ⟨v, hv, hd⟩ := e3 j c hc
        exact ⟨v, hv, SV.den_mono gl hd⟩
end
end Go.Sx

/-
  Sx, part N: a whole statement, of whatever order.
-/
namespace Go.Sx
open E (mk1 mk2 mkIte mk1_ev mk2_ev mkIte_ev)

section
variable {U : Nat → D → D} {r r' : Nat → D} {P : Program} {cf : FuncId → List SV → Cx → Tree (SV × Cx)} {ops : Array Oper} {n : Nat} {lat : Nat → Option (Nat × SB)} {st : Nat → St} {ps : Nat → List (E × Bool)}
variable {L : Nat → Prop} {g0 g g' : Gh} {c : Cx} {w0 w w' : World} {listed : Array Bool} {a : Act} {Q : Exit → Act → World → Prop}

theorem SPost.shift {Qn : Act → World → Prop} {c' : Cx} {r'' : Nat → D} {S'' : St} (e : Ext U L r g c w r' g' c' w') (h : SPost U L r g c w Qn r'' S'') : SPost U (Lx L c.h c'.h) r' g' c' w' Qn r'' S'' := by
  intro g2 a2 w2 e2 s2
  refine h g2 a2 w2 (e.trans e2) ?_
  rw [← Lx_trans e.len e2.len]; exact s2

theorem getD_lt_of {j : Nat} (h : j < listed.size) : listed.getD j true = listed.getD j false := by
  rw [Array.getD_eq_getD_getElem?, Array.getD_eq_getD_getElem?, Array.getElem?_eq_getElem h]; rfl

/-! ### The row in order -/

theorem tail_run (hcf : CallsOk U P cf) (hback : ∀ i, i < ops.toList.length → backOk ops.toList i = true) : ∀ (m p : Nat) (listed : Array Bool) (L : Nat → Prop) (r : Nat → D) (g : Gh) (S : St) (a : Act) (w : World),
    p + m = ops.size → listed.size = ops.size → (∀ j, j < p → listed.getD j false = true) → (∀ j, p ≤ j → j < ops.size → listed.getD j true = false) → (∀ k, p ≤ k → k < ops.size → lastOf ops.toList k = true) →
    HeapDen U r g L S.c.h w → PcOk U r S.c.pc → Slots U r g L S.tmps a →
    (runOps P cf ops (ops.toList.drop p) S).sat U (SPost U L r g S.c w (Q .normal)) r → wpAny P .any ops Q m listed a w := by
  intro m
  induction m with
  | zero =>
    intro p listed L r g S a w hpm hls hin hout hlast hh hp hs hsat
    have hdrop : ops.toList.drop p = [] := List.drop_eq_nil_of_le (by simp; omega)
    rw [hdrop] at hsat
    refine ⟨?_, hsat g a w (Ext.refl hh hp) (by rw [Lx_self]; exact hs)⟩
    cases hr : Region.ready .any ops listed with
    | nil => rfl
    | cons i l =>
      exfalso
      obtain ⟨h1, o, ho, _⟩ := mem_ready.1 (show i ∈ Region.ready .any ops listed by rw [hr]; simp)
      have hi : i < ops.size := (Array.getElem?_eq_some_iff.1 ho).1
      have h2 := hin i (by omega)
      rw [getD_lt_of (by omega)] at h1
      rw [h1] at h2; cases h2
  | succ m ih =>
    intro p listed L r g S a w hpm hls hin hout hlast hh hp hs hsat
    have hpl : p < ops.size := by omega
    have hop : ops[p]? = some ops[p] := Array.getElem?_eq_getElem hpl
    have hol : ops.toList[p]? = some ops[p] := by rw [Array.getElem?_toList]; exact hop
    have hready : p ∈ Region.ready .any ops listed := by
      refine mem_ready.2 ⟨hout p (Nat.le_refl _) hpl, ops[p], hop, fun e he hb => ?_⟩
      exact hin _ (backOk_lt hol (hback p (by simp only [Array.length_toList]; exact hpl)) he hb)
    refine ⟨fun h0 => by rw [h0] at hready; (cases hready), fun i hi => ?_⟩
    have hip : i = p := by
      obtain ⟨h1, o, ho, hall⟩ := mem_ready.1 hi
      have hil : i < ops.size := (Array.getElem?_eq_some_iff.1 ho).1
      rcases Nat.lt_trichotomy i p with h | h | h
      · have h2 := hin i h; rw [getD_lt_of (by omega)] at h1; rw [h1] at h2; cases h2
      · exact h
      · have h2 := hlast i (by omega) hil
        have hol' : ops.toList[i]? = some o := by simpa using ho
        have h3 := lastOf_waits hol' h2 h
        have h4 := waitsOn_listed h3 hall
        have h5 := hout p (Nat.le_refl _) hpl
        rw [getD_lt_of (by omega), h4] at h5; cases h5
    subst hip
    have hdrop : ops.toList.drop i = ops[i] :: ops.toList.drop (i + 1) := by
      rw [List.drop_eq_getElem_cons (by simpa using hpl)]; simp
    rw [hdrop, runOps, Tree.sat_bind] at hsat
    have hstep := stepX_ok (Q := Q) (K := fun a' w' => wpAny P .any ops Q m (listed.setIfInBounds i true) a' w') hcf hh hp hs (Tree.sat_mono ?_ hsat)
    · unfold wpOp
      rw [hop]
      dsimp only
      split
      · rename_i hw; rw [if_pos hw] at hstep; exact .inl hstep
      · rename_i hw; rw [if_neg hw] at hstep; exact hstep
    · intro r' S' hrest g' a' w' he hs'
      refine ih (i + 1) _ (Lx L S.c.h S'.c.h) r' g' S' a' w' (by omega) (by simp [hls]) ?_ ?_ (fun k h1 h2 => hlast k (by omega) h2) he.heap he.pc hs' (Tree.sat_mono ?_ hrest)
      · intro j hj
        by_cases hij : i = j
        · subst hij; exact getD_set_self' (by omega) _
        · rw [getD_set_ne' hij]; exact hin j (by omega)
      · intro j h1 h2; rw [getD_set_ne' (by omega)]; exact hout j (by omega) h2
      · intro r'' S'' hpost; exact hpost.shift he

theorem Ext.withPc {l : List (E × Bool)} {c' : Cx} (e : Ext U L r g c w r' g' c' w') (hl : PcOk U r' l) : Ext U L r g c w r' g' { c' with pc := l ++ c'.pc } w' :=
  ⟨e.nv, e.agr, e.len, e.ga, e.go, e.heap, fun x hx => (List.mem_append.1 hx).elim (hl x) (e.pc x), e.frm, e.wrs, e.fresh⟩
theorem flat_pc {l : List (List (E × Bool))} (h : ∀ j, j < l.length → PcOk U r (l.getD j [])) : PcOk U r l.flatten := by
  intro x hx
  obtain ⟨y, hy, hxy⟩ := List.mem_flatten.1 hx
  obtain ⟨j, hj, e⟩ := List.mem_iff_getElem.1 hy
  refine h j hj x ?_
  rw [List.getD_eq_getElem?_getD, List.getElem?_eq_getElem hj, e]; exact hxy

/-! ### The head -/

def unlisted (listed : Array Bool) (n : Nat) : Nat := ((List.range n).filter fun j => !listed.getD j false).length

theorem unlisted_zero (h : unlisted listed n = 0) : ∀ j, j < n → listed.getD j false = true := by
  intro j hj
  unfold unlisted at h
  have h0 := List.eq_nil_of_length_eq_zero h
  cases hx : listed.getD j false with
  | true => rfl
  | false =>
    have : j ∈ (List.range n).filter fun j => !listed.getD j false := List.mem_filter.2 ⟨List.mem_range.2 hj, by rw [hx]; rfl⟩
    rw [h0] at this; cases this

theorem unlisted_set {i : Nat} (hi : i < n) (hu : listed.getD i false = false) (hl : i < listed.size) : unlisted (listed.setIfInBounds i true) n + 1 = unlisted listed n := by
  unfold unlisted
  have key : ∀ (l : List Nat), l.Nodup → i ∈ l → (l.filter fun j => !(listed.setIfInBounds i true).getD j false).length + 1 = (l.filter fun j => !listed.getD j false).length := by
    intro l
    induction l with
    | nil => intro _ h; cases h
    | cons x l ih =>
      intro hnd hm
      rw [List.nodup_cons] at hnd
      by_cases hx : x = i
      · subst hx
        have e1 : (!(listed.setIfInBounds x true).getD x false) = false := by rw [getD_set_self' hl]; rfl
        have e2 : (!listed.getD x false) = true := by rw [hu]; rfl
        rw [List.filter_cons, List.filter_cons, e1, e2]
        simp only [Bool.false_eq_true, if_false, if_true, List.length_cons]
        congr 2
        refine List.filter_congr fun y hy => ?_
        rw [getD_set_ne' (fun e => hnd.1 (by rw [e]; exact hy))]
      · have hm' : i ∈ l := by
          rcases List.mem_cons.1 hm with h | h
          · exact absurd h.symm hx
          · exact h
        rw [List.filter_cons, List.filter_cons, getD_set_ne' (fun e => hx e.symm)]
        have := ih hnd.2 hm'
        split
        · simp only [List.length_cons]; omega
        · exact this
  exact key _ List.nodup_range (List.mem_range.2 hi)

theorem head_run (hcf : CallsOk U P cf) (H : Head U r P cf ops n lat st ps) (hb0 : ∀ id, L id → id < (st 0).c.h.length) (hlast : ∀ k, n ≤ k → k < ops.size → lastOf ops.toList k = true) {m : Nat}
    (tail : ∀ listed g a w, (∀ j, j < n → listed.getD j false = true) → (∀ j, j < n → PcOk U r (ps j)) → Inv U r ops n lat st L g0 w0 listed g a w → wpAny P .any ops Q m listed a w) :
    ∀ (k : Nat) (listed : Array Bool) (g : Gh) (a : Act) (w : World), Inv U r ops n lat st L g0 w0 listed g a w → (∀ j, j < n → listed.getD j false = true → PcOk U r (ps j)) → unlisted listed n = k → wpAny P .any ops Q (k + m) listed a w := by
  intro k
  induction k with
  | zero =>
    intro listed g a w inv hps hk
    rw [Nat.zero_add]
    exact tail listed g a w (unlisted_zero hk) (fun j hj => hps j hj (unlisted_zero hk j hj)) inv
  | succ k ih =>
    intro listed g a w inv hps hk
    rw [show k + 1 + m = (k + m) + 1 by omega]
    -- some operation of the head is not listed; the first such one is ready
    have hex : ∃ j, j < n ∧ listed.getD j false = false ∧ ∀ i, i < j → listed.getD i false = true := by
      have hne : ∃ j, j < n ∧ listed.getD j false = false := by
        apply Classical.byContradiction
        intro hno
        have : unlisted listed n = 0 := by
          unfold unlisted
          rw [List.length_eq_zero_iff, List.filter_eq_nil_iff]
          intro j hj hx
          refine hno ⟨j, List.mem_range.1 hj, by simpa using hx⟩
        omega
      obtain ⟨j, hj, hx⟩ := hne
      induction j using Nat.strongRecOn with
      | _ j ihj =>
        by_cases hall : ∀ i, i < j → listed.getD i false = true
        · exact ⟨j, hj, hx, hall⟩
        · simp only [Classical.not_forall] at hall
          obtain ⟨i, hi, hi'⟩ := hall
          exact ihj i hi (by omega) (by simpa using hi')
    obtain ⟨j, hj, hjx, hjb⟩ := hex
    have hjl : j < ops.size := by have := H.len; simp at this; omega
    have hready : j ∈ Region.ready .any ops listed := by
      have hop : ops[j]? = some ops[j] := Array.getElem?_eq_getElem hjl
      have hol : ops.toList[j]? = some ops[j] := by rw [Array.getElem?_toList]; exact hop
      refine mem_ready.2 ⟨by rw [getD_lt_of (by rw [inv.lsz]; exact hjl)]; exact hjx, ops[j], hop, fun e he hb => ?_⟩
      exact hjb _ (backOk_lt hol (H.back j (by simp only [Array.length_toList]; exact hjl)) he hb)
    refine ⟨fun h0 => by rw [h0] at hready; (cases hready), fun i hi => ?_⟩
    have hin : i < n := by
      rcases Nat.lt_or_ge i n with h | h
      · exact h
      · exfalso
        obtain ⟨h1, o, ho, hall⟩ := mem_ready.1 hi
        have hil : i < ops.size := (Array.getElem?_eq_some_iff.1 ho).1
        have h2 := hlast i h hil
        have hol' : ops.toList[i]? = some o := by simpa using ho
        have h3 := lastOf_waits (j := j) hol' h2 (by omega)
        have h4 := waitsOn_listed h3 hall
        rw [hjx] at h4; cases h4
    refine wpOp_mono ?_ (inv.step hcf H hb0 hi hin)
    rintro a' w' ⟨g', inv', hpx⟩
    refine ih _ g' a' w' inv' (fun j hj hl => ?_) ?_
    · by_cases hij : i = j
      · subst hij; exact hpx
      · rw [getD_set_ne' hij] at hl; exact hps j hj hl
    obtain ⟨h1, o, ho, _⟩ := mem_ready.1 hi
    have hil : i < listed.size := by rw [inv.lsz]; exact (Array.getElem?_eq_some_iff.1 ho).1
    have := unlisted_set (listed := listed) hin (by rw [← getD_lt_of hil]; exact h1) hil
    omega

/-- What the head leaves, whatever the order was. -/
theorem Inv.done (H : Head U r P cf ops n lat st ps) (hh : HeapDen U r g0 L (st 0).c.h w0) (inv : Inv U r ops n lat st L g0 w0 listed g a w) (hall : ∀ j, j < n → listed.getD j false = true) :
    Ext U L r g0 (st 0).c w0 r g (st n).c w ∧ Slots U r g (Lx L (st 0).c.h (st n).c.h) (st n).tmps a := by
  have cover : ∀ m, m ≤ n → ∀ id, (st 0).c.h.length ≤ id → id < (st m).c.h.length → ∃ j, j < m ∧ (st j).c.h.length ≤ id ∧ id < (st (j + 1)).c.h.length := by
    intro m
    induction m with
    | zero => intro _ id h1 h2; omega
    | succ m ih =>
      intro hm id h1 h2
      by_cases h : id < (st m).c.h.length
      · obtain ⟨j, h3, h4⟩ := ih (by omega) id h1 h; exact ⟨j, by omega, h4⟩
      · exact ⟨m, by omega, by omega, h2⟩
  have lvx : ∀ id, Lx L (st 0).c.h (st n).c.h id → Lv L st n listed n id := by
    rintro id (h | ⟨h1, h2⟩)
    · exact .inl h
    · obtain ⟨j, h3, h4, h5⟩ := cover n (Nat.le_refl _) id h1 h2
      exact .inr ⟨j, h3, h3, hall j h3, h4, h5⟩
  have xlv : ∀ m, m ≤ n → ∀ id, Lv L st n listed m id → Lx L (st 0).c.h (st n).c.h id := by
    rintro m hm id (h | ⟨j, h1, h2, h3, h4, h5⟩)
    · exact .inl h
    · right
      have := H.nb (i := 0) (j := j) (Nat.zero_le _) (by omega)
      have := H.nb (i := j + 1) (j := n) (by omega) (Nat.le_refl _)
      omega
  have glx : ∀ m, m ≤ n → GLe g (Lv L st n listed m) g (Lx L (st 0).c.h (st n).c.h) := fun m hm => ⟨fun id h => ⟨xlv m hm id h, rfl, rfl⟩, fun _ _ => rfl⟩
  have gl0 : GLe g L g (Lx L (st 0).c.h (st n).c.h) := ⟨fun id h => ⟨.inl h, rfl, rfl⟩, fun _ _ => rfl⟩
  have nb := H.nb (i := 0) (j := n) (Nat.zero_le _) (Nat.le_refl _)
  have ga0 : ∀ id, L id → g.a id = g0.a id := fun id h => (inv.ga id (by have := hh.bnd id h; omega)).1
  have split : ∀ id, Lx L (st 0).c.h (st n).c.h id → (L id ∧ id < (st 0).c.h.length) ∨ ((st 0).c.h.length ≤ id ∧ id < (st n).c.h.length ∧ w0.heap.size ≤ g.a id) := by
    rintro id (h | ⟨h1, h2⟩)
    · exact .inl ⟨h, hh.bnd id h⟩
    · right
      obtain ⟨j, h3, h4, h5⟩ := cover n (Nat.le_refl _) id h1 h2
      exact ⟨h1, h2, inv.new j id h3 (hall j h3) h4 h5⟩
  have get0 : ∀ {id}, id < (st 0).c.h.length → (st n).c.h[id]? = (st 0).c.h[id]? := fun h => H.get (Nat.zero_le _) (Nat.le_refl _) h
  refine ⟨⟨H.nv n (Nat.le_refl _), fun _ => rfl, nb, inv.ga, inv.go, ?_, H.pc n (Nat.le_refl _), ?_, ?_, ?_⟩, ?_⟩
  · refine ⟨?_, fun id h => inv.lt id (lvx id h), ?_, ?_, fun id b ks e h hb hr => inv.rows id b ks e (lvx id h) hb hr, fun id b hb hwr => ?_⟩
    · intro id h
      rcases split id h with ⟨_, h2⟩ | ⟨_, h2, _⟩
      · omega
      · exact h2
    · intro id b h hb
      rcases split id h with ⟨h1, h2⟩ | ⟨h1, h2, _⟩
      · rw [get0 h2] at hb
        obtain ⟨xs, t, fz, e1, e2, e3, e4, e5⟩ := inv.blk0 id b h1 hb
        exact ⟨xs, t, fz, e1, e2, e3, e4, fun j s hs => (by obtain ⟨v, hv, hd⟩ := e5 j s hs; exact ⟨v, hv, SV.den_mono gl0 hd⟩)⟩
      · obtain ⟨j, h3, h4, h5⟩ := cover n (Nat.le_refl _) id h1 h2
        obtain ⟨xs, t, fz, e1, e2, e3, e4, e5⟩ := inv.blkn j id b h3 (hall j h3) h4 h5 hb
        exact ⟨xs, t, fz, e1, e2, e3, e4, fun k s hs => (by obtain ⟨v, hv, hd⟩ := e5 k s hs; exact ⟨v, hv, SV.den_mono (glx (j + 1) (by omega)) hd⟩)⟩
    · intro i j b b' hi hj hb hwr hb' he
      rcases split i hi with ⟨h1, h2⟩ | ⟨h1, h2, h3⟩ <;> rcases split j hj with ⟨k1, k2⟩ | ⟨k1, k2, k3⟩
      · rw [get0 h2] at hb
        rw [get0 k2] at hb'
        rw [ga0 i h1, ga0 j k1] at he
        exact hh.inj i j b b' h1 k1 hb hwr hb' he
      · rw [ga0 i h1] at he; have := hh.lt i h1; omega
      · rw [ga0 j k1] at he; have := hh.lt j k1; omega
      · exact inv.inj i j b b' (lvx i hi) (lvx j hj) h1 k1 hb hwr hb' he
    · by_cases hlt : id < (st 0).c.h.length
      · rw [get0 hlt] at hb; exact .inl (hh.live id b hb hwr)
      · exact .inr ⟨by omega, (List.getElem?_eq_some_iff.1 hb).1⟩
  · have f := inv.frm
    exact ⟨f.os, f.tape, f.output, f.size, fun k hk hn => f.block k hk hn⟩
  · intro id b h hb hwr
    rcases split id h with ⟨h1, h2⟩ | ⟨h1, h2, h3⟩
    · right
      rw [get0 h2] at hb
      exact ⟨id, b, h1, hb, hwr, (ga0 id h1).symm⟩
    · exact .inl h3
  · intro id h1 h2
    rcases split id (.inr ⟨h1, h2⟩) with ⟨h3, h4⟩ | ⟨_, _, h3⟩
    · omega
    · exact .inl h3
  · refine ⟨inv.defers, by rw [inv.size, H.size n (Nat.le_refl _)], fun t => ?_⟩
    by_cases hown : ∃ j p, j < n ∧ ops.toList[j]? = some p ∧ p.dst = some t
    · obtain ⟨j, p, hj, hp, hd⟩ := hown
      exact SV.den_mono (glx (j + 1) (by omega)) (inv.own j p t hj hp hd (hall j hj))
    · have h1 := inv.oth t fun k o' hk hok hd => hown ⟨k, o', hk, hok, hd⟩
      rw [H.slot (i := 0) (t := t) n (Nat.zero_le _) (Nat.le_refl _) fun k o' _ h2 h3 hd => hown ⟨k, o', h2, h3, hd⟩]
      exact SV.den_mono gl0 h1

/-! ### A statement -/

def drawX (P : Program) (cf : FuncId → List SV → Cx → Tree (SV × Cx)) (ops : Array Oper) (S : St) : Tree St :=
  let l := ops.toList
  let n := headLen l
  if regionOk l ops n = true then (runQ P cf ops (l.take n) S).bind fun x => runOps P cf ops (l.drop n) (withPc x.1 x.2) else .bad

theorem drawX_ok (hm : P.follows .mixedOrders = true) (hcf : CallsOk U P cf) {id : Nat} {S : St} (hh : HeapDen U r g L S.c.h w) (hp : PcOk U r S.c.pc) (hs : Slots U r g L S.tmps a)
    (h : (drawX P cf ops S).sat U (SPost U L r g S.c w (Q .normal)) r) : (Code.region id ops true).wp P Q a w := by
  unfold drawX at h
  dsimp only at h
  split at h
  · rename_i hok
    simp only [regionOk, Bool.and_eq_true, List.all_eq_true, List.mem_range] at hok
    rw [Tree.sat_bind] at h
    obtain ⟨st, ps, h1, h2, hpl, h3⟩ := runQ_states (base := S.c.h.length) hp h
    have hn : headLen ops.toList ≤ ops.toList.length := headGo_le _ _
    have hlen : (ops.toList.take (headLen ops.toList)).length = headLen ops.toList := by rw [List.length_take]; exact Nat.min_eq_left hn
    rw [hlen] at h3 hpl
    dsimp only at h3
    subst h1
    have hlast : ∀ k, headLen ops.toList ≤ k → k < ops.size → lastOf ops.toList k = true := fun k k1 k2 => headGo_last _ _ k k1 (by simpa using k2)
    have H : Head U r P cf ops (headLen ops.toList) (fun _ => none) st (fun i => ps.getD i []) :=
      ⟨fun i o hi ho => h2 i o (by rw [List.getElem?_take, if_pos hi]; exact ho), hn, hok.1, hok.2.1, hok.2.2, hp, fun k k' id b b' _ _ h => by cases h⟩
    let w1 : World := { w with drawn := w.drawn + 1 }
    have hsame : Same w w1 := ⟨rfl, rfl, rfl, rfl⟩
    have hh1 : HeapDen U r g L (st 0).c.h w1 := hh.same hsame
    have inv0 : Inv U r ops (headLen ops.toList) (fun _ => none) st L g w1 (Array.replicate ops.size false) g a w1 := by
      have hrep : ∀ t, (Array.replicate ops.size false).getD t false = false := fun t => by
        rw [Array.getD_eq_getD_getElem?, Array.getElem?_replicate]; split <;> rfl
      refine ⟨by simp, ?_, hs.defers, hs.size, fun t ht => ?_, ?_, fun t _ => hs.at_ t, fun _ _ => ⟨rfl, rfl⟩, ?_, hh1.blk, ?_, ?_, ?_, Frm.refl _ _, fun _ _ => rfl, ?_, fun k id b' _ _ h => (by cases h), hh1.lt, hh1.inj⟩
      · intro t _ ht; rw [Array.getD_eq_getD_getElem?, Array.getElem?_replicate, if_pos ht]; rfl
      · have := hs.at_ t
        rw [Array.getD_eq_getD_getElem?, Array.getElem?_eq_none (by rw [hs.size]; exact ht)] at this; exact this
      · intro i o t _ _ _ hl; rw [hrep] at hl; cases hl
      · rintro id (hl | ⟨j, _, _, hl, _⟩)
        · exact hh1.lt id hl
        · rw [hrep] at hl; cases hl
      · intro i id b _ hl; rw [hrep] at hl; cases hl
      · intro i id _ hl; rw [hrep] at hl; cases hl
      · rintro id id' b b' (hl | ⟨j, _, _, hl, _⟩) _ h0
        · have := hh1.bnd id hl; omega
        · rw [hrep] at hl; cases hl
      · rintro id b ks e (hl | ⟨j, _, _, hl, _⟩) hb hr
        · rw [H.get (i := 0) (j := headLen ops.toList) (Nat.zero_le _) (Nat.le_refl _) (hh1.bnd id hl)] at hb
          exact hh1.rows id b ks e hl hb hr
        · rw [hrep] at hl; cases hl
    refine wp_region_any hm ?_
    have hsize : headLen ops.toList + (ops.size - headLen ops.toList) = ops.size := by
      have : headLen ops.toList ≤ ops.size := by simpa using hn
      omega
    have hun : unlisted (Array.replicate ops.size false) (headLen ops.toList) = headLen ops.toList := by
      unfold unlisted
      rw [List.filter_eq_self.2, List.length_range]
      intro j _
      rw [Array.getD_eq_getD_getElem?, Array.getElem?_replicate]; split <;> rfl
    have key := head_run (Q := Q) (m := ops.size - headLen ops.toList) hcf H hh1.bnd hlast ?_ _ _ g a w1 inv0 (fun j _ hl => by rw [Array.getD_eq_getD_getElem?, Array.getElem?_replicate] at hl; split at hl <;> simp at hl) hun
    · rw [hsize] at key; exact key
    · intro listed g' a' w' hall hps inv
      obtain ⟨e0, hs'⟩ := inv.done H hh1 hall
      have e := e0.withPc (flat_pc (l := ps) (fun j hj => hps j (by omega)))
      refine tail_run hcf hok.1 _ (headLen ops.toList) listed (Lx L (st 0).c.h (st (headLen ops.toList)).c.h) r g' (withPc (st (headLen ops.toList)) ps.flatten) a' w' hsize inv.lsz hall inv.tail hlast e.heap e.pc hs' (Tree.sat_mono ?_ h3)
      intro r'' S'' hpost
      exact hpost.shift (e.of_same hsame)
  · exact h.elim

/-! ### Late stores -/

/-- The places with what late stores have left. -/
def fillH : List (Option (Nat × SB)) → SH → SH
  | [], h => h
  | some (id, b) :: l, h => fillH l (h.set id (some b))
  | none :: l, h => fillH l h

def lateIds : List (Option (Nat × SB)) → List Nat
  | [] => []
  | some (id, _) :: l => id :: lateIds l
  | none :: l => lateIds l
def allApart : List Nat → Bool
  | [] => true
  | a :: l => l.all (fun x => !Nat.beq x a) && allApart l

theorem lateIds_mem : ∀ {ls : List (Option (Nat × SB))} {k id : Nat} {b : SB}, ls.getD k none = some (id, b) → id ∈ lateIds ls := by
  intro ls
  induction ls with
  | nil => intro k id b h; simp at h
  | cons x l ih =>
    intro k id b h
    cases k with
    | zero =>
      have h : x = some (id, b) := by simpa using h
      subst h; simp [lateIds]
    | succ k =>
      have := ih (k := k) (id := id) (b := b) (by simpa using h)
      cases x with
      | none => exact this
      | some y => obtain ⟨i, c⟩ := y; exact List.mem_cons_of_mem _ this

theorem lateIds_inj : ∀ {ls : List (Option (Nat × SB))}, allApart (lateIds ls) = true → ∀ {k k' id : Nat} {b b' : SB}, ls.getD k none = some (id, b) → ls.getD k' none = some (id, b') → k = k' := by
  intro ls
  induction ls with
  | nil => intro _ k k' id b b' h; simp at h
  | cons x l ih =>
    intro ha k k' id b b' h h'
    have tl : allApart (lateIds l) = true := by
      cases x with
      | none => exact ha
      | some y => obtain ⟨i, c⟩ := y; simp only [lateIds, allApart, Bool.and_eq_true] at ha; exact ha.2
    have hd : ∀ {k id : Nat} {b c : SB}, x = some (id, c) → l.getD k none = some (id, b) → False := by
      intro k id b c hx hl
      subst hx
      simp only [lateIds, allApart, Bool.and_eq_true, List.all_eq_true] at ha
      have := ha.1 id (lateIds_mem hl)
      simp at this
    cases k with
    | zero =>
      cases k' with
      | zero => rfl
      | succ k' => exact (hd (by simpa using h) (by simpa using h')).elim
    | succ k =>
      cases k' with
      | zero => exact (hd (by simpa using h') (by simpa using h)).elim
      | succ k' => exact congrArg Nat.succ (ih tl (k := k) (k' := k') (id := id) (b := b) (b' := b') (by simpa using h) (by simpa using h'))

theorem fillH_length : ∀ {ls : List (Option (Nat × SB))} {h : SH}, (fillH ls h).length = h.length := by
  intro ls
  induction ls with
  | nil => intro h; rfl
  | cons x l ih =>
    intro h
    cases x with
    | none => exact ih
    | some y => obtain ⟨i, b⟩ := y; simp only [fillH]; rw [ih, List.length_set]

theorem fillH_get : ∀ {ls : List (Option (Nat × SB))} {h : SH} {id : Nat}, (fillH ls h)[id]? = h[id]? ∨ ∃ k b, k < ls.length ∧ ls.getD k none = some (id, b) ∧ (fillH ls h)[id]? = some (some b) := by
  intro ls
  induction ls with
  | nil => intro h id; exact .inl rfl
  | cons x l ih =>
    intro h id
    cases x with
    | none =>
      rcases ih (h := h) (id := id) with h1 | ⟨k, b, h1, h2, h3⟩
      · exact .inl h1
      · exact .inr ⟨k + 1, b, by simp; omega, by simpa using h2, h3⟩
    | some y =>
      obtain ⟨i, b0⟩ := y
      simp only [fillH]
      rcases ih (h := h.set i (some b0)) (id := id) with h1 | ⟨k, b, h1, h2, h3⟩
      · by_cases hi : i = id
        · subst hi
          by_cases hlt : i < h.length
          · rw [List.getElem?_set_self hlt] at h1
            exact .inr ⟨0, b0, by simp, by simp, h1⟩
          · left
            rw [h1, List.getElem?_eq_none (by rw [List.length_set]; omega), List.getElem?_eq_none (by omega)]
        · rw [List.getElem?_set_ne hi] at h1; exact .inl h1
      · exact .inr ⟨k + 1, b, by simp; omega, by simpa using h2, h3⟩

theorem Inv.doneL (H : Head U r P cf ops n lat st ps) (hh : HeapDen U r g0 L (st 0).c.h w0) (inv : Inv U r ops n lat st L g0 w0 listed g a w) (hall : ∀ j, j < n → listed.getD j false = true) {ls : List (Option (Nat × SB))} (hls : ∀ k, lat k = ls.getD k none) (hln : ls.length = n) :
    Ext U L r g0 (st 0).c w0 r g ⟨fillH ls (st n).c.h, (st n).c.nv, (st n).c.pc⟩ w ∧ Slots U r g (Lx L (st 0).c.h (fillH ls (st n).c.h)) (st n).tmps a := by
  obtain ⟨e, hs⟩ := inv.done H hh hall
  have hLx : Lx L (st 0).c.h (fillH ls (st n).c.h) = Lx L (st 0).c.h (st n).c.h := by
    funext id; unfold Lx; rw [fillH_length]
  -- a place that a late store has filled
  have isLate : ∀ {k id : Nat} {b' : SB}, k < ls.length → ls.getD k none = some (id, b') → ∃ b, (st n).c.h[id]? = some (some b) ∧ b.wr = true ∧ b'.wr = true ∧ b'.row = none := by
    intro k id b' hk hl
    have hkn : k < n := by omega
    obtain ⟨o, ho⟩ := H.op hkn
    have hl' : lat k = some (id, b') := by rw [hls]; exact hl
    rcases (H.rel k o hkn ho).run with ⟨_, hn, _⟩ | ⟨_, hn, _⟩ | ⟨_, _, _, _, _, id2, b2, b2', p2, off2, pc2, sv2, c2, hl2, hb2, hw2, _, _, hw2', hr2', _⟩
    · rw [hl'] at hn; cases hn
    · rw [hl'] at hn; cases hn
    · rw [hl'] at hl2; cases hl2
      exact ⟨b2, by rw [H.get (i := k) (j := n) (by omega) (Nat.le_refl _) (List.getElem?_eq_some_iff.1 hb2).1]; exact hb2, hw2, hw2', hr2'⟩
  have under : ∀ {id : Nat} {b : SB}, (fillH ls (st n).c.h)[id]? = some (some b) → ∃ b0, (st n).c.h[id]? = some (some b0) ∧ (b.wr = true → b0.wr = true) := by
    intro id b hb
    rcases fillH_get (ls := ls) (h := (st n).c.h) (id := id) with h1 | ⟨k, b', h1, h2, h3⟩
    · rw [h1] at hb; exact ⟨b, hb, fun h => h⟩
    · obtain ⟨b0, q1, q2, _⟩ := isLate h1 h2
      exact ⟨b0, q1, fun _ => q2⟩
  have lvx : ∀ {m id}, m ≤ n → Lv L st n listed m id → Lx L (st 0).c.h (st n).c.h id := by
    rintro m id hm (h | ⟨j, h1, h2, h3, h4, h5⟩)
    · exact .inl h
    · right
      have := H.nb (i := 0) (j := j) (Nat.zero_le _) (by omega)
      have := H.nb (i := j + 1) (j := n) (by omega) (Nat.le_refl _)
      omega
  refine ⟨⟨e.nv, e.agr, by show (st 0).c.h.length ≤ (fillH ls (st n).c.h).length; rw [fillH_length]; exact e.len, ?_, ?_, ?_, e.pc, e.frm, ?_, ?_⟩, by rw [hLx]; exact hs⟩
  · intro id h; exact e.ga id (by have h : ¬ ((st 0).c.h.length ≤ id ∧ id < (fillH ls (st n).c.h).length) := h; rw [fillH_length] at h; exact h)
  · intro id h; exact e.go id (by have h : ¬ ((st 0).c.h.length ≤ id ∧ id < (fillH ls (st n).c.h).length) := h; rw [fillH_length] at h; exact h)
  · show HeapDen U r g (Lx L (st 0).c.h (fillH ls (st n).c.h)) (fillH ls (st n).c.h) w
    rw [hLx]
    refine ⟨fun id h => by rw [fillH_length]; exact e.heap.bnd id h, e.heap.lt, fun id b h hb => ?_, fun i j b b' hi hj hb hw hb' he => ?_, fun id b ks x h hb hr => ?_, fun id b hb hw => ?_⟩
    · rcases fillH_get (ls := ls) (h := (st n).c.h) (id := id) with h1 | ⟨k, b', h1, h2, h3⟩
      · rw [h1] at hb; exact e.heap.blk id b h hb
      · rw [h3] at hb
        cases hb
        obtain ⟨b0, q1, q2, q3, q4⟩ := isLate h1 h2
        obtain ⟨xs, t, fz, e1, e2, e3, e4, e5⟩ := e.heap.blk id b0 h q1
        obtain ⟨k0, xs', t', fz', f1, f2, f3⟩ := inv.late k id b (by omega) (hall k (by omega)) (by rw [hls]; exact h2)
        rw [e1] at f1
        cases f1
        refine ⟨xs, t, fz, e1, e2, fun _ => e3 q2, f2, fun j c hc => ?_⟩
        obtain ⟨v, hv, hd⟩ := f3 j c hc
        exact ⟨v, hv, SV.den_mono ⟨fun id h => ⟨lvx (by omega) h, rfl, rfl⟩, fun _ _ => rfl⟩ hd⟩
    · obtain ⟨b0, q1, q2⟩ := under hb
      obtain ⟨b0', q1', _⟩ := under hb'
      exact e.heap.inj i j b0 b0' hi hj q1 (q2 hw) q1' he
    · rcases fillH_get (ls := ls) (h := (st n).c.h) (id := id) with h1 | ⟨k, b', h1, h2, h3⟩
      · rw [h1] at hb; exact e.heap.rows id b ks x h hb hr
      · rw [h3] at hb
        cases hb
        obtain ⟨b0, q1, q2, q3, q4⟩ := isLate h1 h2
        rw [q4] at hr; cases hr
    · obtain ⟨b0, q1, q2⟩ := under hb
      exact e.heap.live id b0 q1 (q2 hw)
  · intro id b h hb hw
    have h : Lx L (st 0).c.h (fillH ls (st n).c.h) id := h
    rw [hLx] at h
    obtain ⟨b0, q1, q2⟩ := under hb
    exact e.wrs id b0 h q1 (q2 hw)
  · intro id h1 h2
    exact e.fresh id h1 (by have h2 : id < (fillH ls (st n).c.h).length := h2; rw [fillH_length] at h2; exact h2)

/-- A statement of open order in which places of its own are filled. -/
def drawX3c (P : Program) (cf : FuncId → List SV → Cx → Tree (SV × Cx)) (ops : Array Oper) (S : St) : Tree St :=
  let l := ops.toList
  let n := headLen l
  if regionOk l ops n = true then (runL P cf ops S.c.h.length (l.take n) (l.take n) S).bind fun x =>
    if allApart (lateIds x.2.1) = true then runOps P cf ops (l.drop n) ⟨x.1.tmps, ⟨fillH x.2.1 x.1.c.h, x.1.c.nv, x.2.2 ++ x.1.c.pc⟩⟩ else .bad
  else .bad

theorem drawX3c_ok (hm : P.follows .mixedOrders = true) (hcf : CallsOk U P cf) {id : Nat} {S : St} (hh : HeapDen U r g L S.c.h w) (hp : PcOk U r S.c.pc) (hs : Slots U r g L S.tmps a)
    (h : (drawX3c P cf ops S).sat U (SPost U L r g S.c w (Q .normal)) r) : (Code.region id ops true).wp P Q a w := by
  unfold drawX3c at h
  dsimp only at h
  split at h
  · rename_i hok
    simp only [regionOk, Bool.and_eq_true, List.all_eq_true, List.mem_range] at hok
    rw [Tree.sat_bind] at h
    obtain ⟨st, ls, ps, h1, h2, hln, hpl, h3⟩ := runL_states hp h
    split at h3
    rotate_left
    · exact h3.elim
    rename_i hap
    have hn : headLen ops.toList ≤ ops.toList.length := headGo_le _ _
    have hlen : (ops.toList.take (headLen ops.toList)).length = headLen ops.toList := by rw [List.length_take]; exact Nat.min_eq_left hn
    rw [hlen] at h3 hln hpl
    dsimp only at h3 hap
    subst h1
    have hlast : ∀ k, headLen ops.toList ≤ k → k < ops.size → lastOf ops.toList k = true := fun k k1 k2 => headGo_last _ _ k k1 (by simpa using k2)
    have H : Head U r P cf ops (headLen ops.toList) (fun k => ls.getD k none) st (fun i => ps.getD i []) :=
      ⟨fun i o hi ho => h2 i o (by rw [List.getElem?_take, if_pos hi]; exact ho), hn, hok.1, hok.2.1, hok.2.2, hp, fun k k' id b b' _ _ h h' => lateIds_inj hap h h'⟩
    let w1 : World := { w with drawn := w.drawn + 1 }
    have hsame : Same w w1 := ⟨rfl, rfl, rfl, rfl⟩
    have hh1 : HeapDen U r g L (st 0).c.h w1 := hh.same hsame
    have inv0 : Inv U r ops (headLen ops.toList) (fun k => ls.getD k none) st L g w1 (Array.replicate ops.size false) g a w1 := by
      have hrep : ∀ t, (Array.replicate ops.size false).getD t false = false := fun t => by
        rw [Array.getD_eq_getD_getElem?, Array.getElem?_replicate]; split <;> rfl
      refine ⟨by simp, ?_, hs.defers, hs.size, fun t ht => ?_, ?_, fun t _ => hs.at_ t, fun _ _ => ⟨rfl, rfl⟩, ?_, hh1.blk, ?_, ?_, ?_, Frm.refl _ _, fun _ _ => rfl, ?_, fun k id b' _ hl _ => (by rw [hrep] at hl; cases hl), hh1.lt, hh1.inj⟩
      · intro t _ ht; rw [Array.getD_eq_getD_getElem?, Array.getElem?_replicate, if_pos ht]; rfl
      · have := hs.at_ t
        rw [Array.getD_eq_getD_getElem?, Array.getElem?_eq_none (by rw [hs.size]; exact ht)] at this; exact this
      · intro i o t _ _ _ hl; rw [hrep] at hl; cases hl
      · rintro id (hl | ⟨j, _, _, hl, _⟩)
        · exact hh1.lt id hl
        · rw [hrep] at hl; cases hl
      · intro i id b _ hl; rw [hrep] at hl; cases hl
      · intro i id _ hl; rw [hrep] at hl; cases hl
      · rintro id id' b b' (hl | ⟨j, _, _, hl, _⟩) _ h0
        · have := hh1.bnd id hl; omega
        · rw [hrep] at hl; cases hl
      · rintro id b ks e (hl | ⟨j, _, _, hl, _⟩) hb hr
        · rw [H.get (i := 0) (j := headLen ops.toList) (Nat.zero_le _) (Nat.le_refl _) (hh1.bnd id hl)] at hb
          exact hh1.rows id b ks e hl hb hr
        · rw [hrep] at hl; cases hl
    refine wp_region_any hm ?_
    have hsize : headLen ops.toList + (ops.size - headLen ops.toList) = ops.size := by
      have : headLen ops.toList ≤ ops.size := by simpa using hn
      omega
    have hun : unlisted (Array.replicate ops.size false) (headLen ops.toList) = headLen ops.toList := by
      unfold unlisted
      rw [List.filter_eq_self.2, List.length_range]
      intro j _
      rw [Array.getD_eq_getD_getElem?, Array.getElem?_replicate]; split <;> rfl
    have key := head_run (Q := Q) (m := ops.size - headLen ops.toList) hcf H hh1.bnd hlast ?_ _ _ g a w1 inv0 (fun j _ hl => by rw [Array.getD_eq_getD_getElem?, Array.getElem?_replicate] at hl; split at hl <;> simp at hl) hun
    · rw [hsize] at key; exact key
    · intro listed g' a' w' hall hps inv
      obtain ⟨e0, hs'⟩ := inv.doneL H hh1 hall (fun _ => rfl) hln
      have e := e0.withPc (flat_pc (l := ps) (fun j hj => hps j (by omega)))
      refine tail_run hcf hok.1 _ (headLen ops.toList) listed (Lx L (st 0).c.h (fillH ls (st (headLen ops.toList)).c.h)) r g' ⟨(st (headLen ops.toList)).tmps, ⟨fillH ls (st (headLen ops.toList)).c.h, (st (headLen ops.toList)).c.nv, ps.flatten ++ (st (headLen ops.toList)).c.pc⟩⟩ a' w' hsize inv.lsz hall inv.tail hlast e.heap e.pc hs' (Tree.sat_mono ?_ h3)
      intro r'' S'' hpost
      exact hpost.shift (e.of_same hsame)
  · exact h.elim

/-- The old place into which a step of the head stores. -/
def sinkOf (l : List Oper) (S : St) (o : Oper) : Option Nat := match o.op, o.guard, o.dst with
  | .store _ (.tmp p) _, none, none => if l.any fun q => (match q.dst with
      | some d => Nat.beq d p
      | none => false) then none else (match S.tmps.get p with
    | .ptr id _ => some id
    | _ => none)
  | _, _, _ => none
/-- Old places into which steps of the head store: nothing is known of them any more. -/
def sinkH : List Nat → SH → SH
  | [], h => h
  | id :: l, h => sinkH l (match h[id]? with
    | some (some b) => if b.wr && b.row.isNone then h.set id (some ⟨true, b.cs.map fun _ => .any, none⟩) else h
    | _ => h)
def sinkS (ops : Array Oper) (S : St) : St :=
  let l := ops.toList.take (headLen ops.toList)
  ⟨S.tmps, { S.c with h := sinkH (l.filterMap (sinkOf l S)) S.c.h }⟩
theorem sinkH_length : ∀ {l : List Nat} {h : SH}, (sinkH l h).length = h.length := by
  intro l
  induction l with
  | nil => intro h; rfl
  | cons id l ih =>
    intro h
    simp only [sinkH]
    rw [ih]
    split
    · split
      · rw [List.length_set]
      · rfl
    · rfl
theorem sinkH_get : ∀ {l : List Nat} {h : SH} {id : Nat}, (sinkH l h)[id]? = h[id]? ∨ ∃ b, h[id]? = some (some b) ∧ b.wr = true ∧ (sinkH l h)[id]? = some (some ⟨true, b.cs.map fun _ => .any, none⟩) := by
  intro l
  induction l with
  | nil => intro h id; exact .inl rfl
  | cons i l ih =>
    intro h id
    simp only [sinkH]
    cases hb : h[i]? with
    | none => exact ih
    | some ob =>
      cases ob with
      | none => exact ih
      | some b =>
        dsimp only
        split
        · rename_i hc
          rw [Bool.and_eq_true] at hc
          have hlt := (List.getElem?_eq_some_iff.1 hb).1
          by_cases hi : i = id
          · subst hi
            rcases ih (h := h.set i (some ⟨true, b.cs.map fun _ => .any, none⟩)) (id := i) with h1 | ⟨b1, h1, h2, h3⟩
            · rw [List.getElem?_set_self hlt] at h1
              exact .inr ⟨b, hb, hc.1, h1⟩
            · rw [List.getElem?_set_self hlt] at h1
              cases h1
              refine .inr ⟨b, hb, hc.1, ?_⟩
              rw [h3, List.map_map]; rfl
          · rcases ih (h := h.set i (some ⟨true, b.cs.map fun _ => .any, none⟩)) (id := id) with h1 | ⟨b1, h1, h2, h3⟩
            · rw [List.getElem?_set_ne hi] at h1; exact .inl h1
            · rw [List.getElem?_set_ne hi] at h1; exact .inr ⟨b1, h1, h2, h3⟩
        · exact ih
theorem sinkH_back {l : List Nat} {h : SH} {id : Nat} {b : SB} (hb : (sinkH l h)[id]? = some (some b)) : ∃ b0, h[id]? = some (some b0) ∧ (b.wr = true → b0.wr = true) := by
  rcases sinkH_get (l := l) (h := h) (id := id) with h1 | ⟨b0, h1, h2, h3⟩
  · rw [h1] at hb; exact ⟨b, hb, fun h => h⟩
  · exact ⟨b0, h1, fun _ => h2⟩
theorem HeapDen.sink {l : List Nat} {h : SH} (hh : HeapDen U r g L h w) : HeapDen U r g L (sinkH l h) w := by
  refine ⟨fun id hl => by rw [sinkH_length]; exact hh.bnd id hl, hh.lt, fun id b hl hb => ?_, fun i j b b' hi hj hb hw hb' he => ?_, fun id b ks e hl hb hr => ?_, fun id b hb hw => ?_⟩
  · rcases sinkH_get (l := l) (h := h) (id := id) with h1 | ⟨b0, h1, h2, h3⟩
    · rw [h1] at hb; exact hh.blk id b hl hb
    · rw [h3] at hb
      cases hb
      obtain ⟨xs, t, fz, e1, e2, e3, e4, _⟩ := hh.blk id b0 hl h1
      refine ⟨xs, t, fz, e1, e2, fun _ => e3 h2, by simpa using e4, fun j c hc => ?_⟩
      have hlt : j < xs.size := by have := (List.getElem?_eq_some_iff.1 hc).1; simp at this; omega
      rw [List.getElem?_map] at hc
      cases hx : b0.cs[j]? with
      | none => rw [hx] at hc; cases hc
      | some y =>
        rw [hx] at hc
        simp only [Option.map_some, Option.some.injEq] at hc
        subst hc
        exact ⟨xs[j], Array.getElem?_eq_getElem hlt, trivial⟩
  · obtain ⟨b0, q1, q2⟩ := sinkH_back hb
    obtain ⟨b0', q1', _⟩ := sinkH_back hb'
    exact hh.inj i j b0 b0' hi hj q1 (q2 hw) q1' he
  · rcases sinkH_get (l := l) (h := h) (id := id) with h1 | ⟨b0, h1, h2, h3⟩
    · rw [h1] at hb; exact hh.rows id b ks e hl hb hr
    · rw [h3] at hb; cases hb; cases hr
  · obtain ⟨b0, q1, q2⟩ := sinkH_back hb
    exact hh.live id b0 q1 (q2 hw)
theorem Wr_sink {l : List Nat} {h : SH} {k : Nat} (hw : Wr g L (sinkH l h) k) : Wr g L h k := by
  obtain ⟨id, b, h1, h2, h3, h4⟩ := hw
  obtain ⟨b0, q1, q2⟩ := sinkH_back h2
  exact ⟨id, b0, h1, q1, q2 h3, h4⟩
theorem Lx_sink {l : List Nat} {h h' : SH} : Lx L (sinkH l h) h' = Lx L h h' := by
  funext id; unfold Lx; rw [sinkH_length]
theorem Ext.of_sink {l : List Nat} {c' : Cx} (e : Ext U L r g ⟨sinkH l c.h, c.nv, c.pc⟩ w r' g' c' w') : Ext U L r g c w r' g' c' w' := by
  have hl : (sinkH l c.h).length = c.h.length := sinkH_length
  refine ⟨e.nv, e.agr, by rw [← hl]; exact e.len, fun id h => e.ga id (by show ¬ ((sinkH l c.h).length ≤ id ∧ _); rw [hl]; exact h), fun id h => e.go id (by show ¬ ((sinkH l c.h).length ≤ id ∧ _); rw [hl]; exact h), by have := e.heap; rw [show (⟨sinkH l c.h, c.nv, c.pc⟩ : Cx).h = sinkH l c.h from rfl, Lx_sink] at this; exact this, e.pc, ?_, fun id b h hb hw => ?_, fun id h1 h2 => ?_⟩
  · exact ⟨e.frm.os, e.frm.tape, e.frm.output, e.frm.size, fun k hk hn => e.frm.block k hk fun hw => hn (Wr_sink hw)⟩
  · exact (e.wrs id b (by show Lx L (sinkH l c.h) c'.h id; rw [Lx_sink]; exact h) hb hw).imp_right fun h => Wr_sink h
  · exact (e.fresh id (by show (sinkH l c.h).length ≤ id; rw [hl]; exact h1) h2).imp_right fun h => Wr_sink h

/-- A statement of open order in which places are filled that no other step of it looks at. -/
def drawX3 (P : Program) (cf : FuncId → List SV → Cx → Tree (SV × Cx)) (ops : Array Oper) (S : St) : Tree St := drawX3c P cf ops (sinkS ops S)
theorem drawX3_ok (hm : P.follows .mixedOrders = true) (hcf : CallsOk U P cf) {id : Nat} {S : St} (hh : HeapDen U r g L S.c.h w) (hp : PcOk U r S.c.pc) (hs : Slots U r g L S.tmps a)
    (h : (drawX3 P cf ops S).sat U (SPost U L r g S.c w (Q .normal)) r) : (Code.region id ops true).wp P Q a w := by
  refine drawX3c_ok hm hcf (S := sinkS ops S) hh.sink hp hs (Tree.sat_mono ?_ h)
  intro r'' S'' hpost g' a' w' e hs'
  refine hpost g' a' w' (Ext.of_sink (l := _) e) ?_
  have e2 : Lx L (sinkS ops S).c.h S''.c.h = Lx L S.c.h S''.c.h := Lx_sink
  rw [← e2]; exact hs'

theorem runOps_ok (hcf : CallsOk U P cf) {ops : Array Oper} : ∀ (k : Nat) (l : List Nat) (S : St) (L : Nat → Prop) (r : Nat → D) (g : Gh) (a : Act) (w : World), l = (List.range ops.size).drop k → k ≤ ops.size →
    HeapDen U r g L S.c.h w → PcOk U r S.c.pc → Slots U r g L S.tmps a → (runOps P cf ops (ops.toList.drop k) S).sat U (SPost U L r g S.c w (Q .normal)) r → wpOps P ops Q l a w := by
  intro k l
  induction l generalizing k with
  | nil =>
    intro S L r g a w hl hk hh hp hs h
    have : ops.size ≤ k := by
      have := congrArg List.length hl; simp at this; omega
    rw [List.drop_eq_nil_of_le (by simpa using this)] at h
    exact h g a w (Ext.refl hh hp) (by rw [Lx_self]; exact hs)
  | cons i l ih =>
    intro S L r g a w hl hk hh hp hs h
    have hlt : k < ops.size := by
      have := congrArg List.length hl; simp at this; omega
    rw [List.drop_eq_getElem_cons (by simpa using hlt)] at hl
    simp only [List.getElem_range, List.cons.injEq] at hl
    obtain ⟨rfl, hl⟩ := hl
    have hop : ops[i]? = some ops[i] := Array.getElem?_eq_getElem hlt
    have hdrop : ops.toList.drop i = ops[i] :: ops.toList.drop (i + 1) := by
      rw [List.drop_eq_getElem_cons (by simpa using hlt)]; simp
    rw [hdrop, runOps, Tree.sat_bind] at h
    have hstep := stepX_ok (Q := Q) (K := wpOps P ops Q l) hcf hh hp hs (Tree.sat_mono ?_ h)
    · rw [wpOps_cons]
      unfold wpOp
      rw [hop]
      dsimp only
      split
      · rename_i hw; rw [if_pos hw] at hstep; exact .inl hstep
      · rename_i hw; rw [if_neg hw] at hstep; exact hstep
    · intro r' S' hrest g' a' w' he hs'
      exact ih (i + 1) S' (Lx L S.c.h S'.c.h) r' g' a' w' hl (by omega) he.heap he.pc hs' (Tree.sat_mono (fun r'' S'' hpost => hpost.shift he) hrest)

end
end Go.Sx
