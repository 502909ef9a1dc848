/-
  Sx, part K: states; calls; statements whose order is told.
-/
import Derived.Test.YtaflnmmnaiaceaaSxW
import Derived.LoopN
import Derived.Scope
namespace Go.Sx
open E (mk1 mk2 mkIte mk1_ev mk2_ev mkIte_ev)

/-- A frame's slots: how many; what has been put where, the newest first. -/
structure Tm where
  n : Nat
  l : List (Nat × SV)

def lkp (t : Nat) : List (Nat × SV) → SV
  | [] => .any
  | p :: l => bif Nat.beq p.1 t then p.2 else lkp t l

def Tm.get (T : Tm) (t : Nat) : SV := lkp t T.l

def Tm.put (T : Tm) (d : Nat) (s : SV) : Tm := bif Nat.blt d T.n then ⟨T.n, (d, s) :: T.l⟩ else T

theorem Tm.put_n (T : Tm) (d : Nat) (s : SV) : (T.put d s).n = T.n := by
  unfold Tm.put; cases Nat.blt d T.n <;> rfl

theorem Tm.get_put_ne (T : Tm) {d t : Nat} (s : SV) (h : d ≠ t) : (T.put d s).get t = T.get t := by
  unfold Tm.put
  cases Nat.blt d T.n with
  | false => rfl
  | true =>
    show lkp t ((d, s) :: T.l) = lkp t T.l
    have : Nat.beq d t = false := by
      cases hb : Nat.beq d t with
      | false => rfl
      | true => exact absurd (Nat.eq_of_beq_eq_true hb) h
    simp only [lkp, this, cond_false]

theorem Tm.get_put_self (T : Tm) {d : Nat} (s : SV) (h : d < T.n) : (T.put d s).get d = s := by
  unfold Tm.put
  have : Nat.blt d T.n = true := by rw [Nat.blt_eq]; exact h
  rw [this]
  show lkp d ((d, s) :: T.l) = s
  simp only [lkp, Nat.beq_refl, cond_true]

theorem Tm.get_put_out (T : Tm) {d : Nat} (s : SV) (h : ¬ d < T.n) : T.put d s = T := by
  unfold Tm.put
  have : Nat.blt d T.n = false := by
    cases hb : Nat.blt d T.n with
    | false => rfl
    | true => rw [Nat.blt_eq] at hb; exact absurd hb h
  rw [this]; rfl

/-- All slots bear variables below a number. -/
def Tm.under (m : Nat) (T : Tm) : Bool := T.l.all fun p => p.2.under m

theorem Tm.get_under {m : Nat} {T : Tm} (h : T.under m = true) (t : Nat) : (T.get t).under m = true := by
  unfold Tm.under at h
  unfold Tm.get
  generalize T.l = l at h
  induction l with
  | nil => rfl
  | cons p l ih =>
    simp only [List.all_cons, Bool.and_eq_true] at h
    simp only [lkp]
    cases Nat.beq p.1 t with
    | true => exact h.1
    | false => exact ih h.2

/-- A frame's slots, and what goes with the walk. -/
structure St where
  tmps : Tm
  c : Cx

def evS (tmps : Tm) : Operand → SV
  | .tmp t => tmps.get t
  | .const v => ofValue v
  | .global n => .con (.pointer (some ⟨n, 0, none⟩))
  | .func f => .fn (.func f) [] []

def putS (tmps : Tm) (dst : Option Tmp) (s : SV) : Tm :=
  match dst with
  | some d => tmps.put d s
  | none => tmps

section
variable (U : Nat → D → D) (r : Nat → D) (g : Gh) (L : Nat → Prop)
/-- The slots stand for the frame's. -/
structure Slots (tmps : Tm) (a : Act) : Prop where
  defers : a.defers = []
  size : a.tmps.size = tmps.n
  at_ : ∀ t, (tmps.get t).den U r g L (a.tmps.getD t undef)
end

section
variable {U : Nat → D → D} {L L' : Nat → Prop} {r r' : Nat → D} {g g' : Gh} {c : Cx} {w w' : World} {P : Program} {a : Act} {tmps : Tm}

theorem Slots.ev (h : Slots U r g L tmps a) (x : Operand) : (evS tmps x).den U r g L (a.eval x) := by
  cases x with
  | tmp t => exact h.at_ t
  | const v => exact ofValue_den v
  | global n => rfl
  | func f => exact ⟨#[], #[], rfl, by simp [SV.denL], by simp [SV.denL]⟩

theorem put_den {t d : Nat} {s : SV} {v : Value} (hsz : a.tmps.size = tmps.n) (hd : s.den U r g L v) (h : (tmps.get t).den U r g L (a.tmps.getD t undef)) : ((tmps.put d s).get t).den U r g L ((a.put (some d) v).tmps.getD t undef) := by
  simp only [Act.put]
  by_cases htd : d = t
  · subst htd
    by_cases hlt : d < tmps.n
    · have h2 : (a.tmps.setIfInBounds d v).getD d undef = v := by
        rw [Array.getD_eq_getD_getElem?, Array.getElem?_setIfInBounds_self_of_lt (by rw [hsz]; exact hlt)]; rfl
      rw [Tm.get_put_self _ _ hlt, h2]; exact hd
    · have h2 : a.tmps.setIfInBounds d v = a.tmps := Array.setIfInBounds_eq_of_size_le (by omega)
      rw [Tm.get_put_out _ _ hlt, h2]; exact h
  · have h2 : (a.tmps.setIfInBounds d v).getD t undef = a.tmps.getD t undef := by
      rw [Array.getD_eq_getD_getElem?, Array.getElem?_setIfInBounds_ne htd, Array.getD_eq_getD_getElem?]
    rw [Tm.get_put_ne _ _ htd, h2]; exact h

theorem Slots.put (h : Slots U r g L tmps a) (dst : Option Tmp) {s : SV} {v : Value} (hd : s.den U r g L v) : Slots U r g L (putS tmps dst s) (a.put dst v) := by
  cases dst with
  | none => exact h
  | some d => exact ⟨h.defers, by simp [Act.put, putS, Tm.put_n, h.size], fun t => put_den h.size hd (h.at_ t)⟩

theorem Slots.mono (h : Slots U r g L tmps a) (gl : GLe g L g' L') : Slots U r g' L' tmps a := ⟨h.defers, h.size, fun t => SV.den_mono gl (h.at_ t)⟩

theorem Slots.under {m : Nat} (h : Slots U r g L tmps a) (hr : ∀ n, n < m → r' n = r n) (hu : tmps.under m = true) : Slots U r' g L tmps a :=
  ⟨h.defers, h.size, fun t => SV.den_under hr (Tm.get_under hu t) (h.at_ t)⟩
end

/-! ### Calls -/

/-- What is asked of a call of function 'f'. -/
def CallGoal (P : Program) (f : FuncId) (vs : Array Value) (w : World) (K : Value → World → Prop) : Prop :=
  match (callFunc f vs).run P w with
  | .ok (.value v) w' => K v w'
  | .ok (.enter f args) w' => Calls P f args w' fun e w'' => ∃ v, e = .returned v ∧ K v w''
  | _ => False

/-- A run of calls on symbolic values that the model bears out. -/
def CallsOk (U : Nat → D → D) (P : Program) (cf : FuncId → List SV → Cx → Tree (SV × Cx)) : Prop :=
  ∀ (f : FuncId) (args : List SV) (c : Cx) (L : Nat → Prop) (r : Nat → D) (g : Gh) (w : World) (vs : Array Value) (K : Value → World → Prop),
    HeapDen U r g L c.h w → PcOk U r c.pc → SV.denL U r g L args vs.toList → (cf f args c).sat U (Post U L r g c w K) r → CallGoal P f vs w K

/-- One operation. -/
def opTree0 (P : Program) (cf : FuncId → List SV → Cx → Tree (SV × Cx)) (c : Cx) (ev : Operand → SV) (op : Op) : Tree (SV × Cx) :=
  match op with
  | .call cl =>
    match cl.callee with
    | .value f =>
      match ev f with
      | .fn (.func fid) xs ys => cf fid (xs ++ cl.args.toList.map ev ++ ys) c
      | _ => .bad
    | _ => opx P c ev op
  | op => opx P c ev op

/-- One operation, its result under names. -/
def opTree (P : Program) (cf : FuncId → List SV → Cx → Tree (SV × Cx)) (c : Cx) (ev : Operand → SV) (op : Op) : Tree (SV × Cx) := (opTree0 P cf c ev op).bind nameRes

section
variable {U : Nat → D → D} {L : Nat → Prop} {r : Nat → D} {g : Gh} {c : Cx} {w : World} {P : Program} {K : Value → World → Prop} {cf : FuncId → List SV → Cx → Tree (SV × Cx)}

theorem opTree0_ok (hcf : CallsOk U P cf) {o : Oper} {a : Act} {ev : Operand → SV} (hh : HeapDen U r g L c.h w) (hp : PcOk U r c.pc) (hev : ∀ x, (ev x).den U r g L (a.eval x))
    (h : (opTree0 P cf c ev o.op).sat U (Post U L r g c w K) r) : OpGoal P o a w K := by
  unfold opTree0 at h
  split at h
  · rename_i cl hop
    split at h
    · rename_i f hcal
      split at h
      · rename_i fid xs ys hf
        have hv := hev f
        rw [hf] at hv
        simp only [SV.den] at hv
        obtain ⟨p, q, hv, hx, hy⟩ := hv
        have hd : SV.denL U r g L (xs ++ cl.args.toList.map ev ++ ys) (p ++ cl.args.map a.eval ++ q).toList := by
          have := SV.denL_append U r g L (SV.denL_append U r g L hx (denL_map_ev hev cl.args.toList)) hy
          simpa using this
        have hc := hcf fid _ c L r g w _ K hh hp hd h
        have he : execOp a.eval o = callFunc fid (p ++ cl.args.map a.eval ++ q) := by
          obtain ⟨dst, op, type, pos, after, guard⟩ := o
          obtain ⟨callee, args, argTypes⟩ := cl
          obtain rfl : op = .call ⟨callee, args, argTypes⟩ := hop
          obtain rfl : callee = .value f := hcal
          simp only [execOp, resolve, hv, Deferred.ofValue, pure_bind, invoke, Array.append_assoc]
        unfold OpGoal
        rw [he]
        unfold CallGoal at hc
        generalize (callFunc fid (p ++ cl.args.map a.eval ++ q)).run P w = res at hc
        cases res with
        | ok n w' => cases n <;> first | exact hc | exact hc.elim
        | halt x w' => exact hc.elim
      · exact h.elim
    · rw [hop] at h; exact opx_ok hh hp hev (by rw [hop]; exact h)
  · exact opx_ok hh hp hev h

theorem opTree_ok (hcf : CallsOk U P cf) {o : Oper} {a : Act} {ev : Operand → SV} (hh : HeapDen U r g L c.h w) (hp : PcOk U r c.pc) (hev : ∀ x, (ev x).den U r g L (a.eval x))
    (h : (opTree P cf c ev o.op).sat U (Post U L r g c w K) r) : OpGoal P o a w K := by
  unfold opTree at h
  rw [Tree.sat_bind] at h
  exact opTree0_ok hcf hh hp hev (Tree.sat_mono (fun _ _ hx => nameRes_ok hx) h)

/-! ### A row of operations, one after another -/

/-- What an operation leaves where it is not carried out. -/
def skipped : SV := .con undef

/-- The truth of a guard: 'none' where nothing is known; 'some (.inl b)': told; 'some (.inr e)': an expression's. -/
inductive Grd where
  | told (b : Bool)
  | asks (e : E)
  | dark

def guardS (ops : Array Oper) (tmps : Tm) (o : Oper) : Grd :=
  match o.guard with
  | none => .told true
  | some (j, want) =>
    match (ops[j]?).bind (·.dst) with
    | none => .told false
    | some d =>
      match tmps.get d with
      | .bool e => .asks (if want then e else mk1 .not e)
      | .con (.tuple _) => .told false
      | _ => .dark

theorem guardS_ok {ops : Array Oper} {tmps : Tm} {a : Act} {o : Oper} (hat : ∀ t, t ∈ o.looksAt ops → (tmps.get t).den U r g L (a.tmps.getD t undef)) :
    (∀ b, guardS ops tmps o = .told b → Region.wanted o (yielded ops a.tmps) = b) ∧ (∀ e, guardS ops tmps o = .asks e → Region.wanted o (yielded ops a.tmps) = (e.ev U r).toB) := by
  unfold guardS Region.wanted
  cases hg : o.guard with
  | none => exact ⟨fun b h => (by cases h; rfl), fun e h => (by cases h)⟩
  | some jw =>
    obtain ⟨j, want⟩ := jw
    unfold yielded
    dsimp only
    cases hd : (ops[j]?).bind (·.dst) with
    | none => exact ⟨fun b h => (by cases h; rfl), fun e h => (by cases h)⟩
    | some d =>
      simp only [Option.bind_some]
      have hm : d ∈ o.looksAt ops := by unfold Oper.looksAt; rw [hg]; simp [hd]
      have hat := hat d hm
      rw [Array.getD_eq_getD_getElem?] at hat
      cases hs : tmps.get d with
      | bool e =>
        refine ⟨fun b h => (by cases h), fun e' h => ?_⟩
        rw [hs] at hat
        simp only [SV.den] at hat
        have hget : a.tmps[d]? = some (.bool (e.ev U r).toB) := by
          cases hx : a.tmps[d]? with
          | none => rw [hx] at hat; cases hat
          | some v => rw [hx] at hat; exact congrArg some hat
        rw [hget]
        simp only [Grd.asks.injEq] at h
        subst h
        cases want
        · simp only [Bool.false_eq_true, if_false, mk1_ev, O1.ev, D.toB_b]
          cases (e.ev U r).toB <;> rfl
        · simp only [if_true]
          cases (e.ev U r).toB <;> rfl
      | con v =>
        rw [hs] at hat
        simp only [SV.den] at hat
        cases v <;> refine ⟨fun b h => ?_, fun e' h => (by cases h)⟩ <;> cases h
        cases hx : a.tmps[d]? with
        | none => rfl
        | some v => rw [hx] at hat; rw [show v = _ from hat]; rfl
      | _ => exact ⟨fun b h => (by cases h), fun e h => (by cases h)⟩

/-- Behind an operation: the slot is filled. -/
def afterOp (S : St) (o : Oper) (x : SV × Cx) : Tree St := .ret ⟨putS S.tmps o.dst x.1, x.2⟩

def stepX (P : Program) (cf : FuncId → List SV → Cx → Tree (SV × Cx)) (ops : Array Oper) (o : Oper) (S : St) : Tree St :=
  match guardS ops S.tmps o with
  | .told true => (opTree P cf S.c (evS S.tmps) o.op).bind (afterOp S o)
  | .told false => .ret ⟨putS S.tmps o.dst skipped, S.c⟩
  | .asks e => br S.c e (fun c => (opTree P cf c (evS S.tmps) o.op).bind (afterOp ⟨S.tmps, c⟩ o)) (fun c => .ret ⟨putS S.tmps o.dst skipped, c⟩)
  | .dark => .bad

def runOps (P : Program) (cf : FuncId → List SV → Cx → Tree (SV × Cx)) (ops : Array Oper) : List Oper → St → Tree St
  | [], S => .ret S
  | o :: rest, S => (stepX P cf ops o S).bind (runOps P cf ops rest)

/-- The leaf of a walk: in whatever frame and world. -/
def SPost (U : Nat → D → D) (L : Nat → Prop) (r : Nat → D) (g : Gh) (c : Cx) (w : World) (Q : Act → World → Prop) (r' : Nat → D) (S' : St) : Prop :=
  ∀ g' a' w', Ext U L r g c w r' g' S'.c w' → Slots U r' g' (Lx L c.h S'.c.h) S'.tmps a' → Q a' w'

/-- One operation's wp. -/
theorem wp_of_goal {o : Oper} {a : Act} {K : Act → World → Prop} {Q : Exit → Act → World → Prop} (h : OpGoal P o a w fun v w' => K (a.put o.dst v) w') : o.wp P a w K Q := by
  unfold OpGoal at h
  unfold Oper.wp
  generalize (execOp a.eval o).run P w = res at h
  cases res with
  | ok n w' =>
    cases n <;> simp only [Oper.upon] <;> simp only at h <;> first
      | exact h
      | exact h.elim
      | (exact Calls.mono h fun e w'' ⟨v, he, hk⟩ => by subst he; exact hk)
  | halt x w' => exact h.elim

theorem Ext.pcs {r' : Nat → D} {g' : Gh} {c' : Cx} {pc : List (E × Bool)} {w' : World} (e : Ext U L r g { c with pc := pc } w r' g' c' w') : Ext U L r g c w r' g' c' w' :=
  ⟨e.nv, e.agr, e.len, e.ga, e.go, e.heap, e.pc, e.frm, e.wrs, e.fresh⟩

theorem stepX_ok (hcf : CallsOk U P cf) {ops : Array Oper} {o : Oper} {S : St} {a : Act} {K : Act → World → Prop} {Q : Exit → Act → World → Prop} (hh : HeapDen U r g L S.c.h w) (hp : PcOk U r S.c.pc) (hs : Slots U r g L S.tmps a)
    (h : (stepX P cf ops o S).sat U (SPost U L r g S.c w K) r) : if Region.wanted o (yielded ops a.tmps) then o.wp P a w K Q else K (a.put o.dst undef) w := by
  obtain ⟨k1, k2⟩ := guardS_ok (ops := ops) (o := o) (fun t _ => hs.at_ t)
  have run : ∀ {c : Cx} (_ : c.h = S.c.h) (_ : c.nv = S.c.nv), PcOk U r c.pc → ((opTree P cf c (evS S.tmps) o.op).bind (afterOp ⟨S.tmps, c⟩ o)).sat U (SPost U L r g S.c w K) r → o.wp P a w K Q := by
    intro c hc hnv hpc hsat
    rw [Tree.sat_bind] at hsat
    refine wp_of_goal (opTree_ok hcf (c := c) (by rw [hc]; exact hh) hpc hs.ev (Tree.sat_mono ?_ hsat))
    intro r' x hx g' v w' he hd
    unfold afterOp at hx
    have he' : Ext U L r g S.c w r' g' x.2 w' := by
      refine ⟨by rw [← hnv]; exact he.nv, he.agr, by rw [← hc]; exact he.len, by rw [← hc]; exact he.ga, by rw [← hc]; exact he.go, by rw [← hc]; exact he.heap, he.pc, by rw [← hc]; exact he.frm, by rw [← hc]; exact he.wrs, by rw [← hc]; exact he.fresh⟩
    have hrr : r' = r := funext he.agr
    refine hx g' (a.put o.dst v) w' he' ?_
    have hsl : Slots U r' g' (Lx L S.c.h x.2.h) S.tmps a := by
      rw [hrr]; exact hs.mono (he'.gle hh.bnd)
    refine hsl.put _ ?_
    rw [← hc]; exact hd
  unfold stepX at h
  split at h
  · rename_i hg
    rw [k1 _ hg]
    simp only [if_true]
    exact run (c := S.c) rfl rfl hp h
  · rename_i hg
    rw [k1 _ hg]
    simp only [Bool.false_eq_true, if_false]
    exact h g _ w (Ext.refl hh hp) (by rw [Lx_self]; exact hs.put _ rfl)
  · rename_i e hg
    rw [k2 _ hg]
    obtain ⟨pc, hp', h | h⟩ := sat_br hp h
    · rw [if_pos h.1]
      exact run (c := { S.c with pc := pc }) rfl rfl hp' h.2
    · rw [if_neg (by simp [h.1])]
      exact h.2 g _ w (ext_same hh hp' (Same.refl w)) (by show Slots U r g (Lx L S.c.h S.c.h) _ _; rw [Lx_self]; exact hs.put _ rfl)
  · exact h.elim
end
end Go.Sx
