/-
  Sx, part P: a function's walk made once, at variables, and used at whatever is handed over.
-/
import Derived.Test.YtdgenclminhcdaaSxO
namespace Go.Sx
open E (mk1 mk2 mkIte mk1_ev mk2_ev mkIte_ev)

/-! ### Filling in -/

def E.sub (s : List E) : E → E
  | .v n => (s[n]?).getD (.v n)
  | .b x => .b x
  | .i x => .i x
  | .f x => .f x
  | .s x => .s x
  | .o1 o x => mk1 o (E.sub s x)
  | .o2 o x y => mk2 o (E.sub s x) (E.sub s y)
  | .o3 o x y z => match o with
    | .ite => mkIte (E.sub s x) (E.sub s y) (E.sub s z)
    | o => .o3 o (E.sub s x) (E.sub s y) (E.sub s z)
  | .app n x => .app n (E.sub s x)

/-- The variables as they are filled in. -/
def fill (U : Nat → D → D) (r : Nat → D) (s : List E) : Nat → D := fun n => match s[n]? with
  | some e => e.ev U r
  | none => r n

theorem E.sub_ev (U : Nat → D → D) (r : Nat → D) (s : List E) : ∀ (e : E), (e.sub s).ev U r = e.ev U (fill U r s) := by
  intro e
  induction e with
  | v n =>
    simp only [E.sub, E.ev, fill]
    cases h : s[n]? with
    | none => rfl
    | some e => rfl
  | b x => rfl
  | i x => rfl
  | f x => rfl
  | s x => rfl
  | o1 o x ih => simp only [E.sub, mk1_ev, E.ev, ih]
  | o2 o x y ihx ihy => simp only [E.sub, mk2_ev, E.ev, ihx, ihy]
  | o3 o x y z ihx ihy ihz =>
    cases o with
    | ite => simp only [E.sub, mkIte_ev, E.ev, O3.ev, ihx, ihy, ihz]
    | ssub => simp only [E.sub, E.ev, ihx, ihy, ihz]
    | upd => simp only [E.sub, E.ev, ihx, ihy, ihz]
  | app n x ih => simp only [E.sub, E.ev, ih]

mutual
def SV.sub (s : List E) : SV → Option SV
  | .any => some .any
  | .bool e => some (.bool (e.sub s))
  | .int k e => some (.int k (e.sub s))
  | .flt k e => some (.flt k (e.sub s))
  | .str e => some (.str (e.sub s))
  | .con v => some (.con v)
  | .agg cs => (SV.subL s cs).map .agg
  | .tup cs => (SV.subL s cs).map .tup
  | _ => none
def SV.subL (s : List E) : List SV → Option (List SV)
  | [] => some []
  | x :: l => match SV.sub s x, SV.subL s l with
    | some y, some m => some (y :: m)
    | _, _ => none
end

section
variable {U : Nat → D → D} {r : Nat → D} {s : List E} {g g' : Gh} {L L' : Nat → Prop}
mutual
theorem SV.sub_den : ∀ {x y : SV} {v : Value}, x.sub s = some y → x.den U (fill U r s) g L v → y.den U r g' L' v
  | .any, y, v, h, _ => by simp only [SV.sub, Option.some.injEq] at h; subst h; simp [SV.den]
  | .bool e, y, v, h, hd => by simp only [SV.sub, Option.some.injEq] at h; subst h; simp only [SV.den, E.sub_ev] at hd ⊢; exact hd
  | .int k e, y, v, h, hd => by simp only [SV.sub, Option.some.injEq] at h; subst h; simp only [SV.den, E.sub_ev] at hd ⊢; exact hd
  | .flt k e, y, v, h, hd => by simp only [SV.sub, Option.some.injEq] at h; subst h; simp only [SV.den, E.sub_ev] at hd ⊢; exact hd
  | .str e, y, v, h, hd => by simp only [SV.sub, Option.some.injEq] at h; subst h; simp only [SV.den, E.sub_ev] at hd ⊢; exact hd
  | .con u, y, v, h, hd => by simp only [SV.sub, Option.some.injEq] at h; subst h; exact hd
  | .agg cs, y, v, h, hd => by
    simp only [SV.sub, Option.map_eq_some_iff] at h
    obtain ⟨m, h1, rfl⟩ := h
    simp only [SV.den] at hd ⊢
    obtain ⟨xs, hv, hc⟩ := hd
    exact ⟨xs, hv, SV.subL_den h1 hc⟩
  | .tup cs, y, v, h, hd => by
    simp only [SV.sub, Option.map_eq_some_iff] at h
    obtain ⟨m, h1, rfl⟩ := h
    simp only [SV.den] at hd ⊢
    obtain ⟨xs, hv, hc⟩ := hd
    exact ⟨xs, hv, SV.subL_den h1 hc⟩
  | .ptr _ _, y, v, h, _ => by simp [SV.sub] at h
  | .sl _ _ _ _ _, y, v, h, _ => by simp [SV.sub] at h
  | .fn _ _ _, y, v, h, _ => by simp [SV.sub] at h
theorem SV.subL_den : ∀ {x y : List SV} {v : List Value}, SV.subL s x = some y → SV.denL U (fill U r s) g L x v → SV.denL U r g' L' y v
  | [], y, [], h, _ => by simp only [SV.subL, Option.some.injEq] at h; subst h; simp [SV.denL]
  | [], y, _ :: _, _, hd => by simp [SV.denL] at hd
  | _ :: _, y, [], _, hd => by simp [SV.denL] at hd
  | x :: l, y, v :: m, h, hd => by
    simp only [SV.subL] at h
    simp only [SV.denL] at hd
    split at h
    · rename_i y' m' h1 h2
      cases h
      simp only [SV.denL]
      exact ⟨SV.sub_den h1 hd.1, SV.subL_den h2 hd.2⟩
    · cases h
end
end

/-! ### Patterns: plain values, and rows of them -/

inductive Sk where
  | b
  | i (k : IntKind)
  | f (k : FloatKind)
  | s

inductive Pt where
  | one (k : Sk)
  | ag (ks : List Sk)

def skSV : Sk → E → SV
  | .b, e => .bool e
  | .i k, e => .int k e
  | .f k, e => .flt k e
  | .s, e => .str e

def skE : Sk → SV → Option E
  | .b, .bool e => some e
  | .i k, .int k' e => if k = k' then some e else none
  | .f k, .flt k' e => if k = k' then some e else none
  | .s, .str e => some e
  | _, _ => none

theorem skE_eq {k : Sk} {s : SV} {e : E} (h : skE k s = some e) : s = skSV k e := by
  cases k <;> cases s <;> simp [skE] at h
  · subst h; rfl
  · obtain ⟨rfl, rfl⟩ := h; rfl
  · obtain ⟨rfl, rfl⟩ := h; rfl
  · subst h; rfl

def skGo : Nat → List Sk → List SV
  | _, [] => []
  | i, k :: l => skSV k (.v i) :: skGo (i + 1) l

/-- The pattern's own values: variables from 'i' on. -/
def ptGo : Nat → List Pt → List SV
  | _, [] => []
  | i, .one k :: l => skSV k (.v i) :: ptGo (i + 1) l
  | i, .ag ks :: l => .agg (skGo i ks) :: ptGo (i + ks.length) l

def skL : List Sk → List SV → Option (List E)
  | [], [] => some []
  | k :: l, s :: m => match skE k s, skL l m with
    | some e, some es => some (e :: es)
    | _, _ => none
  | _, _ => none

/-- What stands at the variables. -/
def ptE : List Pt → List SV → Option (List E)
  | [], [] => some []
  | .one k :: l, s :: m => match skE k s, ptE l m with
    | some e, some es => some (e :: es)
    | _, _ => none
  | .ag ks :: l, .agg cs :: m => match skL ks cs, ptE l m with
    | some es, some fs => some (es ++ fs)
    | _, _ => none
  | _, _ => none

section
variable {U : Nat → D → D} {r r' : Nat → D} {g g' : Gh} {L L' : Nat → Prop}

theorem skSV_den {k : Sk} {e : E} {i : Nat} {v : Value} (hr : r' i = e.ev U r) (hd : (skSV k e).den U r g L v) : (skSV k (.v i)).den U r' g' L' v := by
  cases k <;> simp only [skSV, SV.den, E.ev, hr] at hd ⊢ <;> exact hd

theorem skL_den : ∀ {ks : List Sk} {cs : List SV} {es : List E} {vs : List Value} {i : Nat}, skL ks cs = some es → (∀ (j : Nat) (e : E), es[j]? = some e → r' (i + j) = e.ev U r) → SV.denL U r g L cs vs →
    es.length = ks.length ∧ SV.denL U r' g' L' (skGo i ks) vs := by
  intro ks
  induction ks with
  | nil =>
    intro cs es vs i h _ hd
    cases cs with
    | nil => simp only [skL, Option.some.injEq] at h; subst h; cases vs <;> simp_all [SV.denL, skGo]
    | cons a b => simp [skL] at h
  | cons k ks ih =>
    intro cs es vs i h hr hd
    cases cs with
    | nil => simp [skL] at h
    | cons s cs =>
      simp only [skL] at h
      split at h
      · rename_i e es' h1 h2
        cases h
        cases vs with
        | nil => simp [SV.denL] at hd
        | cons v vs =>
          simp only [SV.denL] at hd
          obtain ⟨k1, k2⟩ := ih (i := i + 1) h2 (fun j e he => by have := hr (j + 1) e (by simpa using he); rw [← this]; congr 1; omega) hd.2
          refine ⟨by simp [k1], ?_⟩
          simp only [skGo, SV.denL]
          rw [skE_eq h1] at hd
          exact ⟨skSV_den (by have := hr 0 e (by simp); simpa using this) hd.1, k2⟩
      · cases h

theorem ptE_den : ∀ {ps : List Pt} {args : List SV} {es : List E} {vs : List Value} {i : Nat}, ptE ps args = some es → (∀ (j : Nat) (e : E), es[j]? = some e → r' (i + j) = e.ev U r) → SV.denL U r g L args vs →
    SV.denL U r' g' L' (ptGo i ps) vs := by
  intro ps
  induction ps with
  | nil =>
    intro args es vs i h _ hd
    cases args with
    | nil => cases vs <;> simp_all [SV.denL, ptGo]
    | cons a b => simp [ptE] at h
  | cons p ps ih =>
    intro args es vs i h hr hd
    cases args with
    | nil => cases p <;> simp [ptE] at h
    | cons s args =>
      cases vs with
      | nil => simp [SV.denL] at hd
      | cons v vs =>
        simp only [SV.denL] at hd
        cases p with
        | one k =>
          simp only [ptE] at h
          split at h
          · rename_i e es' h1 h2
            cases h
            simp only [ptGo, SV.denL]
            rw [skE_eq h1] at hd
            refine ⟨skSV_den (by have := hr 0 e (by simp); simpa using this) hd.1, ih (i := i + 1) h2 (fun j e he => ?_) hd.2⟩
            have := hr (j + 1) e (by simpa using he)
            rw [← this]; congr 1; omega
          · cases h
        | ag ks =>
          cases s with
          | agg cs =>
            simp only [ptE] at h
            split at h
            · rename_i es1 es2 h1 h2
              cases h
              simp only [ptGo, SV.denL]
              simp only [SV.den] at hd
              obtain ⟨⟨xs, hv, hc⟩, hd2⟩ := hd
              obtain ⟨k1, k2⟩ := skL_den (i := i) (r' := r') (g' := g') (L' := L') h1 (fun j e he => hr j e (by
                rw [List.getElem?_append_left (List.getElem?_eq_some_iff.1 he).1]; exact he)) hc
              refine ⟨⟨xs, hv, k2⟩, ih (i := i + ks.length) h2 (fun j e he => ?_) hd2⟩
              have := hr (es1.length + j) e (by rw [List.getElem?_append_right (by omega)]; simpa using he)
              rw [← this]; congr 1; omega
            · cases h
          | _ => simp [ptE] at h
end

/-! ### A walk at variables -/

/-- Where a walk at variables begins. -/
def cx0 : Cx := ⟨[], 1000, []⟩

def resT (t : Tree (SV × Cx)) : Tree SV := t.bind fun x => .ret x.1

def subT (s : List E) : Cx → Tree SV → Tree (SV × Cx)
  | c, .ret x => match x.sub s with
    | some y => .ret (y, c)
    | none => .bad
  | c, .ite e t f => br c (e.sub s) (fun c => subT s c t) (fun c => subT s c f)
  | _, _ => .bad

def memoRun (ps : List Pt) (T : Tree SV) (args : List SV) (c : Cx) : Tree (SV × Cx) :=
  match ptE ps args with
  | some s => subT s c T
  | none => .bad

/-- A contract that the model bears out. -/
def EntryOk (U : Nat → D → D) (P : Program) (f : FuncId) (run : List SV → Cx → Tree (SV × Cx)) : Prop :=
  ∀ (args : List SV) (c : Cx) (L : Nat → Prop) (r : Nat → D) (g : Gh) (w : World) (vs : Array Value) (K : Value → World → Prop),
    HeapDen U r g L c.h w → PcOk U r c.pc → SV.denL U r g L args vs.toList → (run args c).sat U (Post U L r g c w K) r → CallGoal P f vs w K

def noContracts : Contracts := fun _ => none
def Contracts.add (ct : Contracts) (f : FuncId) (run : List SV → Cx → Tree (SV × Cx)) : Contracts := fun k => bif Nat.beq k f then some run else ct k

section
variable {U : Nat → D → D} {r : Nat → D} {g : Gh} {L : Nat → Prop} {c : Cx} {w w' : World} {P : Program} {cf : FuncId → List SV → Cx → Tree (SV × Cx)} {K : Value → World → Prop}

theorem noContracts_ok : ContractsOk U P noContracts := fun _ _ h => by cases h

theorem ContractsOk.add {ct : Contracts} (h : ContractsOk U P ct) {f : FuncId} {run : List SV → Cx → Tree (SV × Cx)} (he : EntryOk U P f run) : ContractsOk U P (ct.add f run) := by
  intro k run' hk
  unfold Contracts.add at hk
  cases hb : Nat.beq k f with
  | true =>
    rw [hb] at hk
    simp only [cond_true, Option.some.injEq] at hk
    have := Nat.eq_of_beq_eq_true hb
    subst this hk
    exact he
  | false => rw [hb] at hk; exact h k run' hk

/-- Nothing that was there has turned. -/
theorem ext_frame (hh : HeapDen U r g L c.h w) {pc : List (E × Bool)} (hp : PcOk U r pc) (f : Frm (fun _ => False) w w') : Ext U L r g c w r g { c with pc := pc } w' where
  nv := Nat.le_refl _
  agr := fun _ _ => rfl
  len := Nat.le_refl _
  ga := fun _ _ => ⟨rfl, rfl⟩
  heap := by
    rw [Lx_self]
    exact ⟨hh.bnd, fun id h => Nat.lt_of_lt_of_le (hh.lt id h) f.size, fun id b h hb => by rw [f.block _ (hh.lt id h) (fun h => h)]; exact hh.blk id b h hb, hh.inj⟩
  pc := hp
  frm := ⟨f.os, f.tape, f.output, f.size, fun k hk _ => f.block k hk (fun h => h)⟩
  wrs := fun id b h1 h2 h3 => by rw [Lx_self] at h1; exact .inr ⟨id, b, h1, h2, h3, rfl⟩
  fresh := fun id h1 h2 => by have h2 : id < c.h.length := h2; omega

theorem noHeap : HeapDen U r g (fun _ => False) cx0.h w := ⟨fun _ h => h.elim, fun _ h => h.elim, fun _ _ h => h.elim, fun _ _ _ _ h => h.elim⟩

/-- A walk at variables: what it says of a call. -/
theorem closed_ok (hcf : CallsOk U P cf) {f : FuncId} {args : List SV} {vs : Array Value} (hd : SV.denL U r g (fun _ => False) args vs.toList)
    (h : (cf f args cx0).sat U (fun r' x => ∀ g' L' v w', Frm (fun _ => False) w w' → x.1.den U r' g' L' v → K v w') r) : CallGoal P f vs w K := by
  refine hcf f args cx0 (fun _ => False) r g w vs K noHeap (fun _ h => by cases h) hd (Tree.sat_mono ?_ h)
  intro r' x hx g' v w' he hd'
  refine hx g' _ v w' ?_ hd'
  exact ⟨he.frm.os, he.frm.tape, he.frm.output, he.frm.size, fun k hk _ => he.frm.block k hk (fun ⟨_, _, h, _⟩ => h)⟩

theorem subT_sat {s : List E} (hh : HeapDen U r g L c.h w) : ∀ {t : Tree (SV × Cx)} {pc : List (E × Bool)}, PcOk U r pc → (subT s { c with pc := pc } (resT t)).sat U (Post U L r g c w K) r →
    t.sat U (fun r' x => ∀ g' L' v w', Frm (fun _ => False) w w' → x.1.den U r' g' L' v → K v w') (fill U r s) := by
  intro t
  induction t with
  | ret x =>
    intro pc hp h g' L' v w' hf hd
    unfold resT at h
    simp only [Tree.bind, subT] at h
    split at h
    · rename_i y hy
      exact h g v w' (ext_frame hh hp hf) (SV.sub_den hy hd)
    · exact h.elim
  | ite e t f iht ihf =>
    intro pc hp h
    unfold resT at h
    simp only [Tree.bind, subT] at h
    simp only [Tree.sat]
    obtain ⟨pc', hp', h | h⟩ := br_sat (c := { c with pc := pc }) hp h
    · rw [E.sub_ev] at h
      rw [if_pos h.1]
      exact iht hp' h.2
    · rw [E.sub_ev] at h
      rw [if_neg (by simp [h.1])]
      exact ihf hp' h.2
  | all i t _ => intro pc _ h; exact h.elim
  | asm e t _ => intro pc _ h; exact h.elim
  | bad => intro pc _ h; exact h.elim

/-- THE WALK OF 'f', MADE ONCE. -/
theorem memo_ok (hcf : CallsOk U P cf) (f : FuncId) (ps : List Pt) : EntryOk U P f (memoRun ps (resT (cf f (ptGo 0 ps) cx0))) := by
  intro args c L r g w vs K hh hp hd h
  unfold memoRun at h
  split at h
  · rename_i s hs
    refine closed_ok (r := fill U r s) (g := g) hcf (ptE_den hs (fun j e he => ?_) hd) (subT_sat hh hp h)
    simp only [fill, Nat.zero_add, he]
  · exact h.elim
end
end Go.Sx
