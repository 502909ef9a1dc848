/-
  Sx, part P: a function's walk made once, at variables, and used at whatever is handed over.
-/
import Derived.Test.YtaflnmmnaiaceaaSxO
namespace Go.Sx
open E (mk1 mk2 mkIte mk1_ev mk2_ev mkIte_ev)

/-! ### Filling in -/

/-- What stands at a variable. -/
def lkM (n : Nat) : List (Nat × E) → Option E
  | [] => none
  | (i, e) :: l => bif Nat.beq i n then some e else lkM n l

def E.sub (m : List (Nat × E)) : E → Option E
  | .v n => lkM n m
  | .b x => some (.b x)
  | .i x => some (.i x)
  | .f x => some (.f x)
  | .s x => some (.s x)
  | .o1 o x => match E.sub m x with
    | some a => some (mk1 o a)
    | none => none
  | .o2 o x y => match E.sub m x, E.sub m y with
    | some x', some y' => some (mk2 o x' y')
    | _, _ => none
  | .o3 o x y z => match E.sub m x, E.sub m y, E.sub m z with
    | some x', some y', some z' => (match o with
      | .ite => some (mkIte x' y' z')
      | o => some (.o3 o x' y' z'))
    | _, _, _ => none
  | .app n x => match E.sub m x with
    | some a => some (.app n a)
    | none => none

/-- The variables as they are filled in. -/
def Fills (U : Nat → D → D) (r r' : Nat → D) (m : List (Nat × E)) : Prop := ∀ n e, lkM n m = some e → r' n = e.ev U r

theorem E.sub_ev {U : Nat → D → D} {r r' : Nat → D} {m : List (Nat × E)} (hf : Fills U r r' m) : ∀ {e e' : E}, e.sub m = some e' → e'.ev U r = e.ev U r' := by
  intro e
  induction e with
  | v n => intro e' h; exact (hf n e' h).symm
  | b x => intro e' h; simp only [E.sub, Option.some.injEq] at h; subst h; rfl
  | i x => intro e' h; simp only [E.sub, Option.some.injEq] at h; subst h; rfl
  | f x => intro e' h; simp only [E.sub, Option.some.injEq] at h; subst h; rfl
  | s x => intro e' h; simp only [E.sub, Option.some.injEq] at h; subst h; rfl
  | o1 o x ih =>
    intro e' h
    simp only [E.sub] at h
    split at h
    · rename_i a ha
      cases h
      simp only [mk1_ev, E.ev, ih ha]
    · cases h
  | o2 o x y ihx ihy =>
    intro e' h
    simp only [E.sub] at h
    split at h
    · rename_i a b ha hb
      cases h
      simp only [mk2_ev, E.ev, ihx ha, ihy hb]
    · cases h
  | o3 o x y z ihx ihy ihz =>
    intro e' h
    simp only [E.sub] at h
    split at h
    · rename_i a b c ha hb hc
      split at h
      · cases h
        simp only [mkIte_ev, E.ev, O3.ev, ihx ha, ihy hb, ihz hc]
      · cases h
        simp only [E.ev, ihx ha, ihy hb, ihz hc]
    · cases h
  | app n x ih =>
    intro e' h
    simp only [E.sub] at h
    split at h
    · rename_i a ha
      cases h
      simp only [E.ev, ih ha]
    · cases h

mutual
def SV.sub (m : List (Nat × E)) : SV → Option SV
  | .any => some .any
  | .bool e => (e.sub m).map .bool
  | .int k e => (e.sub m).map (.int k)
  | .flt k e => (e.sub m).map (.flt k)
  | .str e => (e.sub m).map .str
  | .fb k e => (e.sub m).map (.fb k)
  | .con v => some (.con v)
  | .agg cs => (SV.subL m cs).map .agg
  | .tup cs => (SV.subL m cs).map .tup
  | _ => none
def SV.subL (m : List (Nat × E)) : List SV → Option (List SV)
  | [] => some []
  | x :: l => match SV.sub m x, SV.subL m l with
    | some y, some z => some (y :: z)
    | _, _ => none
end

section
variable {U : Nat → D → D} {r r' : Nat → D} {m : List (Nat × E)} {g g' : Gh} {L L' : Nat → Prop}
mutual
theorem SV.sub_den (hf : Fills U r r' m) : ∀ {x y : SV} {v : Value}, x.sub m = some y → x.den U r' g L v → y.den U r g' L' v
  | .any, y, v, h, _ => by simp only [SV.sub, Option.some.injEq] at h; subst h; simp [SV.den]
  | .bool e, y, v, h, hd => by simp only [SV.sub, Option.map_eq_some_iff] at h; obtain ⟨a, ha, rfl⟩ := h; simp only [SV.den, E.sub_ev hf ha] at hd ⊢; exact hd
  | .int k e, y, v, h, hd => by simp only [SV.sub, Option.map_eq_some_iff] at h; obtain ⟨a, ha, rfl⟩ := h; simp only [SV.den, E.sub_ev hf ha] at hd ⊢; exact hd
  | .flt k e, y, v, h, hd => by simp only [SV.sub, Option.map_eq_some_iff] at h; obtain ⟨a, ha, rfl⟩ := h; simp only [SV.den, E.sub_ev hf ha] at hd ⊢; exact hd
  | .str e, y, v, h, hd => by simp only [SV.sub, Option.map_eq_some_iff] at h; obtain ⟨a, ha, rfl⟩ := h; simp only [SV.den, E.sub_ev hf ha] at hd ⊢; exact hd
  | .fb k e, y, v, h, hd => by simp only [SV.sub, Option.map_eq_some_iff] at h; obtain ⟨a, ha, rfl⟩ := h; simp only [SV.den, E.sub_ev hf ha] at hd ⊢; exact hd
  | .con u, y, v, h, hd => by simp only [SV.sub, Option.some.injEq] at h; subst h; exact hd
  | .agg cs, y, v, h, hd => by
    simp only [SV.sub, Option.map_eq_some_iff] at h
    obtain ⟨z, h1, rfl⟩ := h
    simp only [SV.den] at hd ⊢
    obtain ⟨xs, hv, hc⟩ := hd
    exact ⟨xs, hv, SV.subL_den hf h1 hc⟩
  | .tup cs, y, v, h, hd => by
    simp only [SV.sub, Option.map_eq_some_iff] at h
    obtain ⟨z, h1, rfl⟩ := h
    simp only [SV.den] at hd ⊢
    obtain ⟨xs, hv, hc⟩ := hd
    exact ⟨xs, hv, SV.subL_den hf h1 hc⟩
  | .ptr _ _, y, v, h, _ => by simp [SV.sub] at h
  | .sl _ _ _ _ _, y, v, h, _ => by simp [SV.sub] at h
  | .fn _ _ _, y, v, h, _ => by simp [SV.sub] at h
theorem SV.subL_den (hf : Fills U r r' m) : ∀ {x y : List SV} {v : List Value}, SV.subL m x = some y → SV.denL U r' g L x v → SV.denL U r g' L' y v
  | [], y, [], h, _ => by simp only [SV.subL, Option.some.injEq] at h; subst h; simp [SV.denL]
  | [], y, _ :: _, _, hd => by simp [SV.denL] at hd
  | _ :: _, y, [], _, hd => by simp [SV.denL] at hd
  | x :: l, y, v :: u, h, hd => by
    simp only [SV.subL] at h
    simp only [SV.denL] at hd
    split at h
    · rename_i y' m' h1 h2
      cases h
      simp only [SV.denL]
      exact ⟨SV.sub_den hf h1 hd.1, SV.subL_den hf h2 hd.2⟩
    · cases h
end
end

/-! ### Patterns: plain values, and rows of them -/

inductive Pt where
  | one (k : Sk)
  | ag (ks : List Sk)

def skE : Sk → SV → Option E
  | .b, .bool e => some e
  | .i k, .int k' e => if k = k' then some e else none
  | .f k, .flt k' e => if k = k' then some e else none
  | .s, .str e => some e
  | _, _ => none

theorem skE_eq {k : Sk} {s : SV} {e : E} (h : skE k s = some e) : s = skSV k e := by
  cases k <;> cases s <;> simp [skE] at h
  · subst h; rfl
  · obtain ⟨rfl, rfl⟩ := h; rfl
  · obtain ⟨rfl, rfl⟩ := h; rfl
  · subst h; rfl

def skGo : Nat → List Sk → List SV
  | _, [] => []
  | i, k :: l => skSV k (.v i) :: skGo (i + 1) l

/-- The pattern's own values: variables from 'i' on. -/
def ptGo : Nat → List Pt → List SV
  | _, [] => []
  | i, .one k :: l => skSV k (.v i) :: ptGo (i + 1) l
  | i, .ag ks :: l => .agg (skGo i ks) :: ptGo (i + ks.length) l

def skL : List Sk → List SV → Option (List E)
  | [], [] => some []
  | k :: l, s :: m => match skE k s, skL l m with
    | some e, some es => some (e :: es)
    | _, _ => none
  | _, _ => none

/-- What stands at the variables. -/
def ptE : List Pt → List SV → Option (List E)
  | [], [] => some []
  | .one k :: l, s :: m => match skE k s, ptE l m with
    | some e, some es => some (e :: es)
    | _, _ => none
  | .ag ks :: l, .agg cs :: m => match skL ks cs, ptE l m with
    | some es, some fs => some (es ++ fs)
    | _, _ => none
  | _, _ => none

section
variable {U : Nat → D → D} {r r' : Nat → D} {g g' : Gh} {L L' : Nat → Prop}

theorem skSV_den {k : Sk} {e : E} {i : Nat} {v : Value} (hr : r' i = e.ev U r) (hd : (skSV k e).den U r g L v) : (skSV k (.v i)).den U r' g' L' v := by
  cases k <;> simp only [skSV, SV.den, E.ev, hr] at hd ⊢ <;> exact hd

theorem skL_den : ∀ {ks : List Sk} {cs : List SV} {es : List E} {vs : List Value} {i : Nat}, skL ks cs = some es → (∀ (j : Nat) (e : E), es[j]? = some e → r' (i + j) = e.ev U r) → SV.denL U r g L cs vs →
    es.length = ks.length ∧ SV.denL U r' g' L' (skGo i ks) vs := by
  intro ks
  induction ks with
  | nil =>
    intro cs es vs i h _ hd
    cases cs with
    | nil => simp only [skL, Option.some.injEq] at h; subst h; cases vs <;> simp_all [SV.denL, skGo]
    | cons a b => simp [skL] at h
  | cons k ks ih =>
    intro cs es vs i h hr hd
    cases cs with
    | nil => simp [skL] at h
    | cons s cs =>
      simp only [skL] at h
      split at h
      · rename_i e es' h1 h2
        cases h
        cases vs with
        | nil => simp [SV.denL] at hd
        | cons v vs =>
          simp only [SV.denL] at hd
          obtain ⟨k1, k2⟩ := ih (i := i + 1) h2 (fun j e he => by have := hr (j + 1) e (by simpa using he); rw [← this]; congr 1; omega) hd.2
          refine ⟨by simp [k1], ?_⟩
          simp only [skGo, SV.denL]
          rw [skE_eq h1] at hd
          exact ⟨skSV_den (by have := hr 0 e (by simp); simpa using this) hd.1, k2⟩
      · cases h

theorem ptE_den : ∀ {ps : List Pt} {args : List SV} {es : List E} {vs : List Value} {i : Nat}, ptE ps args = some es → (∀ (j : Nat) (e : E), es[j]? = some e → r' (i + j) = e.ev U r) → SV.denL U r g L args vs →
    SV.denL U r' g' L' (ptGo i ps) vs := by
  intro ps
  induction ps with
  | nil =>
    intro args es vs i h _ hd
    cases args with
    | nil => cases vs <;> simp_all [SV.denL, ptGo]
    | cons a b => simp [ptE] at h
  | cons p ps ih =>
    intro args es vs i h hr hd
    cases args with
    | nil => cases p <;> simp [ptE] at h
    | cons s args =>
      cases vs with
      | nil => simp [SV.denL] at hd
      | cons v vs =>
        simp only [SV.denL] at hd
        cases p with
        | one k =>
          simp only [ptE] at h
          split at h
          · rename_i e es' h1 h2
            cases h
            simp only [ptGo, SV.denL]
            rw [skE_eq h1] at hd
            refine ⟨skSV_den (by have := hr 0 e (by simp); simpa using this) hd.1, ih (i := i + 1) h2 (fun j e he => ?_) hd.2⟩
            have := hr (j + 1) e (by simpa using he)
            rw [← this]; congr 1; omega
          · cases h
        | ag ks =>
          cases s with
          | agg cs =>
            simp only [ptE] at h
            split at h
            · rename_i es1 es2 h1 h2
              cases h
              simp only [ptGo, SV.denL]
              simp only [SV.den] at hd
              obtain ⟨⟨xs, hv, hc⟩, hd2⟩ := hd
              obtain ⟨k1, k2⟩ := skL_den (i := i) (r' := r') (g' := g') (L' := L') h1 (fun j e he => hr j e (by
                rw [List.getElem?_append_left (List.getElem?_eq_some_iff.1 he).1]; exact he)) hc
              refine ⟨⟨xs, hv, k2⟩, ih (i := i + ks.length) h2 (fun j e he => ?_) hd2⟩
              have := hr (es1.length + j) e (by rw [List.getElem?_append_right (by omega)]; simpa using he)
              rw [← this]; congr 1; omega
            · cases h
          | _ => simp [ptE] at h
end

/-! ### A walk at variables -/

/-- Where a walk at variables begins. -/
def cx0 : Cx := ⟨[], 1000, []⟩

def resT (t : Tree (SV × Cx)) : Tree SV := t.bind fun x => .ret x.1

def subT : List (Nat × E) → Cx → Tree SV → Tree (SV × Cx)
  | m, c, .ret x => match x.sub m with
    | some y => .ret (y, c)
    | none => .bad
  | m, c, .ite e t f => match e.sub m with
    | some e' => br c e' (fun c => subT m c t) (fun c => subT m c f)
    | none => .bad
  | m, c, .chk e t => match e with
    | .o2 .fsame (.v i) e => (match lkM i m, e.sub m with
      | none, some e' =>
        if atomE e' then subT ((i, e') :: m) c t
        else match findE e' c.pc with
          | some j => subT ((i, .v j) :: m) c t
          | none => .chk (.o2 .fsame (.v c.nv) e') (subT ((i, .v c.nv) :: m) ⟨c.h, c.nv + 1, (.o2 .fsame (.v c.nv) e', true) :: c.pc⟩ t)
      | _, _ => .bad)
    | _ => .bad
  | _, _, _ => .bad

def numbered : Nat → List E → List (Nat × E)
  | _, [] => []
  | i, e :: l => (i, e) :: numbered (i + 1) l

def memoRun (ps : List Pt) (T : Tree SV) (args : List SV) (c : Cx) : Tree (SV × Cx) :=
  match ptE ps args with
  | some s => subT (numbered 0 s) c T
  | none => .bad

/-- A contract that the model bears out. -/
def EntryOk (U : Nat → D → D) (P : Program) (f : FuncId) (run : List SV → Cx → Tree (SV × Cx)) : Prop :=
  ∀ (args : List SV) (c : Cx) (L : Nat → Prop) (r : Nat → D) (g : Gh) (w : World) (vs : Array Value) (K : Value → World → Prop),
    HeapDen U r g L c.h w → PcOk U r c.pc → SV.denL U r g L args vs.toList → (run args c).sat U (Post U L r g c w K) r → CallGoal P f vs w K

def noContracts : Contracts := fun _ => none
def Contracts.add (ct : Contracts) (f : FuncId) (run : List SV → Cx → Tree (SV × Cx)) : Contracts := fun k => bif Nat.beq k f then some run else ct k

/-- What a tree says of a call that turns nothing. -/
def Says (U : Nat → D → D) (T : Tree SV) (K : Value → World → Prop) (w : World) (r : Nat → D) : Prop :=
  T.sat U (fun r' s => ∀ g' L' v w', Frm (fun _ => False) w w' → s.den U r' g' L' v → K v w') r

/-- The variables stand for values of the pattern. -/
def PtOk (U : Nat → D → D) (ps : List Pt) (r : Nat → D) : Prop := ∃ (g : Gh) (L : Nat → Prop) (vs : List Value), SV.denL U r g L (ptGo 0 ps) vs

section
variable {U : Nat → D → D} {r r' : Nat → D} {g : Gh} {L : Nat → Prop} {c : Cx} {w w' : World} {P : Program} {cf : FuncId → List SV → Cx → Tree (SV × Cx)} {K : Value → World → Prop}

theorem noContracts_ok : ContractsOk U P noContracts := fun _ _ h => by cases h

theorem ContractsOk.add {ct : Contracts} (h : ContractsOk U P ct) {f : FuncId} {run : List SV → Cx → Tree (SV × Cx)} (he : EntryOk U P f run) : ContractsOk U P (ct.add f run) := by
  intro k run' hk
  unfold Contracts.add at hk
  cases hb : Nat.beq k f with
  | true =>
    rw [hb] at hk
    simp only [cond_true, Option.some.injEq] at hk
    have := Nat.eq_of_beq_eq_true hb
    subst this hk
    exact he
  | false => rw [hb] at hk; exact h k run' hk

/-- Nothing that was there has turned. -/
theorem ext_frame (hh : HeapDen U r g L c.h w) {c' : Cx} (h1 : c'.h = c.h) (h2 : c.nv ≤ c'.nv) (hp : PcOk U r c'.pc) (f : Frm (fun _ => False) w w') : Ext U L r g c w r g c' w' where
  nv := h2
  agr := fun _ => rfl
  len := by rw [h1]; exact Nat.le_refl _
  ga := fun _ _ => ⟨rfl, rfl⟩
  go := fun _ _ => rfl
  heap := by
    rw [h1, Lx_self]
    exact ⟨hh.bnd, fun id h => Nat.lt_of_lt_of_le (hh.lt id h) f.size, fun id b h hb => by rw [f.block _ (hh.lt id h) (fun h => h)]; exact hh.blk id b h hb, hh.inj, fun id b ks e h hb hr => by rw [f.block _ (hh.lt id h) (fun h => h)]; exact hh.rows id b ks e h hb hr, hh.live⟩
  pc := hp
  frm := ⟨f.os, f.tape, f.output, f.size, fun k hk _ => f.block k hk (fun h => h)⟩
  wrs := fun id b k1 k2 k3 => by rw [h1, Lx_self] at k1; rw [h1] at k2; exact .inr ⟨id, b, k1, k2, k3, rfl⟩
  fresh := fun id k1 k2 => by rw [h1] at k2; omega

theorem noHeap : HeapDen U r g (fun _ => False) cx0.h w := ⟨fun _ h => h.elim, fun _ h => h.elim, fun _ _ h => h.elim, fun _ _ _ _ h => h.elim, fun _ _ _ _ h => h.elim, fun _ _ h => by simp [cx0] at h⟩

theorem says_resT {t : Tree (SV × Cx)} : Says U (resT t) K w r ↔ t.sat U (fun r' x => ∀ g' L' v w', Frm (fun _ => False) w w' → x.1.den U r' g' L' v → K v w') r := by
  unfold Says resT
  rw [Tree.sat_bind]
  rfl

/-- A walk at variables: what it says of a call. -/
theorem closed_ok (hcf : CallsOk U P cf) {f : FuncId} {args : List SV} {vs : Array Value} (hd : SV.denL U r g (fun _ => False) args vs.toList)
    (h : Says U (resT (cf f args cx0)) K w r) : CallGoal P f vs w K := by
  refine hcf f args cx0 (fun _ => False) r g w vs K noHeap (fun _ h => by cases h) hd (Tree.sat_mono ?_ (says_resT.1 h))
  intro r' x hx g' v w' he hd'
  refine hx g' _ v w' ?_ hd'
  exact ⟨he.frm.os, he.frm.tape, he.frm.output, he.frm.size, fun k hk _ => he.frm.block k hk (fun ⟨_, _, h, _⟩ => h)⟩

/-- The variables, filled in. -/
def fillM (U : Nat → D → D) (r : Nat → D) (m : List (Nat × E)) : Nat → D := fun n => match lkM n m with
  | some e => e.ev U r
  | none => r n

theorem fillM_ok (m : List (Nat × E)) : Fills U r (fillM U r m) m := fun n e h => by unfold fillM; rw [h]

theorem subT_says {c0 : Cx} (hh : HeapDen U r g L c0.h w) : ∀ {t : Tree SV} {m : List (Nat × E)} {c : Cx}, c.h = c0.h → c0.nv ≤ c.nv → PcOk U r c.pc → (subT m c t).sat U (Post U L r g c0 w K) r →
    ∃ r', Fills U r r' m ∧ Says U t K w r' := by
  intro t
  induction t with
  | ret x =>
    intro m c h1 h2 hp h
    simp only [subT] at h
    split at h
    · rename_i y hy
      exact ⟨fillM U r m, fillM_ok m, fun g' L' v w' hf hd => h g v w' (ext_frame hh h1 h2 hp hf) (SV.sub_den (fillM_ok m) hy hd)⟩
    · exact h.elim
  | ite e t f iht ihf =>
    intro m c h1 h2 hp h
    simp only [subT] at h
    split at h
    · rename_i e' he
      obtain ⟨pc', hp', h | h⟩ := br_sat hp h
      · obtain ⟨r', hf, hs⟩ := iht (c := { c with pc := pc' }) h1 h2 hp' h.2
        refine ⟨r', hf, ?_⟩
        unfold Says
        simp only [Tree.sat]
        rw [if_pos (by rw [← E.sub_ev hf he]; exact h.1)]
        exact hs
      · obtain ⟨r', hf, hs⟩ := ihf (c := { c with pc := pc' }) h1 h2 hp' h.2
        refine ⟨r', hf, ?_⟩
        unfold Says
        simp only [Tree.sat]
        rw [if_neg (by rw [← E.sub_ev hf he]; simp [h.1])]
        exact hs
    · exact h.elim
  | chk e t ih =>
    intro m c h1 h2 hp h
    simp only [subT] at h
    split at h
    · rename_i i e0
      split at h
      · rename_i e' hi he
        have fin : ∀ {x : E} {c' : Cx}, c'.h = c0.h → c0.nv ≤ c'.nv → PcOk U r c'.pc → (x.ev U r).toF = (e'.ev U r).toF → (subT ((i, x) :: m) c' t).sat U (Post U L r g c0 w K) r →
            ∃ r', Fills U r r' m ∧ Says U (.chk (.o2 .fsame (.v i) e0) t) K w r' := by
          intro x c' h1 h2 hp hx h
          obtain ⟨r', hf, hs⟩ := ih h1 h2 hp h
          have hf' : Fills U r r' m := fun n e hn => by
            refine hf n e ?_
            unfold lkM
            cases hb : Nat.beq i n with
            | true => rw [Nat.eq_of_beq_eq_true hb] at hi; rw [hi] at hn; cases hn
            | false => exact hn
          have hi' : r' i = x.ev U r := hf i x (by unfold lkM; rw [Nat.beq_refl]; rfl)
          refine ⟨r', hf', ?_, hs⟩
          simp only [E.ev, O2.ev, D.toB_b, hi', hx, ← E.sub_ev hf' he, beq_self_eq_true]
        split at h
        · exact fin h1 h2 hp rfl h
        · split at h
          · rename_i j hj
            exact fin h1 h2 hp (by simp only [E.ev]; exact findE_ok hp hj) h
          · simp only [Tree.sat] at h
            refine fin (c' := ⟨c.h, c.nv + 1, (.o2 .fsame (.v c.nv) e', true) :: c.pc⟩) h1 (Nat.le_succ_of_le h2) ?_ ?_ h.2
            · intro y hy
              rcases List.mem_cons.1 hy with rfl | hy
              · exact h.1
              · exact hp y hy
            · simpa [E.ev, O2.ev, D.toB_b] using h.1
      · exact h.elim
    · exact h.elim
  | all i t _ => intro m c _ _ _ h; exact h.elim
  | asm e t _ => intro m c _ _ _ h; exact h.elim
  | bad => intro m c _ _ _ h; exact h.elim

theorem lkM_numbered : ∀ {l : List E} {i n : Nat} {e : E}, l[n]? = some e → lkM (i + n) (numbered i l) = some e := by
  intro l
  induction l with
  | nil => intro i n e h; simp at h
  | cons a l ih =>
    intro i n e h
    unfold numbered lkM
    cases n with
    | zero => simp at h; subst h; simp
    | succ n =>
      have hb : Nat.beq i (i + (n + 1)) = false := by
        cases hb : Nat.beq i (i + (n + 1)) with
        | false => rfl
        | true => have := Nat.eq_of_beq_eq_true hb; omega
      rw [hb]
      simp only [cond_false]
      have := ih (i := i + 1) (n := n) (e := e) (by simpa using h)
      rw [← this]; congr 1; omega

/-- A contract: a tree that speaks for the function. -/
theorem entry_ok {f : FuncId} {ps : List Pt} {T : Tree SV}
    (hs : ∀ (r : Nat → D) (g : Gh) (vs : Array Value) (K : Value → World → Prop) (w : World), SV.denL U r g (fun _ => False) (ptGo 0 ps) vs.toList → Says U T K w r → CallGoal P f vs w K) : EntryOk U P f (memoRun ps T) := by
  intro args c L r g w vs K hh hp hd h
  unfold memoRun at h
  split at h
  · rename_i s hse
    obtain ⟨r', hf, hsays⟩ := subT_says hh rfl (Nat.le_refl _) hp h
    refine hs r' g vs K w (ptE_den hse (fun j e he => ?_) hd) hsays
    exact hf _ _ (lkM_numbered he)
  · exact h.elim

/-- THE WALK OF 'f', MADE ONCE. -/
theorem memo_ok (hcf : CallsOk U P cf) (f : FuncId) (ps : List Pt) : EntryOk U P f (memoRun ps (resT (cf f (ptGo 0 ps) cx0))) :=
  entry_ok fun _ _ _ _ _ hd h => closed_ok hcf hd h

/-! ### Names as words that are let in -/

/-- A tree read with its names let in; the names and all tests are over older variables. -/
def Lets (U : Nat → D → D) (K : Value → World → Prop) (w : World) : Nat → (Nat → D) → Tree SV → Prop
  | _, r, .ret s => ∀ g' L' v w', Frm (fun _ => False) w w' → s.den U r g' L' v → K v w'
  | m, r, .ite c t e => c.under m = true ∧ ((c.ev U r).toB = true → Lets U K w m r t) ∧ ((c.ev U r).toB = false → Lets U K w m r e)
  | m, r, .chk c t => ∃ i e, c = .o2 .fsame (.v i) e ∧ m ≤ i ∧ e.under m = true ∧ Lets U K w (i + 1) (Tree.upd r i (e.ev U r)) t
  | _, _, _ => False

theorem lets_says : ∀ {t : Tree SV} {m : Nat} {r : Nat → D}, Lets U K w m r t → ∃ r', (∀ n, n < m → r' n = r n) ∧ Says U t K w r' := by
  intro t
  induction t with
  | ret x => intro m r h; exact ⟨r, fun _ _ => rfl, h⟩
  | ite c t e iht ihe =>
    intro m r h
    simp only [Lets] at h
    obtain ⟨hu, h1, h2⟩ := h
    cases hc : (c.ev U r).toB with
    | true =>
      obtain ⟨r', ha, hs⟩ := iht (h1 hc)
      refine ⟨r', ha, ?_⟩
      unfold Says
      simp only [Tree.sat]
      rw [if_pos (by rw [E.ev_under U ha hu]; exact hc)]
      exact hs
    | false =>
      obtain ⟨r', ha, hs⟩ := ihe (h2 hc)
      refine ⟨r', ha, ?_⟩
      unfold Says
      simp only [Tree.sat]
      rw [if_neg (by rw [E.ev_under U ha hu, hc]; simp)]
      exact hs
  | chk c t ih =>
    intro m r h
    simp only [Lets] at h
    obtain ⟨i, e, rfl, hm, hu, h⟩ := h
    obtain ⟨r', ha, hs⟩ := ih h
    have hlow : ∀ n, n < m → r' n = r n := fun n hn => by
      rw [ha n (by omega)]
      unfold Tree.upd
      rw [if_neg (by omega)]
    refine ⟨r', hlow, ?_, hs⟩
    have : r' i = e.ev U r := by rw [ha i (by omega)]; unfold Tree.upd; rw [if_pos rfl]
    simp only [E.ev, O2.ev, D.toB_b, this, E.ev_under U hlow hu, beq_self_eq_true]
  | all i t _ => intro m r h; exact h.elim
  | asm e t _ => intro m r h; exact h.elim
  | bad => intro m r h; exact h.elim

/-- A walk at variables, its names let in: what it says of a call. -/
theorem closed_lets (hcf : CallsOk U P cf) {f : FuncId} {ps : List Pt} (hu : SV.underL 1000 (ptGo 0 ps) = true) {vs : Array Value} (hd : SV.denL U r g (fun _ => False) (ptGo 0 ps) vs.toList)
    (h : Lets U K w 1000 r (resT (cf f (ptGo 0 ps) cx0))) : CallGoal P f vs w K := by
  obtain ⟨r', ha, hs⟩ := lets_says h
  exact closed_ok hcf (SV.denL_under ha hu hd) hs

/-- A walk's tree put in another's place: 'T' speaks for the function. -/
theorem swap_ok (hcf : CallsOk U P cf) (f : FuncId) (ps : List Pt) (hu : SV.underL 1000 (ptGo 0 ps) = true) {T : Tree SV}
    (hs : ∀ (r : Nat → D) (K : Value → World → Prop) (w : World), PtOk U ps r → Says U T K w r → Lets U K w 1000 r (resT (cf f (ptGo 0 ps) cx0))) : EntryOk U P f (memoRun ps T) :=
  entry_ok fun r _ _ K w hd h => closed_lets hcf hu hd (hs r K w ⟨_, _, _, hd⟩ h)
end
end Go.Sx
