/-
  Sx, part W: names: an expression of floats is given a variable, each expression one.
-/
import Derived.Test.YtaflnmmnaiaceaaSxJ
namespace Go.Sx
open E (mk1 mk2 mkIte mk1_ev mk2_ev mkIte_ev)

/-! ### Naming: an expression of floats is given a variable -/

def atomE : E → Bool
  | .v _ | .f _ | .i _ | .b _ | .s _ => true
  | _ => false

/-- The name that an expression has. -/
def findE (e : E) : List (E × Bool) → Option Nat
  | [] => none
  | (.o2 .fsame (.v i) x, true) :: l => if x.same e then some i else findE e l
  | _ :: l => findE e l

/-- A word under its name, old or new. -/
def giveName (e : E) (c : Cx) (l : List E) : E × Cx × List E :=
  if atomE e then (e, c, l) else
  match findE e c.pc with
  | some i => (.v i, c, l)
  | none => (.v c.nv, ⟨c.h, c.nv + 1, (.o2 .fsame (.v c.nv) e, true) :: c.pc⟩, .o2 .fsame (.v c.nv) e :: l)

/-- Names for a word of floats and for its parts; the list: what is laid down, the newest first. -/
def nameE : E → Cx → List E → E × Cx × List E
  | .o1 o x, c, l => match o with
    | .fneg k => (match nameE x c l with | (x', c', l') => giveName (mk1 (.fneg k) x') c' l')
    | .sqrt => (match nameE x c l with | (x', c', l') => giveName (mk1 .sqrt x') c' l')
    | .fabs k => (match nameE x c l with | (x', c', l') => giveName (mk1 (.fabs k) x') c' l')
    | .conv s k => (match nameE x c l with | (x', c', l') => giveName (mk1 (.conv s k) x') c' l')
    | .integral w => (match nameE x c l with | (x', c', l') => giveName (mk1 (.integral w) x') c' l')
    | o => giveName (.o1 o x) c l
  | .o2 o x y, c, l => match o with
    | .fadd k => (match nameE x c l with | (x', c', l') => match nameE y c' l' with | (y', c'', l'') => giveName (mk2 (.fadd k) x' y') c'' l'')
    | .fsub k => (match nameE x c l with | (x', c', l') => match nameE y c' l' with | (y', c'', l'') => giveName (mk2 (.fsub k) x' y') c'' l'')
    | .fmul k => (match nameE x c l with | (x', c', l') => match nameE y c' l' with | (y', c'', l'') => giveName (mk2 (.fmul k) x' y') c'' l'')
    | .fdiv k => (match nameE x c l with | (x', c', l') => match nameE y c' l' with | (y', c'', l'') => giveName (mk2 (.fdiv k) x' y') c'' l'')
    | o => giveName (.o2 o x y) c l
  | .o3 o x y z, c, l => giveName (.o3 o x y z) c l
  | .app n x, c, l => giveName (.app n x) c l
  | e, c, l => (e, c, l)

mutual
def rawSV : SV → Bool
  | .flt _ e => !atomE e
  | .agg cs => rawL cs
  | .tup cs => rawL cs
  | _ => false
def rawL : List SV → Bool
  | [] => false
  | x :: l => rawSV x || rawL l
end

mutual
def nameSV : SV → Cx → List E → SV × Cx × List E
  | .flt k e, c, l => (match nameE e c l with | (e', c', l') => (.flt k e', c', l'))
  | .agg cs, c, l => (match nameSL cs c l with | (cs', c', l') => (.agg cs', c', l'))
  | .tup cs, c, l => (match nameSL cs c l with | (cs', c', l') => (.tup cs', c', l'))
  | s, c, l => (s, c, l)
def nameSL : List SV → Cx → List E → List SV × Cx × List E
  | [], c, l => ([], c, l)
  | x :: xs, c, l => (match nameSV x c l with | (x', c', l') => match nameSL xs c' l' with | (xs', c'', l'') => (x' :: xs', c'', l''))
end

/-- What is laid down, the oldest first. -/
def chks {α : Type} : List E → Tree α → Tree α
  | [], t => t
  | e :: l, t => chks l (.chk e t)

/-- A result under names. -/
def nameRes (x : SV × Cx) : Tree (SV × Cx) :=
  if rawSV x.1 then
    match nameSV x.1 x.2 [] with
    | (s, c, l) => chks l (.ret (s, c))
  else .ret x

section
variable {U : Nat → D → D} {L : Nat → Prop} {r r' : Nat → D} {g g' : Gh} {c c' : Cx} {w w' : World} {K : Value → World → Prop}

theorem findE_ok {e : E} {i : Nat} : ∀ {pc : List (E × Bool)}, PcOk U r pc → findE e pc = some i → (r i).toF = (e.ev U r).toF := by
  intro pc
  induction pc with
  | nil => intro _ h; cases h
  | cons x l ih =>
    intro hp h
    have hl : PcOk U r l := fun y hy => hp y (by simp [hy])
    unfold findE at h
    split at h
    · rename_i h'; cases h'
    · rename_i j x' l' h'
      cases h'
      split at h
      · rename_i hs
        cases h
        have := hp _ (List.mem_cons_self ..)
        rw [← E.same_eq hs]
        simpa [E.ev, O2.ev, D.toB_b] using this
      · exact ih hl h
    · rename_i h'
      cases h'
      exact ih hl h

theorem Ext.mint (e : Ext U L r g c w r' g' c' w') {c'' : Cx} (h1 : c''.h = c'.h) (h2 : c'.nv ≤ c''.nv) (h3 : PcOk U r' c''.pc) : Ext U L r g c w r' g' c'' w' where
  nv := Nat.le_trans e.nv h2
  agr := e.agr
  len := by rw [h1]; exact e.len
  ga := by rw [h1]; exact e.ga
  go := by rw [h1]; exact e.go
  heap := by rw [h1]; exact e.heap
  pc := h3
  frm := e.frm
  wrs := by rw [h1]; exact e.wrs
  fresh := by rw [h1]; exact e.fresh

theorem chks_sat {α : Type} {Q : (Nat → D) → α → Prop} : ∀ {l : List E} {t : Tree α}, (chks l t).sat U Q r → (∀ e ∈ l, (e.ev U r).toB = true) ∧ t.sat U Q r := by
  intro l
  induction l with
  | nil => intro t h; exact ⟨fun _ h => (by cases h), h⟩
  | cons e l ih =>
    intro t h
    obtain ⟨h1, h2⟩ := ih h
    exact ⟨fun x hx => by
      rcases List.mem_cons.1 hx with rfl | hx
      · exact h2.1
      · exact h1 x hx, h2.2⟩

/-- What naming has done. -/
structure Named (U : Nat → D → D) (r : Nat → D) (c : Cx) (l : List E) (c' : Cx) (l' : List E) : Prop where
  h : c'.h = c.h
  nv : c.nv ≤ c'.nv
  more : ∀ e ∈ l, e ∈ l'
  pc : PcOk U r c.pc → (∀ e ∈ l', (e.ev U r).toB = true) → PcOk U r c'.pc

theorem Named.refl (c : Cx) (l : List E) : Named U r c l c l := ⟨rfl, Nat.le_refl _, fun _ h => h, fun h _ => h⟩
theorem Named.trans {c1 c2 c3 : Cx} {l1 l2 l3 : List E} (a : Named U r c1 l1 c2 l2) (b : Named U r c2 l2 c3 l3) : Named U r c1 l1 c3 l3 :=
  ⟨b.h.trans a.h, Nat.le_trans a.nv b.nv, fun e he => b.more e (a.more e he), fun hp hl => b.pc (a.pc hp fun e he => hl e (b.more e he)) hl⟩

theorem giveName_ok (e : E) (c : Cx) (l : List E) : Named U r c l (giveName e c l).2.1 (giveName e c l).2.2 ∧
    (PcOk U r c.pc → (∀ x ∈ (giveName e c l).2.2, (x.ev U r).toB = true) → ((giveName e c l).1.ev U r).toF = (e.ev U r).toF) := by
  unfold giveName
  split
  · exact ⟨Named.refl _ _, fun _ _ => rfl⟩
  · split
    · rename_i i hf
      exact ⟨Named.refl _ _, fun hp _ => by simp only [E.ev]; exact findE_ok hp hf⟩
    · refine ⟨⟨rfl, Nat.le_succ _, fun _ h => List.mem_cons_of_mem _ h, fun hp hl => ?_⟩, fun _ hl => ?_⟩
      · intro y hy
        rcases List.mem_cons.1 hy with rfl | hy
        · exact hl _ (List.mem_cons_self ..)
        · exact hp y hy
      · have := hl _ (List.mem_cons_self ..)
        simpa [E.ev, O2.ev, D.toB_b] using this

theorem nameE_ok : ∀ (e : E) (c : Cx) (l : List E), Named U r c l (nameE e c l).2.1 (nameE e c l).2.2 ∧
    (PcOk U r c.pc → (∀ x ∈ (nameE e c l).2.2, (x.ev U r).toB = true) → ((nameE e c l).1.ev U r).toF = (e.ev U r).toF) := by
  intro e
  induction e with
  | v n => intro c l; exact ⟨Named.refl _ _, fun _ _ => rfl⟩
  | b n => intro c l; exact ⟨Named.refl _ _, fun _ _ => rfl⟩
  | i n => intro c l; exact ⟨Named.refl _ _, fun _ _ => rfl⟩
  | f n => intro c l; exact ⟨Named.refl _ _, fun _ _ => rfl⟩
  | s n => intro c l; exact ⟨Named.refl _ _, fun _ _ => rfl⟩
  | app n x _ => intro c l; exact giveName_ok _ _ _
  | o3 o x y z _ _ _ => intro c l; exact giveName_ok _ _ _
  | o1 o x ih =>
    intro c l
    have step : ∀ (o : O1), (∀ d d' : D, d.toF = d'.toF → (o.ev d).toF = (o.ev d').toF) →
        Named U r c l (giveName (mk1 o (nameE x c l).1) (nameE x c l).2.1 (nameE x c l).2.2).2.1 (giveName (mk1 o (nameE x c l).1) (nameE x c l).2.1 (nameE x c l).2.2).2.2 ∧
        (PcOk U r c.pc → (∀ y ∈ (giveName (mk1 o (nameE x c l).1) (nameE x c l).2.1 (nameE x c l).2.2).2.2, (y.ev U r).toB = true) →
          ((giveName (mk1 o (nameE x c l).1) (nameE x c l).2.1 (nameE x c l).2.2).1.ev U r).toF = ((E.o1 o x).ev U r).toF) := by
      intro o ho
      obtain ⟨a1, a2⟩ := ih c l
      obtain ⟨b1, b2⟩ := giveName_ok (U := U) (r := r) (mk1 o (nameE x c l).1) (nameE x c l).2.1 (nameE x c l).2.2
      refine ⟨a1.trans b1, fun hp hl => ?_⟩
      have hl' : ∀ y ∈ (nameE x c l).2.2, (y.ev U r).toB = true := fun y hy => hl y (b1.more y hy)
      rw [b2 (a1.pc hp hl') hl, mk1_ev]
      exact ho _ _ (a2 hp hl')
    cases o with
    | fneg k => exact step (.fneg k) (fun d d' h => by simp only [O1.ev, D.toF_f, h])
    | sqrt => exact step .sqrt (fun d d' h => by simp only [O1.ev, D.toF_f, h])
    | fabs k => exact step (.fabs k) (fun d d' h => by simp only [O1.ev, D.toF_f, h])
    | conv s k => exact step (.conv s k) (fun d d' h => by simp only [O1.ev, D.toF_f, h])
    | integral w => exact step (.integral w) (fun d d' h => by simp only [O1.ev, D.toF_f, h])
    | _ => exact giveName_ok _ _ _
  | o2 o x y ihx ihy =>
    intro c l
    have step : ∀ (o : O2), (∀ d d' k k' : D, d.toF = d'.toF → k.toF = k'.toF → (o.ev d k).toF = (o.ev d' k').toF) →
        let A := nameE x c l
        let B := nameE y A.2.1 A.2.2
        let C := giveName (mk2 o A.1 B.1) B.2.1 B.2.2
        Named U r c l C.2.1 C.2.2 ∧ (PcOk U r c.pc → (∀ y ∈ C.2.2, (y.ev U r).toB = true) → (C.1.ev U r).toF = ((E.o2 o x y).ev U r).toF) := by
      intro o ho A B C
      obtain ⟨a1, a2⟩ := ihx c l
      obtain ⟨b1, b2⟩ := ihy A.2.1 A.2.2
      obtain ⟨c1, c2⟩ := giveName_ok (U := U) (r := r) (mk2 o A.1 B.1) B.2.1 B.2.2
      refine ⟨(a1.trans b1).trans c1, fun hp hl => ?_⟩
      have hlB : ∀ y ∈ B.2.2, (y.ev U r).toB = true := fun y hy => hl y (c1.more y hy)
      have hlA : ∀ y ∈ A.2.2, (y.ev U r).toB = true := fun y hy => hlB y (b1.more y hy)
      have hpA := a1.pc hp hlA
      have hpB := b1.pc hpA hlB
      rw [c2 hpB hl, mk2_ev]
      exact ho _ _ _ _ (a2 hp hlA) (b2 hpA hlB)
    cases o with
    | fadd k => exact step (.fadd k) (fun d d' k k' h h' => by simp only [O2.ev, D.toF_f, h, h'])
    | fsub k => exact step (.fsub k) (fun d d' k k' h h' => by simp only [O2.ev, D.toF_f, h, h'])
    | fmul k => exact step (.fmul k) (fun d d' k k' h h' => by simp only [O2.ev, D.toF_f, h, h'])
    | fdiv k => exact step (.fdiv k) (fun d d' k k' h h' => by simp only [O2.ev, D.toF_f, h, h'])
    | _ => exact giveName_ok _ _ _

mutual
theorem nameSV_ok : ∀ (s : SV) (c : Cx) (l : List E), Named U r c l (nameSV s c l).2.1 (nameSV s c l).2.2 ∧
    (PcOk U r c.pc → (∀ x ∈ (nameSV s c l).2.2, (x.ev U r).toB = true) → ∀ v, s.den U r g L v → (nameSV s c l).1.den U r g L v)
  | .flt k e, c, l => by
    obtain ⟨h1, h2⟩ := nameE_ok (U := U) (r := r) e c l
    refine ⟨h1, fun hp hl v hd => ?_⟩
    simp only [SV.den] at hd
    obtain ⟨b, hb, hb1, hb2⟩ := hd
    show (SV.flt k (nameE e c l).1).den U r g L v
    simp only [SV.den]
    exact ⟨b, hb, hb1, by rw [hb2]; exact (h2 hp hl).symm⟩
  | .agg cs, c, l => by
    obtain ⟨h1, h2⟩ := nameSL_ok cs c l
    refine ⟨h1, fun hp hl v hd => ?_⟩
    simp only [SV.den] at hd
    obtain ⟨xs, hv, hc⟩ := hd
    show (SV.agg (nameSL cs c l).1).den U r g L v
    simp only [SV.den]
    exact ⟨xs, hv, h2 hp hl _ hc⟩
  | .tup cs, c, l => by
    obtain ⟨h1, h2⟩ := nameSL_ok cs c l
    refine ⟨h1, fun hp hl v hd => ?_⟩
    simp only [SV.den] at hd
    obtain ⟨xs, hv, hc⟩ := hd
    show (SV.tup (nameSL cs c l).1).den U r g L v
    simp only [SV.den]
    exact ⟨xs, hv, h2 hp hl _ hc⟩
  | .any, c, l => ⟨Named.refl _ _, fun _ _ _ h => h⟩
  | .bool e, c, l => ⟨Named.refl _ _, fun _ _ _ h => h⟩
  | .int k e, c, l => ⟨Named.refl _ _, fun _ _ _ h => h⟩
  | .str e, c, l => ⟨Named.refl _ _, fun _ _ _ h => h⟩
  | .con u, c, l => ⟨Named.refl _ _, fun _ _ _ h => h⟩
  | .ptr _ _, c, l => ⟨Named.refl _ _, fun _ _ _ h => h⟩
  | .sl _ _ _ _ _, c, l => ⟨Named.refl _ _, fun _ _ _ h => h⟩
  | .fn _ _ _, c, l => ⟨Named.refl _ _, fun _ _ _ h => h⟩
  | .fb _ _, c, l => ⟨Named.refl _ _, fun _ _ _ h => h⟩
  | .slo _ _ _, c, l => ⟨Named.refl _ _, fun _ _ _ h => h⟩
  | .ptrI _ _ _ _, c, l => ⟨Named.refl _ _, fun _ _ _ h => h⟩
theorem nameSL_ok : ∀ (s : List SV) (c : Cx) (l : List E), Named U r c l (nameSL s c l).2.1 (nameSL s c l).2.2 ∧
    (PcOk U r c.pc → (∀ x ∈ (nameSL s c l).2.2, (x.ev U r).toB = true) → ∀ v, SV.denL U r g L s v → SV.denL U r g L (nameSL s c l).1 v)
  | [], c, l => ⟨Named.refl _ _, fun _ _ _ h => h⟩
  | x :: xs, c, l => by
    obtain ⟨a1, a2⟩ := nameSV_ok x c l
    obtain ⟨b1, b2⟩ := nameSL_ok xs (nameSV x c l).2.1 (nameSV x c l).2.2
    refine ⟨a1.trans b1, fun hp hl v hd => ?_⟩
    have hlA : ∀ y ∈ (nameSV x c l).2.2, (y.ev U r).toB = true := fun y hy => hl y (b1.more y hy)
    cases v with
    | nil => simp [SV.denL] at hd
    | cons v vs =>
      simp only [SV.denL] at hd
      show SV.denL U r g L ((nameSV x c l).1 :: (nameSL xs (nameSV x c l).2.1 (nameSV x c l).2.2).1) (v :: vs)
      simp only [SV.denL]
      exact ⟨a2 hp hlA v hd.1, b2 (a1.pc hp hlA) hl vs hd.2⟩
end

theorem nameRes_ok {x : SV × Cx} {r' : Nat → D} (h : (nameRes x).sat U (Post U L r g c w K) r') : Post U L r g c w K r' x := by
  unfold nameRes at h
  split at h
  · obtain ⟨hl, hq⟩ := chks_sat h
    intro g' v w' he hd
    obtain ⟨n1, n2⟩ := nameSV_ok (U := U) (r := r') (g := g') (L := Lx L c.h x.2.h) x.1 x.2 []
    refine hq g' v w' (he.mint n1.h n1.nv (n1.pc he.pc hl)) ?_
    show SV.den U r' g' (Lx L c.h (nameSV x.1 x.2 []).2.1.h) (nameSV x.1 x.2 []).1 v
    rw [n1.h]
    exact n2 he.pc hl v hd
  · exact h
end
end Go.Sx
