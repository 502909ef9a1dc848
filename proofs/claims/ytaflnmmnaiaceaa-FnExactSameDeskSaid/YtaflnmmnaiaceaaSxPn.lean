/-
  Sx, part Pn: loops of any number of rounds: a round made once, at variables; all rounds.
-/
import Derived.Test.YtaflnmmnaiaceaaSxPm
namespace Go.Sx
open E (mk1 mk2 mkIte mk1_ev mk2_ev mkIte_ev)

/-! ### Trees reckoned -/

section
variable {α β : Type}

/-- The leaf of a tree, its names let in. -/
def evA (U : Nat → D → D) : Tree α → (Nat → D) → Option (α × (Nat → D))
  | .ret s, r => some (s, r)
  | .ite c t e, r => if (c.ev U r).toB then evA U t r else evA U e r
  | .chk c t, r => match c with
    | .o2 .fsame (.v i) e => evA U t (Tree.upd r i (e.ev U r))
    | _ => none
  | _, _ => none

/-- The names and tests of a tree are over older variables. -/
def okA : Nat → Tree α → Bool
  | _, .ret _ => true
  | m, .ite c t e => c.under m && (okA m t && okA m e)
  | m, .chk (.o2 .fsame (.v i) e) t => Nat.ble m i && (e.under m && okA (i + 1) t)
  | _, .bad => true
  | _, _ => false

def mapT (f : α → β) : Tree α → Tree β
  | .ret a => .ret (f a)
  | .ite c t e => .ite c (mapT f t) (mapT f e)
  | .all i t => .all i (mapT f t)
  | .asm c t => .asm c (mapT f t)
  | .chk c t => .chk c (mapT f t)
  | .bad => .bad

theorem evA_map {U : Nat → D → D} (f : α → β) : ∀ {t : Tree α} {r : Nat → D}, evA U (mapT f t) r = (evA U t r).map fun p => (f p.1, p.2) := by
  intro t
  induction t with
  | ret a => intro r; rfl
  | ite c t e iht ihe => intro r; simp only [mapT, evA]; split <;> simp_all
  | chk c t ih =>
    intro r
    simp only [mapT, evA]
    split
    · exact ih
    · rfl
  | all i t ih => intro r; rfl
  | asm c t ih => intro r; rfl
  | bad => intro r; rfl

theorem okA_map (f : α → β) : ∀ {t : Tree α} {m : Nat}, okA m (mapT f t) = okA m t := by
  intro t
  induction t with
  | ret a => intro m; rfl
  | ite c t e iht ihe => intro m; simp only [mapT, okA, iht, ihe]
  | chk c t ih =>
    intro m
    simp only [mapT]
    unfold okA
    split
    · rename_i h'; cases h'
    · rename_i h'; cases h'
    · rename_i i e t' h'
      cases h'
      simp only [ih]
    · rename_i h'; cases h'
    · rename_i hne h1 h2 h3 h4
      split
      · rename_i h'; cases h'
      · rename_i h'; cases h'
      · rename_i i e t' h'
        cases h'
        exact absurd rfl (h3 i e (mapT f t))
      · rename_i h'; cases h'
      · rfl
  | all i t ih => intro m; rfl
  | asm c t ih => intro m; rfl
  | bad => intro m; rfl

theorem evA_sat {U : Nat → D → D} : ∀ {t : Tree α} {m : Nat} {r : Nat → D} {x : α} {r' : Nat → D}, okA m t = true → evA U t r = some (x, r') → (∀ n, n < m → r' n = r n) ∧ ∀ Q : (Nat → D) → α → Prop, Q r' x → t.sat U Q r' := by
  intro t
  induction t with
  | ret a =>
    intro m r x r' _ h
    simp only [evA, Option.some.injEq, Prod.mk.injEq] at h
    obtain ⟨rfl, rfl⟩ := h
    exact ⟨fun _ _ => rfl, fun Q hq => hq⟩
  | ite c t e iht ihe =>
    intro m r x r' ho h
    simp only [okA, Bool.and_eq_true] at ho
    simp only [evA] at h
    split at h
    · rename_i hc
      obtain ⟨k1, k2⟩ := iht ho.2.1 h
      refine ⟨k1, fun Q hq => ?_⟩
      simp only [Tree.sat]
      rw [if_pos (by rw [E.ev_under U k1 ho.1]; exact hc)]
      exact k2 Q hq
    · rename_i hc
      obtain ⟨k1, k2⟩ := ihe ho.2.2 h
      refine ⟨k1, fun Q hq => ?_⟩
      simp only [Tree.sat]
      rw [if_neg (by rw [E.ev_under U k1 ho.1]; exact hc)]
      exact k2 Q hq
  | chk c t ih =>
    intro m r x r' ho h
    unfold okA at ho
    split at ho
    · rename_i h'; cases h'
    · rename_i h'; cases h'
    · rename_i m _ _ i e t' h'
      cases h'
      simp only [Bool.and_eq_true] at ho
      simp only [evA] at h
      obtain ⟨k1, k2⟩ := ih ho.2.2 h
      have hm := Nat.le_of_ble_eq_true ho.1
      have hlow : ∀ n, n < m → r' n = r n := fun n hn => by
        rw [k1 n (by omega)]
        unfold Tree.upd
        rw [if_neg (by omega)]
      refine ⟨hlow, fun Q hq => ?_⟩
      simp only [Tree.sat]
      refine ⟨?_, k2 Q hq⟩
      have : r' i = e.ev U r := by rw [k1 i (by omega)]; unfold Tree.upd; rw [if_pos rfl]
      simp only [E.ev, O2.ev, D.toB_b, this, E.ev_under U hlow ho.2.1, beq_self_eq_true]
    · rename_i h'; cases h'
    · cases ho
  | all i t ih => intro m r x r' ho; simp [okA] at ho
  | asm c t ih => intro m r x r' ho; simp [okA] at ho
  | bad => intro m r x r' _ h; cases h
end

/-! ### A loop -/

/-- What a round comes to. -/
inductive LRes where
  | next (es : List E)
  | done (k : Nat) (es : List E)
  | stuck

/-- A loop: its head; what holds there; the ways out, each with what it leaves. -/
structure LoopT where
  t : Tmpl
  inv : List E
  outs : List (Ex × Tmpl)

def Ex.same : Ex → Ex → Bool
  | .normal, .normal => true
  | .exit i, .exit j => Nat.beq i j
  | .ret, .ret => true
  | _, _ => false

theorem Ex.same_eq {x y : Ex} (h : x.same y = true) : x = y := by
  cases x <;> cases y <;> simp [Ex.same] at h <;> first | rfl | (subst h; rfl)

def LoopT.c0 (A : LoopT) : Cx := ⟨(A.t.sbs E.v id).map some, 1000, A.inv.map fun e => (e, true)⟩
def LoopT.s0 (A : LoopT) : St := ⟨A.t.tm E.v id, A.c0⟩

/-- The first blocks stay. -/
def stays (nf : Nat) (bls : List Nat) : Bool := (List.range nf).all fun j => Nat.beq (blOf bls j) j

def pickOut (e : Ex) : Nat → List (Ex × Tmpl) → Option (Nat × Tmpl)
  | _, [] => none
  | k, (x, t) :: l => if x.same e then some (k, t) else pickOut e (k + 1) l

theorem pickOut_ok {e : Ex} {to : Tmpl} {k : Nat} : ∀ {l : List (Ex × Tmpl)} {i : Nat}, pickOut e i l = some (k, to) → i ≤ k ∧ l[k - i]? = some (e, to) := by
  intro l
  induction l with
  | nil => intro i h; cases h
  | cons x l ih =>
    intro i h
    obtain ⟨x, t⟩ := x
    unfold pickOut at h
    split at h
    · rename_i hs
      cases h
      rw [Ex.same_eq hs]
      simp
    · obtain ⟨h1, h2⟩ := ih h
      refine ⟨by omega, ?_⟩
      rw [show k - i = (k - (i + 1)) + 1 by omega]
      simpa using h2

def LoopT.leaf (A : LoopT) (x : Ex × St) : LRes :=
  match x.1 with
  | .normal => (match A.t.fit x.2 with
    | some (es, bls) => if stays A.t.nf bls then .next es else .stuck
    | none => .stuck)
  | e => (match pickOut e 0 A.outs with
    | some (k, to) => (match to.fit x.2 with
      | some (es, bls) => if stays A.t.nf bls then .done k es else .stuck
      | none => .stuck)
    | none => .stuck)

def Tmpl.wf (t : Tmpl) : Bool :=
  refsOk t.blks.length (t.slots.map (·.2)) && ((t.blks.all fun b => refsOk t.blks.length b.cs) && (Nat.ble t.nf t.blks.length && ((t.blks.drop t.nf).all fun b => b.wr)))

def sameWr : List BP → List BP → Bool
  | [], [] => true
  | a :: l, b :: m => (a.wr == b.wr) && sameWr l m
  | _, _ => false

def underB (m : Nat) (s : SB) : Bool := SV.underL m s.cs && (match s.row with
  | some (_, e) => e.under m
  | none => true)

def LoopT.wf (A : LoopT) : Bool :=
  A.t.wf && ((A.outs.all fun o => o.2.wf && (Nat.beq o.2.n A.t.n && (Nat.beq o.2.nf A.t.nf && sameWr (A.t.blks.take A.t.nf) (o.2.blks.take A.t.nf)))) &&
    ((A.inv.all fun e => e.under 1000) && ((A.t.tm E.v id).under 1000 && (A.t.sbs E.v id).all (underB 1000))))

def rOf (ds : List D) : Nat → D := fun j => ds.getD j (.b false)

/-- What holds at a loop's head. -/
def HoldI (U : Nat → D → D) (inv : List E) (ds : List D) : Prop := ∀ e ∈ inv, (e.ev U (rOf ds)).toB = true

/-- The rounds of a loop, from what stands at its head to a way out. -/
inductive LoopTo (U : Nat → D → D) (inv : List E) (T : Tree LRes) : List D → Nat → List D → Prop where
  | done {ds : List D} {k : Nat} {es : List E} {r' : Nat → D} : HoldI U inv ds → evA U T (rOf ds) = some (.done k es, r') → LoopTo U inv T ds k (es.map (E.ev U r'))
  | next {ds : List D} {es : List E} {r' : Nat → D} {k : Nat} {os : List D} : HoldI U inv ds → evA U T (rOf ds) = some (.next es, r') → LoopTo U inv T (es.map (E.ev U r')) k os → LoopTo U inv T ds k os

/-- What rounds leave of memory. -/
structure Rel (t : Tmpl) (g : Gh) (L : Nat → Prop) (w : World) (g' : Gh) (L' : Nat → Prop) (w' : World) : Prop where
  frm : Frm (fun x => ∃ i b, t.blks[i]? = some b ∧ b.wr = true ∧ L i ∧ g.a i = x) w w'
  fix : ∀ j, j < t.nf → (L' j ↔ L j) ∧ (L j → g'.a j = g.a j ∧ g'.n j = g.n j ∧ g'.o j = g.o j)
  new : ∀ j, t.nf ≤ j → L' j → w.heap.size ≤ g'.a j ∨ ∃ i b, t.blks[i]? = some b ∧ b.wr = true ∧ L i ∧ g'.a j = g.a i

/-- Names of blocks, read through. -/
def Gh.via (g : Gh) (bl : Nat → Nat) : Gh := ⟨fun b => g.a (bl b), fun b => g.n (bl b), fun b => g.o (bl b)⟩

section
variable {U : Nat → D → D} {L L' L'' : Nat → Prop} {r r' : Nat → D} {g g' g'' : Gh} {c c' : Cx} {w w' w'' : World} {P : Program} {a a' : Act}

theorem Rel.trans {t : Tmpl} (h : Rel t g L w g' L' w') (h' : Rel t g' L' w' g'' L'' w'') : Rel t g L w g'' L'' w'' where
  frm := by
    have f := h.frm
    have f' := h'.frm
    refine ⟨f'.os.trans f.os, f'.tape.trans f.tape, f'.output.trans f.output, Nat.le_trans f.size f'.size, fun k hk hn => ?_⟩
    refine (f'.block k (Nat.lt_of_lt_of_le hk f.size) ?_).trans (f.block k hk hn)
    rintro ⟨i, b, h1, h2, h3, h4⟩
    by_cases hi : i < t.nf
    · have hl := (h.fix i hi).1.1 h3
      exact hn ⟨i, b, h1, h2, hl, by rw [← ((h.fix i hi).2 hl).1]; exact h4⟩
    · rcases h.new i (by omega) h3 with h5 | ⟨i', b', k1, k2, k3, k4⟩
      · omega
      · exact hn ⟨i', b', k1, k2, k3, by rw [← k4]; exact h4⟩
  fix := fun j hj => by
    obtain ⟨a1, a2⟩ := h.fix j hj
    obtain ⟨b1, b2⟩ := h'.fix j hj
    refine ⟨b1.trans a1, fun hl => ?_⟩
    obtain ⟨p1, p2, p3⟩ := a2 hl
    obtain ⟨q1, q2, q3⟩ := b2 (a1.2 hl)
    exact ⟨q1.trans p1, q2.trans p2, q3.trans p3⟩
  new := fun j hj hl => by
    rcases h'.new j hj hl with h1 | ⟨i, b, k1, k2, k3, k4⟩
    · exact .inl (Nat.le_trans h.frm.size h1)
    · by_cases hi : i < t.nf
      · have hl' := (h.fix i hi).1.1 k3
        exact .inr ⟨i, b, k1, k2, hl', by rw [k4]; exact ((h.fix i hi).2 hl').1⟩
      · rcases h.new i (by omega) k3 with h5 | ⟨i', b', q1, q2, q3, q4⟩
        · exact .inl (by rw [k4]; exact h5)
        · exact .inr ⟨i', b', q1, q2, q3, by rw [k4]; exact q4⟩

theorem stays_ok {nf : Nat} {bls : List Nat} (h : stays nf bls = true) {j : Nat} (hj : j < nf) : blOf bls j = j := by
  unfold stays at h
  rw [List.all_eq_true] at h
  exact Nat.eq_of_beq_eq_true (h j (List.mem_range.2 hj))

theorem Tmpl.wf_ok {t : Tmpl} (h : t.wf = true) : refsOk t.blks.length (t.slots.map (·.2)) = true ∧ (∀ (j : Nat) (b : BP), t.blks[j]? = some b → refsOk t.blks.length b.cs = true) ∧ t.nf ≤ t.blks.length ∧
    ∀ (j : Nat) (b : BP), t.nf ≤ j → t.blks[j]? = some b → b.wr = true := by
  simp only [Tmpl.wf, Bool.and_eq_true, List.all_eq_true] at h
  refine ⟨h.1, fun j b hb => h.2.1 b (List.mem_of_getElem? hb), Nat.le_of_ble_eq_true h.2.2.1, fun j b hj hb => h.2.2.2 b (List.mem_of_getElem? (i := j - t.nf) ?_)⟩
  rw [List.getElem?_drop, show t.nf + (j - t.nf) = j by omega]
  exact hb

theorem sbs_get {t : Tmpl} {nm : Nat → E} {bl : Nat → Nat} {id : Nat} {s : SB} (h : ((t.sbs nm bl).map some)[id]? = some (some s)) : ∃ b, t.blks[id]? = some b ∧ s = bpSB nm bl id (varOf t.at0 t.blks id) b := by
  rw [List.getElem?_map, Tmpl.sbs, blksSB_get] at h
  cases hb : t.blks[id]? with
  | none => rw [hb] at h; cases h
  | some b =>
    rw [hb] at h
    simp only [Option.map_some, Option.some.injEq, Nat.zero_add] at h
    exact ⟨b, rfl, h.symm⟩

theorem sbs_length (t : Tmpl) (nm : Nat → E) (bl : Nat → Nat) : (t.sbs nm bl).length = t.blks.length := by simp [Tmpl.sbs, blksSB_length]

/-- What one round leaves. -/
theorem rel_of_ext {t to : Tmpl} {inv : List (E × Bool)} {es : List E} {bls : List Nat} {S : St} (hto : to.wf = true) (hnf : to.nf = t.nf) (ht : t.wf = true)
    (e : Ext U L r g ⟨(t.sbs E.v id).map some, 1000, inv⟩ w r' g' S.c w') (hf : Fits to es bls S) (hs : stays t.nf bls = true) :
    Rel t g L w (g'.via (blOf bls)) (fun j => j < to.blks.length ∧ Lx L ((t.sbs E.v id).map some) S.c.h (blOf bls j)) w' := by
  have wr : ∀ {k : Nat}, Wr g L ((t.sbs E.v id).map some) k → ∃ i b, t.blks[i]? = some b ∧ b.wr = true ∧ L i ∧ g.a i = k := by
    rintro k ⟨id, s, h1, h2, h3, h4⟩
    obtain ⟨b, hb, rfl⟩ := sbs_get h2
    exact ⟨id, b, hb, h3, h1, h4⟩
  have len : ((t.sbs E.v id).map some).length = t.blks.length := by simp [sbs_length]
  obtain ⟨_, _, hle, _⟩ := Tmpl.wf_ok ht
  obtain ⟨_, _, hle', hw'⟩ := Tmpl.wf_ok hto
  refine ⟨⟨e.frm.os, e.frm.tape, e.frm.output, e.frm.size, fun k hk hn => e.frm.block k hk fun hw => hn (wr hw)⟩, fun j hj => ?_, fun j hj hl => ?_⟩
  · have hb := stays_ok hs hj
    show ((j < to.blks.length ∧ Lx L _ S.c.h (blOf bls j)) ↔ L j) ∧ (L j → g'.a (blOf bls j) = g.a j ∧ g'.n (blOf bls j) = g.n j ∧ g'.o (blOf bls j) = g.o j)
    rw [hb]
    refine ⟨⟨fun h => ?_, fun h => ⟨by omega, .inl h⟩⟩, fun _ => ?_⟩
    · rcases h.2 with h | h
      · exact h
      · rw [len] at h; omega
    · have hno : ¬ (((t.sbs E.v id).map some).length ≤ j ∧ j < S.c.h.length) := by rw [len]; omega
      exact ⟨(e.ga j hno).1, (e.ga j hno).2, e.go j hno⟩
  · obtain ⟨hlt, hl⟩ := hl
    have hb : to.blks[j]? = some to.blks[j] := List.getElem?_eq_getElem hlt
    obtain ⟨s, h1, h2, _⟩ := hf.blk hb
    have hwr := h2 (hw' j _ (by omega) hb)
    rcases e.wrs _ s hl h1 hwr with h3 | h3
    · exact .inl h3
    · obtain ⟨i, b, k1, k2, k3, k4⟩ := wr h3
      exact .inr ⟨i, b, k1, k2, k3, k4.symm⟩

theorem HeapDen.under {H : SH} {m : Nat} (hh : HeapDen U r g L H w) (hr : ∀ n, n < m → r' n = r n) (hu : ∀ (id : Nat) (s : SB), H[id]? = some (some s) → underB m s = true) : HeapDen U r' g L H w where
  bnd := hh.bnd
  lt := hh.lt
  blk := fun id b hl hb => by
    obtain ⟨xs, t, fz, e1, e2, e3, e4, e5⟩ := hh.blk id b hl hb
    refine ⟨xs, t, fz, e1, e2, e3, e4, fun j c hc => ?_⟩
    obtain ⟨v, hv, hd⟩ := e5 j c hc
    have := hu id b hb
    simp only [underB, Bool.and_eq_true] at this
    refine ⟨v, hv, SV.den_under hr ?_ hd⟩
    have all : ∀ {l : List SV} {j : Nat} {c : SV}, SV.underL m l = true → l[j]? = some c → c.under m = true := by
      intro l
      induction l with
      | nil => intro j c _ h; simp at h
      | cons x l ih =>
        intro j c h hc
        simp only [SV.underL, Bool.and_eq_true] at h
        cases j with
        | zero => simp at hc; subst hc; exact h.1
        | succ j => exact ih h.2 (by simpa using hc)
    exact all this.1 hc
  inj := hh.inj
  rows := fun id b ks e hl hb hr' => by
    obtain ⟨xs, t, fz, e1, e2⟩ := hh.rows id b ks e hl hb hr'
    have := hu id b hb
    simp only [underB, Bool.and_eq_true, hr'] at this
    exact ⟨xs, t, fz, e1, by rw [E.ev_under U hr this.2]; exact e2⟩
  live := hh.live

/-- The walk of a loop's body. -/
def BodyOk (U : Nat → D → D) (P : Program) (b : Code) (ex : St → Tree (Ex × St)) : Prop :=
  ∀ (S : St) (L : Nat → Prop) (r : Nat → D) (g : Gh) (a : Act) (w : World) (Q : Exit → Act → World → Prop),
    HeapDen U r g L S.c.h w → PcOk U r S.c.pc → Slots U r g L S.tmps a → (ex S).sat U (EPost U L r g S.c w Q) r → b.wp P Q a w

structure LoopT.Wf (A : LoopT) : Prop where
  t : A.t.wf = true
  outs : ∀ (k : Nat) (e : Ex) (to : Tmpl), A.outs[k]? = some (e, to) → to.wf = true ∧ to.n = A.t.n ∧ to.nf = A.t.nf ∧ sameWr (A.t.blks.take A.t.nf) (to.blks.take A.t.nf) = true
  inv : ∀ e ∈ A.inv, e.under 1000 = true
  tm : (A.t.tm E.v id).under 1000 = true
  sbs : ∀ s ∈ A.t.sbs E.v id, underB 1000 s = true

theorem LoopT.wf_ok {A : LoopT} (h : A.wf = true) : A.Wf := by
  simp only [LoopT.wf, Bool.and_eq_true, List.all_eq_true] at h
  refine ⟨h.1, fun k e to hk => ?_, h.2.2.1, h.2.2.2.1, h.2.2.2.2⟩
  have := h.2.1 (e, to) (List.mem_of_getElem? hk)
  exact ⟨this.1, Nat.eq_of_beq_eq_true this.2.1, Nat.eq_of_beq_eq_true this.2.2.1, this.2.2.2⟩

theorem evs_rOf (es : List E) (r : Nat → D) (j : Nat) : rOf (es.map (E.ev U r)) j = (nmOf es j).ev U r := by
  unfold rOf nmOf
  rw [List.getD_eq_getElem?_getD, List.getElem?_map, List.getD_eq_getElem?_getD]
  cases es[j]? <;> rfl

/-- A state that fits, under the pattern's own names. -/
theorem fits_own {to : Tmpl} {es : List E} {bls : List Nat} {S : St} (hwf : to.wf = true) (hf : Fits to es bls S) (hh : HeapDen U r g L S.c.h w) (hs : Slots U r g L S.tmps a) :
    StDen U to E.v id (rOf (es.map (E.ev U r))) (g.via (blOf bls)) (fun j => j < to.blks.length ∧ L (blOf bls j)) a w := by
  obtain ⟨h1, h2, _, _⟩ := Tmpl.wf_ok hwf
  refine (hf.den hh hs).tr h1 h2 (fun j => ?_) (fun b hb hl => ⟨⟨hb, hl⟩, rfl, rfl, rfl⟩) (fun b _ hl => hl.2)
  refine EqAt.of_eq ?_
  show _ = rOf _ j
  rw [evs_rOf]

set_option maxHeartbeats 1000000 in
/-- ALL ROUNDS. -/
theorem loop_chain {A : LoopT} {b : Code} {ex : St → Tree (Ex × St)} (hex : BodyOk U P b ex) (hwf : A.Wf) (hok : okA 1000 (mapT A.leaf (ex A.s0)) = true) {ds : List D} {k : Nat} {os : List D}
    (h : LoopTo U A.inv (mapT A.leaf (ex A.s0)) ds k os) :
    ∃ e to, A.outs[k]? = some (e, to) ∧ ∃ N, ∀ (g : Gh) (L : Nat → Prop) (a : Act) (w : World), (∀ j, L j → j < A.t.blks.length) → StDen U A.t E.v id (rOf ds) g L a w →
      ∀ Q : Exit → Act → World → Prop, (∀ g' L' a' w', (∀ j, L' j → j < to.blks.length) → StDen U to E.v id (rOf os) g' L' a' w' → Rel A.t g L w g' L' w' → Q e.out a' w') → Code.rounds P b Q N a w := by
  -- a round
  have round : ∀ {ds : List D} {res : LRes} {r' : Nat → D}, HoldI U A.inv ds → evA U (mapT A.leaf (ex A.s0)) (rOf ds) = some (res, r') →
      ∃ x : Ex × St, A.leaf x = res ∧ ∀ (g : Gh) (L : Nat → Prop) (a : Act) (w : World), (∀ j, L j → j < A.t.blks.length) → StDen U A.t E.v id (rOf ds) g L a w → ∀ Q : Exit → Act → World → Prop,
        (∀ g' a' w', Ext U L r' g A.c0 w r' g' x.2.c w' → Slots U r' g' (Lx L A.c0.h x.2.c.h) x.2.tmps a' → Q x.1.out a' w') → b.wp P Q a w := by
    intro ds res r' hinv hev
    rw [evA_map] at hev
    cases hx : evA U (ex A.s0) (rOf ds) with
    | none => rw [hx] at hev; cases hev
    | some p =>
      rw [hx] at hev
      obtain ⟨x, r1⟩ := p
      simp only [Option.map_some, Option.some.injEq, Prod.mk.injEq] at hev
      obtain ⟨h1, rfl⟩ := hev
      rw [okA_map] at hok
      obtain ⟨hlow, hsat⟩ := evA_sat hok hx
      refine ⟨x, h1, fun g L a w hL hst Q hQ => ?_⟩
      obtain ⟨hh, hs⟩ := hst.own hL
      have hh' : HeapDen U r1 g L A.c0.h w := hh.under hlow fun id s hs' => by
        have hm : s ∈ A.t.sbs E.v _root_.id := by
          have hs' : ((A.t.sbs E.v _root_.id).map some)[id]? = some (some s) := hs'
          rw [List.getElem?_map] at hs'
          cases hq : (A.t.sbs E.v _root_.id)[id]? with
          | none => rw [hq] at hs'; cases hs'
          | some s' => rw [hq] at hs'; simp only [Option.map_some, Option.some.injEq] at hs'; subst hs'; exact List.mem_of_getElem? hq
        exact hwf.sbs s hm
      have hs' : Slots U r1 g L A.s0.tmps a := hs.under hlow hwf.tm
      have hp : PcOk U r1 A.c0.pc := by
        intro y hy
        obtain ⟨e, he, rfl⟩ := List.mem_map.1 hy
        show (e.ev U r1).toB = true
        rw [E.ev_under U hlow (hwf.inv e he)]
        exact hinv e he
      exact hex A.s0 L r1 g a w Q hh' hp hs' (hsat _ fun g' a' w' he hs => hQ g' a' w' he hs)
  induction h with
  | @done ds k es r' hinv hev =>
    obtain ⟨x, hx, hrun⟩ := round hinv hev
    unfold LoopT.leaf at hx
    split at hx
    · split at hx
      · split at hx <;> cases hx
      · cases hx
    · rename_i e hne
      split at hx
      · rename_i k' to hpick
        split at hx
        · rename_i es' bls hfit
          split at hx
          · rename_i hst'
            cases hx
            obtain ⟨_, hout⟩ := pickOut_ok hpick
            rw [Nat.sub_zero] at hout
            obtain ⟨w1, w2, w3, w4⟩ := hwf.outs _ _ _ hout
            have hf := Tmpl.fits_ok (Tmpl.fit_fits hfit)
            refine ⟨_, _, hout, 1, fun g L a w hL hst Q hQ => ?_⟩
            rw [rounds_succ]
            refine hrun g L a w hL hst _ fun g' a' w' he hs => ?_
            have hq := hQ _ _ a' w' (fun j hj => hj.1) (fits_own w1 hf he.heap hs) (rel_of_ext w1 w3 hwf.t he hf hst')
            cases hx1 : x.1 with
            | normal => exact absurd hx1 hne
            | exit i => rw [hx1] at hq; exact hq
            | ret => rw [hx1] at hq; exact hq
          · cases hx
        · cases hx
      · cases hx
  | @next ds es r' k os hinv hev hto ih =>
    obtain ⟨x, hx, hrun⟩ := round hinv hev
    obtain ⟨e, to, hout, N, ihr⟩ := ih
    unfold LoopT.leaf at hx
    split at hx
    · rename_i hnorm
      split at hx
      · rename_i es' bls hfit
        split at hx
        · rename_i hst'
          cases hx
          have hf := Tmpl.fits_ok (Tmpl.fit_fits hfit)
          refine ⟨e, to, hout, N + 1, fun g L a w hL hst Q hQ => ?_⟩
          rw [rounds_succ]
          refine hrun g L a w hL hst _ fun g' a' w' he hs => ?_
          rw [hnorm]
          refine ihr (g'.via (blOf bls)) (fun j => j < A.t.blks.length ∧ Lx L A.c0.h x.2.c.h (blOf bls j)) a' w' (fun j hj => hj.1) (fits_own hwf.t hf he.heap hs) Q fun g2 L2 a2 w2 hL2 hst2 hrel => ?_
          exact hQ g2 L2 a2 w2 hL2 hst2 ((rel_of_ext hwf.t rfl hwf.t he hf hst').trans hrel)
        · cases hx
      · cases hx
    · split at hx
      · split at hx
        · split at hx <;> cases hx
        · cases hx
      · cases hx
end
end Go.Sx
