/-
  Sx, part C: the model's runs on memory, and the steps that they are.
-/
import Derived.Test.YtaflnmmnaiaceaaSxB
import Derived.Test.YtaflnmmnaiaceaaSxF
namespace Go.Sx

/-! ### Runs -/

section
variable {P : Program}

theorem add_none (b o i : Nat) : (⟨b, o, none⟩ : Addr).add i = ⟨b, o + i, none⟩ := by
  unfold Addr.add
  split
  · rename_i h; subst h; rfl
  · rfl

theorem cell_of {w : World} {b : Nat} {xs : Array Value} {t : TypeId} {fz : Nat × Nat} (h : w.heap[b]? = some (.cells xs t fz)) (o : Nat) : w.cell? ⟨b, o, none⟩ = xs[o]? := by
  unfold World.cell?; simp [h]

theorem run_load_at {w : World} {b o : Nat} {v : Value} (h : w.cell? ⟨b, o, none⟩ = some v) : (load ⟨b, o, none⟩).run P w = .ok v w := by
  simp [load, Sem.run, h]

theorem run_loadCells_at {w : World} {b : Nat} {xs : Array Value} {t : TypeId} {fz : Nat × Nat} (h : w.heap[b]? = some (.cells xs t fz)) (o : Nat) :
    ∀ (n i : Nat) (acc : Array Value), o + i + n ≤ xs.size → (loadCellsFrom ⟨b, o, none⟩ i n acc).run P w = .ok (acc ++ xs.extract (o + i) (o + i + n)) w := by
  intro n
  induction n with
  | zero => intro i acc _; simp [loadCellsFrom]; omega
  | succ n ih =>
    intro i acc hle
    have hlt : o + i < xs.size := by omega
    have hl : (load ((⟨b, o, none⟩ : Addr).add i)).run P w = .ok xs[o + i] w := by
      rw [add_none]; exact run_load_at (by rw [cell_of h]; simp [hlt])
    unfold loadCellsFrom
    rw [Sem.run_bind, hl, Result.andThen_ok, ih (i + 1) _ (by omega)]
    congr 1
    have e1 : o + (i + 1) = o + i + 1 := by omega
    have e2 : o + i + 1 + n = o + i + (n + 1) := by omega
    rw [e1, e2]
    apply Array.toList_inj.1
    simp only [Array.toList_append, Array.toList_push, Array.toList_extract, List.append_assoc]
    congr 1
    rw [List.extract_eq_take_drop, List.extract_eq_take_drop]
    have e3 : o + i + (n + 1) - (o + i) = n + 1 := by omega
    have e4 : o + i + (n + 1) - (o + i + 1) = n := by omega
    rw [e3, e4]
    rw [List.drop_eq_getElem_cons (show o + i < xs.toList.length by simpa using hlt)]
    simp

def aggT (P : Program) (t : TypeId) : Option Bool :=
  match P.underlying t with
  | some (.struct _) => some true
  | some (.array _ _) => some true
  | some _ => some false
  | none => none
def szT (P : Program) (t : TypeId) : Option Nat := (P.info? t).map (·.size)
def zeroT (P : Program) (t : TypeId) : Option Value := (P.info? t).bind (·.zero)

theorem run_und {t : TypeId} {d : TypeDesc} (h : P.underlying t = some d) (w : World) : (underlying t).run P w = .ok d w := by
  simp [underlying, h]

theorem run_isAgg_of {t : TypeId} {b : Bool} (h : aggT P t = some b) (w : World) : (isAgg t).run P w = .ok b w := by
  unfold aggT at h
  unfold isAgg
  cases hu : P.underlying t with
  | none => rw [hu] at h; simp at h
  | some d => rw [hu] at h; rw [Sem.run_bind, run_und hu]; cases d <;> simp_all

theorem run_info {t : TypeId} {i : TypeInfo} (h : P.info? t = some i) (w : World) : (typeInfo t).run P w = .ok i w := by
  simp [typeInfo, h]

theorem run_sizeOf_of {t : TypeId} {n : Nat} (h : szT P t = some n) (w : World) : (sizeOf t).run P w = .ok n w := by
  unfold szT at h
  cases hi : P.info? t with
  | none => rw [hi] at h; cases h
  | some i => rw [hi] at h; simp at h; simp [sizeOf, run_info hi, h]

theorem run_zero_of {t : TypeId} {v : Value} (h : zeroT P t = some v) (w : World) : (zeroValue t).run P w = .ok v w := by
  unfold zeroT at h
  cases hi : P.info? t with
  | none => rw [hi] at h; cases h
  | some i => rw [hi] at h; simp at h; simp [zeroValue, run_info hi, h]

theorem run_loadVar_agg {w : World} {b o n : Nat} {xs : Array Value} {t t' : TypeId} {fz : Nat × Nat} (h : w.heap[b]? = some (.cells xs t' fz)) (ha : aggT P t = some true) (hs : szT P t = some n)
    (hle : o + n ≤ xs.size) : (loadVar t ⟨b, o, none⟩).run P w = .ok (.agg (xs.extract o (o + n))) w := by
  unfold loadVar
  rw [Sem.run_bind, run_isAgg_of ha, Result.andThen_ok, if_pos rfl]
  simp only [Sem.run_bind, run_sizeOf_of hs, Result.andThen_ok, loadCells]
  rw [run_loadCells_at h o n 0 #[] (by omega)]
  simp

theorem run_loadVar_one {w : World} {b o : Nat} {v : Value} {xs : Array Value} {t t' : TypeId} {fz : Nat × Nat} (h : w.heap[b]? = some (.cells xs t' fz)) (ha : aggT P t = some false)
    (hv : xs[o]? = some v) : (loadVar t ⟨b, o, none⟩).run P w = .ok v w := by
  unfold loadVar
  rw [Sem.run_bind, run_isAgg_of ha, Result.andThen_ok, if_neg (by simp)]
  exact run_load_at (by rw [cell_of h]; exact hv)

theorem run_newVar_of (t : TypeId) (v : Value) (w : World) : (newVar t v).run P w = .ok ⟨w.heap.size, 0, none⟩ (w.alloc (.cells v.cells t)) := by
  simp [newVar, newRow]

/-- The cells of an array with some put in. -/
def putIn (xs : Array Value) (o : Nat) : List Value → Array Value
  | [] => xs
  | v :: vs => putIn (xs.setIfInBounds o v) (o + 1) vs

theorem putIn_size : ∀ (vs : List Value) (xs : Array Value) (o : Nat), (putIn xs o vs).size = xs.size := by
  intro vs
  induction vs with
  | nil => intro xs o; rfl
  | cons v vs ih => intro xs o; simp [putIn, ih]

theorem putIn_get : ∀ (vs : List Value) (xs : Array Value) (o j : Nat), o + vs.length ≤ xs.size → (putIn xs o vs)[j]? = if o ≤ j ∧ j < o + vs.length then vs[j - o]? else xs[j]? := by
  intro vs
  induction vs with
  | nil => intro xs o j _; rw [if_neg (by simp only [List.length_nil]; omega)]; rfl
  | cons v vs ih =>
    intro xs o j h
    simp only [List.length_cons] at h ⊢
    rw [putIn, ih _ _ _ (by simp; omega)]
    by_cases h1 : o + 1 ≤ j ∧ j < o + 1 + vs.length
    · rw [if_pos h1, if_pos (by omega)]
      have : j - o = (j - (o + 1)) + 1 := by omega
      rw [this]; rfl
    · rw [if_neg h1]
      by_cases h2 : j = o
      · subst h2
        rw [if_pos (by omega), Nat.sub_self, Array.getElem?_setIfInBounds_self_of_lt (by omega)]
        rfl
      · rw [if_neg (by omega), Array.getElem?_setIfInBounds_ne (by omega)]

/-- What a store of many cells leaves. -/
structure Wrote (b : Nat) (xs' : Array Value) (t : TypeId) (w w' : World) : Prop where
  at_ : w'.heap[b]? = some (.cells xs' t (0, 0))
  off : ∀ k, k ≠ b → w'.heap[k]? = w.heap[k]?
  size : w'.heap.size = w.heap.size
  os : w'.os = w.os
  tape : w'.tape = w.tape
  output : w'.output = w.output

theorem run_storeCells_at {b o : Nat} {t : TypeId} : ∀ (vs : List Value) (i : Nat) (xs : Array Value) (w : World), w.heap[b]? = some (.cells xs t (0, 0)) → o + i + vs.length ≤ xs.size → (∀ v ∈ vs, v.oneCell' = true) →
    ∃ w', (storeCells ⟨b, o, none⟩ vs i).run P w = .ok () w' ∧ Wrote b (putIn xs (o + i) vs) t w w' := by
  intro vs
  induction vs with
  | nil => intro i xs w h _ _; exact ⟨w, rfl, h, fun _ _ => rfl, rfl, rfl, rfl, rfl⟩
  | cons v vs ih =>
    intro i xs w h hle h1
    simp only [List.length_cons] at hle
    have hc : w.cell? ⟨b, o + i, none⟩ = some xs[o + i] := by rw [cell_of h]; exact Array.getElem?_eq_getElem (by omega)
    have hf : w.frozen? ⟨b, o + i, none⟩ = false := by unfold World.frozen?; simp [h]
    have hs : (store ((⟨b, o, none⟩ : Addr).add i) v).run P w = .ok () (w.setCell ⟨b, o + i, none⟩ v) := by
      rw [add_none, run_store P w _ v .plain (h1 v (by simp)), hc]; simp [hf]
    have hb : b < w.heap.size := by
      rcases Nat.lt_or_ge b w.heap.size with h' | h'
      · exact h'
      · rw [Array.getElem?_eq_none h'] at h; cases h
    have h' : (w.setCell ⟨b, o + i, none⟩ v).heap[b]? = some (.cells (xs.setIfInBounds (o + i) v) t (0, 0)) := by
      simp [World.setCell, Array.getElem?_modify, h]
    obtain ⟨w', hr, hw⟩ := ih (i + 1) _ _ h' (by simp; omega) (fun v hv => h1 v (by simp [hv]))
    refine ⟨w', ?_, ?_⟩
    · unfold storeCells; rw [Sem.run_bind, hs, Result.andThen_ok]; exact hr
    · refine ⟨?_, fun k hk => (hw.off k hk).trans ?_, hw.size.trans (by simp [World.setCell]), hw.os, hw.tape, hw.output⟩
      · have := hw.at_; rw [show o + (i + 1) = o + i + 1 from rfl] at this; exact this
      · simp [World.setCell, Array.getElem?_modify]; intro e; exact absurd e.symm hk

theorem run_storeVar_of {b o : Nat} {t t' : TypeId} {xs : Array Value} {w : World} {v : Value} (h : w.heap[b]? = some (.cells xs t' (0, 0))) (hs : szT P t = some v.cells.size) (hle : o + v.cells.size ≤ xs.size)
    (h1 : ∀ x ∈ v.cells.toList, x.oneCell' = true) : ∃ w', (storeVar t ⟨b, o, none⟩ v).run P w = .ok () w' ∧ Wrote b (putIn xs o v.cells.toList) t' w w' := by
  obtain ⟨w', hr, hw⟩ := run_storeCells_at (P := P) (o := o) v.cells.toList 0 xs w h (by simpa using hle) h1
  refine ⟨w', ?_, hw⟩
  unfold storeVar
  simp only [Sem.run_bind, run_sizeOf_of hs, Result.andThen_ok, ne_eq, not_true_eq_false, if_false]
  simpa using hr
end

/-! ### Steps -/

section
variable {U : Nat → D → D} {L : Nat → Prop} {r : Nat → D} {g : Gh} {c : Cx} {w w' : World}

/-- The worlds are one but for draws. -/
structure Same (w w' : World) : Prop where
  heap : w'.heap = w.heap
  os : w'.os = w.os
  tape : w'.tape = w.tape
  output : w'.output = w.output

theorem Same.refl (w : World) : Same w w := ⟨rfl, rfl, rfl, rfl⟩

theorem HeapDen.same (hh : HeapDen U r g L c.h w) (hs : Same w w') : HeapDen U r g L c.h w' :=
  ⟨hh.bnd, fun id h => by rw [hs.heap]; exact hh.lt id h, fun id b h1 h2 => by rw [hs.heap]; exact hh.blk id b h1 h2, hh.inj, fun id b ks e h1 h2 h3 => by rw [hs.heap]; exact hh.rows id b ks e h1 h2 h3, hh.live⟩

theorem ext_same (hh : HeapDen U r g L c.h w) {pc : List (E × Bool)} (hp : PcOk U r pc) (hs : Same w w') : Ext U L r g c w r g { c with pc := pc } w' where
  nv := Nat.le_refl _
  agr := fun _ => rfl
  len := Nat.le_refl _
  ga := fun _ _ => ⟨rfl, rfl⟩
  go := fun _ _ => rfl
  heap := by rw [Lx_self]; exact hh.same hs
  pc := hp
  frm := ⟨hs.os, hs.tape, hs.output, by rw [hs.heap]; exact Nat.le_refl _, fun k _ _ => by rw [hs.heap]⟩
  wrs := fun id b h1 h2 h3 => by rw [Lx_self] at h1; exact .inr ⟨id, b, h1, h2, h3, rfl⟩
  fresh := fun id h1 h2 => by have h2 : id < c.h.length := h2; omega

/-- One place more. -/
def Gh.put (g : Gh) (id a n : Nat) (o : Nat := 0) : Gh := ⟨fun i => if i = id then a else g.a i, fun i => if i = id then n else g.n i, fun i => if i = id then o else g.o i⟩

theorem gle_put (hb : ∀ id, L id → id < c.h.length) (a n : Nat) (o : Option SB) (f : Nat := 0) : GLe g L (g.put c.h.length a n f) (Lx L c.h (c.h ++ [o])) :=
  ⟨fun id h => by have := hb id h; exact ⟨.inl h, by simp [Gh.put]; omega, by simp [Gh.put]; omega⟩, fun id h => by have := hb id h; simp [Gh.put]; omega⟩

/-- Cells hold what a block tells of a row. -/
def RowHas (U : Nat → D → D) (r : Nat → D) (rw : Option (List Sk × E)) (o : Nat) (xs : Array Value) : Prop := ∀ ks e, rw = some (ks, e) → RowDen ks (e.ev U r).toL o xs
theorem RowHas.none {o : Nat} {xs : Array Value} : RowHas U r none o xs := fun _ _ h => by cases h

theorem ext_alloc (hh : HeapDen U r g L c.h w) (hp : PcOk U r c.pc) {cs : List SV} {xs : Array Value} (t : TypeId) (hd : SV.denL U r g L cs (xs.toList.take cs.length)) (hle : cs.length ≤ xs.size) (wr : Bool) (rw : Option (List Sk × E) := none) (hrw : RowHas U r rw 0 xs := by exact RowHas.none) :
    Ext U L r g c w r (g.put c.h.length w.heap.size xs.size) { c with h := c.h ++ [some ⟨wr, cs, rw⟩] } (w.alloc (.cells xs t)) where
  nv := Nat.le_refl _
  agr := fun _ => rfl
  len := by simp
  ga := fun id h => by
    have : id ≠ c.h.length := fun e => h ⟨by omega, by simp; omega⟩
    simp [Gh.put, this]
  go := fun id h => by
    have : id ≠ c.h.length := fun e => h ⟨by omega, by simp; omega⟩
    simp [Gh.put, this]
  heap := by
    have gl := gle_put (g := g) hh.bnd w.heap.size xs.size (some ⟨wr, cs, rw⟩)
    have alt : ∀ id, Lx L c.h (c.h ++ [some ⟨wr, cs, rw⟩]) id → (L id ∧ id < c.h.length ∧ (g.put c.h.length w.heap.size xs.size).a id = g.a id) ∨ id = c.h.length := by
      rintro id (h | h)
      · exact .inl ⟨h, hh.bnd id h, (gl.on id h).2.1⟩
      · right; simp at h; omega
    have new : (g.put c.h.length w.heap.size xs.size).a c.h.length = w.heap.size := by simp [Gh.put]
    refine ⟨?_, ?_, ?_, ?_, ?_, ?_⟩
    · intro id h; rcases alt id h with ⟨_, h, _⟩ | h <;> simp <;> omega
    · intro id h
      rcases alt id h with ⟨h1, _, h2⟩ | h
      · rw [h2]; have := hh.lt id h1; simp; omega
      · subst h; rw [new]; simp
    · intro id b h hb
      rcases alt id h with ⟨h1, h2, h3⟩ | h
      · have hb' : c.h[id]? = some (some b) := by rw [List.getElem?_append_left h2] at hb; exact hb
        obtain ⟨ys, t', fz, e1, e2, e3, e4, e5⟩ := hh.blk id b h1 hb'
        refine ⟨ys, t', fz, ?_, ?_, e3, e4, fun j s hs => ?_⟩
        · rw [h3]; show (w.heap.push _)[g.a id]? = _; rw [Array.getElem?_push, if_neg (by have := hh.lt id h1; omega)]; exact e1
        · rw [(gl.on id h1).2.2]; exact e2
        · obtain ⟨v, hv, hd⟩ := e5 j s hs; exact ⟨v, hv, SV.den_mono gl hd⟩
      · subst h
        have hb' : b = ⟨wr, cs, rw⟩ := by simpa using hb.symm
        subst hb'
        refine ⟨xs, t, (0, 0), ?_, by simp [Gh.put], fun _ => rfl, hle, fun j s hs => ?_⟩
        · rw [new]; show (w.heap.push _)[w.heap.size]? = _; simp
        · obtain ⟨v, hv, hd⟩ := SV.denL_get U r g L hd hs
          refine ⟨v, ?_, SV.den_mono gl hd⟩
          rw [List.getElem?_take] at hv
          split at hv
          · simpa using hv
          · cases hv
    · intro i j b b' hi hj hb hwr hb' he
      rcases alt i hi with ⟨h1, h2, h3⟩ | h <;> rcases alt j hj with ⟨k1, k2, k3⟩ | k
      · rw [h3, k3] at he
        rw [List.getElem?_append_left h2] at hb
        rw [List.getElem?_append_left k2] at hb'
        exact hh.inj i j b b' h1 k1 hb hwr hb' he
      · subst k; rw [h3, new] at he; have := hh.lt i h1; omega
      · subst h; rw [k3, new] at he; have := hh.lt j k1; omega
      · omega
    · intro id b ks e h hb hr
      rcases alt id h with ⟨h1, h2, h3⟩ | h
      · have hb' : c.h[id]? = some (some b) := by rw [List.getElem?_append_left h2] at hb; exact hb
        obtain ⟨ys, t', fz, e1, e2⟩ := hh.rows id b ks e h1 hb' hr
        refine ⟨ys, t', fz, ?_, by rw [gl.off id h1]; exact e2⟩
        rw [h3]; show (w.heap.push _)[g.a id]? = _; rw [Array.getElem?_push, if_neg (by have := hh.lt id h1; omega)]; exact e1
      · subst h
        have hb' : b = ⟨wr, cs, rw⟩ := by simpa using hb.symm
        subst hb'
        refine ⟨xs, t, (0, 0), ?_, ?_⟩
        · rw [new]; show (w.heap.push _)[w.heap.size]? = _; simp
        · have := hrw ks e hr
          simpa [Gh.put] using this
    · intro id b hb hw
      by_cases hlt : id < c.h.length
      · have hb' : c.h[id]? = some (some b) := by rw [List.getElem?_append_left hlt] at hb; exact hb
        exact .inl (hh.live id b hb' hw)
      · have : id < (c.h ++ [some (⟨wr, cs, rw⟩ : SB)]).length := (List.getElem?_eq_some_iff.1 hb).1
        exact .inr ⟨by omega, this⟩
  pc := hp
  frm := ⟨rfl, rfl, rfl, by simp, fun k hk _ => by show (w.heap.push _)[k]? = _; rw [Array.getElem?_push, if_neg (by omega)]⟩
  wrs := fun id b h hb hwr => by
    rcases h with h | h
    · right
      have h2 := hh.bnd id h
      have hb' : c.h[id]? = some (some b) := by
        have hb : (c.h ++ [some ⟨wr, cs, rw⟩])[id]? = some (some b) := hb
        rw [List.getElem?_append_left h2] at hb; exact hb
      refine ⟨id, b, h, hb', hwr, ?_⟩
      have : id ≠ c.h.length := by omega
      simp [Gh.put, this]
    · left
      have : id = c.h.length := by have : id < (c.h ++ [some (⟨wr, cs, rw⟩ : SB)]).length := h.2; simp at this; omega
      simp [Gh.put, this]
  fresh := fun id h1 h2 => by
    have : id = c.h.length := by have : id < (c.h ++ [some (⟨wr, cs, rw⟩ : SB)]).length := h2; simp at this; omega
    simp [Gh.put, this]

/-- A store into a block that may be written. -/
theorem ext_store (hh : HeapDen U r g L c.h w) (hp : PcOk U r c.pc) {id : Nat} {b : SB} (hl : L id) (hb : c.h[id]? = some (some b)) (hwr : b.wr = true) {xs' : Array Value} {t : TypeId} {cs' : List SV}
    (hw : Wrote (g.a id) xs' t w w') (hsz : xs'.size = g.n id) (hle : cs'.length ≤ xs'.size) (hd : ∀ (j : Nat) (s : SV), cs'[j]? = some s → ∃ v, xs'[j]? = some v ∧ s.den U r g L v)
    (rw : Option (List Sk × E) := none) (hrw : RowHas U r rw (g.o id) xs' := by exact RowHas.none) :
    Ext U L r g c w r g { c with h := c.h.set id (some ⟨true, cs', rw⟩) } w' where
  nv := Nat.le_refl _
  agr := fun _ => rfl
  len := by simp
  ga := fun _ _ => ⟨rfl, rfl⟩
  go := fun _ _ => rfl
  heap := by
    have hL : Lx L c.h (c.h.set id (some ⟨true, cs', rw⟩)) = L := by
      funext k; apply propext; unfold Lx; simp
      intro h1 h2; omega
    show HeapDen U r g (Lx L c.h (c.h.set id (some ⟨true, cs', rw⟩))) (c.h.set id (some ⟨true, cs', rw⟩)) w'
    rw [hL]
    have hid := hh.bnd id hl
    have old : ∀ {k : Nat} {b' : SB}, (c.h.set id (some ⟨true, cs', rw⟩))[k]? = some (some b') → k ≠ id → c.h[k]? = some (some b') := by
      intro k b' h hk; rwa [List.getElem?_set_ne (Ne.symm hk)] at h
    refine ⟨fun k h => by simpa using hh.bnd k h, fun k h => by rw [hw.size]; exact hh.lt k h, fun k b' h hb' => ?_, fun i j bi bj hi hj hbi hwi hbj he => ?_, fun k b' ks e h hb' hr => ?_, fun k b' hb' hw => ?_⟩
    · by_cases hk : k = id
      · subst hk
        have : b' = ⟨true, cs', rw⟩ := by
          rw [List.getElem?_set_self hid] at hb'; simpa using hb'.symm
        subst this
        exact ⟨xs', t, (0, 0), hw.at_, hsz, fun _ => rfl, hle, hd⟩
      · have hb'' := old hb' hk
        obtain ⟨ys, t', fz, e1, e2, e3, e4, e5⟩ := hh.blk k b' h hb''
        have hne : g.a k ≠ g.a id := fun e => hk (hh.inj id k b b' hl h hb hwr hb'' e.symm).symm
        exact ⟨ys, t', fz, by rw [hw.off _ hne]; exact e1, e2, e3, e4, e5⟩
    · by_cases hi' : i = id
      · subst hi'
        by_cases hj' : j = i
        · exact hj'.symm
        · exact hh.inj i j b bj hl hj hb hwr (old hbj hj') he
      · by_cases hj' : j = id
        · subst hj'; exact hh.inj i j bi b hi hl (old hbi hi') hwi hb he
        · exact hh.inj i j bi bj hi hj (old hbi hi') hwi (old hbj hj') he
    · by_cases hk : k = id
      · subst hk
        have : b' = ⟨true, cs', rw⟩ := by
          rw [List.getElem?_set_self hid] at hb'; simpa using hb'.symm
        subst this
        exact ⟨xs', t, (0, 0), hw.at_, hrw ks e hr⟩
      · have hb'' := old hb' hk
        obtain ⟨ys, t', fz, e1, e2⟩ := hh.rows k b' ks e h hb'' hr
        have hne : g.a k ≠ g.a id := fun e => hk (hh.inj id k b b' hl h hb hwr hb'' e.symm).symm
        exact ⟨ys, t', fz, by rw [hw.off _ hne]; exact e1, e2⟩
    · by_cases hk : k = id
      · subst hk; exact hl
      · exact hh.live k b' (old hb' hk) hw
  pc := hp
  frm := ⟨hw.os, hw.tape, hw.output, by rw [hw.size]; exact Nat.le_refl _, fun k _ hn => hw.off k fun e => hn ⟨id, b, hl, hb, hwr, e.symm⟩⟩
  wrs := fun k b' h hb' hw' => by
    right
    have hk : L k := by
      rcases h with h | h
      · exact h
      · have : k < (c.h.set id (some (⟨true, cs', rw⟩ : SB))).length := h.2; simp at this; have := h.1; omega
    by_cases hkid : k = id
    · subst hkid; exact ⟨k, b, hl, hb, hwr, rfl⟩
    · have hb'' : (c.h.set id (some (⟨true, cs', rw⟩ : SB)))[k]? = some (some b') := hb'
      rw [List.getElem?_set_ne (Ne.symm hkid)] at hb''
      exact ⟨k, b', hk, hb'', hw', rfl⟩
  fresh := fun k h1 h2 => by have h2 : k < (c.h.set id (some (⟨true, cs', rw⟩ : SB))).length := h2; simp at h2; omega
end
end Go.Sx
