/-
  Sx, parts E, G, H, I, Ib, Ja, Jb, J, W.
-/
import Derived.Test.YtcloacigldklkaaDoorSxGa
import Derived.Laws.Tables
/-
  Sx, part E: the other operations: memory, structs, slices, conversions.
-/
namespace Go.Sx
open E (mk1 mk2 mkIte mk1_ev mk2_ev mkIte_ev)

section
variable {U : Nat → D → D} {L : Nat → Prop} {r : Nat → D} {g : Gh} {c : Cx} {w : World} {P : Program} {K : Value → World → Prop}

/-! ### Loads and stores -/

def loadP (P : Program) (c : Cx) (t : TypeId) (x : SV) : Option SV :=
  match x with
  | .ptr id off =>
    match c.h[id]? with
    | some (some b) =>
      match aggT P t with
      | some true =>
        match szT P t with
        | some n => if off + n ≤ b.cs.length then some (.agg ((b.cs.drop off).take n)) else none
        | none => none
      | some false => b.cs[off]?
      | none => none
    | _ => none
  | _ => none

theorem loadP_ok {t : TypeId} {x s : SV} {vx : Value} (hh : HeapDen U r g L c.h w) (hx : x.den U r g L vx) (h : loadP P c t x = some s) :
    ∃ ad v, vx = .pointer (some ad) ∧ (loadVar t ad).run P w = .ok v w ∧ s.den U r g L v := by
  unfold loadP at h
  split at h
  · rename_i id off
    simp only [SV.den] at hx
    obtain ⟨hl, rfl⟩ := hx
    split at h
    · rename_i b hb
      obtain ⟨xs, t', fz, e1, e2, e3, e4, e5⟩ := hh.blk id b hl hb
      split at h
      · rename_i ha
        split at h
        · rename_i n hs
          split at h
          · rename_i hle
            cases h
            refine ⟨_, .agg (xs.extract off (off + n)), rfl, run_loadVar_agg e1 ha hs (by omega), _, rfl, ?_⟩
            refine SV.denL_of U r g L ?_ fun i s v h1 h2 => ?_
            · simp; omega
            · have hi : i < n := by
                rcases Nat.lt_or_ge i n with h' | h'
                · exact h'
                · rw [List.getElem?_eq_none (by simp; omega)] at h1; cases h1
              rw [List.getElem?_take, if_pos hi, List.getElem?_drop] at h1
              obtain ⟨v', hv', hd⟩ := e5 (off + i) s h1
              have : v = v' := by
                simp only [Array.toList_extract, List.extract_eq_take_drop, List.getElem?_take, List.getElem?_drop] at h2
                rw [if_pos (by omega)] at h2
                rw [Array.getElem?_toList, hv'] at h2
                exact (Option.some.inj h2).symm
              subst this; exact hd
          · cases h
        · cases h
      · rename_i ha
        obtain ⟨v, hv, hd⟩ := e5 off s h
        exact ⟨_, v, rfl, run_loadVar_one e1 ha hv, hd⟩
      · cases h
    · cases h
  · cases h

def loadX (P : Program) (c : Cx) (t : TypeId) (x : SV) : Tree (SV × Cx) :=
  match loadP P c t x with
  | some s => .ret (s, c)
  | none => .bad

theorem loadX_ok {t : TypeId} {x : SV} {vx : Value} (hh : HeapDen U r g L c.h w) (hp : PcOk U r c.pc) (hx : x.den U r g L vx) (h : (loadX P c t x).sat U (Post U L r g c w K) r) : VOk P (Instr.loadAt t vx) w K := by
  unfold loadX at h
  split at h
  · rename_i s hs
    obtain ⟨ad, v, rfl, h1, h2⟩ := loadP_ok hh hx hs
    refine ⟨v, w, ?_, Post.same h hh hp (Same.refl w) h2⟩
    simp only [Instr.loadAt, Instr.sureAddr, Sem.run_bind, Sem.run_pure, Result.andThen_ok]
    exact h1
  · exact h.elim

/-- Cells put into a list. -/
def putL (xs : List SV) (o : Nat) (vs : List SV) : List SV := xs.take o ++ vs ++ xs.drop (o + vs.length)

theorem putL_length {xs vs : List SV} {o : Nat} (h : o + vs.length ≤ xs.length) : (putL xs o vs).length = xs.length := by
  unfold putL; simp; omega

theorem putL_get {xs vs : List SV} {o : Nat} (h : o + vs.length ≤ xs.length) (j : Nat) : (putL xs o vs)[j]? = if o ≤ j ∧ j < o + vs.length then vs[j - o]? else xs[j]? := by
  unfold putL
  by_cases h1 : j < o
  · rw [if_neg (by omega), List.append_assoc, List.getElem?_append_left (by simp; omega), List.getElem?_take, if_pos h1]
  · by_cases h2 : j < o + vs.length
    · rw [if_pos (by omega), List.append_assoc, List.getElem?_append_right (by simp; omega), List.getElem?_append_left (by simp; omega)]
      congr 1; simp; omega
    · rw [if_neg (by omega), List.getElem?_append_right (by simp; omega), List.getElem?_drop]
      congr 1; simp; omega

def storeX (P : Program) (c : Cx) (t : TypeId) (x y : SV) : Tree (SV × Cx) :=
  match x with
  | .ptr id off =>
    match c.h[id]? with
    | some (some b) =>
      match y.cells?, szT P t with
      | some cs, some n =>
        if b.wr = true ∧ cs.length = n ∧ off + n ≤ b.cs.length then .ret (.any, { c with h := c.h.set id (some ⟨true, putL b.cs off cs, none⟩) }) else .bad
      | _, _ => .bad
    | _ => .bad
  | _ => .bad

theorem storeX_ok {t : TypeId} {x y : SV} {vx vy : Value} (hh : HeapDen U r g L c.h w) (hp : PcOk U r c.pc) (hx : x.den U r g L vx) (hy : y.den U r g L vy) (h : (storeX P c t x y).sat U (Post U L r g c w K) r) :
    VOk P (Instr.storeAt t vx vy) w fun _ w' => K undef w' := by
  unfold storeX at h
  split at h
  · rename_i id off
    simp only [SV.den] at hx
    obtain ⟨hl, rfl⟩ := hx
    split at h
    · rename_i b hb
      obtain ⟨xs, t', fz, e1, e2, e3, e4, e5⟩ := hh.blk id b hl hb
      split at h
      · rename_i cs n hcs hsz
        split at h
        · rename_i hc
          obtain ⟨hwr, hn, hle⟩ := hc
          obtain ⟨hd, h1⟩ := cells_ok (U := U) (L := L) (r := r) (g := g) hcs hy
          have hlen := SV.denL_length U r g L hd
          rw [e3 hwr] at e1
          have hvs : vy.cells.size = n := by rw [← hn, hlen]; simp
          obtain ⟨w', hr, hw⟩ := run_storeVar_of (P := P) (o := off) e1 (by rw [hvs]; exact hsz) (by rw [hvs]; omega) h1
          refine ⟨(), w', ?_, ?_⟩
          · simp only [Instr.storeAt, Instr.sureAddr, Sem.run_bind, Sem.run_pure, Result.andThen_ok]; exact hr
          · have hlc : vy.cells.toList.length = cs.length := hlen.symm
            have hpl := putL_length (xs := b.cs) (vs := cs) (o := off) (by omega)
            refine h g undef w' (ext_store hh hp hl hb hwr hw (by rw [putIn_size]; exact e2) (by rw [putIn_size, hpl]; exact e4) fun j s hs => ?_) trivial
            rw [putL_get (by omega)] at hs
            rw [putIn_get _ _ _ _ (by rw [hlc]; omega), hlc]
            split at hs
            · rename_i hj; rw [if_pos hj]; exact SV.denL_get U r g L hd hs
            · rename_i hj; rw [if_neg hj]; exact e5 j s hs
        · exact h.elim
      · exact h.elim
    · exact h.elim
  · exact h.elim

/-! ### New blocks -/

def newX (c : Cx) (cs : List SV) : Tree (SV × Cx) := .ret (.ptr c.h.length 0, { c with h := c.h ++ [some ⟨true, cs, none⟩] })

theorem new_den {xs : Array Value} {cs : List SV} : (SV.ptr c.h.length 0).den U r (g.put c.h.length w.heap.size xs.size) (Lx L c.h (c.h ++ [some ⟨true, cs, none⟩])) (.pointer (some ⟨w.heap.size, 0, none⟩)) := by
  simp only [SV.den]
  exact ⟨.inr ⟨Nat.le_refl _, by simp⟩, by simp [Gh.put]⟩

theorem newX_ok {cs : List SV} {v : Value} (t : TypeId) (hh : HeapDen U r g L c.h w) (hp : PcOk U r c.pc) (hd : SV.denL U r g L cs v.cells.toList) (h : (newX c cs).sat U (Post U L r g c w K) r) :
    VOk P (do pure (Value.pointer (some (← newVar t v)))) w K := by
  refine ⟨_, _, by rw [Sem.run_bind, run_newVar_of, Result.andThen_ok]; rfl, ?_⟩
  have hlen := SV.denL_length U r g L hd
  refine h _ _ _ (ext_alloc (xs := v.cells) hh hp t (by rw [hlen]; rw [List.take_length]; exact hd) (by rw [hlen]; simp) true) new_den

def allocX (P : Program) (c : Cx) (t : TypeId) : Tree (SV × Cx) :=
  match zeroT P t with
  | some z => match (ofValue z).cells? with
    | some cs => newX c cs
    | none => .bad
  | none => .bad

theorem allocX_ok {t : TypeId} (hh : HeapDen U r g L c.h w) (hp : PcOk U r c.pc) (h : (allocX P c t).sat U (Post U L r g c w K) r) : VOk P (Instr.alloc t true (.tuple #[])) w K := by
  unfold allocX at h
  split at h
  · rename_i z hz
    split at h
    · rename_i cs hcs
      obtain ⟨hd, _⟩ := cells_ok (U := U) (L := L) (r := r) (g := g) hcs (ofValue_den z)
      unfold Instr.alloc
      refine VOk.bind ⟨z, w, run_zero_of hz w, ?_⟩
      exact newX_ok t hh hp hd h
    · exact h.elim
  · exact h.elim

def boxX (c : Cx) (x : SV) : Tree (SV × Cx) :=
  match x.cells? with
  | some cs => newX c cs
  | none => .bad

theorem boxX_ok {t : TypeId} {x : SV} {vx : Value} (hh : HeapDen U r g L c.h w) (hp : PcOk U r c.pc) (hx : x.den U r g L vx) (h : (boxX c x).sat U (Post U L r g c w K) r) : VOk P (Instr.box t vx) w K := by
  unfold boxX at h
  split at h
  · rename_i cs hcs
    obtain ⟨hd, _⟩ := cells_ok (U := U) (L := L) (r := r) (g := g) hcs hx
    exact newX_ok t hh hp hd h
  · exact h.elim

/-! ### Structs and arrays put together -/

def fillS (place : Nat → Option (Nat × Nat)) (cells : List SV) : List (Nat × SV) → Option (List SV)
  | [] => some cells
  | (i, s) :: rest =>
    match place i, s.cells? with
    | some (off, size), some cs => if cs.length = size ∧ off + cs.length ≤ cells.length then fillS place (putL cells off cs) rest else none
    | _, _ => none

theorem foldl_put : ∀ (vs : List Value) (xs : Array Value) (o k : Nat), (vs.zipIdx k).foldl (fun cs x => cs.setIfInBounds (o + x.2) x.1) xs = putIn xs (o + k) vs := by
  intro vs
  induction vs with
  | nil => intro xs o k; rfl
  | cons v vs ih => intro xs o k; simp only [List.zipIdx_cons, List.foldl_cons, putIn]; rw [ih]; rfl

/-- The parts stand for the parts. -/
def PartsDen (U : Nat → D → D) (r : Nat → D) (g : Gh) (L : Nat → Prop) : List (Nat × SV) → List (Nat × Value) → Prop
  | [], [] => True
  | (i, s) :: l, (j, v) :: m => i = j ∧ s.den U r g L v ∧ PartsDen U r g L l m
  | _, _ => False

theorem putL_den {cells cs : List SV} {xs vs : List Value} {o : Nat} (hd : SV.denL U r g L cells xs) (hc : SV.denL U r g L cs vs) (hle : o + cs.length ≤ cells.length) :
    SV.denL U r g L (putL cells o cs) (putIn xs.toArray o vs).toList := by
  have h1 := SV.denL_length U r g L hd
  have h2 := SV.denL_length U r g L hc
  refine SV.denL_of U r g L ?_ fun i s v hs hv => ?_
  · rw [putL_length hle]; simp only [Array.length_toList]; rw [putIn_size]; simpa using h1
  · rw [Array.getElem?_toList, putIn_get _ _ _ _ (by simp; omega), ← h2] at hv
    rw [putL_get hle] at hs
    split at hs
    · rename_i hj; rw [if_pos hj] at hv
      obtain ⟨v', hv', hd'⟩ := SV.denL_get U r g L hc hs
      rw [hv] at hv'; rw [Option.some.inj hv']; exact hd'
    · rename_i hj; rw [if_neg hj] at hv
      obtain ⟨v', hv', hd'⟩ := SV.denL_get U r g L hd hs
      have : xs.toArray[i]? = xs[i]? := by simp
      rw [this, hv'] at hv; rw [← Option.some.inj hv]; exact hd'

theorem fillS_ok {place : Nat → Option (Nat × Nat)} : ∀ {parts : List (Nat × SV)} {vparts : List (Nat × Value)} {cells out : List SV} {xs : Array Value}, fillS place cells parts = some out → SV.denL U r g L cells xs.toList →
    PartsDen U r g L parts vparts → ∃ ys, Instr.fill place xs vparts = some ys ∧ SV.denL U r g L out ys.toList := by
  intro parts
  induction parts with
  | nil =>
    intro vparts cells out xs h hd hp
    cases vparts with
    | nil => simp [fillS] at h; subst h; exact ⟨xs, rfl, hd⟩
    | cons a b => simp [PartsDen] at hp
  | cons a rest ih =>
    intro vparts cells out xs h hd hp
    obtain ⟨i, s⟩ := a
    cases vparts with
    | nil => simp [PartsDen] at hp
    | cons b m =>
      obtain ⟨j, v⟩ := b
      simp only [PartsDen] at hp
      obtain ⟨rfl, hs, hp⟩ := hp
      simp only [fillS] at h
      split at h
      · rename_i off size cs hpl hcs
        split at h
        · rename_i hc
          obtain ⟨hcd, _⟩ := cells_ok (U := U) (L := L) (r := r) (g := g) hcs hs
          have hl := SV.denL_length U r g L hcd
          have hx := SV.denL_length U r g L hd
          simp only [Array.length_toList] at hl hx
          obtain ⟨ys, hy, hyd⟩ := ih h (putL_den (xs := xs.toList) hd hcd hc.2) hp
          refine ⟨ys, ?_, hyd⟩
          unfold Instr.fill
          simp only [hpl]
          have hg : ((v.cells.size ≠ size || off + v.cells.size > xs.size) : Bool) = false := by simp; omega
          rw [hg]
          simp only [Bool.false_eq_true, if_false]
          have hf : v.cells.zipIdx.foldl (fun cs x => cs.setIfInBounds (off + x.2) x.1) xs = putIn xs off v.cells.toList := by
            rw [← Array.foldl_toList, Array.toList_zipIdx, foldl_put]; rfl
          have hf' : (v.cells.zipIdx.foldl (fun cs x => match x with | (c, j) => cs.setIfInBounds (off + j) c) xs) = putIn xs off v.cells.toList := hf
          rw [hf']
          simpa using hy
        · cases h
      · cases h

def buildX (P : Program) (c : Cx) (t : TypeId) (parts : List (Nat × SV)) : Tree (SV × Cx) :=
  match P.underlying t, zeroT P t with
  | some (.struct fields), some z =>
    match (ofValue z).cells?, fields.toList.mapM (fun f => (P.info? f.type).map fun i => (f.offset, i.size)) with
    | some zs, some places => match fillS (places.toArray[·]?) zs parts with
      | some cs => .ret (.agg cs, c)
      | none => .bad
    | _, _ => .bad
  | some (.array _ e), some z =>
    match (ofValue z).cells?, szT P e with
    | some zs, some n => match fillS (fun i => some (i * n, n)) zs parts with
      | some cs => .ret (.agg cs, c)
      | none => .bad
    | _, _ => .bad
  | _, _ => .bad

theorem buildX_ok {t : TypeId} {parts : List (Nat × SV)} {vparts : Array (Nat × Value)} (hh : HeapDen U r g L c.h w) (hp : PcOk U r c.pc) (hd : PartsDen U r g L parts vparts.toList)
    (h : (buildX P c t parts).sat U (Post U L r g c w K) r) : VOk P (Instr.build t vparts) w K := by
  unfold buildX at h
  have zinfo : ∀ {z}, zeroT P t = some z → ∃ it, P.info? t = some it ∧ it.zero = some z := by
    intro z hz
    unfold zeroT at hz
    cases hi : P.info? t with
    | none => rw [hi] at hz; cases hz
    | some it => rw [hi] at hz; exact ⟨it, rfl, hz⟩
  split at h
  · rename_i fields z hu hz
    split at h
    · rename_i zs places hzs hpl
      split at h
      · rename_i cs hf
        obtain ⟨it, hi, hiz⟩ := zinfo hz
        obtain ⟨hzd, _⟩ := cells_ok (U := U) (L := L) (r := r) (g := g) hzs (ofValue_den z)
        obtain ⟨ys, hy, hyd⟩ := fillS_ok hf hzd hd
        refine ⟨.agg ys, w, run_build w t vparts ys ?_, Post.same h hh hp (Same.refl w) ⟨ys, rfl, hyd⟩⟩
        unfold Program.built
        simp only [hi, hu, hiz, hpl]
        exact hy
      · exact h.elim
    · exact h.elim
  · rename_i n e z hu hz
    split at h
    · rename_i zs m hzs hm
      split at h
      · rename_i cs hf
        obtain ⟨it, hi, hiz⟩ := zinfo hz
        obtain ⟨hzd, _⟩ := cells_ok (U := U) (L := L) (r := r) (g := g) hzs (ofValue_den z)
        obtain ⟨ys, hy, hyd⟩ := fillS_ok hf hzd hd
        unfold szT at hm
        cases hie : P.info? e with
        | none => rw [hie] at hm; cases hm
        | some ie =>
          rw [hie] at hm
          simp at hm
          refine ⟨.agg ys, w, run_build w t vparts ys ?_, Post.same h hh hp (Same.refl w) ⟨ys, rfl, hyd⟩⟩
          unfold Program.built
          simp only [hi, hu, hiz, hie, hm]
          exact hy
      · exact h.elim
    · exact h.elim
  · exact h.elim
end
end Go.Sx

/-
  Sx, part G: addresses, parts, slices, conversions; then all operations that call nothing.
-/
namespace Go.Sx
open E (mk1 mk2 mkIte mk1_ev mk2_ev mkIte_ev)

section
variable {U : Nat → D → D} {L : Nat → Prop} {r : Nat → D} {g : Gh} {c : Cx} {w : World} {P : Program} {K : Value → World → Prop}

/-! ### Addresses and parts -/

def fieldAddrX (P : Program) (c : Cx) (t : TypeId) (x : SV) (i : Nat) : Tree (SV × Cx) :=
  match x, P.underlying t with
  | .ptr id off, some (.struct fields) =>
    match fields[i]? with
    | some f => match szT P f.type with
      | some (_ + 1) => .ret (.ptr id (off + f.offset), c)
      | _ => .bad
    | none => .bad
  | _, _ => .bad

theorem fieldAddrX_ok {t : TypeId} {x : SV} {vx : Value} {i : Nat} (hh : HeapDen U r g L c.h w) (hp : PcOk U r c.pc) (hx : x.den U r g L vx) (h : (fieldAddrX P c t x i).sat U (Post U L r g c w K) r) :
    VOk P (Instr.fieldAt t vx i) w K := by
  unfold fieldAddrX at h
  split at h
  · rename_i id off fields hu
    simp only [SV.den] at hx
    obtain ⟨hl, rfl⟩ := hx
    split at h
    · rename_i f hf
      split at h
      · rename_i n hs
        refine ⟨.pointer (some ⟨g.a id, off + f.offset, none⟩), w, ?_, Post.same h hh hp (Same.refl w) ⟨hl, rfl⟩⟩
        simp only [Instr.fieldAt, Sem.run_bind, run_und hu, Result.andThen_ok, hf, Instr.sureAddr, Sem.run_pure, fieldPlace, run_sizeOf_of hs]
        rw [if_neg (by omega), add_none]; rfl
      · exact h.elim
    · exact h.elim
  · exact h.elim

/-- The cells from one place on. -/
def cut (cs : List SV) (o n : Nat) : List SV := (cs.drop o).take n

def partX (P : Program) (c : Cx) (t : TypeId) (cs : List SV) (off : Nat) : Tree (SV × Cx) :=
  match aggT P t with
  | some true => match szT P t with
    | some n => if off + n ≤ cs.length then .ret (.agg (cut cs off n), c) else .bad
    | none => .bad
  | some false => match cs[off]? with
    | some s => .ret (s, c)
    | none => .bad
  | none => .bad

theorem denL_cut {cs : List SV} {xs : Array Value} {o n : Nat} (hd : SV.denL U r g L cs xs.toList) (hle : o + n ≤ cs.length) : SV.denL U r g L (cut cs o n) (xs.extract o (o + n)).toList := by
  have hl := SV.denL_length U r g L hd
  simp only [Array.length_toList] at hl
  refine SV.denL_of U r g L (by unfold cut; simp; omega) fun i s v h1 h2 => ?_
  unfold cut at h1
  rw [List.getElem?_take] at h1
  split at h1
  · rename_i hi
    rw [List.getElem?_drop] at h1
    obtain ⟨v', hv', hd'⟩ := SV.denL_get U r g L hd h1
    have : v = v' := by
      simp only [Array.toList_extract, List.extract_eq_take_drop, List.getElem?_take, List.getElem?_drop] at h2
      rw [if_pos (by omega), hv'] at h2
      exact (Option.some.inj h2).symm
    subst this; exact hd'
  · cases h1

theorem partX_ok {t : TypeId} {cs : List SV} {xs : Array Value} {off : Nat} (hh : HeapDen U r g L c.h w) (hp : PcOk U r c.pc) (hd : SV.denL U r g L cs xs.toList) (h : (partX P c t cs off).sat U (Post U L r g c w K) r) :
    VOk P (part t xs off) w K := by
  have hl := SV.denL_length U r g L hd
  simp only [Array.length_toList] at hl
  unfold partX at h
  split at h
  · rename_i ha
    split at h
    · rename_i n hs
      split at h
      · rename_i hle
        refine ⟨.agg (xs.extract off (off + n)), w, ?_, Post.same h hh hp (Same.refl w) ⟨_, rfl, denL_cut hd hle⟩⟩
        unfold part
        rw [Sem.run_bind, run_isAgg_of ha, Result.andThen_ok, if_pos rfl]
        simp only [Sem.run_bind, run_sizeOf_of hs, Result.andThen_ok]; rfl
      · exact h.elim
    · exact h.elim
  · rename_i ha
    split at h
    · rename_i s hs
      obtain ⟨v, hv, hd'⟩ := SV.denL_get U r g L hd hs
      refine ⟨v, w, ?_, Post.same h hh hp (Same.refl w) hd'⟩
      unfold part
      rw [Sem.run_bind, run_isAgg_of ha, Result.andThen_ok, if_neg (by simp)]
      have hv : xs[off]? = some v := by simpa using hv
      rw [hv]; rfl
    · exact h.elim
  · exact h.elim

def fieldX (P : Program) (c : Cx) (t : TypeId) (x : SV) (i : Nat) : Tree (SV × Cx) :=
  match x, P.underlying t with
  | .agg cs, some (.struct fields) =>
    match fields[i]? with
    | some f => partX P c f.type cs f.offset
    | none => .bad
  | _, _ => .bad

theorem fieldX_ok {t : TypeId} {x : SV} {vx : Value} {i : Nat} (hh : HeapDen U r g L c.h w) (hp : PcOk U r c.pc) (hx : x.den U r g L vx) (h : (fieldX P c t x i).sat U (Post U L r g c w K) r) :
    VOk P (Instr.field t vx i) w K := by
  unfold fieldX at h
  split at h
  · rename_i cs fields hu
    simp only [SV.den] at hx
    obtain ⟨xs, rfl, hd⟩ := hx
    split at h
    · rename_i f hf
      unfold Instr.field
      refine VOk.bind ⟨_, w, run_und hu w, ?_⟩
      simp only [hf]
      refine VOk.bind ⟨xs, w, rfl, ?_⟩
      exact partX_ok hh hp hd h
    · exact h.elim
  · exact h.elim

def indexAddrX (P : Program) (c : Cx) (t : TypeId) (x i : SV) : Tree (SV × Cx) :=
  match i with
  | .int _ (.i n) =>
    match P.underlying t, x with
    | some (.array len e), .ptr id off => match szT P e with
      | some s => if 0 ≤ n ∧ n < len then .ret (.ptr id (off + n.toNat * s), c) else .bad
      | none => .bad
    | some (.slice e), .sl id off _ len _ => match szT P e with
      | some s => if 0 ≤ n then br c (mk2 .ilt (.i n) len) (fun c => .ret (.ptr id (off + n.toNat * s), c)) (fun _ => .bad) else .bad
      | none => .bad
    | _, _ => .bad
  | _ => .bad

theorem indexAddrX_ok {t : TypeId} {x i : SV} {vx vi : Value} (hh : HeapDen U r g L c.h w) (hp : PcOk U r c.pc) (hx : x.den U r g L vx) (hi : i.den U r g L vi) (h : (indexAddrX P c t x i).sat U (Post U L r g c w K) r) :
    VOk P (Instr.indexAt t vx vi) w K := by
  unfold indexAddrX at h
  split at h
  · rename_i k n
    simp only [SV.den] at hi
    subst hi
    rw [toI_i]
    split at h
    · rename_i len e id off hu
      simp only [SV.den] at hx
      obtain ⟨hl, rfl⟩ := hx
      split at h
      · rename_i s hs
        split at h
        · rename_i hn
          refine ⟨_, w, ?_, Post.same h hh hp (Same.refl w) ⟨hl, rfl⟩⟩
          simp only [Instr.indexAt, asIntOf, Sem.run_bind, Sem.run_pure, Result.andThen_ok, run_und hu, Instr.sureAddr]
          rw [if_pos hn]
          simp only [Sem.run_bind, run_sizeOf_of hs, Result.andThen_ok, add_none]; rfl
        · exact h.elim
      · exact h.elim
    · rename_i e id off sz len cap hu
      simp only [SV.den] at hx
      obtain ⟨hl, h0, cp, rfl, h3, h4, h5⟩ := hx
      split at h
      · rename_i s hs
        split at h
        · rename_i hn
          obtain ⟨pc, hp', h | h⟩ := sat_br hp h
          · have hlt : n < (((len.ev U r).toI.toNat : Nat) : Int) := by
              have := h.1
              rw [mk2_ev] at this
              have : n < (len.ev U r).toI := of_decide_eq_true this
              omega
            refine ⟨_, w, ?_, Post.same h.2 hh hp' (Same.refl w) ⟨hl, rfl⟩⟩
            simp only [Instr.indexAt, asIntOf, Sem.run_bind, Sem.run_pure, Result.andThen_ok, run_und hu]
            rw [if_pos ⟨hn, hlt⟩]
            simp only [Sem.run_bind, run_sizeOf_of hs, Result.andThen_ok, add_none]; rfl
          · exact h.2.elim
        · exact h.elim
      · exact h.elim
    · exact h.elim
  · exact h.elim

def indexX (P : Program) (c : Cx) (t : TypeId) (x i : SV) : Tree (SV × Cx) :=
  match P.underlying t, x, i with
  | some (.array len e), .agg cs, .int _ (.i n) => match szT P e with
    | some s => if 0 ≤ n ∧ n < len then partX P c e cs (n.toNat * s) else .bad
    | none => .bad
  | some .string, .str s, .int _ n => br c (mk2 .ile (.i 0) n) (fun c => br c (mk2 .ilt n (mk1 .slen s)) (fun c => .ret (.int .u8 (mk2 .sidx s n), c)) (fun _ => .bad)) (fun _ => .bad)
  | _, _, _ => .bad

theorem indexX_ok {t : TypeId} {x i : SV} {vx vi : Value} (hh : HeapDen U r g L c.h w) (hp : PcOk U r c.pc) (hx : x.den U r g L vx) (hi : i.den U r g L vi) (h : (indexX P c t x i).sat U (Post U L r g c w K) r) :
    VOk P (Instr.index t vx vi) w K := by
  unfold indexX at h
  split at h
  · rename_i len e cs k n hu
    simp only [SV.den] at hx hi
    subst hi
    obtain ⟨xs, rfl, hd⟩ := hx
    rw [toI_i]
    split at h
    · rename_i s hs
      split at h
      · rename_i hn
        unfold Instr.index
        refine VOk.bind ⟨_, w, rfl, VOk.bind ⟨_, w, run_und hu w, ?_⟩⟩
        simp only [hn, and_self, if_true]
        refine VOk.bind ⟨_, w, run_sizeOf_of hs w, ?_⟩
        exact partX_ok hh hp hd h
      · exact h.elim
    · exact h.elim
  · rename_i s k n hu
    simp only [SV.den] at hx hi
    subst hi hx
    obtain ⟨pc, hp', h | h⟩ := sat_br hp h
    · obtain ⟨pc', hp'', h' | h'⟩ := sat_br (c := { c with pc := pc }) hp' h.2
      · have h0 : 0 ≤ (n.ev U r).toI := by
          have := h.1; rw [mk2_ev] at this; exact of_decide_eq_true this
        have h1 : (n.ev U r).toI < (s.ev U r).toS.size := by
          have := h'.1; rw [mk2_ev, mk1_ev] at this; exact of_decide_eq_true this
        have hlt : (n.ev U r).toI.toNat < (s.ev U r).toS.size := by omega
        refine ⟨.int .u8 ((s.ev U r).toS.data[(n.ev U r).toI.toNat]?.getD 0).toNat, w, ?_, Post.same h'.2 hh hp'' (Same.refl w) ?_⟩
        · unfold Instr.index
          simp only [asIntOf, Sem.run_bind, Sem.run_pure, Result.andThen_ok, run_und hu]
          have e : (s.ev U r).toS[(n.ev U r).toI.toNat]? = some ((s.ev U r).toS[(n.ev U r).toI.toNat]) := getElem?_pos (s.ev U r).toS (n.ev U r).toI.toNat hlt
          rw [e]
          have e2 : (s.ev U r).toS.data[(n.ev U r).toI.toNat]? = some ((s.ev U r).toS[(n.ev U r).toI.toNat]) := Array.getElem?_eq_getElem hlt
          rw [e2, if_pos h0]; rfl
        · simp only [SV.den, mk2_ev]; rfl
      · exact h'.2.elim
    · exact h.2.elim
  · exact h.elim

def extractX (c : Cx) (x : SV) (i : Nat) : Tree (SV × Cx) :=
  match x with
  | .tup vs => match vs[i]? with
    | some s => .ret (s, c)
    | none => .bad
  | _ => .bad

theorem extractX_ok {x : SV} {vx : Value} {i : Nat} (hh : HeapDen U r g L c.h w) (hp : PcOk U r c.pc) (hx : x.den U r g L vx) (h : (extractX c x i).sat U (Post U L r g c w K) r) : VOk P (Instr.extract vx i) w K := by
  unfold extractX at h
  split at h
  · simp only [SV.den] at hx
    obtain ⟨xs, rfl, hd⟩ := hx
    split at h
    · rename_i s hs
      obtain ⟨v, hv, hd'⟩ := SV.denL_get U r g L hd hs
      have hv : xs[i]? = some v := by simpa using hv
      refine ⟨v, w, by simp [Instr.extract, hv], Post.same h hh hp (Same.refl w) hd'⟩
    · exact h.elim
  · exact h.elim

/-! ### One operand; conversions -/

def unX (c : Cx) (op : UnOp) (x : SV) : Tree (SV × Cx) :=
  match op, x with
  | .neg, .int k e => .ret (.int k (mk1 (.wrap k) (mk2 .isub (.i 0) e)), c)
  | .xor, .int k e => .ret (.int k (mk2 (.ixor k) (.i (if k.signed then -1 else k.max)) e), c)
  | .neg, .flt k e => .ret (.flt k (mk1 (.fneg k) e), c)
  | .not, .bool e => .ret (.bool (mk1 .not e), c)
  | _, _ => .bad

theorem unX_ok {op : UnOp} {x : SV} {vx : Value} (hh : HeapDen U r g L c.h w) (hp : PcOk U r c.pc) (hx : x.den U r g L vx) (h : (unX c op x).sat U (Post U L r g c w K) r) : VOk P (Op.unary op vx) w K := by
  unfold unX at h
  split at h
  · simp only [SV.den] at hx; subst hx
    exact Post.pureOk h hh hp (by simp only [SV.den, mk1_ev, mk2_ev]; rfl)
  · simp only [SV.den] at hx; subst hx
    exact Post.pureOk h hh hp (by simp only [SV.den, mk2_ev]; rfl)
  · simp only [SV.den] at hx
    obtain ⟨b, rfl, h1, h2⟩ := hx
    refine Post.pureOk h hh hp ⟨_, rfl, negFloat_lt _ h1, ?_⟩
    rw [neg_cn _ h1, h2, mk1_ev]; rfl
  · simp only [SV.den] at hx; subst hx
    exact Post.pureOk h hh hp (by simp only [SV.den, mk1_ev]; rfl)
  · exact h.elim

def convX (P : Program) (c : Cx) (s t : TypeId) (x : SV) : Tree (SV × Cx) :=
  match P.underlying s, P.underlying t, x with
  | some _, some (.int k), .int _ e => .ret (.int k (mk1 (.wrap k) e), c)
  | some _, some (.float k), .int _ e => .ret (.flt k (mk1 (.i2f k) e), c)
  | some _, some (.float k), .flt q e =>
    if q = k then .ret (.flt k e, c)
    else if q = .f32 ∧ k = .f64 then .ret (.flt k (mk1 (.conv q k) e), c)
    else br c (mk1 (.convOk q k) e) (fun c => .ret (.flt k (mk1 (.conv q k) e), c)) (fun _ => .bad)
  | some .string, some .string, .str e => .ret (.str e, c)
  | _, _, _ => .bad

theorem decode_nan {k : FloatKind} {b : Nat} (h : isNanW k b = false) : ∀ s t, k.decode b ≠ .nan s t := by
  intro s t e
  unfold isNanW at h
  have : k.format.read b = .nan s t := e
  rw [this] at h
  cases h

theorem floatToFloat_run {s d : FloatKind} {b : Nat} (hne : s ≠ d) (hok : Fl.convOk s d (cn s b) = true) (w : World) :
    ∃ b' w', (Conv.floatToFloat s b d).run P w = .ok (.float d b') w' ∧ b' < 2 ^ d.format.width ∧ cn d b' = Fl.conv s d (cn s b) ∧ Same w w' := by
  unfold Conv.floatToFloat
  rw [if_neg hne]
  cases hn : isNanW s b with
  | true =>
    obtain ⟨sg, t, hr⟩ := read_nan hn
    have hr : s.decode b = .nan sg t := hr
    simp only [hr]
    obtain ⟨h1, h2, h3⟩ := nan_drawn (.nanConv d b) d (.inr ⟨b, rfl⟩) (w.tape w.drawn (.nanConv d b))
    refine ⟨_, { w with drawn := w.drawn + 1 }, ?_, h2, ?_, ⟨rfl, rfl, rfl, rfl⟩⟩
    · simp [h1]
    · rw [h3, cn_of_nan hn]; rfl
  | false =>
    rw [cn_of_not hn] at hok ⊢
    simp only [Fl.conv, if_neg hne]
    simp only [Fl.convOk, Bool.or_eq_true, decide_eq_true_eq, Bool.not_eq_true'] at hok
    cases hd : s.decode b with
    | nan sg t => exact absurd hd (decode_nan hn sg t)
    | infinity sg =>
      refine ⟨_, w, rfl, encode_lt d _, encode_cn d rfl, Same.refl w⟩
    | number sg m e =>
      rw [hd] at hok
      have h1 : (d.decode (d.encode (.number sg m e))).isInfinity = false := by
        rcases hok with (h | h) | h
        · exact absurd h hne
        · cases h
        · exact h
      simp only [h1, Bool.false_eq_true, if_false]
      exact ⟨_, w, rfl, encode_lt d _, encode_cn d rfl, Same.refl w⟩

theorem convX_ok {s t : TypeId} {x : SV} {vx : Value} (hh : HeapDen U r g L c.h w) (hp : PcOk U r c.pc) (hx : x.den U r g L vx) (h : (convX P c s t x).sat U (Post U L r g c w K) r) : VOk P (convert s t vx) w K := by
  unfold convX at h
  split at h
  · rename_i u k q e hs ht
    simp only [SV.den] at hx; subst hx
    refine ⟨.int k (k.wrap (e.ev U r).toI), w, ?_, Post.same h hh hp (Same.refl w) (by simp only [SV.den, mk1_ev]; rfl)⟩
    cases u <;> simp only [convert, Sem.run_bind, run_und hs, run_und ht, Result.andThen_ok] <;> rfl
  · rename_i u k q e hs ht
    simp only [SV.den] at hx; subst hx
    refine ⟨_, w, run_convert_int_float w s t q k _ (by rw [hs]; rfl) ht, Post.same h hh hp (Same.refl w) ?_⟩
    refine ⟨_, rfl, nearest_wd k _, ?_⟩
    rw [mk1_ev]; exact nearest_cn k _
  · rename_i u k q e hs ht
    simp only [SV.den] at hx
    obtain ⟨b, rfl, h1, h2⟩ := hx
    have hrun : ∀ w, (convert s t (.float q b)).run P w = (Conv.floatToFloat q b k).run P w := by
      intro w
      cases u <;> simp only [convert, Sem.run_bind, run_und hs, run_und ht, Result.andThen_ok]
    split at h
    · rename_i he
      subst he
      refine ⟨.float q b, w, by rw [hrun]; simp [Conv.floatToFloat], Post.same h hh hp (Same.refl w) ⟨b, rfl, h1, h2⟩⟩
    · rename_i he
      split at h
      · rename_i hqk
        obtain ⟨rfl, rfl⟩ := hqk
        obtain ⟨b', w', k1, k2, k3, k4⟩ := floatToFloat_run (P := P) he (widen_ok b) w
        refine ⟨_, w', by rw [hrun]; exact k1, Post.same h hh hp k4 ⟨b', rfl, k2, ?_⟩⟩
        rw [k3, h2, mk1_ev]; rfl
      obtain ⟨pc, hp', h | h⟩ := sat_br hp h
      · have hok : Fl.convOk q k (cn q b) = true := by
          have := h.1; rw [mk1_ev] at this; rw [h2]; exact this
        obtain ⟨b', w', k1, k2, k3, k4⟩ := floatToFloat_run (P := P) he hok w
        refine ⟨_, w', by rw [hrun]; exact k1, Post.same h.2 hh hp' k4 ⟨b', rfl, k2, ?_⟩⟩
        rw [k3, h2, mk1_ev]; rfl
      · exact h.2.elim
  · rename_i e hs ht
    simp only [SV.den] at hx; subst hx
    refine ⟨_, w, ?_, Post.same h hh hp (Same.refl w) rfl⟩
    simp only [convert, Sem.run_bind, run_und hs, run_und ht, Result.andThen_ok]; rfl
  · exact h.elim

def nilCheckX (c : Cx) (x : SV) : Tree (SV × Cx) :=
  match x with
  | .ptr id off => .ret (.ptr id off, c)
  | .fn (.func f) xs ys => .ret (.fn (.func f) xs ys, c)
  | _ => .bad

/-- What is known of an expression's truth. -/
def known (e : E) (pc : List (E × Bool)) : Option Bool :=
  match e with
  | .b x => some x
  | .o1 .not e => (look e pc).map not
  | e => look e pc

theorem known_ok {e : E} {pc : List (E × Bool)} {x : Bool} (hp : PcOk U r pc) (h : known e pc = some x) : (e.ev U r).toB = x := by
  unfold known at h
  split at h
  · cases h; rfl
  · rename_i e
    simp only [Option.map_eq_some_iff] at h
    obtain ⟨y, h1, rfl⟩ := h
    have := look_ok hp h1
    show (!(e.ev U r).toB) = _
    rw [this]
  · exact look_ok hp h

/-- A choice between two values of one kind. -/
def pickX (c : Cx) (e : E) (x y : SV) : Tree (SV × Cx) :=
  match known e c.pc with
  | some true => .ret (x, c)
  | some false => .ret (y, c)
  | none =>
    match x, y with
    | .bool p, .bool q => .ret (.bool (mkIte e p q), c)
    | x, y => br c e (fun c => .ret (x, c)) (fun c => .ret (y, c))

theorem pickX_ok {e : E} {x y : SV} {vx vy : Value} (hh : HeapDen U r g L c.h w) (hp : PcOk U r c.pc) (hx : x.den U r g L vx) (hy : y.den U r g L vy) (h : (pickX c e x y).sat U (Post U L r g c w K) r) :
    K (if (e.ev U r).toB then vx else vy) w := by
  unfold pickX at h
  split at h
  · rename_i hk; rw [if_pos (known_ok hp hk)]; exact Post.same h hh hp (Same.refl w) hx
  · rename_i hk; rw [if_neg (by rw [known_ok hp hk]; simp)]; exact Post.same h hh hp (Same.refl w) hy
  · split at h
    · refine Post.same h hh hp (Same.refl w) ?_
      simp only [SV.den, mkIte_ev] at hx hy ⊢
      subst hx hy
      split <;> rfl
    · obtain ⟨pc, hp', h | h⟩ := sat_br hp h
      · rw [if_pos h.1]; exact Post.same h.2 hh hp' (Same.refl w) hx
      · rw [if_neg (by simp [h.1])]; exact Post.same h.2 hh hp' (Same.refl w) hy
end
end Go.Sx

/-
  Sx, part H: slices: written out, cut, appended to.
-/
namespace Go.Sx
open E (mk1 mk2 mkIte mk1_ev mk2_ev mkIte_ev)

section
variable {U : Nat → D → D} {L : Nat → Prop} {r : Nat → D} {g : Gh} {c : Cx} {w : World} {P : Program} {K : Value → World → Prop}

/-! ### '[]T{..}' -/

theorem fillS_length {place : Nat → Option (Nat × Nat)} : ∀ {parts : List (Nat × SV)} {cells out : List SV}, fillS place cells parts = some out → out.length = cells.length := by
  intro parts
  induction parts with
  | nil => intro cells out h; simp [fillS] at h; rw [h]
  | cons a rest ih =>
    intro cells out h
    obtain ⟨i, s⟩ := a
    simp only [fillS] at h
    split at h
    · split at h
      · rename_i hc; rw [ih h, putL_length hc.2]
      · cases h
    · cases h

def zerosS (zs : List SV) (n : Nat) : List SV := (List.range n).map fun i => zs.getD (i % zs.length) .any

theorem zerosS_den {zs : List SV} {z : Array Value} {n : Nat} (hd : SV.denL U r g L zs z.toList) : SV.denL U r g L (zerosS zs n) ((Array.range n).map (z[· % z.size]!)).toList := by
  have hl := SV.denL_length U r g L hd
  simp only [Array.length_toList] at hl
  refine SV.denL_of U r g L (by simp [zerosS]) fun i s v h1 h2 => ?_
  simp only [zerosS, List.getElem?_map] at h1
  simp only [Array.toList_map, List.getElem?_map, Array.toList_range] at h2
  by_cases hi : i < n
  · rw [List.getElem?_range hi] at h1 h2
    simp only [Option.map_some, Option.some.injEq] at h1 h2
    rw [hl] at h1
    cases hz : zs[i % z.size]? with
    | none =>
      have : zs.getD (i % z.size) SV.any = .any := by rw [List.getD_eq_getElem?_getD, hz]; rfl
      rw [this] at h1; subst h1; trivial
    | some s' =>
      have : zs.getD (i % z.size) SV.any = s' := by rw [List.getD_eq_getElem?_getD, hz]; rfl
      rw [this] at h1; subst h1
      obtain ⟨v', hv', hd'⟩ := SV.denL_get U r g L hd hz
      have hv' : z[i % z.size]? = some v' := by simpa using hv'
      have : z[i % z.size]! = v' := by rw [getElem!_def, hv']
      rw [← h2, this]; exact hd'
  · rw [List.getElem?_eq_none (by simp; omega)] at h1; cases h1

def buildSliceX (P : Program) (c : Cx) (t : TypeId) (len : Nat) (parts : List (Nat × SV)) : Tree (SV × Cx) :=
  match P.underlying t with
  | some (.slice e) =>
    match szT P e, (if len = 0 then some #[] else (zeroT P e).map (·.cells)) with
    | some n, some z =>
      if len * n ≤ 16777216 ∧ n ≠ 0 then
        match (if len = 0 then some [] else (ofValue (.agg z)).cells?) with
        | some zs =>
          match fillS (fun i => some (i * n, n)) (zerosS zs (len * n)) parts with
          | some cs => .ret (.sl c.h.length 0 n (.i len) (some (.i len)), { c with h := c.h ++ [some ⟨true, cs, none⟩] })
          | none => .bad
        | none => .bad
      else .bad
    | _, _ => .bad
  | _ => .bad

theorem buildSliceX_ok {t : TypeId} {len : Nat} {parts : List (Nat × SV)} {vparts : Array (Nat × Value)} (hh : HeapDen U r g L c.h w) (hp : PcOk U r c.pc) (hd : PartsDen U r g L parts vparts.toList)
    (h : (buildSliceX P c t len parts).sat U (Post U L r g c w K) r) : VOk P (Instr.buildSlice t len vparts) w K := by
  unfold buildSliceX at h
  split at h
  · rename_i e hu
    split at h
    · rename_i n z hs hz
      split at h
      · rename_i hle
        split at h
        · rename_i zs hzs
          split at h
          · rename_i cs hf
            have hzd : SV.denL U r g L zs z.toList := by
              split at hzs
              · rename_i h0; rw [if_pos h0] at hz; cases hzs; cases hz; simp [SV.denL]
              · exact (cells_ok (U := U) (L := L) (r := r) (g := g) hzs (ofValue_den (.agg z))).1
            obtain ⟨ys, hy, hyd⟩ := fillS_ok hf (zerosS_den hzd) hd
            have hyl := SV.denL_length U r g L hyd
            have hcl := fillS_length hf
            have hzl : (zerosS zs (len * n)).length = len * n := by simp [zerosS]
            simp only [Array.length_toList] at hyl
            have hrun : (Instr.buildSlice t len vparts).run P w = .ok (.slice (some ⟨w.heap.size, 0, none⟩) len len) (w.alloc (.cells ys e)) := by
              unfold Instr.buildSlice
              simp only [Sem.run_bind, run_und hu, Result.andThen_ok, run_sizeOf_of hs]
              rw [if_neg (by omega)]
              by_cases h0 : len = 0
              · subst h0
                rw [if_pos rfl] at hz; cases hz
                simp only [Nat.zero_mul] at hy
                simp only [Nat.zero_mul, if_true, Sem.run_bind, Sem.run_pure, Result.andThen_ok]
                rw [hy]
                simp [newRow]
              · rw [if_neg h0] at hz
                cases hz0 : zeroT P e with
                | none => rw [hz0] at hz; cases hz
                | some z0 =>
                  rw [hz0] at hz
                  simp only [Option.map_some, Option.some.injEq] at hz
                  have hne : ¬ len * n = 0 := by
                    intro h'; rcases Nat.mul_eq_zero.1 h' with h' | h'
                    · exact h0 h'
                    · exact hle.2 h'
                  rw [if_neg hne]
                  simp only [Sem.run_bind, run_zero_of hz0, Result.andThen_ok, Sem.run_pure]
                  rw [hz, hy]
                  simp [newRow]
            refine ⟨_, _, hrun, ?_⟩
            refine h _ _ _ (ext_alloc (xs := ys) hh hp e (by rw [hyl, ← Array.length_toList, List.take_length]; exact hyd) (by omega) true) ?_
            simp only [SV.den]
            refine ⟨.inr ⟨Nat.le_refl _, by simp⟩, ?_, len, ?_, ?_, ?_, ?_⟩
            · show (0 : Int) ≤ (len : Int); omega
            · show _ = Value.slice (some ⟨(g.put c.h.length w.heap.size ys.size).a c.h.length, 0, none⟩) ((len : Int)).toNat len
              simp [Gh.put]
            · show ((len : Int)).toNat ≤ len; omega
            · show 0 + len * n ≤ (g.put c.h.length w.heap.size ys.size).n c.h.length
              simp [Gh.put]; omega
            · intro e he; cases he; show len = ((len : Int)).toNat; omega
          · exact h.elim
        · exact h.elim
      · exact h.elim
    · exact h.elim
  · exact h.elim

/-! ### 'x[lo:hi]' -/

def litNat : Option SV → Nat → Option Nat
  | none, d => some d
  | some (.int _ (.i n)), _ => if 0 ≤ n then some n.toNat else none
  | _, _ => none

/-- A part of a text; of a literal, a literal. -/
def ssubE (s l h : E) : E := match s, l, h with
  | .s bs, .i a, .i b => .s ((bs.drop a.toNat).take (b.toNat - a.toNat))
  | s, l, h => .o3 .ssub s l h
theorem ssubE_ev (s l h : E) : (ssubE s l h).ev U r = (E.o3 .ssub s l h).ev U r := by
  unfold ssubE
  split
  · rename_i bs a b
    show D.s _ = D.s _
    congr 1
    apply ByteArray.ext
    rw [ByteArray.data_extract]
    apply Array.ext'
    rw [Array.toList_extract, List.extract_eq_take_drop]
    rfl
  · rfl

def sliceX (P : Program) (c : Cx) (t : TypeId) (x : SV) (lo hi : Option SV) : Tree (SV × Cx) :=
  match P.underlying t, x with
  | some (.slice e), .sl id off sz (.i len) cap =>
    match szT P e, litNat lo 0, litNat hi len.toNat with
    | some n, some l, some h =>
      match cap with
      | some (.i cp) => if sz = n ∧ l ≤ h ∧ (h : Int) ≤ cp then .ret (.sl id (if cp.toNat = l then off else off + l * n) n (.i (h - l : Nat)) (some (.i (cp.toNat - l : Nat))), c) else .bad
      | none => if sz = n ∧ l ≤ h ∧ (h : Int) ≤ len ∧ (l = 0 ∨ (l : Int) < len) then .ret (.sl id (off + l * n) n (.i (h - l : Nat)) none, c) else .bad
      | _ => .bad
    | _, _, _ => .bad
  | some .string, .str s =>
    match (match lo with | none => some (E.i 0) | some (.int _ e) => some e | _ => none), (match hi with | none => some (mk1 .slen s) | some (.int _ e) => some e | _ => none) with
    | some l, some h => br c (mk2 .ile (.i 0) l) (fun c => br c (mk2 .ile l h) (fun c => br c (mk2 .ile h (mk1 .slen s)) (fun c => .ret (.str (ssubE s l h), c)) (fun _ => .bad)) (fun _ => .bad)) (fun _ => .bad)
    | _, _ => .bad
  | some (.slice e), .slo id sz len =>
    match szT P e, lo, hi with
    | some n, none, some (.int _ h) => if sz = n then br c (mk2 .ile (.i 0) h) (fun c => br c (mk2 .ile h len) (fun c => .ret (.slo id sz h, c)) (fun _ => .bad)) (fun _ => .bad) else .bad
    | _, _, _ => .bad
  | _, _ => .bad

/-- What stands where a bound may stand. -/
def OptDen (U : Nat → D → D) (r : Nat → D) (g : Gh) (L : Nat → Prop) : Option SV → Option Value → Prop
  | none, none => True
  | some s, some v => s.den U r g L v
  | _, _ => False

theorem litNat_ok {o : Option SV} {v : Option Value} {d n : Nat} (h : litNat o d = some n) (hd : OptDen U r g L o v) : (v = none ∧ n = d) ∨ ∃ k, v = some (.int k n) := by
  unfold litNat at h
  split at h
  · cases v with
    | none => cases h; exact .inl ⟨rfl, rfl⟩
    | some v => exact hd.elim
  · rename_i k m
    split at h
    · rename_i h0
      cases h
      cases v with
      | none => exact hd.elim
      | some v =>
        have hd : v = .int k m := hd
        subst hd
        right; refine ⟨k, ?_⟩
        rw [Int.toNat_of_nonneg h0]
    · cases h
  · cases h

theorem sliceBound_run {k : IntKind} {n y : Nat} (code : BoundsCode) (h : n ≤ y) (w : World) : (Instr.sliceBound (.int k n) y code).run P w = .ok n w := by
  unfold Instr.sliceBound
  simp only [asIntOf, Sem.run_bind, Sem.run_pure, Result.andThen_ok]
  rw [if_pos ⟨by omega, by omega⟩]
  simp

theorem sliceBounds_run {b : Bool} {len cap l h : Nat} {vl vh : Option Value} (hl : (vl = none ∧ l = 0) ∨ ∃ k, vl = some (.int k l)) (hv : (vh = none ∧ h = len) ∨ ∃ k, vh = some (.int k h)) (h1 : l ≤ h) (h2 : h ≤ cap) (w : World) :
    (Instr.sliceBounds b len cap vl vh none).run P w = .ok (l, h, cap) w := by
  unfold Instr.sliceBounds
  rcases hv with ⟨rfl, rfl⟩ | ⟨k, rfl⟩ <;> rcases hl with ⟨rfl, rfl⟩ | ⟨k', rfl⟩ <;>
    simp only [Sem.run_bind, Sem.run_pure, Result.andThen_ok, sliceBound_run _ h1, sliceBound_run _ h2, Option.isSome_none, Bool.false_eq_true, if_false]

theorem sliceX_ok {t : TypeId} {x : SV} {vx : Value} {lo hi : Option SV} {vl vh : Option Value} (hh : HeapDen U r g L c.h w) (hp : PcOk U r c.pc) (hx : x.den U r g L vx) (hlo : OptDen U r g L lo vl) (hhi : OptDen U r g L hi vh)
    (h : (sliceX P c t x lo hi).sat U (Post U L r g c w K) r) : VOk P (Instr.sliceAt t vx vl vh none) w K := by
  unfold sliceX at h
  split at h
  · rename_i e id off sz len cap hu
    simp only [SV.den] at hx
    obtain ⟨hl, h0, cp, rfl, h3, h4, h5⟩ := hx
    simp only [toI_i] at h0 h3 ⊢
    split at h
    · rename_i n l hb hs hlit hlit'
      have k1 := litNat_ok hlit hlo
      have k2 := litNat_ok hlit' hhi
      have go : ∀ {off' : Nat} {cap' : Option E}, l ≤ hb → hb ≤ cp → sz = n → off' = (if cp = l then off else off + l * n) → (∀ e, cap' = some e → cp - l = (e.ev U r).toI.toNat) →
          Post U L r g c w K r (.sl id off' n (.i (hb - l : Nat)) cap', { c with pc := c.pc }) → VOk P (Instr.sliceAt t (.slice (some ⟨g.a id, off, none⟩) len.toNat cp) vl vh none) w K := by
        intro off' cap' g1 g2 g3 g4 g5 hpost
        refine ⟨.slice (some ⟨g.a id, off', none⟩) (hb - l) (cp - l), w, ?_, Post.same hpost hh hp (Same.refl w) ?_⟩
        · unfold Instr.sliceAt
          simp only [Sem.run_bind, run_und hu, Result.andThen_ok]
          unfold Instr.slice
          simp only [Sem.run_bind, run_und hu, Result.andThen_ok, sliceBounds_run k1 k2 g1 g2, run_sizeOf_of hs, Sem.run_pure, Option.map_some, add_none, g4]
          split <;> rfl
        · simp only [SV.den]
          refine ⟨hl, ?_, cp - l, ?_, ?_, ?_, g5⟩
          · show (0 : Int) ≤ ((hb - l : Nat) : Int); omega
          · show _ = Value.slice _ (((hb - l : Nat) : Int)).toNat _; simp
          · show (((hb - l : Nat) : Int)).toNat ≤ cp - l; omega
          · subst g3
            have : cp * sz = l * sz + (cp - l) * sz := by rw [← Nat.add_mul]; congr 1; omega
            rw [g4]
            split
            · rename_i hcl; rw [hcl, Nat.sub_self, Nat.zero_mul]; omega
            · omega
      split at h
      · rename_i cpl
        have hcp : cp = cpl.toNat := h5 _ rfl
        split at h
        · rename_i hc
          refine go hc.2.1 (by omega) hc.1 (by rw [hcp]) ?_ h
          intro e he; cases he; show cp - l = (((cpl.toNat - l : Nat) : Int)).toNat; omega
        · exact h.elim
      · split at h
        · rename_i hc
          refine go hc.2.1 (by omega) hc.1 ?_ (by intro e he; cases he) h
          split
          · rename_i hcl
            rcases hc.2.2.2 with h' | h'
            · rw [h']; simp
            · omega
          · rfl
        · exact h.elim
      · exact h.elim
    · exact h.elim
  · rename_i s hu
    simp only [SV.den] at hx
    subst hx
    split at h
    · rename_i l hb hl hhb
      obtain ⟨pc, hp1, h | h⟩ := sat_br hp h
      · obtain ⟨pc', hp2, h' | h'⟩ := sat_br (c := { c with pc := pc }) hp1 h.2
        · obtain ⟨pc'', hp3, h'' | h''⟩ := sat_br (c := { c with pc := pc' }) hp2 h'.2
          · have a0 : 0 ≤ (l.ev U r).toI := by have := h.1; rw [mk2_ev] at this; exact of_decide_eq_true this
            have a1 : (l.ev U r).toI ≤ (hb.ev U r).toI := by have := h'.1; rw [mk2_ev] at this; exact of_decide_eq_true this
            have a2 : (hb.ev U r).toI ≤ (s.ev U r).toS.size := by have := h''.1; rw [mk2_ev, mk1_ev] at this; exact of_decide_eq_true this
            have kl : (vl = none ∧ (l.ev U r).toI.toNat = 0) ∨ ∃ k, vl = some (.int k ((l.ev U r).toI.toNat : Nat)) := by
              cases lo with
              | none => cases vl with
                | none => cases hl; exact .inl ⟨rfl, rfl⟩
                | some v => exact hlo.elim
              | some o => cases vl with
                | none => exact hlo.elim
                | some v =>
                  cases o <;> simp at hl
                  subst hl
                  have hlo : v = _ := hlo
                  exact .inr ⟨_, by rw [Int.toNat_of_nonneg a0]; exact congrArg some hlo⟩
            have kh : (vh = none ∧ (hb.ev U r).toI.toNat = (s.ev U r).toS.size) ∨ ∃ k, vh = some (.int k ((hb.ev U r).toI.toNat : Nat)) := by
              cases hi with
              | none => cases vh with
                | none => cases hhb; left; refine ⟨rfl, ?_⟩; rw [mk1_ev]; show (((s.ev U r).toS.size : Nat) : Int).toNat = _; omega
                | some v => exact hhi.elim
              | some o => cases vh with
                | none => exact hhi.elim
                | some v =>
                  cases o <;> simp at hhb
                  subst hhb
                  have hhi : v = _ := hhi
                  exact .inr ⟨_, by rw [Int.toNat_of_nonneg (by omega)]; exact congrArg some hhi⟩
            refine ⟨.string ((s.ev U r).toS.extract (l.ev U r).toI.toNat (hb.ev U r).toI.toNat), w, ?_, Post.same h''.2 hh hp3 (Same.refl w) (by simp only [SV.den]; rw [ssubE_ev]; rfl)⟩
            unfold Instr.sliceAt
            simp only [Sem.run_bind, run_und hu, Result.andThen_ok]
            unfold Instr.slice
            simp only [Sem.run_bind, run_und hu, Result.andThen_ok, Option.isSome_none, Bool.false_eq_true, if_false, Sem.run_pure]
            rw [sliceBounds_run kl kh (by omega) (by omega)]
            rfl
          · exact h''.2.elim
        · exact h'.2.elim
      · exact h.2.elim
    · exact h.elim
  · rename_i e id sz len hu
    simp only [SV.den] at hx
    obtain ⟨h0, base, cp, rfl, h3, h4⟩ := hx
    split at h
    · rename_i n k hb hs
      split at h
      · rename_i hsz
        obtain ⟨pc, hp1, h | h⟩ := sat_br hp h
        · obtain ⟨pc', hp2, h' | h'⟩ := sat_br (c := { c with pc := pc }) hp1 h.2
          · have a0 : 0 ≤ (hb.ev U r).toI := by have := h.1; rw [mk2_ev] at this; exact of_decide_eq_true this
            have a1 : (hb.ev U r).toI ≤ (len.ev U r).toI := by have := h'.1; rw [mk2_ev] at this; exact of_decide_eq_true this
            have kl : vl = none := by
              cases vl with
              | none => rfl
              | some v => exact hlo.elim
            have kh : vh = some (.int k ((hb.ev U r).toI.toNat : Nat)) := by
              cases vh with
              | none => exact hhi.elim
              | some v =>
                have hhi : v = _ := hhi
                rw [Int.toNat_of_nonneg a0]; exact congrArg some hhi
            have hbase : (if cp = 0 then base else base.map (·.add (0 * n))) = base := by
              rcases h4 with rfl | ⟨_, rfl, _⟩
              · rw [if_pos rfl]
              · split
                · rfl
                · simp only [Option.map_some, add_none, Nat.zero_mul, Nat.add_zero]
            refine ⟨.slice base (hb.ev U r).toI.toNat cp, w, ?_, Post.same h'.2 hh hp2 (Same.refl w) ?_⟩
            · unfold Instr.sliceAt
              simp only [Sem.run_bind, run_und hu, Result.andThen_ok]
              unfold Instr.slice
              simp only [Sem.run_bind, run_und hu, Result.andThen_ok, sliceBounds_run (.inl ⟨kl, rfl⟩) (.inr ⟨k, kh⟩) (Nat.zero_le _) (show (hb.ev U r).toI.toNat ≤ cp by omega), run_sizeOf_of hs, Sem.run_pure, hbase, Nat.sub_zero]
            · simp only [SV.den]
              exact ⟨a0, base, cp, rfl, by omega, h4⟩
          · exact h'.2.elim
        · exact h.2.elim
      · exact h.elim
    · exact h.elim
  · exact h.elim
end
end Go.Sx

/-
  Sx, part I: 'append', 'len', 'cap'; then every operation that calls no function.
-/
namespace Go.Sx
open E (mk1 mk2 mkIte mk1_ev mk2_ev mkIte_ev)

section
variable {U : Nat → D → D} {L : Nat → Prop} {r : Nat → D} {g : Gh} {c : Cx} {w w' : World} {P : Program} {K : Value → World → Prop}

/-! ### 'append' -/

/-- A slice's block moved: what stood under one name stands under a new one. -/
theorem ext_move (hh : HeapDen U r g L c.h w) (hp : PcOk U r c.pc) {id : Nat} {b : SB} (hl : L id) (hb : c.h[id]? = some (some b)) (hwr : b.wr = true) {xs' : Array Value} {t : TypeId} {cs' : List SV}
    (hw : Wrote (g.a id) xs' t w w') (hsz : xs'.size = g.n id) (hle : cs'.length ≤ xs'.size) (hd : ∀ (j : Nat) (s : SV), cs'[j]? = some s → ∃ v, xs'[j]? = some v ∧ s.den U r g L v)
    (rw : Option (List Sk × E) := none) (o : Nat := 0) (hrw : RowHas U r rw o xs' := by exact RowHas.none) :
    Ext U L r g c w r (g.put c.h.length (g.a id) (g.n id) o) { c with h := c.h.set id none ++ [some ⟨true, cs', rw⟩] } w' where
  nv := Nat.le_refl _
  agr := fun _ => rfl
  len := by simp
  ga := fun k h => by
    have : k ≠ c.h.length := fun e => h ⟨by omega, by simp; omega⟩
    simp [Gh.put, this]
  go := fun k h => by
    have : k ≠ c.h.length := fun e => h ⟨by omega, by simp; omega⟩
    simp [Gh.put, this]
  heap := by
    have hid := hh.bnd id hl
    have gl : GLe g L (g.put c.h.length (g.a id) (g.n id) o) (Lx L c.h (c.h.set id none ++ [some ⟨true, cs', rw⟩])) :=
      ⟨fun k h => by have := hh.bnd k h; exact ⟨.inl h, by simp [Gh.put]; omega, by simp [Gh.put]; omega⟩, fun k h => by have := hh.bnd k h; simp [Gh.put]; omega⟩
    have alt : ∀ k, Lx L c.h (c.h.set id none ++ [some ⟨true, cs', rw⟩]) k → (L k ∧ k < c.h.length ∧ (g.put c.h.length (g.a id) (g.n id) o).a k = g.a k) ∨ k = c.h.length := by
      rintro k (h | h)
      · exact .inl ⟨h, hh.bnd k h, (gl.on k h).2.1⟩
      · right; simp at h; omega
    have new : (g.put c.h.length (g.a id) (g.n id) o).a c.h.length = g.a id := by simp [Gh.put]
    have old : ∀ {k : Nat} {b' : SB}, k < c.h.length → (c.h.set id none ++ [some (⟨true, cs', rw⟩ : SB)])[k]? = some (some b') → k ≠ id ∧ c.h[k]? = some (some b') := by
      intro k b' hk h
      rw [List.getElem?_append_left (by simpa using hk)] at h
      by_cases hki : k = id
      · subst hki; rw [List.getElem?_set_self hk] at h; cases h
      · rw [List.getElem?_set_ne (Ne.symm hki)] at h; exact ⟨hki, h⟩
    refine ⟨?_, ?_, ?_, ?_, ?_, ?_⟩
    · intro k h; rcases alt k h with ⟨_, h, _⟩ | h <;> simp <;> omega
    · intro k h
      rw [hw.size]
      rcases alt k h with ⟨h1, _, h2⟩ | h
      · rw [h2]; exact hh.lt k h1
      · subst h; rw [new]; exact hh.lt id hl
    · intro k b' h hb'
      rcases alt k h with ⟨h1, h2, h3⟩ | h
      · obtain ⟨hne, hb''⟩ := old h2 hb'
        obtain ⟨ys, t', fz, e1, e2, e3, e4, e5⟩ := hh.blk k b' h1 hb''
        have hna : g.a k ≠ g.a id := fun e => hne (hh.inj id k b b' hl h1 hb hwr hb'' e.symm).symm
        refine ⟨ys, t', fz, by rw [h3, hw.off _ hna]; exact e1, by rw [(gl.on k h1).2.2]; exact e2, e3, e4, fun j s hs => ?_⟩
        obtain ⟨v, hv, hd⟩ := e5 j s hs
        exact ⟨v, hv, SV.den_mono gl hd⟩
      · subst h
        have hb'' : b' = ⟨true, cs', rw⟩ := by
          have hb' : (c.h.set id none ++ [some (⟨true, cs', rw⟩ : SB)])[c.h.length]? = some (some b') := hb'
          rw [List.getElem?_append_right (by simp)] at hb'
          simpa using hb'.symm
        subst hb''
        refine ⟨xs', t, (0, 0), by rw [new]; exact hw.at_, by simp [Gh.put]; exact hsz, fun _ => rfl, hle, fun j s hs => ?_⟩
        obtain ⟨v, hv, hd'⟩ := hd j s hs
        exact ⟨v, hv, SV.den_mono gl hd'⟩
    · intro i j b1 b2 hi hj h1 hwr1 h2 he
      rcases alt i hi with ⟨i1, i2, i3⟩ | hi' <;> rcases alt j hj with ⟨j1, j2, j3⟩ | hj'
      · rw [i3, j3] at he
        exact hh.inj i j b1 b2 i1 j1 (old i2 h1).2 hwr1 (old j2 h2).2 he
      · subst hj'
        rw [i3, new] at he
        obtain ⟨hne, h1'⟩ := old i2 h1
        exact absurd (hh.inj i id b1 b i1 hl h1' hwr1 hb he) hne
      · subst hi'
        rw [j3, new] at he
        obtain ⟨hne, h2'⟩ := old j2 h2
        exact absurd (hh.inj id j b b2 hl j1 hb hwr h2' he).symm hne
      · omega
    · intro k b' ks e h hb' hr
      rcases alt k h with ⟨h1, h2, h3⟩ | h
      · obtain ⟨hne, hb''⟩ := old h2 hb'
        obtain ⟨ys, t', fz, e1, e2⟩ := hh.rows k b' ks e h1 hb'' hr
        have hna : g.a k ≠ g.a id := fun e => hne (hh.inj id k b b' hl h1 hb hwr hb'' e.symm).symm
        exact ⟨ys, t', fz, by rw [h3, hw.off _ hna]; exact e1, by rw [gl.off k h1]; exact e2⟩
      · subst h
        have hb'' : b' = ⟨true, cs', rw⟩ := by
          have hb' : (c.h.set id none ++ [some (⟨true, cs', rw⟩ : SB)])[c.h.length]? = some (some b') := hb'
          rw [List.getElem?_append_right (by simp)] at hb'
          simpa using hb'.symm
        subst hb''
        refine ⟨xs', t, (0, 0), by rw [new]; exact hw.at_, ?_⟩
        have := hrw ks e hr
        simpa [Gh.put] using this
    · intro k b' hb' hw'
      by_cases hlt : k < c.h.length
      · exact .inl (hh.live k b' (old hlt hb').2 hw')
      · have : k < (c.h.set id none ++ [some (⟨true, cs', rw⟩ : SB)]).length := (List.getElem?_eq_some_iff.1 hb').1
        exact .inr ⟨by omega, this⟩
  pc := hp
  frm := ⟨hw.os, hw.tape, hw.output, by rw [hw.size]; exact Nat.le_refl _, fun k _ hn => hw.off k fun e => hn ⟨id, b, hl, hb, hwr, e.symm⟩⟩
  wrs := fun k b' h hb' hw' => by
    right
    have hid := hh.bnd id hl
    rcases h with h | h
    · have hk := hh.bnd k h
      have hb'' : (c.h.set id none ++ [some (⟨true, cs', rw⟩ : SB)])[k]? = some (some b') := hb'
      rw [List.getElem?_append_left (by simpa using hk)] at hb''
      by_cases hki : k = id
      · subst hki; rw [List.getElem?_set_self hk] at hb''; cases hb''
      · rw [List.getElem?_set_ne (Ne.symm hki)] at hb''
        refine ⟨k, b', h, hb'', hw', ?_⟩
        have : k ≠ c.h.length := by omega
        simp [Gh.put, this]
    · have : k = c.h.length := by have := h.2; simp at this; have := h.1; omega
      subst this
      exact ⟨id, b, hl, hb, hwr, by simp [Gh.put]⟩
  fresh := fun k h1 h2 => by
    have : k = c.h.length := by have h2 : k < (c.h.set id none ++ [some (⟨true, cs', rw⟩ : SB)]).length := h2; simp at h2; omega
    subst this
    exact .inr ⟨id, b, hl, hb, hwr, by simp [Gh.put]⟩

/-- How many elements, and their cells. -/
def srcCells (h : SH) (n : Nat) : SV → Option (Nat × List SV)
  | .sl id off _ (.i m) _ =>
    match h[id]? with
    | some (some b) => if off + m.toNat * n ≤ b.cs.length then some (m.toNat, cut b.cs off (m.toNat * n)) else none
    | _ => none
  | .con (.slice none 0 0) => some (0, [])
  | .str (.s bs) => if n = 1 then some (bs.length, bs.map fun b => .int .u8 (.i b.toNat)) else none
  | _ => none

theorem srcCells_ok {n m : Nat} {cs : List SV} {x : SV} {vx : Value} (hh : HeapDen U r g L c.h w) (h : srcCells c.h n x = some (m, cs)) (hx : x.den U r g L vx) :
    ∃ xs : Array Value, SV.denL U r g L cs xs.toList ∧ xs.size = m * n ∧ (∀ w', (Builtin.lenOf vx).run P w' = .ok m w') ∧ ∀ w', w'.heap = w.heap → (Builtin.firstCells n m vx).run P w' = .ok xs w' := by
  unfold srcCells at h
  split at h
  · rename_i id off sz mm cap
    split at h
    · rename_i b hb
      split at h
      · rename_i hle
        cases h
        simp only [SV.den] at hx
        obtain ⟨hl, h0, cp, rfl, h3, h4, h5⟩ := hx
        simp only [toI_i] at *
        obtain ⟨xs, t', fz, e1, e2, e3, e4, e5⟩ := hh.blk id b hl hb
        refine ⟨xs.extract off (off + mm.toNat * n), ?_, by simp; omega, fun _ => rfl, fun w' hw' => ?_⟩
        · refine SV.denL_of U r g L (by unfold cut; simp; omega) fun i s v h1 h2 => ?_
          unfold cut at h1
          rw [List.getElem?_take] at h1
          split at h1
          · rename_i hi
            rw [List.getElem?_drop] at h1
            obtain ⟨v', hv', hd'⟩ := e5 _ _ h1
            have : v = v' := by
              simp only [Array.toList_extract, List.extract_eq_take_drop, List.getElem?_take, List.getElem?_drop] at h2
              rw [if_pos (by omega), Array.getElem?_toList, hv'] at h2
              exact (Option.some.inj h2).symm
            subst this; exact hd'
          · cases h1
        · have e1' : w'.heap[g.a id]? = some (.cells xs t' fz) := by rw [hw']; exact e1
          have := run_loadCells_at (P := P) e1' off (mm.toNat * n) 0 #[] (by omega)
          simp only [Builtin.firstCells, loadCells]
          rw [this]; simp
      · cases h
    · cases h
  · cases h
    simp only [SV.den] at hx
    subst hx
    exact ⟨#[], by simp [SV.denL], by simp, fun _ => rfl, fun _ _ => rfl⟩
  · rename_i bs
    split at h
    · rename_i hn
      cases h
      subst hn
      simp only [SV.den] at hx
      subst hx
      refine ⟨bs.toArray.map fun b => .int .u8 b.toNat, ?_, by simp, fun _ => ?_, fun _ _ => ?_⟩
      · refine SV.denL_of U r g L (by simp) fun i s v h1 h2 => ?_
        simp only [List.getElem?_map, Array.toList_map] at h1 h2
        cases hb : bs[i]? with
        | none => rw [hb] at h1; cases h1
        | some b => rw [hb] at h1 h2; cases h1; cases h2; rfl
      · show Result.ok (ByteArray.size ⟨bs.toArray⟩) _ = _; simp [ByteArray.size]
      · show Result.ok _ _ = _
        congr 1
        have e : (ByteArray.extract ⟨bs.toArray⟩ 0 bs.length) = ⟨bs.toArray⟩ := by
          apply ByteArray.ext; rw [ByteArray.data_extract]; simp
        have e' : (E.ev U r (.s bs)).toS = ⟨bs.toArray⟩ := rfl
        rw [e', e]
    · cases h
  · cases h

theorem growBy_le (n : Nat) : ∀ (k m : Nat), Builtin.growBy n k m ≤ max m (n + (n + 768) / 4) := by
  intro k
  induction k with
  | zero => intro m; simp [Builtin.growBy]; omega
  | succ k ih =>
    intro m
    unfold Builtin.growBy
    split
    · omega
    · have := ih (m + (m + 768) / 4); omega

theorem nextslicecap_le {n m : Nat} (h : m < n) : Builtin.nextslicecap n m ≤ 2 * n + 1000 := by
  unfold Builtin.nextslicecap
  split
  · omega
  · split
    · omega
    · have := growBy_le n 4 m; omega

theorem zeroCells_size (z : Array Value) (n : Nat) : (Builtin.zeroCells z n).size = n * z.size := by simp [Builtin.zeroCells]

/-- The setting of an append. -/
structure AppSet (P : Program) (t0 t1 e : TypeId) (n : Nat) (ie : TypeInfo) (z : Value) : Prop where
  u0 : P.underlying t0 = some (.slice e)
  u1 : ∃ d, P.underlying t1 = some d ∧ ∀ k, d ≠ .int k
  info : P.info? e = some ie
  size : ie.size = n
  zero : ie.zero = some z
  zsize : z.cells.size = n
  bytes : ie.bytes ≤ 1048576

theorem append_run_grow {t0 t1 e ty : TypeId} {n l m cap : Nat} {ie : TypeInfo} {z : Value} {base : Option Addr} {vx : Value} {old new : Array Value} (hs : AppSet P t0 t1 e n ie z)
    (hlen : ∀ w, (Builtin.lenOf vx).run P w = .ok m w) (hnew : ∀ w', w'.heap = w.heap → (Builtin.firstCells n m vx).run P w' = .ok new w')
    (hold : ∀ w', w'.heap = w.heap → (Builtin.firstCells n l (.slice base l cap)).run P w' = .ok old w') (hgt : ¬ l + m ≤ cap) (hsm : l + m ≤ 2097152) :
    ∃ newCap rest, l + m ≤ newCap ∧ rest.size = (newCap - (l + m)) * n ∧
      (Builtin.append_ #[t0, t1] ty #[.slice base l cap, vx]).run P w = .ok (.slice (some ⟨w.heap.size, 0, none⟩) (l + m) newCap) (({ w with drawn := w.drawn + 1 } : World).alloc (.cells (old ++ new ++ rest) e)) := by
  obtain ⟨d, hd1, hd2⟩ := hs.u1
  have hb1 : ¬ (((l + m : Nat) : Int) > IntKind.i64.max ∧ (false = true ∨ ie.bytes = 0)) := by
    have : IntKind.i64.max = 9223372036854775807 := by decide
    rw [this]; omega
  have hb2 : ¬ (Builtin.nextslicecap (l + m) cap * ie.bytes > 2 ^ 48) := by
    have h1 := nextslicecap_le (n := l + m) (m := cap) (by omega)
    have h2 : Builtin.nextslicecap (l + m) cap * ie.bytes ≤ (2 * (l + m) + 1000) * 1048576 := Nat.mul_le_mul h1 hs.bytes
    have h3 : (2 * (l + m) + 1000) * 1048576 ≤ (2 * 2097152 + 1000) * 1048576 := Nat.mul_le_mul (by omega) (Nat.le_refl _)
    have : (2 * 2097152 + 1000) * 1048576 ≤ 2 ^ 48 := by decide
    omega
  refine ⟨(Question.appendCap (l + m) cap e).cut (w.tape w.drawn (.appendCap (l + m) cap e)), Builtin.zeroCells z.cells ((Question.appendCap (l + m) cap e).cut (w.tape w.drawn (.appendCap (l + m) cap e)) - (l + m)), by simp only [Question.cut]; omega, by rw [zeroCells_size, hs.zsize], ?_⟩
  have hsz : szT P e = some n := by unfold szT; rw [hs.info]; simp [hs.size]
  have hzt : zeroT P e = some z := by unfold zeroT; rw [hs.info]; simp [hs.zero]
  have hf : (Question.appendCap (l + m) cap e).forced = false := rfl
  have k1 := hold ({ w with drawn := w.drawn + 1 } : World) rfl
  have k2 := hnew ({ w with drawn := w.drawn + 1 } : World) rfl
  unfold Builtin.append_
  have g0 : (#[t0, t1] : Array TypeId)[0]? = some t0 := rfl
  have g1 : (#[t0, t1] : Array TypeId)[1]? = some t1 := rfl
  have g2 : (#[Value.slice base l cap, vx] : Array Value)[0]? = some (.slice base l cap) := rfl
  have g3 : (#[Value.slice base l cap, vx] : Array Value)[1]? = some vx := rfl
  simp only [g0, g1, g2, g3, Sem.run_bind, run_und hs.u0, Result.andThen_ok, run_sizeOf_of hsz, run_und hd1, Sem.run_pure]
  simp only [Bool.false_eq_true, if_false, hlen, Result.andThen_ok, if_neg hgt, Sem.run_bind, run_info hs.info, false_or]
  rw [if_neg (by simpa using hb1)]
  simp only [Result.andThen_ok, Sem.run_bind, run_info hs.info]
  rw [if_neg hb2]
  simp only [Sem.run_pure, Result.andThen_ok, run_choose, hf, Bool.false_eq_true, if_false, Sem.run_bind, run_askRoom, run_info hs.info, k1, k2, run_zero_of hzt, newRow, run_newObj, Bool.not_false, if_true]
  rfl

theorem append_run_fits {t0 t1 e ty : TypeId} {n l m cap b o : Nat} {ie : TypeInfo} {z : Value} {vx : Value} {new : Array Value} {xs : Array Value} {t : TypeId} (hs : AppSet P t0 t1 e n ie z)
    (hlen : ∀ w, (Builtin.lenOf vx).run P w = .ok m w) (hnew : ∀ w', w'.heap = w.heap → (Builtin.firstCells n m vx).run P w' = .ok new w') (hle : l + m ≤ cap)
    (hb : w.heap[b]? = some (.cells xs t (0, 0))) (hsz : new.size = m * n) (hin : o + (l + m) * n ≤ xs.size) (h1 : ∀ v ∈ new.toList, v.oneCell' = true) :
    ∃ w', Wrote b (putIn xs (o + l * n) new.toList) t w w' ∧
      (Builtin.append_ #[t0, t1] ty #[.slice (some ⟨b, o, none⟩) l cap, vx]).run P w = .ok (.slice (some ⟨b, o, none⟩) (l + m) cap) w' := by
  obtain ⟨d, hd1, hd2⟩ := hs.u1
  have hszT : szT P e = some n := by unfold szT; rw [hs.info]; simp [hs.size]
  have hmul : (l + m) * n = l * n + m * n := Nat.add_mul _ _ _
  obtain ⟨w', hr, hw⟩ := run_storeCells_at (P := P) (b := b) (o := o + l * n) new.toList 0 xs w hb (by simp [hsz]; omega) h1
  refine ⟨w', hw, ?_⟩
  have k2 := hnew w rfl
  unfold Builtin.append_
  have g0 : (#[t0, t1] : Array TypeId)[0]? = some t0 := rfl
  have g1 : (#[t0, t1] : Array TypeId)[1]? = some t1 := rfl
  have g2 : (#[Value.slice (some ⟨b, o, none⟩) l cap, vx] : Array Value)[0]? = some (.slice (some ⟨b, o, none⟩) l cap) := rfl
  have g3 : (#[Value.slice (some ⟨b, o, none⟩) l cap, vx] : Array Value)[1]? = some vx := rfl
  simp only [g0, g1, g2, g3, Sem.run_bind, run_und hs.u0, Result.andThen_ok, run_sizeOf_of hszT, run_und hd1, Sem.run_pure]
  simp only [Bool.false_eq_true, if_false, hlen, Result.andThen_ok, if_pos hle, Sem.run_bind, Sem.run_pure, k2, add_none, Bool.not_false, if_true]
  rw [hr]
  rfl

theorem Ext.of_same {r' : Nat → D} {g' : Gh} {c' : Cx} {w1 w' : World} (hs : Same w w1) (e : Ext U L r g c w1 r' g' c' w') : Ext U L r g c w r' g' c' w' where
  nv := e.nv
  agr := e.agr
  len := e.len
  ga := e.ga
  go := e.go
  heap := e.heap
  pc := e.pc
  frm := ⟨e.frm.os.trans hs.os, e.frm.tape.trans hs.tape, e.frm.output.trans hs.output, by have := e.frm.size; rwa [hs.heap] at this, fun k hk hn => by
    have := e.frm.block k (by rw [hs.heap]; exact hk) hn; rwa [hs.heap] at this⟩
  wrs := fun id b h1 h2 h3 => by have := e.wrs id b h1 h2 h3; rwa [hs.heap] at this
  fresh := fun id h1 h2 => by have := e.fresh id h1 h2; rwa [hs.heap] at this

def growX (c : Cx) (n l : Nat) (cs : List SV) : Tree (SV × Cx) := .ret (.sl c.h.length 0 n (.i l) none, { c with h := c.h ++ [some ⟨true, cs, none⟩] })

def appendY (c : Cx) (n : Nat) (x : SV) (l m : Nat) (old new : List SV) : Tree (SV × Cx) :=
  match x with
  | .con (.slice none 0 0) => if m = 0 then .bad else growX c n (l + m) (old ++ new)
  | .sl id off sz (.i len) cap =>
    if sz = n ∧ len.toNat = l ∧ new.all SV.one = true then
      match cap with
      | some (.i cp) =>
        if l + m ≤ cp.toNat then
          match c.h[id]? with
          | some (some b) =>
            if b.wr = true ∧ off + (l + m) * n ≤ b.cs.length then .ret (.sl id off n (.i (l + m : Nat)) (some (.i cp.toNat)), { c with h := c.h.set id (some ⟨true, putL b.cs (off + l * n) new, none⟩) }) else .bad
          | _ => .bad
        else growX c n (l + m) (old ++ new)
      | none =>
        match c.h[id]? with
        | some (some b) => if b.wr = true ∧ off = 0 then .ret (.sl c.h.length 0 n (.i (l + m : Nat)) none, { c with h := c.h.set id none ++ [some ⟨true, old ++ new, none⟩] }) else .bad
        | _ => .bad
      | _ => .bad
    else .bad
  | _ => .bad

def notIntD : TypeDesc → Bool
  | .int _ => false
  | _ => true

def appendX (P : Program) (c : Cx) (t0 t1 : TypeId) (x y : SV) : Tree (SV × Cx) :=
  match P.underlying t0, P.underlying t1 with
  | some (.slice e), some d1 =>
    match P.info? e with
    | some ie =>
      match ie.zero with
      | some z =>
        if notIntD d1 = true ∧ z.cells.size = ie.size ∧ ie.bytes ≤ 1048576 then
          match srcCells c.h ie.size x, srcCells c.h ie.size y with
          | some (l, old), some (m, new) => if l + m ≤ 2097152 then appendY c ie.size x l m old new else .bad
          | _, _ => .bad
        else .bad
      | none => .bad
    | none => .bad
  | _, _ => .bad

theorem growX_ok {t0 t1 e ty : TypeId} {n l m cap : Nat} {ie : TypeInfo} {z : Value} {base : Option Addr} {vx : Value} {old new : List SV} {xo xn : Array Value} (hs : AppSet P t0 t1 e n ie z)
    (hh : HeapDen U r g L c.h w) (hp : PcOk U r c.pc) (hlen : ∀ w, (Builtin.lenOf vx).run P w = .ok m w) (hnew : ∀ w', w'.heap = w.heap → (Builtin.firstCells n m vx).run P w' = .ok xn w')
    (hold : ∀ w', w'.heap = w.heap → (Builtin.firstCells n l (.slice base l cap)).run P w' = .ok xo w') (hgt : ¬ l + m ≤ cap) (hsm : l + m ≤ 2097152)
    (ho : SV.denL U r g L old xo.toList) (hn : SV.denL U r g L new xn.toList) (hso : xo.size = l * n) (hsn : xn.size = m * n)
    (h : (growX c n (l + m) (old ++ new)).sat U (Post U L r g c w K) r) : VOk P (Builtin.append_ #[t0, t1] ty #[.slice base l cap, vx]) w K := by
  obtain ⟨cap', rest, k1, k2, k3⟩ := append_run_grow (ty := ty) hs hlen hnew hold hgt hsm
  refine ⟨_, _, k3, ?_⟩
  have hsame : Same w ({ w with drawn := w.drawn + 1 } : World) := ⟨rfl, rfl, rfl, rfl⟩
  have hlo := SV.denL_length U r g L ho
  have hln := SV.denL_length U r g L hn
  simp only [Array.length_toList] at hlo hln
  have hd : SV.denL U r g L (old ++ new) ((xo ++ xn ++ rest).toList.take (old ++ new).length) := by
    have : (xo ++ xn ++ rest).toList.take (old ++ new).length = xo.toList ++ xn.toList := by
      simp only [Array.toList_append, List.length_append, hlo, hln]
      rw [List.take_append_of_le_length (by simp), List.take_of_length_le (by simp)]
    rw [this]; exact SV.denL_append U r g L ho hn
  have e := ext_alloc (xs := xo ++ xn ++ rest) (hh.same hsame) hp e hd (by simp; omega) true
  refine h _ _ _ (e.of_same hsame) ?_
  simp only [SV.den]
  refine ⟨.inr ⟨Nat.le_refl _, by simp⟩, ?_, cap', ?_, ?_, ?_, by intro e he; cases he⟩
  · show (0 : Int) ≤ ((l + m : Nat) : Int); omega
  · show _ = Value.slice (some ⟨(g.put c.h.length w.heap.size _).a c.h.length, 0, none⟩) (((l + m : Nat) : Int)).toNat cap'
    rw [Int.toNat_natCast]; simp [Gh.put]
  · show (((l + m : Nat) : Int)).toNat ≤ cap'; omega
  · show 0 + cap' * n ≤ (g.put c.h.length w.heap.size (xo ++ xn ++ rest).size).n c.h.length
    have : cap' * n = l * n + m * n + (cap' - (l + m)) * n := by rw [← Nat.add_mul, ← Nat.add_mul]; congr 1; omega
    simp [Gh.put, hso, hsn, k2]; omega

theorem one_all {new : List SV} {xs : List Value} (ha : new.all SV.one = true) (hd : SV.denL U r g L new xs) : ∀ v ∈ xs, v.oneCell' = true := by
  intro v hv
  obtain ⟨i, hi, rfl⟩ := List.getElem_of_mem hv
  have hl := SV.denL_length U r g L hd
  obtain ⟨v, hv, hd'⟩ := SV.denL_get U r g L hd (i := i) (c := new[i]'(by omega)) (by simp)
  have : v = xs[i] := by rw [List.getElem?_eq_getElem hi] at hv; exact (Option.some.inj hv).symm
  subst this
  exact one_ok (List.all_eq_true.1 ha _ (List.getElem_mem _)) hd'

set_option maxHeartbeats 1000000 in
theorem appendX_ok {t0 t1 ty : TypeId} {x y : SV} {vx vy : Value} (hh : HeapDen U r g L c.h w) (hp : PcOk U r c.pc) (hx : x.den U r g L vx) (hy : y.den U r g L vy)
    (h : (appendX P c t0 t1 x y).sat U (Post U L r g c w K) r) : VOk P (Builtin.append_ #[t0, t1] ty #[vx, vy]) w K := by
  unfold appendX at h
  split at h
  · rename_i e d1 hu0 hu1
    split at h
    · rename_i ie hi
      split at h
      · rename_i z hz
        split at h
        · rename_i hc
          split at h
          · rename_i l old m new hsx hsy
            split at h
            · rename_i hsm
              have hs : AppSet P t0 t1 e ie.size ie z := ⟨hu0, ⟨d1, hu1, fun k hk => by rw [hk] at hc; exact absurd hc.1 (by simp [notIntD])⟩, hi, rfl, hz, hc.2.1, hc.2.2⟩
              obtain ⟨xo, ho, hso, hlo, hfo⟩ := srcCells_ok (P := P) hh hsx hx
              obtain ⟨xn, hn, hsn, hln, hfn⟩ := srcCells_ok (P := P) hh hsy hy
              unfold appendY at h
              split at h
              · simp only [SV.den] at hx
                subst hx
                have hl0 : l = 0 := by have := hlo w; cases this; rfl
                subst hl0
                split at h
                · exact h.elim
                · exact growX_ok hs hh hp hln hfn hfo (by omega) hsm ho hn hso hsn h
              · rename_i id off sz len cap
                split at h
                · rename_i hcc
                  obtain ⟨hsz, hll, hall⟩ := hcc
                  subst hsz
                  have hx' := hx
                  simp only [SV.den] at hx
                  obtain ⟨hl, h0, cp, rfl, h3, h4, h5⟩ := hx
                  simp only [toI_i] at h0 h3 hlo hfo ⊢
                  rw [hll] at h3 hlo hfo ⊢
                  split at h
                  · rename_i cpl
                    have hcp : cp = cpl.toNat := h5 _ rfl
                    split at h
                    · rename_i hfit
                      split at h
                      · rename_i b hb
                        split at h
                        · rename_i hbw
                          obtain ⟨xs, t', fz, e1, e2, e3, e4, e5⟩ := hh.blk id b hl hb
                          rw [e3 hbw.1] at e1
                          have hlen := SV.denL_length U r g L hn
                          simp only [Array.length_toList] at hlen
                          have hmul : (l + m) * ie.size = l * ie.size + m * ie.size := Nat.add_mul _ _ _
                          obtain ⟨w', hw, hr⟩ := append_run_fits (ty := ty) (b := g.a id) (o := off) (l := l) (m := m) (cap := cp) hs hln hfn (by omega) e1 hsn (by omega) (one_all hall hn)
                          refine ⟨_, w', hr, ?_⟩
                          have hpl := putL_length (xs := b.cs) (vs := new) (o := off + l * ie.size) (by omega)
                          refine h g _ w' (ext_store hh hp hl hb hbw.1 hw (by rw [putIn_size]; exact e2) (by rw [putIn_size, hpl]; exact e4) fun j s hs => ?_) ?_
                          · rw [putL_get (by omega)] at hs
                            rw [putIn_get _ _ _ _ (by simp; omega)]
                            simp only [Array.length_toList, ← hlen]
                            split at hs
                            · rename_i hj; rw [if_pos hj]; exact SV.denL_get U r g L hn hs
                            · rename_i hj; rw [if_neg hj]; exact e5 j s hs
                          · have hL : Lx L c.h (c.h.set id (some ⟨true, putL b.cs (off + l * ie.size) new, none⟩)) = L := by
                              funext k; apply propext; unfold Lx; simp
                              intro h1 h2; omega
                            show SV.den U r g (Lx L c.h (c.h.set id (some ⟨true, putL b.cs (off + l * ie.size) new, none⟩))) _ _
                            rw [hL]
                            simp only [SV.den]
                            refine ⟨hl, ?_, cp, ?_, ?_, h4, ?_⟩
                            · show (0 : Int) ≤ ((l + m : Nat) : Int); omega
                            · show _ = Value.slice _ (((l + m : Nat) : Int)).toNat _; rw [Int.toNat_natCast]
                            · show (((l + m : Nat) : Int)).toNat ≤ cp; omega
                            · intro e he; cases he; show cp = ((cpl.toNat : Nat) : Int).toNat; omega
                        · exact h.elim
                      · exact h.elim
                    · exact growX_ok hs hh hp hln hfn hfo (by omega) hsm ho hn hso hsn h
                  · split at h
                    · rename_i b hb
                      split at h
                      · rename_i hbw
                        obtain ⟨hbw, rfl⟩ := hbw
                        by_cases hfit : l + m ≤ cp
                        · obtain ⟨xs, t', fz, e1, e2, e3, e4, e5⟩ := hh.blk id b hl hb
                          rw [e3 hbw] at e1
                          have hlen := SV.denL_length U r g L hn
                          have hlen' := SV.denL_length U r g L ho
                          simp only [Array.length_toList] at hlen hlen'
                          have hmul : (l + m) * ie.size = l * ie.size + m * ie.size := Nat.add_mul _ _ _
                          have hcm : (l + m) * ie.size ≤ cp * ie.size := Nat.mul_le_mul_right _ hfit
                          obtain ⟨w', hw, hr⟩ := append_run_fits (ty := ty) (b := g.a id) (o := 0) (l := l) (m := m) (cap := cp) hs hln hfn hfit e1 hsn (by omega) (one_all hall hn)
                          refine ⟨_, w', hr, ?_⟩
                          refine h _ _ w' (ext_move hh hp hl hb hbw hw (by rw [putIn_size]; exact e2) (by rw [putIn_size]; simp; omega) fun j s hs => ?_) ?_
                          · rw [putIn_get _ _ _ _ (by simp; omega)]
                            simp only [Array.length_toList, Nat.zero_add]
                            by_cases hj : j < old.length
                            · rw [List.getElem?_append_left hj] at hs
                              rw [if_neg (by omega)]
                              obtain ⟨v, hv, hd⟩ := SV.denL_get U r g L ho hs
                              refine ⟨v, ?_, hd⟩
                              have hf := hfo w rfl
                              have hrun := run_loadCells_at (P := P) e1 0 (l * ie.size) 0 #[] (by omega)
                              simp only [Builtin.firstCells, loadCells] at hf
                              rw [hrun] at hf
                              cases hf
                              rw [Array.getElem?_toList] at hv
                              simp only [Array.empty_append, Array.getElem?_extract, Nat.zero_add] at hv
                              split at hv
                              · exact hv
                              · cases hv
                            · rw [List.getElem?_append_right (by omega)] at hs
                              obtain ⟨v, hv, hd⟩ := SV.denL_get U r g L hn hs
                              refine ⟨v, ?_, hd⟩
                              have hj2 : j - old.length < xn.toList.length := (List.getElem?_eq_some_iff.1 hv).1
                              simp only [Array.length_toList] at hj2
                              rw [if_pos (by omega)]
                              rw [show j - l * ie.size = j - old.length by omega]
                              exact hv
                          · simp only [SV.den]
                            refine ⟨.inr ⟨Nat.le_refl _, by simp⟩, ?_, cp, ?_, ?_, ?_, by intro e he; cases he⟩
                            · show (0 : Int) ≤ ((l + m : Nat) : Int); omega
                            · show _ = Value.slice (some ⟨(g.put c.h.length (g.a id) (g.n id)).a c.h.length, 0, none⟩) (((l + m : Nat) : Int)).toNat cp
                              rw [Int.toNat_natCast]; simp [Gh.put]
                            · show (((l + m : Nat) : Int)).toNat ≤ cp; omega
                            · show 0 + cp * ie.size ≤ (g.put c.h.length (g.a id) (g.n id)).n c.h.length
                              simp [Gh.put]; omega
                        · -- the old block is read no more
                          have hsame : Same w ({ w with drawn := w.drawn + 1 } : World) := ⟨rfl, rfl, rfl, rfl⟩
                          obtain ⟨cap', rest, k1, k2, k3⟩ := append_run_grow (ty := ty) hs hln hfn hfo hfit hsm
                          refine ⟨_, _, k3, ?_⟩
                          have hlen := SV.denL_length U r g L hn
                          have hlen' := SV.denL_length U r g L ho
                          simp only [Array.length_toList] at hlen hlen'
                          have hd : SV.denL U r g L (old ++ new) ((xo ++ xn ++ rest).toList.take (old ++ new).length) := by
                            have : (xo ++ xn ++ rest).toList.take (old ++ new).length = xo.toList ++ xn.toList := by
                              simp only [Array.toList_append, List.length_append, hlen, hlen']
                              rw [List.take_append_of_le_length (by simp), List.take_of_length_le (by simp)]
                            rw [this]; exact SV.denL_append U r g L ho hn
                          have ex := (ext_alloc (xs := xo ++ xn ++ rest) (hh.same hsame) hp e hd (by simp; omega) true).of_same hsame
                          have hid := hh.bnd id hl
                          have ex' : Ext U L r g c w r (g.put c.h.length w.heap.size (xo ++ xn ++ rest).size) { c with h := c.h.set id none ++ [some ⟨true, old ++ new, none⟩] } (({ w with drawn := w.drawn + 1 } : World).alloc (.cells (xo ++ xn ++ rest) e)) := by
                            have hLx : Lx L c.h (c.h.set id none ++ [some (⟨true, old ++ new, none⟩ : SB)]) = Lx L c.h (c.h ++ [some ⟨true, old ++ new, none⟩]) := by
                              funext k; unfold Lx; simp
                            have hget : ∀ {k : Nat} {b' : SB}, (c.h.set id none ++ [some (⟨true, old ++ new, none⟩ : SB)])[k]? = some (some b') → (c.h ++ [some (⟨true, old ++ new, none⟩ : SB)])[k]? = some (some b') := by
                              intro k b' hk
                              by_cases hkl : k < c.h.length
                              · rw [List.getElem?_append_left (by simpa using hkl)] at hk
                                rw [List.getElem?_append_left hkl]
                                by_cases hki : k = id
                                · subst hki; rw [List.getElem?_set_self hkl] at hk; cases hk
                                · rwa [List.getElem?_set_ne (Ne.symm hki)] at hk
                              · rw [List.getElem?_append_right (by simpa using hkl)] at hk
                                rw [List.getElem?_append_right (by omega)]
                                simpa using hk
                            refine ⟨ex.nv, ex.agr, by simp, fun k hk => ex.ga k (by simpa using hk), fun k hk => ex.go k (by simpa using hk), ?_, hp, ex.frm, ?_, fun k h1 h2 => ex.fresh k h1 (by simpa using h2)⟩
                            · have eh := ex.heap
                              show HeapDen U r _ (Lx L c.h (c.h.set id none ++ [some ⟨true, old ++ new, none⟩])) (c.h.set id none ++ [some ⟨true, old ++ new, none⟩]) _
                              rw [hLx]
                              exact ⟨fun k hk => by have := eh.bnd k hk; simpa using this, eh.lt, fun k b' hk hb' => eh.blk k b' hk (hget hb'), fun i j b1 b2 hi hj h1 hw1 h2 he => eh.inj i j b1 b2 hi hj (hget h1) hw1 (hget h2) he, fun k b' ks e hk hb' hr => eh.rows k b' ks e hk (hget hb') hr, fun k b' hb' hw' => eh.live k b' (hget hb') hw'⟩
                            · intro k b' hk hb' hw1
                              have hk : Lx L c.h (c.h.set id none ++ [some (⟨true, old ++ new, none⟩ : SB)]) k := hk
                              rw [hLx] at hk
                              exact ex.wrs k b' hk (hget hb') hw1
                          refine h _ _ _ ex' ?_
                          simp only [SV.den]
                          refine ⟨.inr ⟨Nat.le_refl _, by simp⟩, ?_, cap', ?_, ?_, ?_, by intro e he; cases he⟩
                          · show (0 : Int) ≤ ((l + m : Nat) : Int); omega
                          · show _ = Value.slice (some ⟨(g.put c.h.length w.heap.size _).a c.h.length, 0, none⟩) (((l + m : Nat) : Int)).toNat cap'
                            rw [Int.toNat_natCast]; simp [Gh.put]
                          · show (((l + m : Nat) : Int)).toNat ≤ cap'; omega
                          · show 0 + cap' * ie.size ≤ (g.put c.h.length w.heap.size (xo ++ xn ++ rest).size).n c.h.length
                            have : cap' * ie.size = l * ie.size + m * ie.size + (cap' - (l + m)) * ie.size := by rw [← Nat.add_mul, ← Nat.add_mul]; congr 1; omega
                            simp [Gh.put, hso, hsn, k2]; omega
                      · exact h.elim
                    · exact h.elim
                  · exact h.elim
                · exact h.elim
              · exact h.elim
            · exact h.elim
          · exact h.elim
        · exact h.elim
      · exact h.elim
    · exact h.elim
  · exact h.elim
end
end Go.Sx

/-
  Sx, part Ib: 'make' of a slice, 'copy', both at lengths that are told.
-/
namespace Go.Sx
open E (mk1 mk2 mkIte mk1_ev mk2_ev mkIte_ev)

section
variable {U : Nat → D → D} {L : Nat → Prop} {r : Nat → D} {g : Gh} {c : Cx} {w w' : World} {P : Program} {K : Value → World → Prop}

/-- 'make([]T, l, n)'. -/
def makeSliceX (P : Program) (c : Cx) (t : TypeId) (x y : SV) : Tree (SV × Cx) :=
  match P.underlying t, x, y with
  | some (.slice e), .int _ (.i l), .int _ (.i n) =>
    match P.info? e with
    | some ie =>
      if 0 ≤ l ∧ l ≤ n ∧ n ≤ 1048576 ∧ ie.bytes ≤ 1048576 then
        match (if n.toNat * ie.size = 0 then some #[] else (zeroT P e).map (·.cells)) with
        | some z =>
          match (if n.toNat * ie.size = 0 then some [] else (ofValue (.agg z)).cells?) with
          | some zs => .ret (.sl c.h.length 0 ie.size (.i l) (some (.i n)), { c with h := c.h ++ [some ⟨true, zerosS zs (n.toNat * ie.size), none⟩] })
          | none => .bad
        | none => .bad
      else .bad
    | none => .bad
  | _, _, _ => .bad

theorem makeSliceX_ok {t : TypeId} {x y : SV} {vx vy : Value} (hh : HeapDen U r g L c.h w) (hp : PcOk U r c.pc) (hx : x.den U r g L vx) (hy : y.den U r g L vy) (h : (makeSliceX P c t x y).sat U (Post U L r g c w K) r) :
    VOk P (Instr.makeSlice t vx vy) w K := by
  unfold makeSliceX at h
  split at h
  · rename_i e k l k' n hu
    simp only [SV.den] at hx hy
    subst hx hy
    rw [toI_i, toI_i]
    split at h
    · rename_i ie hi
      split at h
      · rename_i hc
        obtain ⟨h0, hln, hn, hb⟩ := hc
        split at h
        · rename_i z hz
          split at h
          · rename_i zs hzs
            have hzd : SV.denL U r g L zs z.toList := by
              split at hzs
              · rename_i h0; rw [if_pos h0] at hz; cases hzs; cases hz; simp [SV.denL]
              · exact (cells_ok (U := U) (L := L) (r := r) (g := g) hzs (ofValue_den (.agg z))).1
            have hyd := zerosS_den (U := U) (L := L) (r := r) (g := g) (n := n.toNat * ie.size) hzd
            have hs : szT P e = some ie.size := by unfold szT; rw [hi]; rfl
            have w1 : IntKind.i64.wrap l = l := by unfold IntKind.wrap; simp [IntKind.bits, IntKind.signed]; omega
            have w2 : IntKind.i64.wrap n = n := by unfold IntKind.wrap; simp [IntKind.bits, IntKind.signed]; omega
            have hbn : (ie.bytes : Int) * n ≤ 1099511627776 := by
              have h1 : (ie.bytes : Int) * n ≤ 1048576 * n := Int.mul_le_mul_of_nonneg_right (by omega) (by omega)
              omega
            have hrun : (Instr.makeSlice t (.int k l) (.int k' n)).run P w = .ok (.slice (some ⟨w.heap.size, 0, none⟩) l.toNat n.toNat) (w.alloc (.cells ((Array.range (n.toNat * ie.size)).map (z[· % z.size]!)) e)) := by
              have ha : ∀ (q : IntKind) (m : Int) (w : World), (asInt (.int q m)).run P w = .ok m w := fun _ _ _ => rfl
              unfold Instr.makeSlice
              simp only [Sem.run_bind, run_und hu, Result.andThen_ok, ha, run_info hi, w1, w2]
              rw [if_neg (by
                simp only [Bool.or_eq_true, decide_eq_true_eq, not_or]
                refine ⟨⟨⟨by omega, by omega⟩, by omega⟩, by omega⟩)]
              simp only [Sem.run_bind, run_askRoom, Result.andThen_ok, run_sizeOf_of hs]
              by_cases hz0 : n.toNat * ie.size = 0
              · rw [if_pos hz0] at hz; cases hz
                rw [if_pos hz0]
                simp [newRow]
              · rw [if_neg hz0] at hz
                rw [if_neg hz0]
                cases hzt : zeroT P e with
                | none => rw [hzt] at hz; cases hz
                | some z0 =>
                  rw [hzt] at hz
                  simp only [Option.map_some, Option.some.injEq] at hz
                  simp only [Sem.run_bind, run_zero_of hzt, Result.andThen_ok, Sem.run_pure]
                  rw [hz]
                  simp [newRow]
            refine ⟨_, _, hrun, ?_⟩
            have hlen : (zerosS zs (n.toNat * ie.size)).length = n.toNat * ie.size := by simp [zerosS]
            refine h _ _ _ (ext_alloc (xs := (Array.range (n.toNat * ie.size)).map (z[· % z.size]!)) hh hp e (by
              rw [hlen, List.take_of_length_le (by simp)]; exact hyd) (by rw [hlen]; simp) true) ?_
            simp only [SV.den]
            refine ⟨.inr ⟨Nat.le_refl _, by simp⟩, ?_, n.toNat, ?_, ?_, ?_, ?_⟩
            · rw [toI_i]; exact h0
            · show _ = Value.slice (some ⟨(g.put c.h.length w.heap.size _).a c.h.length, 0, none⟩) l.toNat n.toNat
              simp [Gh.put]
            · rw [toI_i]; omega
            · show 0 + n.toNat * ie.size ≤ (g.put c.h.length w.heap.size _).n c.h.length
              simp [Gh.put]
            · intro e he; cases he; rfl
          · exact h.elim
        · exact h.elim
      · exact h.elim
    · exact h.elim
  · exact h.elim

/-- How many elements a source has. -/
def lenS : SV → Option Nat
  | .sl _ _ _ (.i m) _ => some m.toNat
  | .con (.slice none 0 0) => some 0
  | .str (.s bs) => some bs.length
  | _ => none

theorem lenS_ok {x : SV} {vx : Value} {m : Nat} (h : lenS x = some m) (hx : x.den U r g L vx) (w : World) : (Builtin.lenOf vx).run P w = .ok m w := by
  unfold lenS at h
  split at h
  · rename_i id off sz mm cap
    cases h
    simp only [SV.den] at hx
    obtain ⟨_, _, cp, rfl, _⟩ := hx
    rfl
  · cases h
    simp only [SV.den] at hx
    subst hx; rfl
  · rename_i bs
    cases h
    simp only [SV.den] at hx
    subst hx
    show Result.ok (ByteArray.size ⟨bs.toArray⟩) _ = _; simp [ByteArray.size]
  · cases h

/-- The first elements' cells. -/
def takeS (h : SH) (n m : Nat) : SV → Option (List SV)
  | .sl id off _ (.i l) _ =>
    match h[id]? with
    | some (some b) => if m ≤ l.toNat ∧ off + m * n ≤ b.cs.length then some (cut b.cs off (m * n)) else none
    | _ => none
  | .con (.slice none 0 0) => if m = 0 then some [] else none
  | .str (.s bs) => if n = 1 then some ((bs.take m).map fun b => .int .u8 (.i b.toNat)) else none
  | _ => none

theorem takeS_ok {n m : Nat} {cs : List SV} {x : SV} {vx : Value} (hh : HeapDen U r g L c.h w) (h : takeS c.h n m x = some cs) (hx : x.den U r g L vx) :
    ∃ xs : Array Value, SV.denL U r g L cs xs.toList ∧ (Builtin.firstCells n m vx).run P w = .ok xs w := by
  unfold takeS at h
  split at h
  · rename_i id off sz l cap
    split at h
    · rename_i b hb
      split at h
      · rename_i hle
        cases h
        simp only [SV.den] at hx
        obtain ⟨hl, h0, cp, rfl, h3, h4, h5⟩ := hx
        obtain ⟨xs, t', fz, e1, e2, e3, e4, e5⟩ := hh.blk id b hl hb
        refine ⟨xs.extract off (off + m * n), ?_, ?_⟩
        · refine SV.denL_of U r g L (by unfold cut; simp; omega) fun i s v h1 h2 => ?_
          unfold cut at h1
          rw [List.getElem?_take] at h1
          split at h1
          · rename_i hi
            rw [List.getElem?_drop] at h1
            obtain ⟨v', hv', hd'⟩ := e5 _ _ h1
            have : v = v' := by
              simp only [Array.toList_extract, List.extract_eq_take_drop, List.getElem?_take, List.getElem?_drop] at h2
              rw [if_pos (by omega), Array.getElem?_toList, hv'] at h2
              exact (Option.some.inj h2).symm
            subst this; exact hd'
          · cases h1
        · have := run_loadCells_at (P := P) e1 off (m * n) 0 #[] (by omega)
          simp only [Builtin.firstCells, loadCells]
          rw [this]; simp
      · cases h
    · cases h
  · split at h
    · cases h
      simp only [SV.den] at hx
      subst hx
      exact ⟨#[], by simp [SV.denL], rfl⟩
    · cases h
  · rename_i bs
    split at h
    · rename_i hn
      cases h
      subst hn
      simp only [SV.den] at hx
      subst hx
      refine ⟨(bs.take m).toArray.map fun b => .int .u8 b.toNat, ?_, ?_⟩
      · refine SV.denL_of U r g L (by simp) fun i s v h1 h2 => ?_
        simp only [List.getElem?_map, Array.toList_map] at h1 h2
        cases hb : (bs.take m)[i]? with
        | none => rw [hb] at h1; cases h1
        | some b => rw [hb] at h1 h2; cases h1; cases h2; rfl
      · show Result.ok _ _ = _
        congr 1
        have e : (ByteArray.extract ⟨bs.toArray⟩ 0 m) = ⟨(bs.take m).toArray⟩ := by
          apply ByteArray.ext; rw [ByteArray.data_extract]; simp
        have e' : (E.ev U r (.s bs)).toS = ⟨bs.toArray⟩ := rfl
        rw [e', e]
    · cases h
  · cases h

/-- 'copy(x, y)'. -/
def copyX (P : Program) (c : Cx) (t : TypeId) (x y : SV) : Tree (SV × Cx) :=
  match P.underlying t, x with
  | some (.slice e), .sl id off _ (.i l) _ =>
    match szT P e, lenS y, c.h[id]? with
    | some n, some m, some (some b) =>
      match takeS c.h n (Nat.min m l.toNat) y with
      | some cs => if b.wr = true ∧ cs.all SV.one = true ∧ off + cs.length ≤ b.cs.length then .ret (.int .i64 (.i (Nat.min m l.toNat : Nat)), { c with h := c.h.set id (some ⟨true, putL b.cs off cs, none⟩) }) else .bad
      | none => .bad
    | _, _, _ => .bad
  | _, _ => .bad

theorem copyX_ok {t0 t1 ty : TypeId} {x y : SV} {vx vy : Value} (hh : HeapDen U r g L c.h w) (hp : PcOk U r c.pc) (hx : x.den U r g L vx) (hy : y.den U r g L vy) (h : (copyX P c t0 x y).sat U (Post U L r g c w K) r) :
    VOk P (Builtin.copy_ #[t0, t1] ty #[vx, vy]) w K := by
  unfold copyX at h
  split at h
  · rename_i e id off sz l cap hu
    simp only [SV.den] at hx
    obtain ⟨hl, h0, cp, rfl, h3, h4, h5⟩ := hx
    rw [toI_i] at *
    split at h
    · rename_i n m b hs hm hb
      split at h
      · rename_i cs hcs
        split at h
        · rename_i hc
          obtain ⟨hwr, hone, hle⟩ := hc
          obtain ⟨xs, t', fz, e1, e2, e3, e4, e5⟩ := hh.blk id b hl hb
          obtain ⟨ys, hd, hrun⟩ := takeS_ok (P := P) hh hcs hy
          have hlen := SV.denL_length U r g L hd
          rw [e3 hwr] at e1
          obtain ⟨w', hr, hw⟩ := run_storeCells_at (P := P) (b := g.a id) (o := off) ys.toList 0 xs w e1 (by rw [← hlen]; omega) (one_all hone hd)
          have g0 : (#[t0, t1] : Array TypeId)[0]? = some t0 := rfl
          have g1 : (#[Value.slice (some ⟨g.a id, off, none⟩) l.toNat cp, vy] : Array Value)[0]? = some (Value.slice (some ⟨g.a id, off, none⟩) l.toNat cp) := rfl
          have g2 : (#[Value.slice (some ⟨g.a id, off, none⟩) l.toNat cp, vy] : Array Value)[1]? = some vy := rfl
          refine ⟨goInt (Nat.min m l.toNat), w', ?_, ?_⟩
          · unfold Builtin.copy_
            simp only [g0, g1, g2, Sem.run_bind, run_und hu, Result.andThen_ok, lenS_ok (P := P) hm hy, run_sizeOf_of hs, hrun]
            rw [hr]
            rfl
          · have hpl := putL_length (xs := b.cs) (vs := cs) (o := off) hle
            refine h g _ w' (ext_store hh hp hl hb hwr hw (by rw [putIn_size]; exact e2) (by rw [putIn_size, hpl]; exact e4) fun j s hs => ?_) rfl
            rw [putL_get hle] at hs
            rw [putIn_get _ _ _ _ (by rw [← hlen]; omega), ← hlen]
            split at hs
            · rename_i hj; rw [if_pos (by omega)]; exact SV.denL_get U r g L hd hs
            · rename_i hj; rw [if_neg (by omega)]; exact e5 j s hs
        · exact h.elim
      · exact h.elim
    · exact h.elim
  · exact h.elim

/-! ### 'string(b)' -/

def textE : List SV → Option E
  | [] => some (.s [])
  | .int .u8 e :: l => (textE l).map fun y => mk2 .scat (mk1 .byte e) y
  | .con (.int .u8 n) :: l => (textE l).map fun y => mk2 .scat (mk1 .byte (.i n)) y
  | _ => none

theorem textE_ok : ∀ {cs : List SV} {e : E} {vs : List Value}, textE cs = some e → SV.denL U r g L cs vs → ∃ ns : List Int, vs = ns.map (Value.int .u8) ∧
    ∀ s : ByteArray, ns.foldl (fun b n => b.push (UInt8.ofNat n.toNat)) s = s ++ (e.ev U r).toS := by
  intro cs
  induction cs with
  | nil =>
    intro e vs h hd
    simp only [textE, Option.some.injEq] at h
    subst h
    cases vs with
    | nil => exact ⟨[], rfl, fun s => by simp [E.ev, D.toS]; exact (ByteArray.append_empty).symm⟩
    | cons a b => simp [SV.denL] at hd
  | cons x cs ih =>
    intro e vs h hd
    cases vs with
    | nil => simp [SV.denL] at hd
    | cons v vs =>
      simp only [SV.denL] at hd
      have step : ∀ (n : E), v = .int .u8 (n.ev U r).toI → ∀ y, textE cs = some y → e = mk2 .scat (mk1 .byte n) y → ∃ ns : List Int, v :: vs = ns.map (Value.int .u8) ∧
          ∀ s : ByteArray, ns.foldl (fun b n => b.push (UInt8.ofNat n.toNat)) s = s ++ (e.ev U r).toS := by
        intro n hv y hy he
        obtain ⟨ns, h1, h2⟩ := ih hy hd.2
        refine ⟨(n.ev U r).toI :: ns, by rw [hv, h1]; rfl, fun s => ?_⟩
        rw [List.foldl_cons, h2, he, mk2_ev, mk1_ev]
        simp only [O1.ev, O2.ev, D.toS_s]
        rw [← ByteArray.append_assoc]
        congr 1
        apply ByteArray.ext
        simp [ByteArray.data_append, ByteArray.data_push]
      cases x with
      | int k n =>
        cases k <;> simp only [textE] at h <;> first | cases h | skip
        simp only [Option.map_eq_some_iff] at h
        obtain ⟨y, hy, rfl⟩ := h
        exact step n (by simpa only [SV.den] using hd.1) y hy rfl
      | con u =>
        cases u with
        | int k n =>
          cases k <;> simp only [textE] at h <;> first | cases h | skip
          simp only [Option.map_eq_some_iff] at h
          obtain ⟨y, hy, rfl⟩ := h
          exact step (.i n) (by simpa only [SV.den, E.ev, D.toI] using hd.1) y hy rfl
        | _ => simp [textE] at h
      | _ => simp [textE] at h

def bytesX (P : Program) (c : Cx) (s t : TypeId) (x : SV) : Tree (SV × Cx) :=
  match P.underlying s, P.underlying t, x with
  | some (.slice e), some .string, .sl id off _ (.i n) _ =>
    match P.underlying e, c.h[id]? with
    | some (.int .u8), some (some b) =>
      if off + n.toNat ≤ b.cs.length then
        match textE (cut b.cs off n.toNat) with
        | some e => .ret (.str e, c)
        | none => .bad
      else .bad
    | _, _ => .bad
  | some (.slice e), some .string, .con (.slice none 0 0) =>
    match P.underlying e with
    | some (.int .u8) => .ret (.str (.s []), c)
    | _ => .bad
  | _, _, _ => .bad

theorem bytesX_ok {s t : TypeId} {x : SV} {vx : Value} (hh : HeapDen U r g L c.h w) (hp : PcOk U r c.pc) (hx : x.den U r g L vx) (h : (bytesX P c s t x).sat U (Post U L r g c w K) r) : VOk P (convert s t vx) w K := by
  unfold bytesX at h
  split at h
  · rename_i e id off sz n cap hs ht
    simp only [SV.den] at hx
    obtain ⟨hl, h0, cp, rfl, h3, h4, h5⟩ := hx
    rw [toI_i] at *
    split at h
    · rename_i b he hb
      split at h
      · rename_i hle
        split at h
        · rename_i y hy
          obtain ⟨xs, t', fz, e1, e2, e3, e4, e5⟩ := hh.blk id b hl hb
          have hcut : SV.denL U r g L (cut b.cs off n.toNat) (xs.extract off (off + n.toNat)).toList := by
            refine SV.denL_of U r g L (by unfold cut; simp; omega) fun i s v h1 h2 => ?_
            unfold cut at h1
            rw [List.getElem?_take] at h1
            split at h1
            · rename_i hi
              rw [List.getElem?_drop] at h1
              obtain ⟨v', hv', hd'⟩ := e5 _ _ h1
              have : v = v' := by
                simp only [Array.toList_extract, List.extract_eq_take_drop, List.getElem?_take, List.getElem?_drop] at h2
                rw [if_pos (by omega), Array.getElem?_toList, hv'] at h2
                exact (Option.some.inj h2).symm
              subst this; exact hd'
            · cases h1
          obtain ⟨ns, hns, hfold⟩ := textE_ok hy hcut
          have hload : (loadCells ⟨g.a id, off, none⟩ n.toNat).run P w = .ok (ns.map (Value.int .u8)).toArray w := by
            have := run_loadCells_at (P := P) e1 off n.toNat 0 #[] (by omega)
            have h9 : xs.extract off (off + n.toNat) = (ns.map (Value.int .u8)).toArray := by rw [← hns]
            unfold loadCells
            rw [this, ← h9]; simp
          refine ⟨_, w, by rw [run_convert_bytes_string w s t e _ _ _ hs he ht, run_bytesToString w _ _ _ ns hload], Post.same h hh hp (Same.refl w) ?_⟩
          simp only [SV.den]
          rw [hfold]
          exact congrArg Value.string ByteArray.empty_append
        · exact h.elim
      · exact h.elim
    · exact h.elim
  · rename_i e hs ht
    simp only [SV.den] at hx
    subst hx
    split at h
    · rename_i he
      refine ⟨.string .empty, w, by rw [run_convert_bytes_string w s t e _ _ _ hs he ht]; rfl, Post.same h hh hp (Same.refl w) ?_⟩
      simp only [SV.den]; rfl
    · exact h.elim
  · exact h.elim

def isSl : SV → Bool
  | .sl _ _ _ _ _ => true
  | .con (.slice _ _ _) => true
  | _ => false

def convXX (P : Program) (c : Cx) (s t : TypeId) (x : SV) : Tree (SV × Cx) := if isSl x then bytesX P c s t x else convX P c s t x

theorem convXX_ok {s t : TypeId} {x : SV} {vx : Value} (hh : HeapDen U r g L c.h w) (hp : PcOk U r c.pc) (hx : x.den U r g L vx) (h : (convXX P c s t x).sat U (Post U L r g c w K) r) : VOk P (convert s t vx) w K := by
  unfold convXX at h
  split at h
  · exact bytesX_ok hh hp hx h
  · exact convX_ok hh hp hx h
end
end Go.Sx

/-
  Sx, part Ja: rows of any length: reading and writing elements, lengths.
-/
namespace Go.Sx
open E (mk1 mk2 mkIte mk1_ev mk2_ev mkIte_ev)

def skSV : Sk → E → SV
  | .b, e => .bool e
  | .i k, e => .int k e
  | .f k, e => .flt k e
  | .s, e => .str e
  | .byte, e => .int .u8 (.o1 (.wrap .u8) e)

section
variable {U : Nat → D → D} {L : Nat → Prop} {r : Nat → D} {g : Gh} {c : Cx} {w w' : World} {P : Program} {K : Value → World → Prop}

theorem skSV_iff {k : Sk} {e : E} {v : Value} : (skSV k e).den U r g L v ↔ k.den (e.ev U r) v := by
  cases k <;> simp only [skSV, SV.den, Sk.den, E.ev, O1.ev, D.toI_i]

/-- Is it known to be true? -/
def sure (e : E) (pc : List (E × Bool)) : Bool := match known e pc with
  | some x => x
  | none => false

theorem sure_ok {e : E} {pc : List (E × Bool)} (hp : PcOk U r pc) (h : sure e pc = true) : (e.ev U r).toB = true := by
  unfold sure at h
  split at h
  · rename_i x hx; rw [known_ok hp hx]; exact h
  · cases h

/-- A field of an element of a row: behind what has been put in. -/
def selF (pc : List (E × Bool)) (i : E) (f : Nat) : E → E
  | .o3 .upd a j x =>
    if i.same j && (sure (mk2 .ile (.i 0) i) pc && sure (mk2 .ilt i (mk1 .llen a)) pc) then mk2 .sel x (.i f)
    else if sure (mk2 .ile (.i 0) i) pc && (sure (mk2 .ile (.i 0) j) pc && sure (mk1 .not (mk2 .ieq i j)) pc) then selF pc i f a
    else mk2 .sel (mk2 .sel (.o3 .upd a j x) i) (.i f)
  | a => mk2 .sel (mk2 .sel a i) (.i f)

theorem selF_ev {pc : List (E × Bool)} (hp : PcOk U r pc) (i : E) (f : Nat) : ∀ a : E, (selF pc i f a).ev U r = ((a.ev U r).at_ (i.ev U r).toI.toNat).at_ f := by
  have plain : ∀ a : E, (mk2 .sel (mk2 .sel a i) (.i f)).ev U r = ((a.ev U r).at_ (i.ev U r).toI.toNat).at_ f := fun a => by
    rw [mk2_ev, mk2_ev]; rfl
  intro a
  induction a with
  | o3 o a j x iha _ _ =>
    cases o with
    | upd =>
      unfold selF
      split
      · rename_i h
        rw [Bool.and_eq_true, Bool.and_eq_true] at h
        obtain ⟨h1, h2, h3⟩ := h
        have e1 := E.same_eq h1
        subst e1
        have h2 := sure_ok hp h2
        have h3 := sure_ok hp h3
        rw [mk2_ev] at h2 h3
        rw [mk1_ev] at h3
        have h2 : (0 : Int) ≤ (i.ev U r).toI := of_decide_eq_true h2
        have h3 : (i.ev U r).toI < ((a.ev U r).toL.length : Int) := of_decide_eq_true h3
        rw [mk2_ev]
        simp only [O2.ev, E.ev, O3.ev, D.toI_i]
        show (x.ev U r).at_ f = _
        congr 1
        unfold D.at_
        rw [D.toL_l, List.getD_eq_getElem?_getD, List.getElem?_set_self (by omega)]; rfl
      · split
        · rename_i h
          rw [Bool.and_eq_true, Bool.and_eq_true] at h
          obtain ⟨h1, h2, h3⟩ := h
          have h1 := sure_ok hp h1
          have h2 := sure_ok hp h2
          have h3 := sure_ok hp h3
          rw [mk2_ev] at h1 h2
          rw [mk1_ev, mk2_ev] at h3
          have h1 : (0 : Int) ≤ (i.ev U r).toI := of_decide_eq_true h1
          have h2 : (0 : Int) ≤ (j.ev U r).toI := of_decide_eq_true h2
          have h3 : (i.ev U r).toI ≠ (j.ev U r).toI := by
            intro e
            simp only [O1.ev, O2.ev, D.toB_b, e, beq_self_eq_true, Bool.not_true] at h3
            cases h3
          rw [iha]
          congr 1
          simp only [E.ev, O3.ev]
          unfold D.at_
          rw [D.toL_l, List.getD_eq_getElem?_getD, List.getD_eq_getElem?_getD, List.getElem?_set_ne (by omega)]
        · exact plain _
    | _ => exact plain _
  | _ => exact plain _

/-- Some fields of an element. -/
def fieldsE (pc : List (E × Bool)) (a i : E) : Nat → List Sk → List SV
  | _, [] => []
  | f, k :: l => skSV k (selF pc i f a) :: fieldsE pc a i (f + 1) l

theorem fieldsE_length (pc : List (E × Bool)) (a i : E) : ∀ (l : List Sk) (f : Nat), (fieldsE pc a i f l).length = l.length := by
  intro l
  induction l with
  | nil => intro f; rfl
  | cons k l ih => intro f; simp [fieldsE, ih]

theorem fieldsE_get (pc : List (E × Bool)) (a i : E) : ∀ (l : List Sk) (f j : Nat) (s : SV), (fieldsE pc a i f l)[j]? = some s → ∃ k, l[j]? = some k ∧ s = skSV k (selF pc i (f + j) a) := by
  intro l
  induction l with
  | nil => intro f j s h; simp [fieldsE] at h
  | cons k l ih =>
    intro f j s h
    cases j with
    | zero => simp [fieldsE] at h; exact ⟨k, by simp, h.symm⟩
    | succ j =>
      simp only [fieldsE, List.getElem?_cons_succ] at h
      obtain ⟨k', h1, h2⟩ := ih (f + 1) j s h
      exact ⟨k', by simpa using h1, by rw [h2]; congr 2; omega⟩

/-- The row that a pointer into one goes into, its index surely within. -/
def rowAt (c : Cx) (id sz : Nat) (i : E) : Option (Bool × List Sk × E) :=
  match c.h[id]? with
  | some (some b) =>
    match b.row with
    | some (ks, a) => if ks.length = sz ∧ sure (mk2 .ilt i (mk1 .llen a)) c.pc = true then some (b.wr, ks, a) else none
    | none => none
  | _ => none

theorem rowAt_ok {id sz : Nat} {i : E} {wr : Bool} {ks : List Sk} {a : E} (hh : HeapDen U r g L c.h w) (hp : PcOk U r c.pc) (hl : L id) (h0 : 0 ≤ (i.ev U r).toI) (h : rowAt c id sz i = some (wr, ks, a)) :
    ks.length = sz ∧ ∃ b, c.h[id]? = some (some b) ∧ b.wr = wr ∧ b.row = some (ks, a) ∧ (i.ev U r).toI.toNat < (a.ev U r).toL.length ∧
      ∃ xs t fz, w.heap[g.a id]? = some (.cells xs t fz) ∧ xs.size = g.n id ∧ (wr = true → fz = (0, 0)) ∧ RowDen ks (a.ev U r).toL (g.o id) xs := by
  unfold rowAt at h
  split at h
  · rename_i b hb
    split at h
    · rename_i ks' a' hr
      split at h
      · rename_i hc
        cases h
        have h1 := sure_ok hp hc.2
        rw [mk2_ev, mk1_ev] at h1
        have h1 : (i.ev U r).toI < ((a.ev U r).toL.length : Int) := of_decide_eq_true h1
        obtain ⟨xs, t, fz, e1, e2, e3, e4, e5⟩ := hh.blk id b hl hb
        obtain ⟨ys, t', fz', k1, k2⟩ := hh.rows id b ks a hl hb hr
        rw [e1] at k1
        cases k1
        exact ⟨hc.1, b, hb, rfl, hr, by omega, xs, t, fz, e1, e2, e3, k2⟩
      · cases h
    · cases h
  · cases h

theorem RowDen.cell {ks : List Sk} {ds : List D} {o : Nat} {xs : Array Value} (h : RowDen ks ds o xs) {i f : Nat} {k : Sk} (hi : i < ds.length) (hk : ks[f]? = some k) :
    ∃ v, xs[o + (i * ks.length + f)]? = some v ∧ k.den ((D.at_ (.l ds) i).at_ f) v := by
  have := (h i ds[i] (List.getElem?_eq_getElem hi)).2 f k hk
  unfold D.at_ at this ⊢
  rw [D.toL_l, List.getD_eq_getElem?_getD (l := ds), List.getElem?_eq_getElem hi]
  exact this

theorem at_toL (d : D) (i : Nat) : D.at_ (.l d.toL) i = d.at_ i := rfl

def loadI (P : Program) (c : Cx) (t : TypeId) (id sz : Nat) (i : E) (f : Nat) : Option SV :=
  match rowAt c id sz i with
  | some (_, ks, a) =>
    match aggT P t with
    | some true =>
      match szT P t with
      | some n => if 0 < n ∧ f + n ≤ sz then some (.agg (fieldsE c.pc a i f ((ks.drop f).take n))) else none
      | none => none
    | some false => match ks[f]? with
      | some k => some (skSV k (selF c.pc i f a))
      | none => none
    | none => none
  | none => none

theorem loadI_ok {t : TypeId} {id sz f : Nat} {i : E} {s : SV} {vx : Value} (hh : HeapDen U r g L c.h w) (hp : PcOk U r c.pc) (hx : (SV.ptrI id sz i f).den U r g L vx) (h : loadI P c t id sz i f = some s) :
    ∃ ad v, vx = .pointer (some ad) ∧ (loadVar t ad).run P w = .ok v w ∧ s.den U r g L v := by
  simp only [SV.den] at hx
  obtain ⟨hl, h0, rfl⟩ := hx
  unfold loadI at h
  split at h
  · rename_i wr ks a hra
    obtain ⟨hks, b, hb, _, hr, hlt, xs, tt, fz, e1, e2, e3, hrow⟩ := rowAt_ok hh hp hl h0 hra
    have hcell : ∀ {f' : Nat} {k : Sk}, ks[f']? = some k → ∃ v, xs[g.o id + ((i.ev U r).toI.toNat * sz + f')]? = some v ∧ (skSV k (selF c.pc i f' a)).den U r g L v := by
      intro f' k hk
      obtain ⟨v, hv, hd⟩ := hrow.cell hlt hk
      rw [hks] at hv
      rw [at_toL] at hd
      exact ⟨v, hv, skSV_iff.2 (by rw [selF_ev hp]; exact hd)⟩
    split at h
    · rename_i ha
      split at h
      · rename_i n hs
        split at h
        · rename_i hle
          cases h
          have hlast : ∃ k, ks[f + (n - 1)]? = some k := ⟨ks[f + (n - 1)]'(by omega), List.getElem?_eq_getElem (by omega)⟩
          obtain ⟨kl, hkl⟩ := hlast
          obtain ⟨vl, hvl, _⟩ := hcell hkl
          have hsz : g.o id + ((i.ev U r).toI.toNat * sz + f) + n ≤ xs.size := by
            have := (Array.getElem?_eq_some_iff.1 hvl).1; omega
          refine ⟨_, .agg (xs.extract (g.o id + ((i.ev U r).toI.toNat * sz + f)) (g.o id + ((i.ev U r).toI.toNat * sz + f) + n)), rfl, run_loadVar_agg e1 ha hs hsz, _, rfl, ?_⟩
          refine SV.denL_of U r g L (by rw [fieldsE_length]; simp; omega) fun j s v h1 h2 => ?_
          obtain ⟨k, hk, rfl⟩ := fieldsE_get _ _ _ _ _ _ _ h1
          rw [List.getElem?_take] at hk
          split at hk
          · rename_i hj
            rw [List.getElem?_drop] at hk
            obtain ⟨v', hv', hd⟩ := hcell hk
            have : v = v' := by
              simp only [Array.toList_extract, List.extract_eq_take_drop, List.getElem?_take, List.getElem?_drop] at h2
              rw [if_pos (by omega), Array.getElem?_toList] at h2
              have e : g.o id + ((i.ev U r).toI.toNat * sz + f) + j = g.o id + ((i.ev U r).toI.toNat * sz + (f + j)) := by omega
              rw [e, hv'] at h2
              exact (Option.some.inj h2).symm
            subst this; exact hd
          · cases hk
        · cases h
      · cases h
    · rename_i ha
      split at h
      · rename_i k hk
        cases h
        obtain ⟨v, hv, hd⟩ := hcell hk
        exact ⟨_, v, rfl, run_loadVar_one e1 ha hv, hd⟩
      · cases h
    · cases h
  · cases h

def loadY (P : Program) (c : Cx) (t : TypeId) (x : SV) : Tree (SV × Cx) :=
  match x with
  | .ptrI id sz i f => match loadI P c t id sz i f with
    | some s => .ret (s, c)
    | none => .bad
  | x => loadX P c t x

theorem loadY_ok {t : TypeId} {x : SV} {vx : Value} (hh : HeapDen U r g L c.h w) (hp : PcOk U r c.pc) (hx : x.den U r g L vx) (h : (loadY P c t x).sat U (Post U L r g c w K) r) : VOk P (Instr.loadAt t vx) w K := by
  unfold loadY at h
  split at h
  · split at h
    · rename_i s hs
      obtain ⟨ad, v, rfl, h1, h2⟩ := loadI_ok hh hp hx hs
      refine ⟨v, w, ?_, Post.same h hh hp (Same.refl w) h2⟩
      simp only [Instr.loadAt, Instr.sureAddr, Sem.run_bind, Sem.run_pure, Result.andThen_ok]
      exact h1
    · exact h.elim
  · exact loadX_ok hh hp hx h

/-! ### Writing -/

/-- The words of plain cells. -/
def wordsOf : List Sk → List SV → Option (List E)
  | [], [] => some []
  | k :: l, s :: m => match (match k, s with
      | .b, .bool e => some e
      | .i q, .int q' e => if q = q' then some e else none
      | .f q, .flt q' e => if q = q' then some e else none
      | .s, .str e => some e
      | .byte, .int .u8 (.o1 (.wrap .u8) e) => some e
      | _, _ => none), wordsOf l m with
    | some e, some es => some (e :: es)
    | _, _ => none
  | _, _ => none

theorem wordsOf_ok : ∀ {ks : List Sk} {cs : List SV} {es : List E}, wordsOf ks cs = some es → es.length = ks.length ∧ cs.length = ks.length ∧ ∀ (j : Nat) (k : Sk) (s : SV) (e : E), ks[j]? = some k → cs[j]? = some s → es[j]? = some e → s = skSV k e := by
  intro ks
  induction ks with
  | nil =>
    intro cs es h
    cases cs with
    | nil => simp [wordsOf] at h; subst h; simp
    | cons a b => simp [wordsOf] at h
  | cons k ks ih =>
    intro cs es h
    cases cs with
    | nil => simp [wordsOf] at h
    | cons s cs =>
      unfold wordsOf at h
      split at h
      · rename_i e es' h1 h2
        cases h
        obtain ⟨k1, k2, k3⟩ := ih h2
        refine ⟨by simp [k1], by simp [k2], fun j k' s' e' g1 g2 g3 => ?_⟩
        cases j with
        | zero =>
          simp at g1 g2 g3
          subst g1 g2 g3
          split at h1 <;> first | (cases h1; rfl) | (split at h1 <;> first | (rename_i hq; subst hq; cases h1; rfl) | cases h1) | cases h1
        | succ j => exact k3 j k' s' e' (by simpa using g1) (by simpa using g2) (by simpa using g3)
      · cases h

/-- An element out of its fields' words. -/
def elemE (es : List E) : E := es.foldl (fun a e => .o2 .lpush a e) (.o2 .lrep (.i 0) (.b false))

theorem foldl_push_ev (es : List E) : ∀ a : E, ((es.foldl (fun a e => .o2 .lpush a e) a).ev U r).toL = (a.ev U r).toL ++ es.map fun e => e.ev U r := by
  induction es with
  | nil => intro a; simp
  | cons e es ih => intro a; simp only [List.foldl_cons, ih, E.ev, O2.ev, D.toL_l, List.map_cons, List.append_assoc, List.singleton_append]

theorem elemE_at (es : List E) {f : Nat} {e : E} (h : es[f]? = some e) : ((elemE es).ev U r).at_ f = e.ev U r := by
  unfold elemE D.at_
  rw [foldl_push_ev]
  have : (E.ev U r (.o2 .lrep (.i 0) (.b false))).toL = [] := rfl
  rw [this, List.nil_append, List.getD_eq_getElem?_getD, List.getElem?_map, h]; rfl

/-- An element put in. -/
def updE (a i x : E) : E :=
  match a with
  | .o3 .upd b j y => if i.same j then .o3 .upd b i x else .o3 .upd (.o3 .upd b j y) i x
  | a => match E.listE a, i with
    | some l, .i (.ofNat n) => if n < l.length then elemE (l.set n x) else .o3 .upd a i x
    | _, _ => .o3 .upd a i x

theorem elemE_ev (es : List E) : (elemE es).ev U r = .l (es.map fun e => e.ev U r) := by
  have h := foldl_push_ev (U := U) (r := r) es (.o2 .lrep (.i 0) (.b false))
  have h0 : (E.ev U r (.o2 .lrep (.i 0) (.b false))).toL = [] := rfl
  rw [h0, List.nil_append] at h
  unfold elemE
  have hl : ∀ (es : List E) (a : E), (∃ xs, a.ev U r = .l xs) → ∃ xs, (es.foldl (fun a e => E.o2 .lpush a e) a).ev U r = .l xs := by
    intro es
    induction es with
    | nil => intro a h; exact h
    | cons e es ih => intro a _; exact ih _ ⟨_, rfl⟩
  obtain ⟨xs, hx⟩ := hl es (.o2 .lrep (.i 0) (.b false)) ⟨[], rfl⟩
  rw [hx] at h ⊢
  rw [← h]; rfl

theorem updE_ev (a i x : E) : (updE a i x).ev U r = .l ((a.ev U r).toL.set (i.ev U r).toI.toNat (x.ev U r)) := by
  unfold updE
  split
  · rename_i b j y
    split
    · rename_i hs
      rw [E.same_eq hs]
      simp only [E.ev, O3.ev, D.toL_l, List.set_set]
    · rfl
  · split
    · rename_i l n hl
      split
      · rename_i hn
        rw [elemE_ev, E.listE_ev U r hl]
        simp only [D.toL_l, List.map_set]
        rfl
      · rfl
    · rfl

/-- All words of an element, some of them new. -/
def mixE (pc : List (E × Bool)) (a i : E) (f : Nat) (es : List E) (sz : Nat) : List E :=
  (List.range sz).map fun j => if j < f then selF pc i j a else (es[j - f]?).getD (selF pc i j a)

def storeI (P : Program) (c : Cx) (t : TypeId) (id sz : Nat) (i : E) (f : Nat) (y : SV) : Tree (SV × Cx) :=
  match rowAt c id sz i, y.cells?, szT P t with
  | some (true, ks, a), some cs, some n =>
    if cs.length = n ∧ f + n ≤ sz then
      match wordsOf ((ks.drop f).take n) cs with
      | some es => .ret (.any, { c with h := c.h.set id (some ⟨true, [], some (ks, updE a i (elemE (mixE c.pc a i f es sz)))⟩) })
      | none => .bad
    else .bad
  | _, _, _ => .bad

theorem storeI_ok {t : TypeId} {id sz f : Nat} {i : E} {y : SV} {vx vy : Value} (hh : HeapDen U r g L c.h w) (hp : PcOk U r c.pc) (hx : (SV.ptrI id sz i f).den U r g L vx) (hy : y.den U r g L vy)
    (h : (storeI P c t id sz i f y).sat U (Post U L r g c w K) r) : VOk P (Instr.storeAt t vx vy) w fun _ w' => K undef w' := by
  simp only [SV.den] at hx
  obtain ⟨hl, h0, rfl⟩ := hx
  unfold storeI at h
  split at h
  · rename_i ks a cs n hra hcs hsz
    obtain ⟨hks, b, hb, hwr, hr, hlt, xs, tt, fz, e1, e2, e3, hrow⟩ := rowAt_ok hh hp hl h0 hra
    rw [e3 rfl] at e1
    split at h
    · rename_i hc
      obtain ⟨hn, hle⟩ := hc
      split at h
      · rename_i es hes
        obtain ⟨hd, h1⟩ := cells_ok (U := U) (L := L) (r := r) (g := g) hcs hy
        have hlen := SV.denL_length U r g L hd
        obtain ⟨q1, q2, q3⟩ := wordsOf_ok hes
        have hvs : vy.cells.size = n := by rw [← hn, hlen]; simp
        have hcell : ∀ {f' : Nat} {k : Sk}, ks[f']? = some k → ∃ v, xs[g.o id + ((i.ev U r).toI.toNat * sz + f')]? = some v ∧ k.den (((a.ev U r).at_ (i.ev U r).toI.toNat).at_ f') v := by
          intro f' k hk
          obtain ⟨v, hv, hd⟩ := hrow.cell hlt hk
          rw [hks] at hv
          rw [at_toL] at hd
          exact ⟨v, hv, hd⟩
        have shape : ∀ {i' : Nat} {d : D}, ((a.ev U r).toL.set (i.ev U r).toI.toNat ((elemE (mixE c.pc a i f es sz)).ev U r))[i']? = some d → ∃ fs, d = .l fs ∧ fs.length = ks.length := by
          intro i' d hd'
          by_cases hii : i' = (i.ev U r).toI.toNat
          · subst hii
            rw [List.getElem?_set_self hlt] at hd'
            cases hd'
            exact ⟨_, elemE_ev _, by simp [mixE, hks]⟩
          · rw [List.getElem?_set_ne (Ne.symm hii)] at hd'
            exact (hrow i' d hd').1
        have hroom : n = 0 ∨ g.o id + ((i.ev U r).toI.toNat * sz + f) + n ≤ xs.size := by
          rcases Nat.eq_zero_or_pos n with hz | hz
          · exact .inl hz
          · right
            obtain ⟨vl, hvl, _⟩ := hcell (f' := f + (n - 1)) (k := ks[f + (n - 1)]'(by omega)) (List.getElem?_eq_getElem (by omega))
            have := (Array.getElem?_eq_some_iff.1 hvl).1; omega
        rcases hroom with hz | hroom
        · subst hz
          have hsz0 : sz ≤ f ∨ f < sz := by omega
          -- nothing is written
          have hv0 : vy.cells.toList = [] := by
            apply List.eq_nil_of_length_eq_zero; simpa using hvs
          have hrun : (Instr.storeAt t (.pointer (some ⟨g.a id, g.o id + ((i.ev U r).toI.toNat * sz + f), none⟩)) vy).run P w = .ok () w := by
            simp only [Instr.storeAt, Instr.sureAddr, Sem.run_bind, Sem.run_pure, Result.andThen_ok]
            unfold storeVar
            simp only [Sem.run_bind, run_sizeOf_of hsz, Result.andThen_ok, hvs, ne_eq, not_true_eq_false, if_false, hv0, storeCells]
            rfl
          have hw : Wrote (g.a id) xs tt w w := ⟨e1, fun _ _ => rfl, rfl, rfl, rfl, rfl⟩
          refine ⟨(), w, hrun, ?_⟩
          refine h g undef w (ext_store hh hp hl hb (by rw [hwr]) hw e2 (by simp) (fun j s hs => by simp at hs) (some (ks, _)) ?_) trivial
          intro ks' e' he'
          cases he'
          intro i' d hd'
          rw [updE_ev, D.toL_l] at hd'
          refine ⟨shape hd', ?_⟩
          intro f' k hk
          by_cases hii : i' = (i.ev U r).toI.toNat
          · subst hii
            rw [List.getElem?_set_self hlt] at hd'
            cases hd'
            obtain ⟨v, hv, hdv⟩ := hcell hk
            have hf' : f' < sz := by have := (List.getElem?_eq_some_iff.1 hk).1; omega
            refine ⟨v, by rw [hks]; exact hv, ?_⟩
            have hm : (mixE c.pc a i f es sz)[f']? = some (selF c.pc i f' a) := by
              unfold mixE
              rw [List.getElem?_map, List.getElem?_range hf']
              simp only [Option.map_some, Option.some.injEq]
              have : es = [] := by apply List.eq_nil_of_length_eq_zero; rw [q1]; simp
              subst this
              simp
            rw [elemE_at _ hm, selF_ev hp]
            exact hdv
          · rw [List.getElem?_set_ne (Ne.symm hii)] at hd'
            exact (hrow i' d hd').2 f' k hk
        · obtain ⟨w', hrr, hw⟩ := run_storeVar_of (P := P) (o := g.o id + ((i.ev U r).toI.toNat * sz + f)) e1 (by rw [hvs]; exact hsz) (by rw [hvs]; omega) h1
          refine ⟨(), w', ?_, ?_⟩
          · simp only [Instr.storeAt, Instr.sureAddr, Sem.run_bind, Sem.run_pure, Result.andThen_ok]; exact hrr
          · refine h g undef w' (ext_store hh hp hl hb (by rw [hwr]) hw (by rw [putIn_size]; exact e2) (by simp) (fun j s hs => by simp at hs) (some (ks, _)) ?_) trivial
            intro ks' e' he'
            cases he'
            intro i' d hd'
            rw [updE_ev, D.toL_l] at hd'
            refine ⟨shape hd', ?_⟩
            intro f' k hk
            have hf' : f' < sz := by have := (List.getElem?_eq_some_iff.1 hk).1; omega
            have hlc : vy.cells.toList.length = n := by simpa using hvs
            rw [putIn_get _ _ _ _ (by rw [hlc]; exact hroom), hlc, hks]
            by_cases hii : i' = (i.ev U r).toI.toNat
            · subst hii
              rw [List.getElem?_set_self hlt] at hd'
              cases hd'
              by_cases hin : f ≤ f' ∧ f' < f + n
              · rw [if_pos (by omega)]
                have hk' : ((ks.drop f).take n)[f' - f]? = some k := by
                  rw [List.getElem?_take, if_pos (by omega), List.getElem?_drop]
                  rw [show f + (f' - f) = f' by omega]; exact hk
                have hes' : f' - f < es.length := by rw [q1]; exact (List.getElem?_eq_some_iff.1 hk').1
                have hcs' : f' - f < cs.length := by rw [q2]; exact (List.getElem?_eq_some_iff.1 hk').1
                have e0 := q3 (f' - f) k cs[f' - f] es[f' - f] hk' (List.getElem?_eq_getElem hcs') (List.getElem?_eq_getElem hes')
                obtain ⟨v, hv, hdv⟩ := SV.denL_get U r g L hd (List.getElem?_eq_getElem hcs')
                refine ⟨v, ?_, ?_⟩
                · rw [← hv]; congr 1; omega
                · have hm : (mixE c.pc a i f es sz)[f']? = some es[f' - f] := by
                    unfold mixE
                    rw [List.getElem?_map, List.getElem?_range hf']
                    simp only [Option.map_some, Option.some.injEq]
                    rw [if_neg (by omega), List.getElem?_eq_getElem hes']; rfl
                  rw [elemE_at _ hm]
                  rw [e0] at hdv
                  exact skSV_iff.1 hdv
              · rw [if_neg (by omega)]
                obtain ⟨v, hv, hdv⟩ := hcell hk
                refine ⟨v, hv, ?_⟩
                have hm : (mixE c.pc a i f es sz)[f']? = some (selF c.pc i f' a) := by
                  unfold mixE
                  rw [List.getElem?_map, List.getElem?_range hf']
                  simp only [Option.map_some, Option.some.injEq]
                  split
                  · rfl
                  · have hlk : ((ks.drop f).take n).length ≤ n := by simp; omega
                    rw [List.getElem?_eq_none (by omega)]; rfl
                rw [elemE_at _ hm, selF_ev hp]
                exact hdv
            · rw [List.getElem?_set_ne (Ne.symm hii)] at hd'
              obtain ⟨v, hv, hdv⟩ := (hrow i' d hd').2 f' k hk
              rw [hks] at hv
              refine ⟨v, ?_, hdv⟩
              rw [if_neg, hv]
              have h3 : i' * sz + sz = (i' + 1) * sz := by rw [Nat.add_mul]; omega
              have h4 : (i.ev U r).toI.toNat * sz + sz = ((i.ev U r).toI.toNat + 1) * sz := by rw [Nat.add_mul]; omega
              rcases Nat.lt_or_gt_of_ne hii with hlt' | hgt'
              · have := Nat.mul_le_mul_right sz (show i' + 1 ≤ (i.ev U r).toI.toNat by omega)
                omega
              · have := Nat.mul_le_mul_right sz (show (i.ev U r).toI.toNat + 1 ≤ i' by omega)
                omega
      · exact h.elim
    · exact h.elim
  · exact h.elim

def storeY (P : Program) (c : Cx) (t : TypeId) (x y : SV) : Tree (SV × Cx) :=
  match x with
  | .ptrI id sz i f => storeI P c t id sz i f y
  | x => storeX P c t x y

theorem storeY_ok {t : TypeId} {x y : SV} {vx vy : Value} (hh : HeapDen U r g L c.h w) (hp : PcOk U r c.pc) (hx : x.den U r g L vx) (hy : y.den U r g L vy) (h : (storeY P c t x y).sat U (Post U L r g c w K) r) :
    VOk P (Instr.storeAt t vx vy) w fun _ w' => K undef w' := by
  unfold storeY at h
  split at h
  · exact storeI_ok hh hp hx hy h
  · exact storeX_ok hh hp hx hy h

/-! ### Addresses -/

def fieldAddrY (P : Program) (c : Cx) (t : TypeId) (x : SV) (i : Nat) : Tree (SV × Cx) :=
  match x, P.underlying t with
  | .ptrI id sz e off, some (.struct fields) =>
    match fields[i]? with
    | some f => match szT P f.type with
      | some (_ + 1) => .ret (.ptrI id sz e (off + f.offset), c)
      | _ => .bad
    | none => .bad
  | x, _ => fieldAddrX P c t x i

theorem fieldAddrY_ok {t : TypeId} {x : SV} {vx : Value} {i : Nat} (hh : HeapDen U r g L c.h w) (hp : PcOk U r c.pc) (hx : x.den U r g L vx) (h : (fieldAddrY P c t x i).sat U (Post U L r g c w K) r) :
    VOk P (Instr.fieldAt t vx i) w K := by
  unfold fieldAddrY at h
  split at h
  · rename_i id sz e off fields hu
    simp only [SV.den] at hx
    obtain ⟨hl, h0, rfl⟩ := hx
    split at h
    · rename_i f hf
      split at h
      · rename_i n hs
        refine ⟨.pointer (some ⟨g.a id, g.o id + ((e.ev U r).toI.toNat * sz + off) + f.offset, none⟩), w, ?_, Post.same h hh hp (Same.refl w) ⟨hl, h0, by rw [Nat.add_assoc, Nat.add_assoc]⟩⟩
        simp only [Instr.fieldAt, Sem.run_bind, run_und hu, Result.andThen_ok, hf, Instr.sureAddr, Sem.run_pure, fieldPlace, run_sizeOf_of hs]
        rw [if_neg (by omega), add_none]; rfl
      · exact h.elim
    · exact h.elim
  · exact fieldAddrX_ok hh hp hx h

/-- An index that is a word, into a short slice: one way for each of its values. -/
def idxGo (P : Program) (t : TypeId) (x : SV) (k : IntKind) (n : E) : Nat → Nat → Cx → Tree (SV × Cx)
  | 0, _, _ => .bad
  | rem + 1, m, c => br c (mk2 .ilt n (.i ((m : Int) + 1))) (fun c => indexAddrX P c t x (.int k (.i m))) (fun c => idxGo P t x k n rem (m + 1) c)
theorem Post.rebase {c : Cx} {pc : List (E × Bool)} {T : Tree (SV × Cx)} (h : T.sat U (Post U L r g c w K) r) : T.sat U (Post U L r g { c with pc := pc } w K) r :=
  Tree.sat_mono (fun _ _ hx g' v w' e d => hx g' v w' ⟨e.nv, e.agr, e.len, e.ga, e.go, e.heap, e.pc, e.frm, e.wrs, e.fresh⟩ d) h
theorem idxGo_ok {t : TypeId} {x : SV} {k : IntKind} {n : E} {vx : Value} (hh : HeapDen U r g L c.h w) (hx : x.den U r g L vx) : ∀ (rem m : Nat) {pc : List (E × Bool)}, PcOk U r pc → (m : Int) ≤ (n.ev U r).toI →
    (idxGo P t x k n rem m { c with pc := pc }).sat U (Post U L r g c w K) r → VOk P (Instr.indexAt t vx (.int k (n.ev U r).toI)) w K := by
  intro rem
  induction rem with
  | zero => intro m pc _ _ h; exact h.elim
  | succ rem ih =>
    intro m pc hp hm h
    unfold idxGo at h
    obtain ⟨pc', hp', h | h⟩ := sat_br (c := { c with pc := pc }) hp h
    · have hlt : (n.ev U r).toI < (m : Int) + 1 := by
        have := h.1; rw [mk2_ev] at this; exact of_decide_eq_true this
      have he : (n.ev U r).toI = (m : Int) := by omega
      rw [he]
      exact indexAddrX_ok (c := { c with pc := pc' }) (i := .int k (.i m)) hh hp' hx (by simp only [SV.den]; rfl) (Post.rebase h.2)
    · have hge : ¬ (n.ev U r).toI < (m : Int) + 1 := by
        have := h.1; rw [mk2_ev] at this; exact of_decide_eq_false this
      exact ih (m + 1) hp' (by omega) h.2

def indexAddrY (P : Program) (c : Cx) (t : TypeId) (x i : SV) : Tree (SV × Cx) :=
  match P.underlying t, x, i with
  | some (.slice e), .slo id sz len, .int _ n => match szT P e with
    | some s => if s = sz then br c (mk2 .ile (.i 0) n) (fun c => br c (mk2 .ilt n len) (fun c => .ret (.ptrI id sz n 0, c)) (fun _ => .bad)) (fun _ => .bad) else .bad
    | none => .bad
  | some (.slice _), .sl id off sz (.i l) cap, .int k n => (match n with
    | .i n => indexAddrX P c t (.sl id off sz (.i l) cap) (.int k (.i n))
    | n => if l ≤ 16 then br c (mk2 .ile (.i 0) n) (fun c => idxGo P t (.sl id off sz (.i l) cap) k n l.toNat 0 c) (fun _ => .bad) else .bad)
  | _, x, i => indexAddrX P c t x i

theorem indexAddrY_ok {t : TypeId} {x i : SV} {vx vi : Value} (hh : HeapDen U r g L c.h w) (hp : PcOk U r c.pc) (hx : x.den U r g L vx) (hi : i.den U r g L vi) (h : (indexAddrY P c t x i).sat U (Post U L r g c w K) r) :
    VOk P (Instr.indexAt t vx vi) w K := by
  unfold indexAddrY at h
  split at h
  · rename_i e id sz len k n hu
    simp only [SV.den] at hx hi
    subst hi
    obtain ⟨h0, base, cp, rfl, h3, h4⟩ := hx
    split at h
    · rename_i s hs
      split at h
      · rename_i hss
        subst hss
        obtain ⟨pc, hp', h | h⟩ := sat_br hp h
        · obtain ⟨pc', hp'', h' | h'⟩ := sat_br (c := { c with pc := pc }) hp' h.2
          · have h1 : 0 ≤ (n.ev U r).toI := by
              have := h.1; rw [mk2_ev] at this; exact of_decide_eq_true this
            have h2 : (n.ev U r).toI < (len.ev U r).toI := by
              have := h'.1; rw [mk2_ev] at this; exact of_decide_eq_true this
            rcases h4 with rfl | ⟨hl, rfl, h5⟩
            · omega
            · have hlt : (n.ev U r).toI < (((len.ev U r).toI.toNat : Nat) : Int) := by omega
              refine ⟨_, w, ?_, Post.same h'.2 hh hp'' (Same.refl w) ⟨hl, h1, rfl⟩⟩
              simp only [Instr.indexAt, asIntOf, Sem.run_bind, Sem.run_pure, Result.andThen_ok, run_und hu]
              rw [if_pos ⟨h1, hlt⟩]
              simp only [Sem.run_bind, run_sizeOf_of hs, Result.andThen_ok, add_none]
              rfl
          · exact h'.2.elim
        · exact h.2.elim
      · exact h.elim
    · exact h.elim
  · split at h
    · exact indexAddrX_ok hh hp hx hi h
    · split at h
      · obtain ⟨pc, hp', h | h⟩ := sat_br hp h
        · simp only [SV.den] at hi
          subst hi
          refine idxGo_ok hh hx _ _ hp' ?_ h.2
          have := h.1
          rw [mk2_ev] at this
          exact of_decide_eq_true this
        · exact h.2.elim
      · exact h.elim
  · exact indexAddrX_ok hh hp hx hi h

def nilCheckY (c : Cx) (x : SV) : Tree (SV × Cx) :=
  match x with
  | .ptrI id sz i f => .ret (.ptrI id sz i f, c)
  | x => nilCheckX c x

end
end Go.Sx

/-
  Sx, part Jb: rows of any length: made, and appended to.
-/
namespace Go.Sx
open E (mk1 mk2 mkIte mk1_ev mk2_ev mkIte_ev)

/-- A text that is a constant, as a word. -/
def normS : SV → SV
  | .con (.string s) => .str (.s s.data.toList)
  | s => s
/-- The kinds and words of plain cells. -/
def kindsOf : List SV → Option (List Sk × List E)
  | [] => some ([], [])
  | s :: l => match (match s with
      | .bool e => some (Sk.b, e)
      | .int k e => some (Sk.i k, e)
      | .flt k e => some (Sk.f k, e)
      | .str e => some (Sk.s, e)
      | _ => none), kindsOf l with
    | some (k, e), some (ks, es) => some (k :: ks, e :: es)
    | _, _ => none

theorem kindsOf_ok : ∀ {cs : List SV} {ks : List Sk} {es : List E}, kindsOf cs = some (ks, es) → ks.length = cs.length ∧ es.length = cs.length ∧ ∀ (j : Nat) (k : Sk), ks[j]? = some k → ∃ e, es[j]? = some e ∧ cs[j]? = some (skSV k e) := by
  intro cs
  induction cs with
  | nil => intro ks es h; simp [kindsOf] at h; obtain ⟨rfl, rfl⟩ := h; simp
  | cons s cs ih =>
    intro ks es h
    unfold kindsOf at h
    split at h
    · rename_i k e ks' es' h1 h2
      cases h
      obtain ⟨k1, k2, k3⟩ := ih h2
      refine ⟨by simp [k1], by simp [k2], fun j k' hk => ?_⟩
      cases j with
      | zero =>
        simp at hk
        subst hk
        refine ⟨e, by simp, ?_⟩
        split at h1 <;> first | (cases h1; rfl) | cases h1
      | succ j =>
        obtain ⟨e', q1, q2⟩ := k3 j k' (by simpa using hk)
        exact ⟨e', by simpa using q1, by simpa using q2⟩
    · cases h

def sameSks : List Sk → List Sk → Bool
  | [], [] => true
  | x :: l, y :: m => (match x, y with
    | .b, .b => true
    | .i k, .i k' => decide (k = k')
    | .f k, .f k' => decide (k = k')
    | .s, .s => true
    | .byte, .byte => true
    | _, _ => false) && sameSks l m
  | _, _ => false

theorem sameSks_eq : ∀ {l m : List Sk}, sameSks l m = true → l = m := by
  intro l
  induction l with
  | nil => intro m h; cases m <;> simp_all [sameSks]
  | cons x l ih =>
    intro m h
    cases m with
    | nil => simp [sameSks] at h
    | cons y m =>
      simp only [sameSks, Bool.and_eq_true] at h
      rw [ih h.2]
      congr 1
      have h1 := h.1
      cases x <;> cases y <;> simp at h1 <;> first | rfl | (subst h1; rfl)

section
variable {U : Nat → D → D} {L : Nat → Prop} {r : Nat → D} {g : Gh} {c : Cx} {w w' : World} {P : Program} {K : Value → World → Prop}

/-! ### 'make' -/

def makeSliceZ (P : Program) (c : Cx) (t : TypeId) (x y : SV) : Tree (SV × Cx) :=
  match P.underlying t, x, y with
  | some (.slice e), .int _ l, .int _ n =>
    match P.info? e with
    | some ie =>
      match (zeroT P e).map (·.cells) with
      | some z =>
        match (ofValue (.agg z)).cells? with
        | some zs =>
          match kindsOf zs with
          | some (ks, es) =>
            if l.same n && (sure (mk2 .ile (.i 0) l) c.pc && (sure (mk2 .ile l (.i 1048576)) c.pc && (decide (ie.bytes ≤ 1048576) && (Nat.beq ks.length ie.size && Nat.blt 0 ie.size)))) then
              .ret (.slo c.h.length ie.size l, { c with h := c.h ++ [some ⟨true, [], some (ks, .o2 .lrep l (elemE es))⟩] })
            else .bad
          | none => .bad
        | none => .bad
      | none => .bad
    | none => .bad
  | _, _, _ => .bad

theorem replicate_get {n i : Nat} {x d : D} (h : (List.replicate n x)[i]? = some d) : d = x := by
  rw [List.getElem?_replicate] at h
  split at h
  · exact (Option.some.inj h).symm
  · cases h

theorem makeSliceZ_ok {t : TypeId} {x y : SV} {vx vy : Value} (hh : HeapDen U r g L c.h w) (hp : PcOk U r c.pc) (hx : x.den U r g L vx) (hy : y.den U r g L vy) (h : (makeSliceZ P c t x y).sat U (Post U L r g c w K) r) :
    VOk P (Instr.makeSlice t vx vy) w K := by
  unfold makeSliceZ at h
  split at h
  · rename_i e k l k' n hu
    simp only [SV.den] at hx hy
    subst hx hy
    split at h
    · rename_i ie hi
      split at h
      · rename_i z hz
        split at h
        · rename_i zs hzs
          split at h
          · rename_i ks es hks
            split at h
            · rename_i hc
              simp only [Bool.and_eq_true, decide_eq_true_eq] at hc
              obtain ⟨hsame, h1, h2, hb, h3, h4⟩ := hc
              have e1 := E.same_eq hsame
              subst e1
              have h1 := sure_ok hp h1
              have h2 := sure_ok hp h2
              rw [mk2_ev] at h1 h2
              have h1 : (0 : Int) ≤ (l.ev U r).toI := of_decide_eq_true h1
              have h2 : (l.ev U r).toI ≤ 1048576 := of_decide_eq_true h2
              have h3 := Nat.eq_of_beq_eq_true h3
              have h4 : 0 < ie.size := by rw [Nat.blt_eq] at h4; exact h4
              generalize hm : (l.ev U r).toI = m at h1 h2
              have hzd : SV.denL U r g L zs z.toList := (cells_ok (U := U) (L := L) (r := r) (g := g) hzs (ofValue_den (.agg z))).1
              obtain ⟨q1, q2, q3⟩ := kindsOf_ok hks
              have hzl := SV.denL_length U r g L hzd
              simp only [Array.length_toList] at hzl
              have hs : szT P e = some ie.size := by unfold szT; rw [hi]; rfl
              have w1 : IntKind.i64.wrap m = m := by unfold IntKind.wrap; simp [IntKind.bits, IntKind.signed]; omega
              have hbn : (ie.bytes : Int) * m ≤ 1099511627776 := by
                have h1 : (ie.bytes : Int) * m ≤ 1048576 * m := Int.mul_le_mul_of_nonneg_right (by omega) (by omega)
                omega
              have hrun : (Instr.makeSlice t (.int k m) (.int k' m)).run P w = .ok (.slice (some ⟨w.heap.size, 0, none⟩) m.toNat m.toNat) (w.alloc (.cells ((Array.range (m.toNat * ie.size)).map (z[· % z.size]!)) e)) := by
                have ha : ∀ (q : IntKind) (m : Int) (w : World), (asInt (.int q m)).run P w = .ok m w := fun _ _ _ => rfl
                unfold Instr.makeSlice
                simp only [Sem.run_bind, run_und hu, Result.andThen_ok, ha, run_info hi, w1]
                rw [if_neg (by
                  simp only [Bool.or_eq_true, decide_eq_true_eq, not_or]
                  refine ⟨⟨⟨by omega, by omega⟩, by omega⟩, by omega⟩)]
                simp only [Sem.run_bind, run_askRoom, Result.andThen_ok, run_sizeOf_of hs]
                by_cases hz0 : m.toNat * ie.size = 0
                · rw [if_pos hz0]
                  have hr0 : ∀ f : Nat → Value, Array.map f (Array.range 0) = #[] := fun f => by apply Array.eq_empty_of_size_eq_zero; simp
                  simp [newRow, hz0, hr0]
                · rw [if_neg hz0]
                  cases hzt : zeroT P e with
                  | none => rw [hzt] at hz; cases hz
                  | some z0 =>
                    rw [hzt] at hz
                    simp only [Option.map_some, Option.some.injEq] at hz
                    simp only [Sem.run_bind, run_zero_of hzt, Result.andThen_ok, Sem.run_pure]
                    rw [hz]
                    simp [newRow]
              refine ⟨_, _, hrun, ?_⟩
              refine h _ _ _ (ext_alloc (cs := []) (xs := (Array.range (m.toNat * ie.size)).map (z[· % z.size]!)) hh hp e (by simp [SV.denL]) (by simp) true (some (ks, .o2 .lrep l (elemE es))) ?_) ?_
              · intro ks' e' he'
                cases he'
                intro i d hd
                have hd : (List.replicate (l.ev U r).toI.toNat ((elemE es).ev U r))[i]? = some d := hd
                have hi' : i < m.toNat := by
                  have := (List.getElem?_eq_some_iff.1 hd).1
                  simp at this; omega
                have := replicate_get hd
                subst this
                refine ⟨⟨_, elemE_ev es, by simp; omega⟩, fun f k hk => ?_⟩
                obtain ⟨ee, p1, p2⟩ := q3 f k hk
                obtain ⟨v, hv, hd'⟩ := SV.denL_get U r g L hzd p2
                have hf : f < ie.size := by have := (List.getElem?_eq_some_iff.1 hk).1; omega
                refine ⟨v, ?_, ?_⟩
                · rw [Nat.zero_add, h3]
                  have hlt : i * ie.size + f < m.toNat * ie.size := by
                    have := Nat.mul_le_mul_right ie.size (show i + 1 ≤ m.toNat by omega)
                    rw [Nat.add_mul] at this; omega
                  rw [Array.getElem?_map]
                  have hr : (Array.range (m.toNat * ie.size))[i * ie.size + f]? = some (i * ie.size + f) := by
                    rw [Array.getElem?_eq_getElem (by simpa using hlt)]; simp
                  rw [hr]
                  simp only [Option.map_some]
                  have hmod : (i * ie.size + f) % z.size = f := by
                    have : z.size = ie.size := by omega
                    rw [this, Nat.add_comm, Nat.add_mul_mod_self_right, Nat.mod_eq_of_lt hf]
                  rw [hmod]
                  have hv' : z[f]? = some v := by simpa using hv
                  rw [getElem!_def, hv']
                · rw [elemE_at es p1]; exact skSV_iff.1 hd'
              · simp only [SV.den]
                rw [hm]
                refine ⟨by omega, _, _, rfl, Nat.le_refl _, .inr ⟨.inr ⟨Nat.le_refl _, by simp⟩, by simp [Gh.put], ?_⟩⟩
                simp [Gh.put]
            · exact h.elim
          · exact h.elim
        · exact h.elim
      · exact h.elim
    · exact h.elim
  · exact h.elim

/-! ### Sources -/

/-- Elements out of cells. -/
def rowOfCells (ks : List Sk) (n : Nat) : Nat → List SV → Option (List E)
  | 0, _ => some []
  | l + 1, cs => match wordsOf ks (cs.take n), rowOfCells ks n l (cs.drop n) with
    | some es, some rest => some (elemE es :: rest)
    | _, _ => none

theorem rowOfCells_ok {ks : List Sk} {n : Nat} (hn : ks.length = n) {xs : Array Value} : ∀ {l : Nat} {cs : List SV} {els : List E} {o : Nat}, rowOfCells ks n l cs = some els → (∀ (j : Nat) (s : SV), cs[j]? = some s → ∃ v, xs[o + j]? = some v ∧ s.den U r g L v) →
    els.length = l ∧ RowDen ks (els.map fun e => e.ev U r) o xs := by
  intro l
  induction l with
  | zero => intro cs els o h _; cases h; exact ⟨rfl, fun i d hd => by simp at hd⟩
  | succ l ih =>
    intro cs els o h hd
    unfold rowOfCells at h
    split at h
    · rename_i es rest h1 h2
      cases h
      obtain ⟨q1, q2, q3⟩ := wordsOf_ok h1
      obtain ⟨k1, k2⟩ := ih (o := o + n) h2 (fun j s hs => by
        rw [List.getElem?_drop] at hs
        obtain ⟨v, hv, hd'⟩ := hd _ s hs
        exact ⟨v, by rw [← hv]; congr 1; omega, hd'⟩)
      refine ⟨by simp [k1], fun i d hi => ?_⟩
      cases i with
      | zero =>
        simp at hi
        subst hi
        refine ⟨⟨_, elemE_ev es, by simp [q1]⟩, fun f k hk => ?_⟩
        have hf : f < n := by have := (List.getElem?_eq_some_iff.1 hk).1; omega
        have hcs : f < (cs.take n).length := by rw [q2]; omega
        have hes : f < es.length := by omega
        have e0 := q3 f k _ _ hk (List.getElem?_eq_getElem hcs) (List.getElem?_eq_getElem hes)
        have hcs' : cs[f]? = some (cs.take n)[f] := by rw [← List.getElem?_eq_getElem hcs, List.getElem?_take, if_pos hf]
        obtain ⟨v, hv, hd'⟩ := hd f _ hcs'
        refine ⟨v, by rw [← hv]; congr 1; omega, ?_⟩
        rw [elemE_at es (List.getElem?_eq_getElem hes)]
        rw [e0] at hd'
        exact skSV_iff.1 hd'
      | succ i =>
        simp only [List.map_cons, List.getElem?_cons_succ] at hi
        obtain ⟨p1, p2⟩ := k2 i d hi
        refine ⟨p1, fun f k hk => ?_⟩
        obtain ⟨v, hv, hd'⟩ := p2 f k hk
        refine ⟨v, ?_, hd'⟩
        rw [← hv]; congr 1; rw [Nat.add_mul]; omega
    · cases h

/-- How many elements, and the row of them. -/
def rowSrc (h : SH) (ks : List Sk) (n : Nat) : SV → Option (E × E)
  | .slo id sz len =>
    match h[id]? with
    | some (some b) => (match b.row with
      | some (ks', a) => if sameSks ks ks' && (Nat.beq sz n && len.same (mk1 .llen a)) then some (len, a) else none
      | none => none)
    | _ => none
  | .sl id off sz (.i m) _ =>
    match h[id]? with
    | some (some b) => if sz = n ∧ off + m.toNat * n ≤ b.cs.length then (match rowOfCells ks n m.toNat (cut b.cs off (m.toNat * n)) with
        | some els => some (.i m.toNat, elemE els)
        | none => none) else none
    | _ => none
  | .con (.slice none 0 0) => some (.i 0, .o2 .lrep (.i 0) (.b false))
  | .emp => some (.i 0, .o2 .lrep (.i 0) (.b false))
  | _ => none

theorem RowDen.cut {ks : List Sk} {ds : List D} {o n : Nat} {xs : Array Value} (h : RowDen ks ds o xs) (hn : ds.length * ks.length ≤ n) : RowDen ks ds 0 (xs.extract o (o + n)) := by
  intro i d hd
  obtain ⟨h1, h2⟩ := h i d hd
  refine ⟨h1, fun f k hk => ?_⟩
  obtain ⟨v, hv, hd'⟩ := h2 f k hk
  refine ⟨v, ?_, hd'⟩
  have hi := (List.getElem?_eq_some_iff.1 hd).1
  have hf := (List.getElem?_eq_some_iff.1 hk).1
  have h3 := Nat.mul_le_mul_right ks.length (show i + 1 ≤ ds.length by omega)
  rw [Nat.add_mul] at h3
  have hx := (Array.getElem?_eq_some_iff.1 hv).1
  rw [Array.getElem?_extract, Nat.zero_add, if_pos (by omega)]
  exact hv

theorem rowSrc_ok {ks : List Sk} {n : Nat} {s : SV} {vx : Value} {len e : E} (hks : ks.length = n) (hh : HeapDen U r g L c.h w) (h : rowSrc c.h ks n s = some (len, e)) (hx : s.den U r g L vx) :
    ∃ xs : Array Value, (len.ev U r).toI = ((e.ev U r).toL.length : Int) ∧ xs.size = (e.ev U r).toL.length * n ∧ RowDen ks (e.ev U r).toL 0 xs ∧ (∀ w', (Builtin.lenOf vx).run P w' = .ok (e.ev U r).toL.length w') ∧
      ∀ w', w'.heap = w.heap → (Builtin.firstCells n (e.ev U r).toL.length vx).run P w' = .ok xs w' := by
  unfold rowSrc at h
  split at h
  · rename_i id sz len'
    split at h
    · rename_i b hb
      split at h
      · rename_i ks' a' hr
        split at h
        · rename_i hc
          cases h
          simp only [Bool.and_eq_true] at hc
          have e1 := sameSks_eq hc.1
          have e2 := Nat.eq_of_beq_eq_true hc.2.1
          have e3 := E.same_eq hc.2.2
          subst e1 e2 e3
          simp only [SV.den, mk1_ev] at hx ⊢
          have hl : (O1.llen.ev (e.ev U r)).toI = ((e.ev U r).toL.length : Int) := rfl
          rw [hl] at hx ⊢
          obtain ⟨h0, base, cp, rfl, h3, h4⟩ := hx
          simp only [Int.toNat_natCast] at h3 h4 ⊢
          rcases h4 with rfl | ⟨hl', rfl, h5⟩
          · have hz : (e.ev U r).toL.length = 0 := by omega
            rw [hz]
            have : (e.ev U r).toL = [] := List.eq_nil_of_length_eq_zero hz
            refine ⟨#[], by first | rfl | trivial, by simp, by rw [this]; intro i d hd; simp at hd, fun _ => rfl, fun _ _ => ?_⟩
            cases base <;> simp [Builtin.firstCells, loadCells, loadCellsFrom]
          · obtain ⟨xs, t, fz, q1, q2, q3, q4, q5⟩ := hh.blk id b hl' hb
            obtain ⟨ys, t', fz', p1, p2⟩ := hh.rows id b _ _ hl' hb hr
            rw [q1] at p1
            cases p1
            have hmul := Nat.mul_le_mul_right sz h3
            refine ⟨xs.extract (g.o id) (g.o id + (e.ev U r).toL.length * sz), by first | rfl | trivial, by simp; omega, p2.cut (by rw [hks]; exact Nat.le_refl _), fun _ => rfl, fun w' hw' => ?_⟩
            have := run_loadCells_at (P := P) (w := w') (by rw [hw']; exact q1) (g.o id) ((e.ev U r).toL.length * sz) 0 #[] (by omega)
            simp only [Builtin.firstCells, loadCells]
            rw [this]; simp
        · cases h
      · cases h
    · cases h
  · rename_i id off sz m cap
    split at h
    · rename_i b hb
      split at h
      · rename_i hle
        obtain ⟨_, hle⟩ := hle
        split at h
        · rename_i els hels
          cases h
          simp only [SV.den] at hx
          obtain ⟨hl, h0, cp, rfl, h3, h4, h5⟩ := hx
          obtain ⟨xs, t, fz, q1, q2, q3, q4, q5⟩ := hh.blk id b hl hb
          have hm : (E.ev U r (.i m)).toI = m := rfl
          rw [hm] at h0 h3 ⊢
          obtain ⟨k1, k2⟩ := rowOfCells_ok (U := U) (r := r) (g := g) (L := L) (xs := xs) (o := off) hks hels (fun j s hs => by
            unfold Go.Sx.cut at hs
            rw [List.getElem?_take] at hs
            split at hs
            · rw [List.getElem?_drop] at hs
              exact q5 _ s hs
            · cases hs)
          have hel : ((elemE els).ev U r).toL = els.map fun e => e.ev U r := by rw [elemE_ev]; rfl
          rw [hel]
          have hlen : (els.map fun e => e.ev U r).length = m.toNat := by simp [k1]
          rw [hlen]
          refine ⟨xs.extract off (off + m.toNat * n), by show ((m.toNat : Nat) : Int) = _; rfl, by simp; omega, k2.cut (by rw [hlen, hks]; exact Nat.le_refl _), fun _ => rfl, fun w' hw' => ?_⟩
          have := run_loadCells_at (P := P) (w := w') (by rw [hw']; exact q1) off (m.toNat * n) 0 #[] (by omega)
          simp only [Builtin.firstCells, loadCells]
          rw [this]; simp
        · cases h
      · cases h
    · cases h
  · cases h
    simp only [SV.den] at hx
    subst hx
    exact ⟨#[], rfl, by simp [E.ev, O2.ev, D.toL, D.toI], fun i d hd => by simp [E.ev, O2.ev, D.toL, D.toI] at hd, fun _ => rfl, fun _ _ => rfl⟩
  · cases h
    simp only [SV.den] at hx
    obtain ⟨base, rfl⟩ := hx
    refine ⟨#[], rfl, by simp [E.ev, O2.ev, D.toL, D.toI], fun i d hd => by simp [E.ev, O2.ev, D.toL, D.toI] at hd, fun _ => rfl, fun _ _ => ?_⟩
    cases base <;> simp [Builtin.firstCells, loadCells, loadCellsFrom, E.ev, O2.ev, D.toL, D.toI]
  · cases h

theorem RowDen.join {ks : List Sk} {dx dy : List D} {o n : Nat} {xs ys : Array Value} (hn : ks.length = n) (hx : RowDen ks dx o xs) (hy : RowDen ks dy 0 ys) {zs : Array Value} (h1 : ∀ j, j < dx.length * n → zs[o + j]? = xs[o + j]?)
    (h2 : ∀ j, j < dy.length * n → zs[o + (dx.length * n + j)]? = ys[j]?) : RowDen ks (dx ++ dy) o zs := by
  intro i d hd
  by_cases hi : i < dx.length
  · rw [List.getElem?_append_left hi] at hd
    obtain ⟨k1, k2⟩ := hx i d hd
    refine ⟨k1, fun f k hk => ?_⟩
    obtain ⟨v, hv, hd'⟩ := k2 f k hk
    refine ⟨v, ?_, hd'⟩
    have hf := (List.getElem?_eq_some_iff.1 hk).1
    have h3 := Nat.mul_le_mul_right n (show i + 1 ≤ dx.length by omega)
    rw [Nat.add_mul] at h3
    rw [h1 _ (by rw [hn]; omega)]; exact hv
  · rw [List.getElem?_append_right (by omega)] at hd
    obtain ⟨k1, k2⟩ := hy _ d hd
    refine ⟨k1, fun f k hk => ?_⟩
    obtain ⟨v, hv, hd'⟩ := k2 f k hk
    refine ⟨v, ?_, hd'⟩
    have hf := (List.getElem?_eq_some_iff.1 hk).1
    have hlt := (List.getElem?_eq_some_iff.1 hd).1
    have h3 := Nat.mul_le_mul_right n (show i - dx.length + 1 ≤ dy.length by omega)
    rw [Nat.add_mul] at h3
    have := h2 ((i - dx.length) * n + f) (by omega)
    rw [Nat.zero_add, hn] at hv
    rw [hn, ← hv, ← this]
    congr 1
    have h4 : i * n = dx.length * n + (i - dx.length) * n := by rw [← Nat.add_mul]; congr 1; omega
    omega

theorem Sk.den_one {k : Sk} {d : D} {v : Value} (h : k.den d v) : v.oneCell' = true := by
  cases k <;> simp only [Sk.den] at h
  · subst h; rfl
  · subst h; rfl
  · obtain ⟨b, rfl, _⟩ := h; rfl
  · subst h; rfl
  · subst h; rfl

theorem RowDen.one {ks : List Sk} {ds : List D} {n : Nat} {xs : Array Value} (hn : ks.length = n) (h : RowDen ks ds 0 xs) (hs : xs.size = ds.length * n) : ∀ v ∈ xs.toList, v.oneCell' = true := by
  intro v hv
  obtain ⟨j, hj, rfl⟩ := List.getElem_of_mem hv
  simp only [Array.length_toList] at hj
  have hn0 : 0 < n := by
    rcases Nat.eq_zero_or_pos n with h0 | h0
    · subst h0; rw [hs, Nat.mul_zero] at hj; omega
    · exact h0
  have hi : j / n < ds.length := by
    rw [hs] at hj
    exact Nat.div_lt_of_lt_mul (by rw [Nat.mul_comm]; exact hj)
  have hf : j % n < ks.length := by rw [hn]; exact Nat.mod_lt _ hn0
  obtain ⟨_, k2⟩ := h (j / n) _ (List.getElem?_eq_getElem hi)
  obtain ⟨v, hv', hd⟩ := k2 (j % n) _ (List.getElem?_eq_getElem hf)
  have e : 0 + (j / n * ks.length + j % n) = j := by rw [hn, Nat.zero_add, Nat.mul_comm]; exact Nat.div_add_mod j n
  rw [e] at hv'
  have : xs.toList[j] = v := by
    have h2 := Array.getElem?_eq_getElem hj
    rw [hv'] at h2
    simpa using (Option.some.inj h2).symm
  rw [this]
  exact Sk.den_one hd

/-! ### 'append' -/

/-- Two rows one behind the other. -/
def joinE (a b : E) : E :=
  match E.listE b with
  | some l => l.foldl (fun a e => .o2 .lpush a e) a
  | none => (match E.listE a with
    | some [] => b
    | _ => .o2 .lapp a b)

theorem joinE_ev (a b : E) : ((joinE a b).ev U r).toL = (a.ev U r).toL ++ (b.ev U r).toL := by
  unfold joinE
  split
  · rename_i l hl
    rw [foldl_push_ev, E.listE_ev U r hl]; rfl
  · split
    · rename_i hl; rw [E.listE_ev U r hl]; simp [D.toL]
    · rfl

/-- Where a slice that is appended to lies: may it be written; where its row begins. -/
def baseOf (h : SH) : SV → Option Nat
  | .slo id _ _ => match h[id]? with
    | some (some b) => if b.wr then some id else none
    | _ => none
  | .sl id _ _ _ _ => match h[id]? with
    | some (some b) => if b.wr then some id else none
    | _ => none
  | _ => none

def appendZ (P : Program) (c : Cx) (t0 t1 : TypeId) (x y : SV) : Tree (SV × Cx) :=
  match P.underlying t0, P.underlying t1 with
  | some (.slice e), some d1 =>
    match P.info? e with
    | some ie =>
      match ie.zero with
      | some z =>
        if notIntD d1 = true ∧ z.cells.size = ie.size ∧ ie.bytes ≤ 1048576 then
          match (ofValue (.agg z.cells)).cells? with
          | some zs =>
            match kindsOf (zs.map normS) with
            | some (ks, _) =>
              if Nat.beq ks.length ie.size then
                match rowSrc c.h ks ie.size x, rowSrc c.h ks ie.size y with
                | some (l, a), some (m, b) =>
                  if sure (mk2 .ile (mk2 .iadd l m) (.i 2097152)) c.pc then
                    match baseOf c.h x with
                    | some id => .ret (.slo c.h.length ie.size (mk1 .llen (joinE a b)), { c with h := c.h.set id none ++ [some ⟨true, [], some (ks, joinE a b)⟩] })
                    | none => match x with
                      | .con (.slice none 0 0) => if sure (mk2 .ilt (.i 0) m) c.pc then .ret (.slo c.h.length ie.size (mk1 .llen (joinE a b)), { c with h := c.h ++ [some ⟨true, [], some (ks, joinE a b)⟩] }) else .bad
                      | .emp => if sure (mk2 .ilt (.i 0) m) c.pc then .ret (.slo c.h.length ie.size (mk1 .llen (joinE a b)), { c with h := c.h ++ [some ⟨true, [], some (ks, joinE a b)⟩] }) else .bad
                      | _ => .bad
                  else .bad
                | _, _ => .bad
              else .bad
            | none => .bad
          | none => .bad
        else .bad
      | none => .bad
    | none => .bad
  | _, _ => .bad

/-- A block that is known no more. -/
theorem Ext.drop {r' : Nat → D} {g' : Gh} {B : SB} {id : Nat} (ex : Ext U L r g c w r' g' { c with h := c.h ++ [some B] } w') (hid : id < c.h.length) : Ext U L r g c w r' g' { c with h := c.h.set id none ++ [some B] } w' := by
  have hLx : Lx L c.h (c.h.set id none ++ [some B]) = Lx L c.h (c.h ++ [some B]) := by
    funext k; unfold Lx; simp
  have hget : ∀ {k : Nat} {b' : SB}, (c.h.set id none ++ [some B])[k]? = some (some b') → (c.h ++ [some B])[k]? = some (some b') := by
    intro k b' hk
    by_cases hkl : k < c.h.length
    · rw [List.getElem?_append_left (by simpa using hkl)] at hk
      rw [List.getElem?_append_left hkl]
      by_cases hki : k = id
      · subst hki; rw [List.getElem?_set_self hkl] at hk; cases hk
      · rwa [List.getElem?_set_ne (Ne.symm hki)] at hk
    · rw [List.getElem?_append_right (by simpa using hkl)] at hk
      rw [List.getElem?_append_right (by omega)]
      simpa using hk
  refine ⟨ex.nv, ex.agr, by simp, fun k hk => ex.ga k (by simpa using hk), fun k hk => ex.go k (by simpa using hk), ?_, ex.pc, ex.frm, ?_, fun k h1 h2 => ex.fresh k h1 (by simpa using h2)⟩
  · have eh := ex.heap
    show HeapDen U r' _ (Lx L c.h (c.h.set id none ++ [some B])) (c.h.set id none ++ [some B]) _
    rw [hLx]
    exact ⟨fun k hk => by have := eh.bnd k hk; simpa using this, eh.lt, fun k b' hk hb' => eh.blk k b' hk (hget hb'), fun i j b1 b2 hi hj h1 hw1 h2 he => eh.inj i j b1 b2 hi hj (hget h1) hw1 (hget h2) he,
      fun k b' ks e hk hb' hr => eh.rows k b' ks e hk (hget hb') hr, fun k b' hb' hw' => eh.live k b' (hget hb') hw'⟩
  · intro k b' hk hb' hw1
    have hk : Lx L c.h (c.h.set id none ++ [some B]) k := hk
    rw [hLx] at hk
    exact ex.wrs k b' hk (hget hb') hw1

theorem append_run_zero {t0 t1 e ty : TypeId} {n l m cap : Nat} {ie : TypeInfo} {z : Value} {base : Option Addr} {vx : Value} {new : Array Value} (hs : AppSet P t0 t1 e n ie z)
    (hlen : ∀ w, (Builtin.lenOf vx).run P w = .ok m w) (hnew : ∀ w', w'.heap = w.heap → (Builtin.firstCells n m vx).run P w' = .ok new w') (hle : l + m ≤ cap) (hz : new.toList = []) :
    (Builtin.append_ #[t0, t1] ty #[.slice base l cap, vx]).run P w = .ok (.slice base (l + m) cap) w := by
  obtain ⟨d, hd1, hd2⟩ := hs.u1
  have hszT : szT P e = some n := by unfold szT; rw [hs.info]; simp [hs.size]
  have k2 := hnew w rfl
  unfold Builtin.append_
  have g0 : (#[t0, t1] : Array TypeId)[0]? = some t0 := rfl
  have g1 : (#[t0, t1] : Array TypeId)[1]? = some t1 := rfl
  have g2 : (#[Value.slice base l cap, vx] : Array Value)[0]? = some (.slice base l cap) := rfl
  have g3 : (#[Value.slice base l cap, vx] : Array Value)[1]? = some vx := rfl
  simp only [g0, g1, g2, g3, Sem.run_bind, run_und hs.u0, Result.andThen_ok, run_sizeOf_of hszT, run_und hd1, Sem.run_pure]
  simp only [Bool.false_eq_true, if_false, hlen, Result.andThen_ok, if_pos hle, Sem.run_bind, k2, Bool.not_false, if_true, hz]
  cases base <;> simp [storeCells]

/-- What is appended to: its base, and its row there. -/
theorem baseOf_ok {ks : List Sk} {n id : Nat} {x : SV} {vx : Value} {len e : E} (hks : ks.length = n) (hh : HeapDen U r g L c.h w) (h : rowSrc c.h ks n x = some (len, e)) (hb : baseOf c.h x = some id) (hx : x.den U r g L vx) :
    L id ∧ ∃ b, c.h[id]? = some (some b) ∧ b.wr = true ∧ ∃ base cap, vx = .slice base (e.ev U r).toL.length cap ∧ (e.ev U r).toL.length ≤ cap ∧
      (cap = 0 ∨ ∃ o xs t, base = some ⟨g.a id, o, none⟩ ∧ w.heap[g.a id]? = some (.cells xs t (0, 0)) ∧ xs.size = g.n id ∧ RowDen ks (e.ev U r).toL o xs ∧ o + cap * n ≤ xs.size) := by
  unfold baseOf at hb
  split at hb
  · rename_i id' sz len'
    split at hb
    · rename_i b hbb
      split at hb
      · rename_i hw
        cases hb
        have hl := hh.live _ _ hbb hw
        refine ⟨hl, b, hbb, hw, ?_⟩
        simp only [rowSrc, hbb] at h
        split at h
        · rename_i ks' a' hr
          split at h
          · rename_i hc
            cases h
            simp only [Bool.and_eq_true] at hc
            have e1 := sameSks_eq hc.1
            have e2 := Nat.eq_of_beq_eq_true hc.2.1
            have e3 := E.same_eq hc.2.2
            subst e1 e2 e3
            simp only [SV.den, mk1_ev] at hx
            have hln : (O1.llen.ev (e.ev U r)).toI = ((e.ev U r).toL.length : Int) := rfl
            rw [hln] at hx
            obtain ⟨h0, base, cp, rfl, h3, h4⟩ := hx
            simp only [Int.toNat_natCast] at h3 h4 ⊢
            refine ⟨base, cp, rfl, h3, ?_⟩
            rcases h4 with h4 | ⟨_, rfl, h5⟩
            · exact .inl h4
            · right
              obtain ⟨xs, t, fz, q1, q2, q3, q4, q5⟩ := hh.blk _ b hl hbb
              obtain ⟨ys, t', fz', p1, p2⟩ := hh.rows _ b _ _ hl hbb hr
              rw [q1] at p1
              cases p1
              rw [q3 hw] at q1
              exact ⟨g.o id, xs, t, rfl, q1, q2, p2, by omega⟩
          · cases h
        · cases h
      · cases hb
    · cases hb
  · rename_i id' off sz len' cap'
    split at hb
    · rename_i b hbb
      split at hb
      · rename_i hw
        cases hb
        unfold rowSrc at h
        split at h
        · rename_i h'; cases h'
        · rename_i id2 off2 sz2 m cap2 h'
          cases h'
          rw [hbb] at h
          dsimp only at h
          split at h
          · rename_i hle
            obtain ⟨hsz, hle⟩ := hle
            split at h
            · rename_i els hels
              cases h
              simp only [SV.den] at hx
              obtain ⟨hl, h0, cp, rfl, h3, h4, h5⟩ := hx
              refine ⟨hl, b, hbb, hw, ?_⟩
              obtain ⟨xs, t, fz, q1, q2, q3, q4, q5⟩ := hh.blk _ b hl hbb
              have hm : (E.ev U r (.i m)).toI = m := rfl
              rw [hm] at h0 h3 ⊢
              obtain ⟨k1, k2⟩ := rowOfCells_ok (U := U) (r := r) (g := g) (L := L) (xs := xs) (o := off) hks hels (fun j s hs => by
                unfold Go.Sx.cut at hs
                rw [List.getElem?_take] at hs
                split at hs
                · rw [List.getElem?_drop] at hs
                  exact q5 _ s hs
                · cases hs)
              have hel : ((elemE els).ev U r).toL = els.map fun e => e.ev U r := by rw [elemE_ev]; rfl
              rw [hel]
              have hlen : (els.map fun e => e.ev U r).length = m.toNat := by simp [k1]
              rw [hlen]
              rw [q3 hw] at q1
              exact ⟨_, cp, rfl, h3, .inr ⟨off, xs, t, rfl, q1, q2, k2, by rw [← hsz, q2]; exact h4⟩⟩
            · cases h
          · cases h
        · rename_i h'; cases h'
        · rename_i h'; cases h'
        · cases h
      · cases hb
    · cases hb
  · cases hb

set_option maxHeartbeats 1000000 in
theorem appendZ_ok {t0 t1 ty : TypeId} {x y : SV} {vx vy : Value} (hh : HeapDen U r g L c.h w) (hp : PcOk U r c.pc) (hx : x.den U r g L vx) (hy : y.den U r g L vy)
    (h : (appendZ P c t0 t1 x y).sat U (Post U L r g c w K) r) : VOk P (Builtin.append_ #[t0, t1] ty #[vx, vy]) w K := by
  unfold appendZ at h
  split at h
  · rename_i e d1 hu0 hu1
    split at h
    · rename_i ie hi
      split at h
      · rename_i z hz
        split at h
        · rename_i hc
          split at h
          · rename_i zs hzs
            split at h
            · rename_i ks es0 hks
              split at h
              · rename_i hkn
                have hkn := Nat.eq_of_beq_eq_true hkn
                split at h
                · rename_i l a m b hsx hsy
                  split at h
                  · rename_i hsure
                    have hs : AppSet P t0 t1 e ie.size ie z := ⟨hu0, ⟨d1, hu1, fun k hk => by rw [hk] at hc; exact absurd hc.1 (by simp [notIntD])⟩, hi, rfl, hz, hc.2.1, hc.2.2⟩
                    obtain ⟨xo, ho1, hso, hro, hlo, hfo⟩ := rowSrc_ok (P := P) hkn hh hsx hx
                    obtain ⟨xn, hn1, hsn, hrn, hln, hfn⟩ := rowSrc_ok (P := P) hkn hh hsy hy
                    have hsm := sure_ok hp hsure
                    rw [mk2_ev, mk2_ev] at hsm
                    have hsm : (l.ev U r).toI + (m.ev U r).toI ≤ 2097152 := of_decide_eq_true hsm
                    rw [ho1, hn1] at hsm
                    have hsm : (a.ev U r).toL.length + (b.ev U r).toL.length ≤ 2097152 := by omega
                    have hjl : ((joinE a b).ev U r).toL.length = (a.ev U r).toL.length + (b.ev U r).toL.length := by rw [joinE_ev, List.length_append]
                    have hlen : ((mk1 .llen (joinE a b)).ev U r).toI = (((a.ev U r).toL.length + (b.ev U r).toL.length : Nat) : Int) := by
                      rw [mk1_ev, ← hjl]; rfl
                    have hmul : ((a.ev U r).toL.length + (b.ev U r).toL.length) * ie.size = (a.ev U r).toL.length * ie.size + (b.ev U r).toL.length * ie.size := Nat.add_mul _ _ _
                    -- a new block
                    have grow : ∀ {base : Option Addr} {cap : Nat}, vx = .slice base (a.ev U r).toL.length cap → ¬ (a.ev U r).toL.length + (b.ev U r).toL.length ≤ cap → ∃ (cap' : Nat) (xs : Array Value) (w' : World), (Builtin.append_ #[t0, t1] ty #[vx, vy]).run P w = .ok (.slice (some ⟨w.heap.size, 0, none⟩) ((a.ev U r).toL.length + (b.ev U r).toL.length) cap') w' ∧
                        (a.ev U r).toL.length + (b.ev U r).toL.length ≤ cap' ∧ xs.size = cap' * ie.size ∧ Ext U L r g c w r (g.put c.h.length w.heap.size xs.size) { c with h := c.h ++ [some ⟨true, [], some (ks, joinE a b)⟩] } w' := by
                      intro base cap hv hgt
                      subst hv
                      obtain ⟨cap', rest, k1, k2, k3⟩ := append_run_grow (ty := ty) hs hln hfn hfo hgt hsm
                      have hsame : Same w ({ w with drawn := w.drawn + 1 } : World) := ⟨rfl, rfl, rfl, rfl⟩
                      have hcm : cap' * ie.size = ((a.ev U r).toL.length + (b.ev U r).toL.length) * ie.size + (cap' - ((a.ev U r).toL.length + (b.ev U r).toL.length)) * ie.size := by rw [← Nat.add_mul]; congr 1; omega
                      refine ⟨cap', xo ++ xn ++ rest, _, k3, k1, by simp [hso, hsn, k2]; omega, ?_⟩
                      refine (ext_alloc (cs := []) (xs := xo ++ xn ++ rest) (hh.same hsame) hp e (by simp [SV.denL]) (by simp) true (some (ks, joinE a b)) ?_).of_same hsame
                      intro ks' e' he'
                      cases he'
                      rw [joinE_ev]
                      refine RowDen.join hkn hro hrn (fun j hj => ?_) (fun j hj => ?_)
                      · rw [Nat.zero_add, Array.append_assoc, Array.getElem?_append_left (by omega)]
                      · rw [Nat.zero_add, Array.append_assoc, Array.getElem?_append_right (by omega), hso, Nat.add_sub_cancel_left, Array.getElem?_append_left (by omega)]
                    have den1 : ∀ {cap' : Nat} {g' : Gh} {L1 : Nat → Prop} {N a0 o0 : Nat}, (a.ev U r).toL.length + (b.ev U r).toL.length ≤ cap' → L1 N → g'.a N = a0 → g'.o N = o0 → o0 + cap' * ie.size ≤ g'.n N →
                        (SV.slo N ie.size (mk1 .llen (joinE a b))).den U r g' L1 (.slice (some ⟨a0, o0, none⟩) ((a.ev U r).toL.length + (b.ev U r).toL.length) cap') := by
                      intro cap' g' L1 N a0 o0 k1 k2 k3 k4 k5
                      simp only [SV.den]
                      rw [hlen]
                      simp only [Int.toNat_natCast]
                      exact ⟨by omega, _, _, rfl, k1, .inr ⟨k2, by rw [k3, k4], by rw [k4]; exact k5⟩⟩
                    split at h
                    · rename_i id hid
                      obtain ⟨hl, blk, hb, hwr, base, cap, hv, hcap, hbase⟩ := baseOf_ok hkn hh hsx hid hx
                      have hidl := hh.bnd id hl
                      by_cases hfit : (a.ev U r).toL.length + (b.ev U r).toL.length ≤ cap
                      · rcases hbase with rfl | ⟨o, xs, t, rfl, q1, q2, q3, q4⟩
                        · -- nothing to nothing
                          subst hv
                          have hxn : xn.toList = [] := List.eq_nil_of_length_eq_zero (by simp only [Array.length_toList]; rw [hsn, show (b.ev U r).toL.length = 0 by omega]; simp)
                          have hrun := append_run_zero (ty := ty) (base := base) (l := (a.ev U r).toL.length) (cap := 0) hs hln hfn hfit hxn
                          obtain ⟨xs, t, fz, e1, e2, e3, e4, e5⟩ := hh.blk id blk hl hb
                          rw [e3 hwr] at e1
                          refine ⟨_, w, hrun, ?_⟩
                          have hw : Wrote (g.a id) xs t w w := ⟨e1, fun _ _ => rfl, rfl, rfl, rfl, rfl⟩
                          have hz0 : ((joinE a b).ev U r).toL = [] := List.eq_nil_of_length_eq_zero (by rw [hjl]; omega)
                          refine h _ _ w (ext_move hh hp hl hb hwr hw e2 (by simp) (fun j s hs => by simp at hs) (some (ks, joinE a b)) 0 (by
                            intro ks' e' he'; cases he'; rw [hz0]; intro i d hd; simp at hd)) ?_
                          simp only [SV.den]
                          rw [hlen]
                          simp only [Int.toNat_natCast]
                          exact ⟨by omega, _, _, rfl, by omega, .inl rfl⟩
                        · subst hv
                          have hcm := Nat.mul_le_mul_right ie.size hfit
                          obtain ⟨w', hw, hr⟩ := append_run_fits (ty := ty) (b := g.a id) (o := o) (l := (a.ev U r).toL.length) (m := (b.ev U r).toL.length) (cap := cap) hs hln hfn hfit q1 hsn (by omega) (hrn.one hkn hsn)
                          refine ⟨_, w', hr, ?_⟩
                          refine h _ _ w' (ext_move hh hp hl hb hwr hw (by rw [putIn_size]; exact q2) (by simp) (fun j s hs => by simp at hs) (some (ks, joinE a b)) o ?_) (den1 hfit (.inr ⟨Nat.le_refl _, by simp⟩) (by simp [Gh.put]) (by simp [Gh.put]) (by simp [Gh.put]; omega))
                          intro ks' e' he'
                          cases he'
                          rw [joinE_ev]
                          refine RowDen.join hkn q3 hrn (fun j hj => ?_) (fun j hj => ?_)
                          · rw [putIn_get _ _ _ _ (by simp; omega), if_neg (by omega)]
                          · rw [putIn_get _ _ _ _ (by simp; omega), if_pos (by simp; omega)]
                            have : o + ((a.ev U r).toL.length * ie.size + j) - (o + (a.ev U r).toL.length * ie.size) = j := by omega
                            rw [this]; simp
                      · obtain ⟨cap', xs, w', k1, k2, k3, k4⟩ := grow hv hfit
                        refine ⟨_, w', k1, ?_⟩
                        exact h _ _ w' (k4.drop hidl) (den1 k2 (.inr ⟨Nat.le_refl _, by simp⟩) (by simp [Gh.put]) (by simp [Gh.put]) (by simp [Gh.put]; omega))
                    · split at h
                      · split at h
                        · rename_i hpos
                          have hpos := sure_ok hp hpos
                          rw [mk2_ev] at hpos
                          have hpos : (0 : Int) < (m.ev U r).toI := of_decide_eq_true hpos
                          have hv : vx = .slice none 0 0 := hx
                          have ha0 : (a.ev U r).toL.length = 0 := by
                            have := hlo w; rw [hv] at this
                            have h1 : (Builtin.lenOf (.slice none 0 0)).run P w = .ok 0 w := rfl
                            rw [h1] at this
                            injection this with h2 _
                            exact h2.symm
                          obtain ⟨cap', xs, w', k1, k2, k3, k4⟩ := grow (base := none) (cap := 0) (by rw [ha0]; exact hv) (by omega)
                          refine ⟨_, w', k1, ?_⟩
                          exact h _ _ w' k4 (den1 k2 (.inr ⟨Nat.le_refl _, by simp⟩) (by simp [Gh.put]) (by simp [Gh.put]) (by simp [Gh.put]; omega))
                        · exact h.elim
                      · split at h
                        · rename_i hpos
                          have hpos := sure_ok hp hpos
                          rw [mk2_ev] at hpos
                          have hpos : (0 : Int) < (m.ev U r).toI := of_decide_eq_true hpos
                          simp only [SV.den] at hx
                          obtain ⟨base, hv⟩ := hx
                          have ha0 : (a.ev U r).toL.length = 0 := by
                            have := hlo w; rw [hv] at this
                            have h1 : (Builtin.lenOf (.slice base 0 0)).run P w = .ok 0 w := rfl
                            rw [h1] at this
                            injection this with h2 _
                            exact h2.symm
                          obtain ⟨cap', xs, w', k1, k2, k3, k4⟩ := grow (base := base) (cap := 0) (by rw [ha0]; exact hv) (by omega)
                          refine ⟨_, w', k1, ?_⟩
                          exact h _ _ w' k4 (den1 k2 (.inr ⟨Nat.le_refl _, by simp⟩) (by simp [Gh.put]) (by simp [Gh.put]) (by simp [Gh.put]; omega))
                        · exact h.elim
                      · exact h.elim
                  · exact h.elim
                · exact h.elim
              · exact h.elim
            · exact h.elim
          · exact h.elim
        · exact h.elim
      · exact h.elim
    · exact h.elim
  · exact h.elim
end
end Go.Sx

/-
  Sx, part J: every operation that calls no function.
-/
namespace Go.Sx
open E (mk1 mk2 mkIte mk1_ev mk2_ev mkIte_ev)

section
variable {U : Nat → D → D} {L : Nat → Prop} {r : Nat → D} {g : Gh} {c : Cx} {w w' : World} {P : Program} {K : Value → World → Prop}

def lenX (P : Program) (c : Cx) (t : TypeId) (x : SV) : Tree (SV × Cx) :=
  match P.underlying t, x with
  | some (.slice _), .sl _ _ _ len _ => .ret (.int .i64 len, c)
  | some (.slice _), .con (.slice none n _) => .ret (.int .i64 (.i n), c)
  | some .string, .str s => .ret (.int .i64 (mk1 .slen s), c)
  | some (.array n _), _ => .ret (.int .i64 (.i n), c)
  | _, _ => .bad

theorem lenX_ok {t ty : TypeId} {x : SV} {vx : Value} (hh : HeapDen U r g L c.h w) (hp : PcOk U r c.pc) (hx : x.den U r g L vx) (h : (lenX P c t x).sat U (Post U L r g c w K) r) :
    VOk P (Builtin.len_ #[t] ty #[vx]) w K := by
  unfold lenX at h
  have g0 : (#[t] : Array TypeId)[0]? = some t := rfl
  have g1 : (#[vx] : Array Value)[0]? = some vx := rfl
  split at h
  · rename_i hu
    simp only [SV.den] at hx
    obtain ⟨hl, h0, cp, rfl, _⟩ := hx
    refine ⟨_, w, by simp only [Builtin.len_, g0, g1, Sem.run_bind, run_und hu, Result.andThen_ok, Sem.run_pure]; rfl, Post.same h hh hp (Same.refl w) ?_⟩
    simp only [SV.den, goInt]
    rw [Int.toNat_of_nonneg h0]
  · rename_i hu
    simp only [SV.den] at hx
    subst hx
    exact ⟨_, w, by simp only [Builtin.len_, g0, g1, Sem.run_bind, run_und hu, Result.andThen_ok, Sem.run_pure]; rfl, Post.same h hh hp (Same.refl w) rfl⟩
  · rename_i hu
    simp only [SV.den] at hx
    subst hx
    refine ⟨_, w, by simp only [Builtin.len_, g0, g1, Sem.run_bind, run_und hu, Result.andThen_ok, Sem.run_pure]; rfl, Post.same h hh hp (Same.refl w) ?_⟩
    simp only [SV.den, mk1_ev]; rfl
  · rename_i hu
    exact ⟨_, w, by simp only [Builtin.len_, g0, g1, Sem.run_bind, run_und hu, Result.andThen_ok, Sem.run_pure]; rfl, Post.same h hh hp (Same.refl w) rfl⟩
  · exact h.elim

def lenY (P : Program) (c : Cx) (t : TypeId) (x : SV) : Tree (SV × Cx) :=
  match P.underlying t, x with
  | some (.slice _), .slo _ _ len => .ret (.int .i64 len, c)
  | _, x => lenX P c t x

theorem lenY_ok {t ty : TypeId} {x : SV} {vx : Value} (hh : HeapDen U r g L c.h w) (hp : PcOk U r c.pc) (hx : x.den U r g L vx) (h : (lenY P c t x).sat U (Post U L r g c w K) r) :
    VOk P (Builtin.len_ #[t] ty #[vx]) w K := by
  unfold lenY at h
  have g0 : (#[t] : Array TypeId)[0]? = some t := rfl
  have g1 : (#[vx] : Array Value)[0]? = some vx := rfl
  split at h
  · rename_i hu
    simp only [SV.den] at hx
    obtain ⟨h0, base, cp, rfl, _⟩ := hx
    refine ⟨_, w, by simp only [Builtin.len_, g0, g1, Sem.run_bind, run_und hu, Result.andThen_ok, Sem.run_pure]; rfl, Post.same h hh hp (Same.refl w) ?_⟩
    simp only [SV.den, goInt]
    rw [Int.toNat_of_nonneg h0]
  · exact lenX_ok hh hp hx h

def isSloV : SV → Bool
  | .slo _ _ _ => true
  | _ => false

def appendW (P : Program) (c : Cx) (t0 t1 : TypeId) (x y : SV) : Tree (SV × Cx) := if isSloV x || isSloV y then appendZ P c t0 t1 x y else appendX P c t0 t1 x y

theorem appendW_ok {t0 t1 ty : TypeId} {x y : SV} {vx vy : Value} (hh : HeapDen U r g L c.h w) (hp : PcOk U r c.pc) (hx : x.den U r g L vx) (hy : y.den U r g L vy)
    (h : (appendW P c t0 t1 x y).sat U (Post U L r g c w K) r) : VOk P (Builtin.append_ #[t0, t1] ty #[vx, vy]) w K := by
  unfold appendW at h
  split at h
  · exact appendZ_ok hh hp hx hy h
  · exact appendX_ok hh hp hx hy h

def makeSliceY (P : Program) (c : Cx) (t : TypeId) (x y : SV) : Tree (SV × Cx) :=
  match x, y with
  | .int _ (.i _), .int _ (.i _) => makeSliceX P c t x y
  | _, _ => makeSliceZ P c t x y

theorem makeSliceY_ok {t : TypeId} {x y : SV} {vx vy : Value} (hh : HeapDen U r g L c.h w) (hp : PcOk U r c.pc) (hx : x.den U r g L vx) (hy : y.den U r g L vy) (h : (makeSliceY P c t x y).sat U (Post U L r g c w K) r) :
    VOk P (Instr.makeSlice t vx vy) w K := by
  unfold makeSliceY at h
  split at h
  · exact makeSliceX_ok hh hp hx hy h
  · exact makeSliceZ_ok hh hp hx hy h

/-- The bits of a number are a number. -/
def unfb (c : Cx) (op : BinOp) (s : SV) : SV :=
  match op, s with
  | .add, .fb k e | .sub, .fb k e => if sure (mk2 (.feq k) e e) c.pc then .int (ukOf k) (mk1 .bits e) else .fb k e
  | _, s => s
theorem unfb_den {op : BinOp} {s : SV} {v : Value} (hp : PcOk U r c.pc) (hd : s.den U r g L v) : (unfb c op s).den U r g L v := by
  have key : ∀ {k : FloatKind} {e : E}, (SV.fb k e).den U r g L v → (if sure (mk2 (.feq k) e e) c.pc then SV.int (ukOf k) (mk1 .bits e) else .fb k e).den U r g L v := by
    intro k e hd
    split
    · rename_i hs
      have h1 := sure_ok hp hs
      rw [mk2_ev] at h1
      have h1 : Fl.eq k (e.ev U r).toF (e.ev U r).toF = true := h1
      simp only [SV.den] at hd ⊢
      obtain ⟨b, rfl, _, h3⟩ := hd
      rw [← h3] at h1
      have h4 : cn k b = some b := by
        cases hn : isNanW k b with
        | false => exact cn_of_not hn
        | true => rw [cn_of_nan hn] at h1; cases h1
      rw [mk1_ev]
      show Value.int (ukOf k) (b : Int) = Value.int (ukOf k) (Fl.bits (e.ev U r).toF)
      rw [← h3, h4]
      rfl
    · exact hd
  unfold unfb
  split
  · exact key hd
  · exact key hd
  · exact hd

/-- Is a row nil? Not where it has an element. -/
def binY (P : Program) (c : Cx) (op : BinOp) (t : TypeId) (x y : SV) : Tree (SV × Cx) :=
  match x, y with
  | .slo _ _ len, .con (.slice none 0 0) => (match P.underlying t, op with
    | some (.slice _), .eql => if sure (mk2 .ilt (.i 0) len) c.pc then .ret (.bool (.b false), c) else .bad
    | some (.slice _), .neq => if sure (mk2 .ilt (.i 0) len) c.pc then .ret (.bool (.b true), c) else .bad
    | _, _ => .bad)
  | x, y => bin P c op t x y
theorem binY_ok {op : BinOp} {t : TypeId} {x y : SV} {vx vy : Value} (ox oy : Operand) (hh : HeapDen U r g L c.h w) (hp : PcOk U r c.pc) (hx : x.den U r g L vx) (hy : y.den U r g L vy)
    (h : (binY P c op t x y).sat U (Post U L r g c w K) r) : VOk P (do eqGuard op t ox oy vx vy; Go.binOp op t vx vy) w K := by
  unfold binY at h
  split at h
  · rename_i id sz len
    have hy : vy = .slice none 0 0 := hy
    subst hy
    simp only [SV.den] at hx
    obtain ⟨h0, base, cp, rfl, h3, h4⟩ := hx
    have some_ : sure (mk2 .ilt (.i 0) len) c.pc = true → ∃ a, base = some a := by
      intro hs
      have hs := sure_ok hp hs
      rw [mk2_ev] at hs
      have hs : (0 : Int) < (len.ev U r).toI := of_decide_eq_true hs
      rcases h4 with h4 | ⟨_, h4, _⟩
      · omega
      · exact ⟨_, h4⟩
    have he : ∀ {e : TypeId} {a : Addr} {l : Nat}, P.underlying t = some (.slice e) → ∀ w, (Op.equal t (.slice (some a) l cp) (.slice none 0 0)).run P w = .ok false w := by
      intro e a l hu w
      have key : ∀ d, (Op.equalIn (d + 1) t (.slice (some a) l cp) (.slice none 0 0)).run P w = .ok false w := by
        intro d; rw [Op.equalIn, Sem.run_bind, run_und hu]; rfl
      exact key _
    split at h
    · rename_i e hu
      split at h
      · rename_i hs
        obtain ⟨a, rfl⟩ := some_ hs
        refine ⟨.bool false, w, ?_, Post.same h hh hp (Same.refl w) rfl⟩
        show ((do eqGuard .eql t ox oy (.slice (some a) _ cp) (.slice none 0 0); (do pure (.bool (← Op.equal t (.slice (some a) _ cp) (.slice none 0 0))) : Sem Value)) : Sem Value).run P w = _
        simp only [Sem.run_bind, eqGuard_by .eql t ox oy w (x := .slice (some a) _ cp) (by simp) (by simp), Result.andThen_ok, he hu, Sem.run_pure]
      · exact h.elim
    · rename_i e hu
      split at h
      · rename_i hs
        obtain ⟨a, rfl⟩ := some_ hs
        refine ⟨.bool true, w, ?_, Post.same h hh hp (Same.refl w) rfl⟩
        show ((do eqGuard .neq t ox oy (.slice (some a) _ cp) (.slice none 0 0); (do pure (.bool (!(← Op.equal t (.slice (some a) _ cp) (.slice none 0 0)))) : Sem Value)) : Sem Value).run P w = _
        simp only [Sem.run_bind, eqGuard_by .neq t ox oy w (x := .slice (some a) _ cp) (by simp) (by simp), Result.andThen_ok, he hu, Sem.run_pure]
        rfl
      · exact h.elim
    · exact h.elim
  · exact bin_ok ox oy hh hp hx hy h

/-- 's[:0:0]': nothing, and no room. -/
def slice3X (P : Program) (c : Cx) (t : TypeId) (x : SV) (lo hi : Option SV) (mx : SV) : Tree (SV × Cx) :=
  match P.underlying t, x with
  | some (.slice e), .slo _ _ _ => match szT P e, litNat lo 0, litNat hi 1, litNat (some mx) 1 with
    | some _, some 0, some 0, some 0 => .ret (.emp, c)
    | _, _, _, _ => .bad
  | _, _ => .bad
theorem slice3X_ok {t : TypeId} {x mx : SV} {vx vm : Value} {lo hi : Option SV} {vl vh : Option Value} (hh : HeapDen U r g L c.h w) (hp : PcOk U r c.pc) (hx : x.den U r g L vx) (hlo : OptDen U r g L lo vl) (hhi : OptDen U r g L hi vh) (hm : mx.den U r g L vm)
    (h : (slice3X P c t x lo hi mx).sat U (Post U L r g c w K) r) : VOk P (Instr.sliceAt t vx vl vh (some vm)) w K := by
  unfold slice3X at h
  split at h
  · rename_i e id sz len hu
    split at h
    · rename_i n hs h1 h2 h3
      have k1 := litNat_ok h1 hlo
      have k2 := litNat_ok h2 hhi
      have k3 := litNat_ok (v := some vm) h3 hm
      simp only [SV.den] at hx
      obtain ⟨h0, base, cp, rfl, _⟩ := hx
      have hb : ∀ (k : IntKind) (y : Nat) (code : BoundsCode), (Instr.sliceBound (.int k 0) y code).run P w = .ok 0 w := fun k y code => sliceBound_run (n := 0) code (Nat.zero_le _) w
      obtain ⟨kh, rfl⟩ : ∃ k, vh = some (.int k (0 : Nat)) := by
        rcases k2 with ⟨_, k2⟩ | k2
        · cases k2
        · exact k2
      obtain ⟨km, hkm⟩ : ∃ k, some vm = some (.int k (0 : Nat)) := by
        rcases k3 with ⟨_, k3⟩ | k3
        · cases k3
        · exact k3
      cases hkm
      refine ⟨.slice base 0 0, w, ?_, Post.same h hh hp (Same.refl w) ⟨base, rfl⟩⟩
      unfold Instr.sliceAt
      simp only [Sem.run_bind, run_und hu, Result.andThen_ok]
      unfold Instr.slice
      simp only [Sem.run_bind, run_und hu, Result.andThen_ok]
      unfold Instr.sliceBounds
      have hb' : ∀ (k : IntKind) (y : Nat) (code : BoundsCode), (Instr.sliceBound (.int k ((0 : Nat) : Int)) y code).run P w = .ok 0 w := hb
      rcases k1 with ⟨rfl, _⟩ | ⟨kl, rfl⟩
      · simp only [Sem.run_bind, hb', Result.andThen_ok, Sem.run_pure, run_sizeOf_of hs, if_true, Nat.sub_self]
      · simp only [Sem.run_bind, hb', Result.andThen_ok, Sem.run_pure, run_sizeOf_of hs, if_true, Nat.sub_self]
    · exact h.elim
  · exact h.elim

/-- One operation that calls no function of the program. -/
def opx (P : Program) (c : Cx) (ev : Operand → SV) : Op → Tree (SV × Cx)
  | .move x => .ret (ev x, c)
  | .assign x => .ret (ev x, c)
  | .pick b x y => match ev b with
    | .bool e => pickX c e (ev x) (ev y)
    | _ => .bad
  | .alloc t => allocX P c t
  | .box _ x => boxX c (ev x)
  | .build t parts => buildX P c t (parts.toList.map fun p => (p.1, ev p.2))
  | .buildSlice t len parts => buildSliceX P c t len (parts.toList.map fun p => (p.1, ev p.2))
  | .load t x => loadY P c t (ev x)
  | .store t x y => storeY P c t (ev x) (ev y)
  | .nilCheck x => nilCheckY c (ev x)
  | .binOp op t x y _ => binY P c op t (unfb c op (ev x)) (unfb c op (ev y))
  | .unOp op _ x => unX c op (ev x)
  | .convert s t x => convXX P c s t (ev x)
  | .makeSlice t x y => makeSliceY P c t (ev x) (ev y)
  | .makeFunc fn xs ys => .ret (.fn fn (xs.toList.map ev) (ys.toList.map ev), c)
  | .slice t x lo hi none => sliceX P c t (ev x) (lo.map ev) (hi.map ev)
  | .slice t x lo hi (some m) => slice3X P c t (ev x) (lo.map ev) (hi.map ev) (ev m)
  | .fieldAddr t x i => fieldAddrY P c t (ev x) i
  | .field t x i => fieldX P c t (ev x) i
  | .indexAddr t x i => indexAddrY P c t (ev x) (ev i)
  | .index t x i => indexX P c t (ev x) (ev i)
  | .extract x i => extractX c (ev x) i
  | .call cl => match cl.callee, cl.args.toList, cl.argTypes.toList with
    | .builtin .append, [x, y], [t0, t1] => appendW P c t0 t1 (ev x) (ev y)
    | .builtin .copy, [x, y], [t0, _] => copyX P c t0 (ev x) (ev y)
    | .builtin .len, [x], [t] => lenY P c t (ev x)
    | _, _, _ => .bad
  | _ => .bad

/-- What is asked of the run of an operation. -/
def OpGoal (P : Program) (o : Oper) (a : Act) (w : World) (K : Value → World → Prop) : Prop :=
  match (execOp a.eval o).run P w with
  | .ok (.value v) w' => K v w'
  | .ok .skip w' => K undef w'
  | .ok (.enter f args) w' => Calls P f args w' fun e w'' => ∃ v, e = .returned v ∧ K v w''
  | _ => False

theorem opGoal_v {o : Oper} {a : Act} {s : Sem Value} (he : execOp a.eval o = (do pure (.value (← s)))) (h : VOk P s w K) : OpGoal P o a w K := by
  obtain ⟨v, w', h1, h2⟩ := h
  unfold OpGoal
  rw [he, Sem.run_bind, h1]
  exact h2

theorem opGoal_u {o : Oper} {a : Act} {s : Sem Unit} (he : execOp a.eval o = (do s; pure .skip)) (h : VOk P s w fun _ w' => K undef w') : OpGoal P o a w K := by
  obtain ⟨v, w', h1, h2⟩ := h
  unfold OpGoal
  rw [he, Sem.run_bind, h1]
  exact h2

theorem opGoal_pure {o : Oper} {a : Act} {v : Value} (he : execOp a.eval o = pure (.value v)) (h : K v w) : OpGoal P o a w K := by
  unfold OpGoal
  rw [he]
  exact h

theorem partsDen_map {ev : Operand → SV} {a : Act} (hev : ∀ x, (ev x).den U r g L (a.eval x)) : ∀ (l : List (Nat × Operand)), PartsDen U r g L (l.map fun p => (p.1, ev p.2)) (l.map fun p => (p.1, a.eval p.2))
  | [] => trivial
  | p :: l => ⟨rfl, hev p.2, partsDen_map hev l⟩

theorem denL_map_ev {ev : Operand → SV} {a : Act} (hev : ∀ x, (ev x).den U r g L (a.eval x)) : ∀ (l : List Operand), SV.denL U r g L (l.map ev) (l.map a.eval)
  | [] => by simp [SV.denL]
  | x :: l => by simp only [List.map, SV.denL]; exact ⟨hev x, denL_map_ev hev l⟩

theorem optDen_map {ev : Operand → SV} {a : Act} (hev : ∀ x, (ev x).den U r g L (a.eval x)) (o : Option Operand) : OptDen U r g L (o.map ev) (o.map a.eval) := by
  cases o with
  | none => trivial
  | some x => exact hev x

theorem opx_ok {o : Oper} {a : Act} {ev : Operand → SV} (hh : HeapDen U r g L c.h w) (hp : PcOk U r c.pc) (hev : ∀ x, (ev x).den U r g L (a.eval x)) (h : (opx P c ev o.op).sat U (Post U L r g c w K) r) :
    OpGoal P o a w K := by
  obtain ⟨dst, op, type, pos, after, guard⟩ := o
  cases op <;> simp only [opx] at h <;> (try exact h.elim)
  case move x => exact opGoal_pure rfl (Post.same h hh hp (Same.refl w) (hev x))
  case assign x => exact opGoal_pure rfl (Post.same h hh hp (Same.refl w) (hev x))
  case pick b x y =>
    split at h
    · rename_i e he
      have hb := hev b
      rw [he] at hb
      simp only [SV.den] at hb
      refine opGoal_pure (v := if (e.ev U r).toB then a.eval x else a.eval y) ?_ (pickX_ok hh hp (hev x) (hev y) h)
      simp only [execOp, hb]
      rfl
    · exact h.elim
  case alloc t => exact opGoal_v rfl (allocX_ok hh hp h)
  case box t x => exact opGoal_v rfl (boxX_ok hh hp (hev x) h)
  case build t parts => exact opGoal_v rfl (buildX_ok hh hp (by have := partsDen_map hev parts.toList; simpa using this) h)
  case buildSlice t len parts => exact opGoal_v rfl (buildSliceX_ok hh hp (by have := partsDen_map hev parts.toList; simpa using this) h)
  case load t x => exact opGoal_v rfl (loadY_ok hh hp (hev x) h)
  case store t x y => exact opGoal_u rfl (storeY_ok hh hp (hev x) (hev y) h)
  case nilCheck x =>
    unfold nilCheckY at h
    have hx := hev x
    split at h
    · rename_i id sz i f he
      rw [he] at hx
      simp only [SV.den] at hx
      refine opGoal_pure (v := a.eval x) ?_ (Post.same h hh hp (Same.refl w) hx)
      simp only [execOp]; rw [hx.2.2]
    unfold nilCheckX at h
    split at h
    · rename_i id off he
      rw [he] at hx
      simp only [SV.den] at hx
      refine opGoal_pure (v := a.eval x) ?_ (Post.same h hh hp (Same.refl w) hx)
      simp only [execOp]; rw [hx.2]
    · rename_i f xs ys he
      rw [he] at hx
      simp only [SV.den] at hx
      refine opGoal_pure (v := a.eval x) ?_ (Post.same h hh hp (Same.refl w) hx)
      obtain ⟨p, q, hv, _⟩ := hx
      simp only [execOp]; rw [hv]
    · exact h.elim
  case binOp op t x y yt => exact opGoal_v rfl (binY_ok x y hh hp (unfb_den hp (hev x)) (unfb_den hp (hev y)) h)
  case unOp op t x => exact opGoal_v rfl (unX_ok hh hp (hev x) h)
  case convert s t x => exact opGoal_v rfl (convXX_ok hh hp (hev x) h)
  case makeFunc fn xs ys =>
    refine opGoal_v (s := Instr.makeFunc fn (xs.map a.eval) (ys.map a.eval)) rfl ⟨.func fn (xs.map a.eval) (ys.map a.eval), w, rfl, Post.same h hh hp (Same.refl w) ?_⟩
    simp only [SV.den]
    exact ⟨_, _, rfl, by have := denL_map_ev hev xs.toList; simpa using this, by have := denL_map_ev hev ys.toList; simpa using this⟩
  case makeSlice t x y => exact opGoal_v rfl (makeSliceY_ok hh hp (hev x) (hev y) h)
  case slice t x lo hi mx =>
    cases mx with
    | none => exact opGoal_v rfl (sliceX_ok hh hp (hev x) (optDen_map hev lo) (optDen_map hev hi) h)
    | some m => exact opGoal_v rfl (slice3X_ok hh hp (hev x) (optDen_map hev lo) (optDen_map hev hi) (hev m) h)
  case fieldAddr t x i => exact opGoal_v rfl (fieldAddrY_ok hh hp (hev x) h)
  case field t x i => exact opGoal_v rfl (fieldX_ok hh hp (hev x) h)
  case indexAddr t x i => exact opGoal_v rfl (indexAddrY_ok hh hp (hev x) (hev i) h)
  case index t x i => exact opGoal_v rfl (indexX_ok hh hp (hev x) (hev i) h)
  case extract x i => exact opGoal_v rfl (extractX_ok hh hp (hev x) h)
  case call cl =>
    obtain ⟨callee, args, argTypes⟩ := cl
    split at h
    · rename_i x y t0 t1 hc ha ht
      obtain rfl : callee = .builtin .append := hc
      obtain rfl : args = #[x, y] := by apply Array.toList_inj.1; exact ha
      obtain rfl : argTypes = #[t0, t1] := by apply Array.toList_inj.1; exact ht
      refine opGoal_v (s := Builtin.append_ #[t0, t1] type #[a.eval x, a.eval y]) (by simp [execOp, resolve, invoke, builtin]) (appendW_ok hh hp (hev x) (hev y) h)
    · rename_i x y t0 t1 hc ha ht
      obtain rfl : callee = .builtin .copy := hc
      obtain rfl : args = #[x, y] := by apply Array.toList_inj.1; exact ha
      obtain rfl : argTypes = #[t0, t1] := by apply Array.toList_inj.1; exact ht
      refine opGoal_v (s := Builtin.copy_ #[t0, t1] type #[a.eval x, a.eval y]) (by simp [execOp, resolve, invoke, builtin]) (copyX_ok hh hp (hev x) (hev y) h)
    · rename_i x t hc ha ht
      obtain rfl : callee = .builtin .len := hc
      obtain rfl : args = #[x] := by apply Array.toList_inj.1; exact ha
      obtain rfl : argTypes = #[t] := by apply Array.toList_inj.1; exact ht
      refine opGoal_v (s := Builtin.len_ #[t] type #[a.eval x]) (by simp [execOp, resolve, invoke, builtin]) (lenY_ok hh hp (hev x) h)
    · exact h.elim
end
end Go.Sx

/-
  Sx, part W: names: an expression of floats is given a variable, each expression one.
-/
namespace Go.Sx
open E (mk1 mk2 mkIte mk1_ev mk2_ev mkIte_ev)

/-! ### Naming: an expression of floats is given a variable -/

def atomE : E → Bool
  | .v _ | .f _ | .i _ | .b _ | .s _ => true
  | .o2 .sel (.o1 .snd (.app _ _)) (.i _) => true
  | _ => false

/-- One form for sums with products of units, and for halves. -/
def canonE (pc : List (E × Bool)) (e : E) : E :=
  match e with
  | .o2 (.fadd k) x (.v i) => (match seeN i pc with
    | some (.o2 (.fmul q) (.f (some s)) p) => if q = k then (if s = oneW k then .o2 (.fadd k) x p else if s = negOneW k then .o2 (.fsub k) x p else e) else e
    | _ => e)
  | .o2 (.fdiv k) x (.f (some s)) => if s = twoW k then .o2 (.fmul k) (.f (some (halfW k))) x else e
  | e => e
/-- A word under its name, old or new. -/
def giveName0 (e : E) (c : Cx) (l : List E) : E × Cx × List E :=
  if atomE e then (e, c, l) else
  match findE e c.pc with
  | some i => (.v i, c, l)
  | none => (.v c.nv, ⟨c.h, c.nv + 1, (.o2 .fsame (.v c.nv) e, true) :: c.pc⟩, .o2 .fsame (.v c.nv) e :: l)

def giveName (e : E) (c : Cx) (l : List E) : E × Cx × List E := giveName0 (canonE c.pc e) c l

/-- Names for a word of floats and for its parts; the list: what is laid down, the newest first. -/
def nameE : E → Cx → List E → E × Cx × List E
  | .o1 o x, c, l => match o with
    | .fneg k => (match nameE x c l with | (x', c', l') => giveName (mk1 (.fneg k) x') c' l')
    | .sqrt => (match nameE x c l with | (x', c', l') => giveName (mk1 .sqrt x') c' l')
    | .fabs k => (match nameE x c l with | (x', c', l') => giveName (mk1 (.fabs k) x') c' l')
    | .conv s k => (match nameE x c l with | (x', c', l') => giveName (mk1 (.conv s k) x') c' l')
    | .integral w => (match nameE x c l with | (x', c', l') => giveName (mk1 (.integral w) x') c' l')
    | o => giveName (.o1 o x) c l
  | .o2 o x y, c, l => match o with
    | .fadd k => (match nameE x c l with | (x', c', l') => match nameE y c' l' with | (y', c'', l'') => giveName (mk2 (.fadd k) x' y') c'' l'')
    | .fsub k => (match nameE x c l with | (x', c', l') => match nameE y c' l' with | (y', c'', l'') => giveName (mk2 (.fsub k) x' y') c'' l'')
    | .fmul k => (match nameE x c l with | (x', c', l') => match nameE y c' l' with | (y', c'', l'') => giveName (mk2 (.fmul k) x' y') c'' l'')
    | .fdiv k => (match nameE x c l with | (x', c', l') => match nameE y c' l' with | (y', c'', l'') => giveName (mk2 (.fdiv k) x' y') c'' l'')
    | o => giveName (.o2 o x y) c l
  | .o3 o x y z, c, l => giveName (.o3 o x y z) c l
  | .app n x, c, l => giveName (.app n x) c l
  | e, c, l => (e, c, l)

mutual
def rawSV : SV → Bool
  | .flt _ e => !atomE e
  | .agg cs => rawL cs
  | .tup cs => rawL cs
  | _ => false
def rawL : List SV → Bool
  | [] => false
  | x :: l => rawSV x || rawL l
end

mutual
def nameSV : SV → Cx → List E → SV × Cx × List E
  | .flt k e, c, l => (match nameE e c l with | (e', c', l') => (.flt k e', c', l'))
  | .agg cs, c, l => (match nameSL cs c l with | (cs', c', l') => (.agg cs', c', l'))
  | .tup cs, c, l => (match nameSL cs c l with | (cs', c', l') => (.tup cs', c', l'))
  | s, c, l => (s, c, l)
def nameSL : List SV → Cx → List E → List SV × Cx × List E
  | [], c, l => ([], c, l)
  | x :: xs, c, l => (match nameSV x c l with | (x', c', l') => match nameSL xs c' l' with | (xs', c'', l'') => (x' :: xs', c'', l''))
end

/-- What is laid down, the oldest first. -/
def chks {α : Type} : List E → Tree α → Tree α
  | [], t => t
  | e :: l, t => chks l (.chk e t)

/-- A result under names. -/
def nameRes (x : SV × Cx) : Tree (SV × Cx) :=
  if rawSV x.1 then
    match nameSV x.1 x.2 [] with
    | (s, c, l) => chks l (.ret (s, c))
  else .ret x

section
variable {U : Nat → D → D} {L : Nat → Prop} {r r' : Nat → D} {g g' : Gh} {c c' : Cx} {w w' : World} {K : Value → World → Prop}

theorem Ext.mint (e : Ext U L r g c w r' g' c' w') {c'' : Cx} (h1 : c''.h = c'.h) (h2 : c'.nv ≤ c''.nv) (h3 : PcOk U r' c''.pc) : Ext U L r g c w r' g' c'' w' where
  nv := Nat.le_trans e.nv h2
  agr := e.agr
  len := by rw [h1]; exact e.len
  ga := by rw [h1]; exact e.ga
  go := by rw [h1]; exact e.go
  heap := by rw [h1]; exact e.heap
  pc := h3
  frm := e.frm
  wrs := by rw [h1]; exact e.wrs
  fresh := by rw [h1]; exact e.fresh

theorem chks_sat {α : Type} {Q : (Nat → D) → α → Prop} : ∀ {l : List E} {t : Tree α}, (chks l t).sat U Q r → (∀ e ∈ l, (e.ev U r).toB = true) ∧ t.sat U Q r := by
  intro l
  induction l with
  | nil => intro t h; exact ⟨fun _ h => (by cases h), h⟩
  | cons e l ih =>
    intro t h
    obtain ⟨h1, h2⟩ := ih h
    exact ⟨fun x hx => by
      rcases List.mem_cons.1 hx with rfl | hx
      · exact h2.1
      · exact h1 x hx, h2.2⟩

/-- What naming has done. -/
structure Named (U : Nat → D → D) (r : Nat → D) (c : Cx) (l : List E) (c' : Cx) (l' : List E) : Prop where
  h : c'.h = c.h
  nv : c.nv ≤ c'.nv
  more : ∀ e ∈ l, e ∈ l'
  pc : PcOk U r c.pc → (∀ e ∈ l', (e.ev U r).toB = true) → PcOk U r c'.pc

theorem Named.refl (c : Cx) (l : List E) : Named U r c l c l := ⟨rfl, Nat.le_refl _, fun _ h => h, fun h _ => h⟩
theorem Named.trans {c1 c2 c3 : Cx} {l1 l2 l3 : List E} (a : Named U r c1 l1 c2 l2) (b : Named U r c2 l2 c3 l3) : Named U r c1 l1 c3 l3 :=
  ⟨b.h.trans a.h, Nat.le_trans a.nv b.nv, fun e he => b.more e (a.more e he), fun hp hl => b.pc (a.pc hp fun e he => hl e (b.more e he)) hl⟩

theorem giveName0_ok (e : E) (c : Cx) (l : List E) : Named U r c l (giveName0 e c l).2.1 (giveName0 e c l).2.2 ∧
    (PcOk U r c.pc → (∀ x ∈ (giveName0 e c l).2.2, (x.ev U r).toB = true) → ((giveName0 e c l).1.ev U r).toF = (e.ev U r).toF) := by
  unfold giveName0
  split
  · exact ⟨Named.refl _ _, fun _ _ => rfl⟩
  · split
    · rename_i i hf
      exact ⟨Named.refl _ _, fun hp _ => by simp only [E.ev]; exact findE_ok hp hf⟩
    · refine ⟨⟨rfl, Nat.le_succ _, fun _ h => List.mem_cons_of_mem _ h, fun hp hl => ?_⟩, fun _ hl => ?_⟩
      · intro y hy
        rcases List.mem_cons.1 hy with rfl | hy
        · exact hl _ (List.mem_cons_self ..)
        · exact hp y hy
      · have := hl _ (List.mem_cons_self ..)
        simpa [E.ev, O2.ev, D.toB_b] using this

theorem canonE_ok {pc : List (E × Bool)} (hp : PcOk U r pc) (e : E) : ((canonE pc e).ev U r).toF = (e.ev U r).toF := by
  unfold canonE
  split
  · rename_i k x i
    split
    · rename_i q s p hs
      have h1 := seeN_ok hp hs
      simp only [E.ev, O2.ev, D.toF_f] at h1
      split
      · rename_i hq
        subst hq
        split
        · rename_i h2
          subst h2
          simp only [E.ev, O2.ev, D.toF_f, h1]
          exact (add_one_mul _ _).symm
        · split
          · rename_i h2
            subst h2
            simp only [E.ev, O2.ev, D.toF_f, h1]
            exact (add_negOne_mul _ _).symm
          · rfl
      · rfl
    · rfl
  · rename_i k x s
    split
    · rename_i h2
      subst h2
      simp only [E.ev, O2.ev, D.toF_f]
      exact (div_two _).symm
    · rfl
  · rfl
theorem giveName_ok (e : E) (c : Cx) (l : List E) : Named U r c l (giveName e c l).2.1 (giveName e c l).2.2 ∧
    (PcOk U r c.pc → (∀ x ∈ (giveName e c l).2.2, (x.ev U r).toB = true) → ((giveName e c l).1.ev U r).toF = (e.ev U r).toF) := by
  have h := giveName0_ok (U := U) (r := r) (canonE c.pc e) c l
  exact ⟨h.1, fun hp hl => (h.2 hp hl).trans (canonE_ok hp e)⟩

theorem nameE_ok : ∀ (e : E) (c : Cx) (l : List E), Named U r c l (nameE e c l).2.1 (nameE e c l).2.2 ∧
    (PcOk U r c.pc → (∀ x ∈ (nameE e c l).2.2, (x.ev U r).toB = true) → ((nameE e c l).1.ev U r).toF = (e.ev U r).toF) := by
  intro e
  induction e with
  | v n => intro c l; exact ⟨Named.refl _ _, fun _ _ => rfl⟩
  | b n => intro c l; exact ⟨Named.refl _ _, fun _ _ => rfl⟩
  | i n => intro c l; exact ⟨Named.refl _ _, fun _ _ => rfl⟩
  | f n => intro c l; exact ⟨Named.refl _ _, fun _ _ => rfl⟩
  | s n => intro c l; exact ⟨Named.refl _ _, fun _ _ => rfl⟩
  | app n x _ => intro c l; exact giveName_ok _ _ _
  | o3 o x y z _ _ _ => intro c l; exact giveName_ok _ _ _
  | o1 o x ih =>
    intro c l
    have step : ∀ (o : O1), (∀ d d' : D, d.toF = d'.toF → (o.ev d).toF = (o.ev d').toF) →
        Named U r c l (giveName (mk1 o (nameE x c l).1) (nameE x c l).2.1 (nameE x c l).2.2).2.1 (giveName (mk1 o (nameE x c l).1) (nameE x c l).2.1 (nameE x c l).2.2).2.2 ∧
        (PcOk U r c.pc → (∀ y ∈ (giveName (mk1 o (nameE x c l).1) (nameE x c l).2.1 (nameE x c l).2.2).2.2, (y.ev U r).toB = true) →
          ((giveName (mk1 o (nameE x c l).1) (nameE x c l).2.1 (nameE x c l).2.2).1.ev U r).toF = ((E.o1 o x).ev U r).toF) := by
      intro o ho
      obtain ⟨a1, a2⟩ := ih c l
      obtain ⟨b1, b2⟩ := giveName_ok (U := U) (r := r) (mk1 o (nameE x c l).1) (nameE x c l).2.1 (nameE x c l).2.2
      refine ⟨a1.trans b1, fun hp hl => ?_⟩
      have hl' : ∀ y ∈ (nameE x c l).2.2, (y.ev U r).toB = true := fun y hy => hl y (b1.more y hy)
      rw [b2 (a1.pc hp hl') hl, mk1_ev]
      exact ho _ _ (a2 hp hl')
    cases o with
    | fneg k => exact step (.fneg k) (fun d d' h => by simp only [O1.ev, D.toF_f, h])
    | sqrt => exact step .sqrt (fun d d' h => by simp only [O1.ev, D.toF_f, h])
    | fabs k => exact step (.fabs k) (fun d d' h => by simp only [O1.ev, D.toF_f, h])
    | conv s k => exact step (.conv s k) (fun d d' h => by simp only [O1.ev, D.toF_f, h])
    | integral w => exact step (.integral w) (fun d d' h => by simp only [O1.ev, D.toF_f, h])
    | _ => exact giveName_ok _ _ _
  | o2 o x y ihx ihy =>
    intro c l
    have step : ∀ (o : O2), (∀ d d' k k' : D, d.toF = d'.toF → k.toF = k'.toF → (o.ev d k).toF = (o.ev d' k').toF) →
        let A := nameE x c l
        let B := nameE y A.2.1 A.2.2
        let C := giveName (mk2 o A.1 B.1) B.2.1 B.2.2
        Named U r c l C.2.1 C.2.2 ∧ (PcOk U r c.pc → (∀ y ∈ C.2.2, (y.ev U r).toB = true) → (C.1.ev U r).toF = ((E.o2 o x y).ev U r).toF) := by
      intro o ho A B C
      obtain ⟨a1, a2⟩ := ihx c l
      obtain ⟨b1, b2⟩ := ihy A.2.1 A.2.2
      obtain ⟨c1, c2⟩ := giveName_ok (U := U) (r := r) (mk2 o A.1 B.1) B.2.1 B.2.2
      refine ⟨(a1.trans b1).trans c1, fun hp hl => ?_⟩
      have hlB : ∀ y ∈ B.2.2, (y.ev U r).toB = true := fun y hy => hl y (c1.more y hy)
      have hlA : ∀ y ∈ A.2.2, (y.ev U r).toB = true := fun y hy => hlB y (b1.more y hy)
      have hpA := a1.pc hp hlA
      have hpB := b1.pc hpA hlB
      rw [c2 hpB hl, mk2_ev]
      exact ho _ _ _ _ (a2 hp hlA) (b2 hpA hlB)
    cases o with
    | fadd k => exact step (.fadd k) (fun d d' k k' h h' => by simp only [O2.ev, D.toF_f, h, h'])
    | fsub k => exact step (.fsub k) (fun d d' k k' h h' => by simp only [O2.ev, D.toF_f, h, h'])
    | fmul k => exact step (.fmul k) (fun d d' k k' h h' => by simp only [O2.ev, D.toF_f, h, h'])
    | fdiv k => exact step (.fdiv k) (fun d d' k k' h h' => by simp only [O2.ev, D.toF_f, h, h'])
    | _ => exact giveName_ok _ _ _

mutual
theorem nameSV_ok : ∀ (s : SV) (c : Cx) (l : List E), Named U r c l (nameSV s c l).2.1 (nameSV s c l).2.2 ∧
    (PcOk U r c.pc → (∀ x ∈ (nameSV s c l).2.2, (x.ev U r).toB = true) → ∀ v, s.den U r g L v → (nameSV s c l).1.den U r g L v)
  | .flt k e, c, l => by
    obtain ⟨h1, h2⟩ := nameE_ok (U := U) (r := r) e c l
    refine ⟨h1, fun hp hl v hd => ?_⟩
    simp only [SV.den] at hd
    obtain ⟨b, hb, hb1, hb2⟩ := hd
    show (SV.flt k (nameE e c l).1).den U r g L v
    simp only [SV.den]
    exact ⟨b, hb, hb1, by rw [hb2]; exact (h2 hp hl).symm⟩
  | .agg cs, c, l => by
    obtain ⟨h1, h2⟩ := nameSL_ok cs c l
    refine ⟨h1, fun hp hl v hd => ?_⟩
    simp only [SV.den] at hd
    obtain ⟨xs, hv, hc⟩ := hd
    show (SV.agg (nameSL cs c l).1).den U r g L v
    simp only [SV.den]
    exact ⟨xs, hv, h2 hp hl _ hc⟩
  | .tup cs, c, l => by
    obtain ⟨h1, h2⟩ := nameSL_ok cs c l
    refine ⟨h1, fun hp hl v hd => ?_⟩
    simp only [SV.den] at hd
    obtain ⟨xs, hv, hc⟩ := hd
    show (SV.tup (nameSL cs c l).1).den U r g L v
    simp only [SV.den]
    exact ⟨xs, hv, h2 hp hl _ hc⟩
  | .any, c, l => ⟨Named.refl _ _, fun _ _ _ h => h⟩
  | .bool e, c, l => ⟨Named.refl _ _, fun _ _ _ h => h⟩
  | .int k e, c, l => ⟨Named.refl _ _, fun _ _ _ h => h⟩
  | .str e, c, l => ⟨Named.refl _ _, fun _ _ _ h => h⟩
  | .con u, c, l => ⟨Named.refl _ _, fun _ _ _ h => h⟩
  | .ptr _ _, c, l => ⟨Named.refl _ _, fun _ _ _ h => h⟩
  | .sl _ _ _ _ _, c, l => ⟨Named.refl _ _, fun _ _ _ h => h⟩
  | .fn _ _ _, c, l => ⟨Named.refl _ _, fun _ _ _ h => h⟩
  | .fb _ _, c, l => ⟨Named.refl _ _, fun _ _ _ h => h⟩
  | .slo _ _ _, c, l => ⟨Named.refl _ _, fun _ _ _ h => h⟩
  | .ptrI _ _ _ _, c, l => ⟨Named.refl _ _, fun _ _ _ h => h⟩
  | .emp, c, l => ⟨Named.refl _ _, fun _ _ _ h => h⟩
theorem nameSL_ok : ∀ (s : List SV) (c : Cx) (l : List E), Named U r c l (nameSL s c l).2.1 (nameSL s c l).2.2 ∧
    (PcOk U r c.pc → (∀ x ∈ (nameSL s c l).2.2, (x.ev U r).toB = true) → ∀ v, SV.denL U r g L s v → SV.denL U r g L (nameSL s c l).1 v)
  | [], c, l => ⟨Named.refl _ _, fun _ _ _ h => h⟩
  | x :: xs, c, l => by
    obtain ⟨a1, a2⟩ := nameSV_ok x c l
    obtain ⟨b1, b2⟩ := nameSL_ok xs (nameSV x c l).2.1 (nameSV x c l).2.2
    refine ⟨a1.trans b1, fun hp hl v hd => ?_⟩
    have hlA : ∀ y ∈ (nameSV x c l).2.2, (y.ev U r).toB = true := fun y hy => hl y (b1.more y hy)
    cases v with
    | nil => simp [SV.denL] at hd
    | cons v vs =>
      simp only [SV.denL] at hd
      show SV.denL U r g L ((nameSV x c l).1 :: (nameSL xs (nameSV x c l).2.1 (nameSV x c l).2.2).1) (v :: vs)
      simp only [SV.denL]
      exact ⟨a2 hp hlA v hd.1, b2 (a1.pc hp hlA) hl vs hd.2⟩
end

theorem nameRes_ok {x : SV × Cx} {r' : Nat → D} (h : (nameRes x).sat U (Post U L r g c w K) r') : Post U L r g c w K r' x := by
  unfold nameRes at h
  split at h
  · obtain ⟨hl, hq⟩ := chks_sat h
    intro g' v w' he hd
    obtain ⟨n1, n2⟩ := nameSV_ok (U := U) (r := r') (g := g') (L := Lx L c.h x.2.h) x.1 x.2 []
    refine hq g' v w' (he.mint n1.h n1.nv (n1.pc he.pc hl)) ?_
    show SV.den U r' g' (Lx L c.h (nameSV x.1 x.2 []).2.1.h) (nameSV x.1 x.2 []).1 v
    rw [n1.h]
    exact n2 he.pc hl v hd
  · exact h
end
end Go.Sx
