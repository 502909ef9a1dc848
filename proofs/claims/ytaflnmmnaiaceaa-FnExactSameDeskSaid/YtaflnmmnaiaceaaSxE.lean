/-
  Sx, part E: the other operations: memory, structs, slices, conversions.
-/
import Derived.Test.YtaflnmmnaiaceaaSxD
import Derived.Laws.Tables
namespace Go.Sx
open E (mk1 mk2 mkIte mk1_ev mk2_ev mkIte_ev)

section
variable {U : Nat → D → D} {L : Nat → Prop} {r : Nat → D} {g : Gh} {c : Cx} {w : World} {P : Program} {K : Value → World → Prop}

/-! ### Loads and stores -/

def loadP (P : Program) (c : Cx) (t : TypeId) (x : SV) : Option SV :=
  match x with
  | .ptr id off =>
    match c.h[id]? with
    | some (some b) =>
      match aggT P t with
      | some true =>
        match szT P t with
        | some n => if off + n ≤ b.cs.length then some (.agg ((b.cs.drop off).take n)) else none
        | none => none
      | some false => b.cs[off]?
      | none => none
    | _ => none
  | _ => none

theorem loadP_ok {t : TypeId} {x s : SV} {vx : Value} (hh : HeapDen U r g L c.h w) (hx : x.den U r g L vx) (h : loadP P c t x = some s) :
    ∃ ad v, vx = .pointer (some ad) ∧ (loadVar t ad).run P w = .ok v w ∧ s.den U r g L v := by
  unfold loadP at h
  split at h
  · rename_i id off
    simp only [SV.den] at hx
    obtain ⟨hl, rfl⟩ := hx
    split at h
    · rename_i b hb
      obtain ⟨xs, t', fz, e1, e2, e3, e4, e5⟩ := hh.blk id b hl hb
      split at h
      · rename_i ha
        split at h
        · rename_i n hs
          split at h
          · rename_i hle
            cases h
            refine ⟨_, .agg (xs.extract off (off + n)), rfl, run_loadVar_agg e1 ha hs (by omega), _, rfl, ?_⟩
            refine SV.denL_of U r g L ?_ fun i s v h1 h2 => ?_
            · simp; omega
            · have hi : i < n := by
                rcases Nat.lt_or_ge i n with h' | h'
                · exact h'
                · rw [List.getElem?_eq_none (by simp; omega)] at h1; cases h1
              rw [List.getElem?_take, if_pos hi, List.getElem?_drop] at h1
              obtain ⟨v', hv', hd⟩ := e5 (off + i) s h1
              have : v = v' := by
                simp only [Array.toList_extract, List.extract_eq_take_drop, List.getElem?_take, List.getElem?_drop] at h2
                rw [if_pos (by omega)] at h2
                rw [Array.getElem?_toList, hv'] at h2
                exact (Option.some.inj h2).symm
              subst this; exact hd
          · cases h
        · cases h
      · rename_i ha
        obtain ⟨v, hv, hd⟩ := e5 off s h
        exact ⟨_, v, rfl, run_loadVar_one e1 ha hv, hd⟩
      · cases h
    · cases h
  · cases h

def loadX (P : Program) (c : Cx) (t : TypeId) (x : SV) : Tree (SV × Cx) :=
  match loadP P c t x with
  | some s => .ret (s, c)
  | none => .bad

theorem loadX_ok {t : TypeId} {x : SV} {vx : Value} (hh : HeapDen U r g L c.h w) (hp : PcOk U r c.pc) (hx : x.den U r g L vx) (h : (loadX P c t x).sat U (Post U L r g c w K) r) : VOk P (Instr.loadAt t vx) w K := by
  unfold loadX at h
  split at h
  · rename_i s hs
    obtain ⟨ad, v, rfl, h1, h2⟩ := loadP_ok hh hx hs
    refine ⟨v, w, ?_, Post.same h hh hp (Same.refl w) h2⟩
    simp only [Instr.loadAt, Instr.sureAddr, Sem.run_bind, Sem.run_pure, Result.andThen_ok]
    exact h1
  · exact h.elim

/-- Cells put into a list. -/
def putL (xs : List SV) (o : Nat) (vs : List SV) : List SV := xs.take o ++ vs ++ xs.drop (o + vs.length)

theorem putL_length {xs vs : List SV} {o : Nat} (h : o + vs.length ≤ xs.length) : (putL xs o vs).length = xs.length := by
  unfold putL; simp; omega

theorem putL_get {xs vs : List SV} {o : Nat} (h : o + vs.length ≤ xs.length) (j : Nat) : (putL xs o vs)[j]? = if o ≤ j ∧ j < o + vs.length then vs[j - o]? else xs[j]? := by
  unfold putL
  by_cases h1 : j < o
  · rw [if_neg (by omega), List.append_assoc, List.getElem?_append_left (by simp; omega), List.getElem?_take, if_pos h1]
  · by_cases h2 : j < o + vs.length
    · rw [if_pos (by omega), List.append_assoc, List.getElem?_append_right (by simp; omega), List.getElem?_append_left (by simp; omega)]
      congr 1; simp; omega
    · rw [if_neg (by omega), List.getElem?_append_right (by simp; omega), List.getElem?_drop]
      congr 1; simp; omega

def storeX (P : Program) (c : Cx) (t : TypeId) (x y : SV) : Tree (SV × Cx) :=
  match x with
  | .ptr id off =>
    match c.h[id]? with
    | some (some b) =>
      match y.cells?, szT P t with
      | some cs, some n =>
        if b.wr = true ∧ cs.length = n ∧ off + n ≤ b.cs.length then .ret (.any, { c with h := c.h.set id (some ⟨true, putL b.cs off cs, none⟩) }) else .bad
      | _, _ => .bad
    | _ => .bad
  | _ => .bad

theorem storeX_ok {t : TypeId} {x y : SV} {vx vy : Value} (hh : HeapDen U r g L c.h w) (hp : PcOk U r c.pc) (hx : x.den U r g L vx) (hy : y.den U r g L vy) (h : (storeX P c t x y).sat U (Post U L r g c w K) r) :
    VOk P (Instr.storeAt t vx vy) w fun _ w' => K undef w' := by
  unfold storeX at h
  split at h
  · rename_i id off
    simp only [SV.den] at hx
    obtain ⟨hl, rfl⟩ := hx
    split at h
    · rename_i b hb
      obtain ⟨xs, t', fz, e1, e2, e3, e4, e5⟩ := hh.blk id b hl hb
      split at h
      · rename_i cs n hcs hsz
        split at h
        · rename_i hc
          obtain ⟨hwr, hn, hle⟩ := hc
          obtain ⟨hd, h1⟩ := cells_ok (U := U) (L := L) (r := r) (g := g) hcs hy
          have hlen := SV.denL_length U r g L hd
          rw [e3 hwr] at e1
          have hvs : vy.cells.size = n := by rw [← hn, hlen]; simp
          obtain ⟨w', hr, hw⟩ := run_storeVar_of (P := P) (o := off) e1 (by rw [hvs]; exact hsz) (by rw [hvs]; omega) h1
          refine ⟨(), w', ?_, ?_⟩
          · simp only [Instr.storeAt, Instr.sureAddr, Sem.run_bind, Sem.run_pure, Result.andThen_ok]; exact hr
          · have hlc : vy.cells.toList.length = cs.length := hlen.symm
            have hpl := putL_length (xs := b.cs) (vs := cs) (o := off) (by omega)
            refine h g undef w' (ext_store hh hp hl hb hwr hw (by rw [putIn_size]; exact e2) (by rw [putIn_size, hpl]; exact e4) fun j s hs => ?_) trivial
            rw [putL_get (by omega)] at hs
            rw [putIn_get _ _ _ _ (by rw [hlc]; omega), hlc]
            split at hs
            · rename_i hj; rw [if_pos hj]; exact SV.denL_get U r g L hd hs
            · rename_i hj; rw [if_neg hj]; exact e5 j s hs
        · exact h.elim
      · exact h.elim
    · exact h.elim
  · exact h.elim

/-! ### New blocks -/

def newX (c : Cx) (cs : List SV) : Tree (SV × Cx) := .ret (.ptr c.h.length 0, { c with h := c.h ++ [some ⟨true, cs, none⟩] })

theorem new_den {xs : Array Value} {cs : List SV} : (SV.ptr c.h.length 0).den U r (g.put c.h.length w.heap.size xs.size) (Lx L c.h (c.h ++ [some ⟨true, cs, none⟩])) (.pointer (some ⟨w.heap.size, 0, none⟩)) := by
  simp only [SV.den]
  exact ⟨.inr ⟨Nat.le_refl _, by simp⟩, by simp [Gh.put]⟩

theorem newX_ok {cs : List SV} {v : Value} (t : TypeId) (hh : HeapDen U r g L c.h w) (hp : PcOk U r c.pc) (hd : SV.denL U r g L cs v.cells.toList) (h : (newX c cs).sat U (Post U L r g c w K) r) :
    VOk P (do pure (Value.pointer (some (← newVar t v)))) w K := by
  refine ⟨_, _, by rw [Sem.run_bind, run_newVar_of, Result.andThen_ok]; rfl, ?_⟩
  have hlen := SV.denL_length U r g L hd
  refine h _ _ _ (ext_alloc (xs := v.cells) hh hp t (by rw [hlen]; rw [List.take_length]; exact hd) (by rw [hlen]; simp) true) new_den

def allocX (P : Program) (c : Cx) (t : TypeId) : Tree (SV × Cx) :=
  match zeroT P t with
  | some z => match (ofValue z).cells? with
    | some cs => newX c cs
    | none => .bad
  | none => .bad

theorem allocX_ok {t : TypeId} (hh : HeapDen U r g L c.h w) (hp : PcOk U r c.pc) (h : (allocX P c t).sat U (Post U L r g c w K) r) : VOk P (Instr.alloc t true (.tuple #[])) w K := by
  unfold allocX at h
  split at h
  · rename_i z hz
    split at h
    · rename_i cs hcs
      obtain ⟨hd, _⟩ := cells_ok (U := U) (L := L) (r := r) (g := g) hcs (ofValue_den z)
      unfold Instr.alloc
      refine VOk.bind ⟨z, w, run_zero_of hz w, ?_⟩
      exact newX_ok t hh hp hd h
    · exact h.elim
  · exact h.elim

def boxX (c : Cx) (x : SV) : Tree (SV × Cx) :=
  match x.cells? with
  | some cs => newX c cs
  | none => .bad

theorem boxX_ok {t : TypeId} {x : SV} {vx : Value} (hh : HeapDen U r g L c.h w) (hp : PcOk U r c.pc) (hx : x.den U r g L vx) (h : (boxX c x).sat U (Post U L r g c w K) r) : VOk P (Instr.box t vx) w K := by
  unfold boxX at h
  split at h
  · rename_i cs hcs
    obtain ⟨hd, _⟩ := cells_ok (U := U) (L := L) (r := r) (g := g) hcs hx
    exact newX_ok t hh hp hd h
  · exact h.elim

/-! ### Structs and arrays put together -/

def fillS (place : Nat → Option (Nat × Nat)) (cells : List SV) : List (Nat × SV) → Option (List SV)
  | [] => some cells
  | (i, s) :: rest =>
    match place i, s.cells? with
    | some (off, size), some cs => if cs.length = size ∧ off + cs.length ≤ cells.length then fillS place (putL cells off cs) rest else none
    | _, _ => none

theorem foldl_put : ∀ (vs : List Value) (xs : Array Value) (o k : Nat), (vs.zipIdx k).foldl (fun cs x => cs.setIfInBounds (o + x.2) x.1) xs = putIn xs (o + k) vs := by
  intro vs
  induction vs with
  | nil => intro xs o k; rfl
  | cons v vs ih => intro xs o k; simp only [List.zipIdx_cons, List.foldl_cons, putIn]; rw [ih]; rfl

/-- The parts stand for the parts. -/
def PartsDen (U : Nat → D → D) (r : Nat → D) (g : Gh) (L : Nat → Prop) : List (Nat × SV) → List (Nat × Value) → Prop
  | [], [] => True
  | (i, s) :: l, (j, v) :: m => i = j ∧ s.den U r g L v ∧ PartsDen U r g L l m
  | _, _ => False

theorem putL_den {cells cs : List SV} {xs vs : List Value} {o : Nat} (hd : SV.denL U r g L cells xs) (hc : SV.denL U r g L cs vs) (hle : o + cs.length ≤ cells.length) :
    SV.denL U r g L (putL cells o cs) (putIn xs.toArray o vs).toList := by
  have h1 := SV.denL_length U r g L hd
  have h2 := SV.denL_length U r g L hc
  refine SV.denL_of U r g L ?_ fun i s v hs hv => ?_
  · rw [putL_length hle]; simp only [Array.length_toList]; rw [putIn_size]; simpa using h1
  · rw [Array.getElem?_toList, putIn_get _ _ _ _ (by simp; omega), ← h2] at hv
    rw [putL_get hle] at hs
    split at hs
    · rename_i hj; rw [if_pos hj] at hv
      obtain ⟨v', hv', hd'⟩ := SV.denL_get U r g L hc hs
      rw [hv] at hv'; rw [Option.some.inj hv']; exact hd'
    · rename_i hj; rw [if_neg hj] at hv
      obtain ⟨v', hv', hd'⟩ := SV.denL_get U r g L hd hs
      have : xs.toArray[i]? = xs[i]? := by simp
      rw [this, hv'] at hv; rw [← Option.some.inj hv]; exact hd'

theorem fillS_ok {place : Nat → Option (Nat × Nat)} : ∀ {parts : List (Nat × SV)} {vparts : List (Nat × Value)} {cells out : List SV} {xs : Array Value}, fillS place cells parts = some out → SV.denL U r g L cells xs.toList →
    PartsDen U r g L parts vparts → ∃ ys, Instr.fill place xs vparts = some ys ∧ SV.denL U r g L out ys.toList := by
  intro parts
  induction parts with
  | nil =>
    intro vparts cells out xs h hd hp
    cases vparts with
    | nil => simp [fillS] at h; subst h; exact ⟨xs, rfl, hd⟩
    | cons a b => simp [PartsDen] at hp
  | cons a rest ih =>
    intro vparts cells out xs h hd hp
    obtain ⟨i, s⟩ := a
    cases vparts with
    | nil => simp [PartsDen] at hp
    | cons b m =>
      obtain ⟨j, v⟩ := b
      simp only [PartsDen] at hp
      obtain ⟨rfl, hs, hp⟩ := hp
      simp only [fillS] at h
      split at h
      · rename_i off size cs hpl hcs
        split at h
        · rename_i hc
          obtain ⟨hcd, _⟩ := cells_ok (U := U) (L := L) (r := r) (g := g) hcs hs
          have hl := SV.denL_length U r g L hcd
          have hx := SV.denL_length U r g L hd
          simp only [Array.length_toList] at hl hx
          obtain ⟨ys, hy, hyd⟩ := ih h (putL_den (xs := xs.toList) hd hcd hc.2) hp
          refine ⟨ys, ?_, hyd⟩
          unfold Instr.fill
          simp only [hpl]
          have hg : ((v.cells.size ≠ size || off + v.cells.size > xs.size) : Bool) = false := by simp; omega
          rw [hg]
          simp only [Bool.false_eq_true, if_false]
          have hf : v.cells.zipIdx.foldl (fun cs x => cs.setIfInBounds (off + x.2) x.1) xs = putIn xs off v.cells.toList := by
            rw [← Array.foldl_toList, Array.toList_zipIdx, foldl_put]; rfl
          have hf' : (v.cells.zipIdx.foldl (fun cs x => match x with | (c, j) => cs.setIfInBounds (off + j) c) xs) = putIn xs off v.cells.toList := hf
          rw [hf']
          simpa using hy
        · cases h
      · cases h

def buildX (P : Program) (c : Cx) (t : TypeId) (parts : List (Nat × SV)) : Tree (SV × Cx) :=
  match P.underlying t, zeroT P t with
  | some (.struct fields), some z =>
    match (ofValue z).cells?, fields.toList.mapM (fun f => (P.info? f.type).map fun i => (f.offset, i.size)) with
    | some zs, some places => match fillS (places.toArray[·]?) zs parts with
      | some cs => .ret (.agg cs, c)
      | none => .bad
    | _, _ => .bad
  | some (.array _ e), some z =>
    match (ofValue z).cells?, szT P e with
    | some zs, some n => match fillS (fun i => some (i * n, n)) zs parts with
      | some cs => .ret (.agg cs, c)
      | none => .bad
    | _, _ => .bad
  | _, _ => .bad

theorem buildX_ok {t : TypeId} {parts : List (Nat × SV)} {vparts : Array (Nat × Value)} (hh : HeapDen U r g L c.h w) (hp : PcOk U r c.pc) (hd : PartsDen U r g L parts vparts.toList)
    (h : (buildX P c t parts).sat U (Post U L r g c w K) r) : VOk P (Instr.build t vparts) w K := by
  unfold buildX at h
  have zinfo : ∀ {z}, zeroT P t = some z → ∃ it, P.info? t = some it ∧ it.zero = some z := by
    intro z hz
    unfold zeroT at hz
    cases hi : P.info? t with
    | none => rw [hi] at hz; cases hz
    | some it => rw [hi] at hz; exact ⟨it, rfl, hz⟩
  split at h
  · rename_i fields z hu hz
    split at h
    · rename_i zs places hzs hpl
      split at h
      · rename_i cs hf
        obtain ⟨it, hi, hiz⟩ := zinfo hz
        obtain ⟨hzd, _⟩ := cells_ok (U := U) (L := L) (r := r) (g := g) hzs (ofValue_den z)
        obtain ⟨ys, hy, hyd⟩ := fillS_ok hf hzd hd
        refine ⟨.agg ys, w, run_build w t vparts ys ?_, Post.same h hh hp (Same.refl w) ⟨ys, rfl, hyd⟩⟩
        unfold Program.built
        simp only [hi, hu, hiz, hpl]
        exact hy
      · exact h.elim
    · exact h.elim
  · rename_i n e z hu hz
    split at h
    · rename_i zs m hzs hm
      split at h
      · rename_i cs hf
        obtain ⟨it, hi, hiz⟩ := zinfo hz
        obtain ⟨hzd, _⟩ := cells_ok (U := U) (L := L) (r := r) (g := g) hzs (ofValue_den z)
        obtain ⟨ys, hy, hyd⟩ := fillS_ok hf hzd hd
        unfold szT at hm
        cases hie : P.info? e with
        | none => rw [hie] at hm; cases hm
        | some ie =>
          rw [hie] at hm
          simp at hm
          refine ⟨.agg ys, w, run_build w t vparts ys ?_, Post.same h hh hp (Same.refl w) ⟨ys, rfl, hyd⟩⟩
          unfold Program.built
          simp only [hi, hu, hiz, hie, hm]
          exact hy
      · exact h.elim
    · exact h.elim
  · exact h.elim
end
end Go.Sx
