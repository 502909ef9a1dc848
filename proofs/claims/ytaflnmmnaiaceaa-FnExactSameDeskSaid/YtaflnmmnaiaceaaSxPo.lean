/-
  Sx, part Po: loops of any number of rounds, where they stand: what is known behind one.
-/
import Derived.Test.YtaflnmmnaiaceaaSxPn
namespace Go.Sx
open E (mk1 mk2 mkIte mk1_ev mk2_ev mkIte_ev)

/-- The blocks behind a loop: the first ones where they were, the others new. -/
def outBl (bls : List Nat) (N nf : Nat) : Nat → Nat := fun j => if j < nf then blOf bls j else N + (j - nf)

def posOf (id : Nat) : List Nat → Option Nat
  | [] => none
  | x :: l => if Nat.beq x id then some 0 else (posOf id l).map (· + 1)

theorem posOf_some {id : Nat} : ∀ {l : List Nat} {j : Nat}, posOf id l = some j → l[j]? = some id := by
  intro l
  induction l with
  | nil => intro j h; cases h
  | cons x l ih =>
    intro j h
    unfold posOf at h
    split at h
    · rename_i hb; cases h; have := Nat.eq_of_beq_eq_true hb; subst this; rfl
    · simp only [Option.map_eq_some_iff] at h
      obtain ⟨k, hk, rfl⟩ := h
      simpa using ih hk

theorem posOf_none {id : Nat} : ∀ {l : List Nat}, posOf id l = none → ∀ j : Nat, l[j]? ≠ some id := by
  intro l
  induction l with
  | nil => intro _ j; simp
  | cons x l ih =>
    intro h j
    unfold posOf at h
    split at h
    · cases h
    · rename_i hb
      simp only [Option.map_eq_none_iff] at h
      cases j with
      | zero =>
        intro hx
        simp at hx
        subst hx
        exact hb (Nat.beq_refl x)
      | succ j => simpa using ih h j

/-- What becomes of an old block. -/
def updB (t : Tmpl) (sbs : List SB) (bls : List Nat) (id : Nat) (o : Option SB) : Option SB :=
  match posOf id bls with
  | some j => if j < t.nf then (match t.blks[j]? with
      | some b => if b.wr then sbs[j]? else o
      | none => o) else none
  | none => o

def updH (t : Tmpl) (sbs : List SB) (bls : List Nat) : Nat → SH → SH
  | _, [] => []
  | id, o :: l => updB t sbs bls id o :: updH t sbs bls (id + 1) l

theorem updH_length (t : Tmpl) (sbs : List SB) (bls : List Nat) : ∀ (l : SH) (i : Nat), (updH t sbs bls i l).length = l.length := by
  intro l
  induction l with
  | nil => intro i; rfl
  | cons o l ih => intro i; simp [updH, ih]

theorem updH_get (t : Tmpl) (sbs : List SB) (bls : List Nat) : ∀ (l : SH) (i k : Nat), (updH t sbs bls i l)[k]? = (l[k]?).map (updB t sbs bls (i + k)) := by
  intro l
  induction l with
  | nil => intro i k; simp [updH]
  | cons o l ih =>
    intro i k
    cases k with
    | zero => simp [updH]
    | succ k => simp only [updH, List.getElem?_cons_succ, ih]; congr 2; omega

def outSbs (H : SH) (t to : Tmpl) (bls : List Nat) (es : List E) : List SB := to.sbs (nmOf es) (outBl bls H.length t.nf)
def newH (H : SH) (t to : Tmpl) (bls : List Nat) (es : List E) : SH := updH t (outSbs H t to bls es) bls 0 H ++ ((outSbs H t to bls es).drop t.nf).map some
def outTm (H : SH) (t to : Tmpl) (bls : List Nat) (es : List E) : Tm := to.tm (nmOf es) (outBl bls H.length t.nf)

section
variable {U : Nat → D → D} {L L' : Nat → Prop} {r : Nat → D} {g g' : Gh} {w w' : World} {a a' : Act}

theorem sameWr_get : ∀ {l m : List BP} {j : Nat} {b b' : BP}, sameWr l m = true → l[j]? = some b → m[j]? = some b' → b.wr = b'.wr := by
  intro l
  induction l with
  | nil => intro m j b b' _ h; simp at h
  | cons x l ih =>
    intro m j b b' h h1 h2
    cases m with
    | nil => simp at h2
    | cons y m =>
      simp only [sameWr, Bool.and_eq_true, beq_iff_eq] at h
      cases j with
      | zero => simp at h1 h2; subst h1 h2; exact h.1
      | succ j => exact ih h.2 (by simpa using h1) (by simpa using h2)

theorem sbs_at (t : Tmpl) (nm : Nat → E) (bl : Nat → Nat) (j : Nat) : (t.sbs nm bl)[j]? = (t.blks[j]?).map fun b => bpSB nm bl j (varOf t.at0 t.blks j) b := by
  rw [Tmpl.sbs, blksSB_get]; simp

set_option maxHeartbeats 2000000 in
/-- BEHIND A LOOP. -/
theorem loop_out {S : St} {t to : Tmpl} {es0 es : List E} {bls : List Nat} {pc : List (E × Bool)} {os : List D} (hh : HeapDen U r g L S.c.h w) (hp : PcOk U r pc) (hf : Fits t es0 bls S) (ht : t.wf = true) (hto : to.wf = true)
    (hnf : to.nf = t.nf) (hsw : sameWr (t.blks.take t.nf) (to.blks.take t.nf) = true) (hst : StDen U to E.v id (rOf os) g' L' a' w')
    (hrel : Rel t (g.via (blOf bls)) (fun j => j < t.blks.length ∧ L (blOf bls j)) w g' L' w') (hv : ∀ j, EqAt to.blks.length j (rOf os j) ((nmOf es j).ev U r)) :
    ∃ gf, Ext U L r g S.c w r gf ⟨newH S.c.h t to bls es, S.c.nv, pc⟩ w' ∧ Slots U r gf (Lx L S.c.h (newH S.c.h t to bls es)) (outTm S.c.h t to bls es) a' := by
  let N := S.c.h.length
  let bl := outBl bls N t.nf
  obtain ⟨t1, t2, t3, t4⟩ := Tmpl.wf_ok ht
  obtain ⟨o1, o2, o3, o4⟩ := Tmpl.wf_ok hto
  have hblt : ∀ {j : Nat}, j < t.blks.length → blOf bls j < N := fun {j} hj => by
    obtain ⟨s, h1, _⟩ := hf.blk (List.getElem?_eq_getElem hj)
    exact (List.getElem?_eq_some_iff.1 h1).1
  have hbls : ∀ {j : Nat}, j < t.blks.length → bls[j]? = some (blOf bls j) := fun {j} hj => by
    unfold blOf
    rw [List.getD_eq_getElem?_getD, List.getElem?_eq_getElem (by rw [hf.len]; exact hj)]; rfl
  have hpos : ∀ {id j : Nat}, posOf id bls = some j → j < t.blks.length ∧ blOf bls j = id := fun {id j} h => by
    have h1 := posOf_some h
    have hj : j < t.blks.length := by rw [← hf.len]; exact (List.getElem?_eq_some_iff.1 h1).1
    rw [hbls hj] at h1
    exact ⟨hj, Option.some.inj h1⟩
  have hposOf : ∀ {j : Nat}, j < t.blks.length → posOf (blOf bls j) bls = some j := fun {j} hj => by
    cases hx : posOf (blOf bls j) bls with
    | none => exact absurd (hbls hj) (posOf_none hx j)
    | some k =>
      obtain ⟨k1, k2⟩ := hpos hx
      rw [blOf_inj hf k1 hj k2]
  let M := N + (to.blks.length - t.nf)
  let gf : Gh := ⟨fun id => if N ≤ id ∧ id < M then g'.a (id - N + t.nf) else g.a id, fun id => if N ≤ id ∧ id < M then g'.n (id - N + t.nf) else g.n id, fun id => if N ≤ id ∧ id < M then g'.o (id - N + t.nf) else g.o id⟩
  let H' := newH S.c.h t to bls es
  have hsl : (outSbs S.c.h t to bls es).length = to.blks.length := by simp [outSbs, sbs_length]
  have hH' : H'.length = M := by
    show (updH t (outSbs S.c.h t to bls es) bls 0 S.c.h ++ ((outSbs S.c.h t to bls es).drop t.nf).map some).length = _
    simp [updH_length, hsl, N, M]
  let Lf := Lx L S.c.h H'
  have hLf : ∀ id, Lf id ↔ (L id ∧ id < N) ∨ (N ≤ id ∧ id < H'.length) := fun id => by
    show (L id ∨ (S.c.h.length ≤ id ∧ id < H'.length)) ↔ _
    constructor
    · rintro (h | h)
      · exact .inl ⟨h, hh.bnd id h⟩
      · exact .inr h
    · rintro (h | h)
      · exact .inl h.1
      · exact .inr h
  -- new blocks are there
  have hnew : ∀ {id : Nat}, N ≤ id → id < H'.length → id - N + t.nf < to.blks.length ∧ L' (id - N + t.nf) ∧ (∃ b, to.blks[id - N + t.nf]? = some b ∧ b.wr = true) := fun {id} h1 h2 => by
    have hlt : id - N + t.nf < to.blks.length := by omega
    have hb : to.blks[id - N + t.nf]? = some to.blks[id - N + t.nf] := List.getElem?_eq_getElem hlt
    have hw := o4 _ _ (by omega) hb
    exact ⟨hlt, hst.live _ _ hb hw, _, hb, hw⟩
  have hfixL : ∀ {j : Nat}, j < t.nf → (L' j ↔ L (blOf bls j)) := fun {j} hj => by
    have := (hrel.fix j hj).1
    constructor
    · intro h; exact (this.1 h).2
    · intro h; exact this.2 ⟨by omega, h⟩
  -- the names of blocks behind the loop
  have hsame : ∀ b, b < to.blks.length → SameAt g' L' id gf Lf bl b := fun b hb hl => by
    show Lf (bl b) ∧ gf.a (bl b) = g'.a b ∧ gf.n (bl b) = g'.n b ∧ gf.o (bl b) = g'.o b
    by_cases hbn : b < t.nf
    · have e : bl b = blOf bls b := by show outBl bls N t.nf b = _; unfold outBl; rw [if_pos hbn]
      have hlb := (hfixL hbn).1 hl
      have hlt := hblt (j := b) (by omega)
      obtain ⟨k1, k2, k3⟩ := (hrel.fix b hbn).2 ⟨by omega, hlb⟩
      rw [e]
      refine ⟨(hLf _).2 (.inl ⟨hlb, hlt⟩), ?_, ?_, ?_⟩
      · show (if N ≤ blOf bls b ∧ blOf bls b < M then _ else g.a (blOf bls b)) = _
        rw [if_neg (by omega)]; exact k1.symm
      · show (if N ≤ blOf bls b ∧ blOf bls b < M then _ else g.n (blOf bls b)) = _
        rw [if_neg (by omega)]; exact k2.symm
      · show (if N ≤ blOf bls b ∧ blOf bls b < M then _ else g.o (blOf bls b)) = _
        rw [if_neg (by omega)]; exact k3.symm
    · have e : bl b = N + (b - t.nf) := by show outBl bls N t.nf b = _; unfold outBl; rw [if_neg hbn]
      have e2 : N + (b - t.nf) - N + t.nf = b := by omega
      rw [e]
      refine ⟨(hLf _).2 (.inr ⟨by omega, by omega⟩), ?_, ?_, ?_⟩
      · show (if N ≤ N + (b - t.nf) ∧ N + (b - t.nf) < M then g'.a (N + (b - t.nf) - N + t.nf) else _) = _
        rw [if_pos (by omega), e2]
      · show (if N ≤ N + (b - t.nf) ∧ N + (b - t.nf) < M then g'.n (N + (b - t.nf) - N + t.nf) else _) = _
        rw [if_pos (by omega), e2]
      · show (if N ≤ N + (b - t.nf) ∧ N + (b - t.nf) < M then g'.o (N + (b - t.nf) - N + t.nf) else _) = _
        rw [if_pos (by omega), e2]
  have hback : ∀ b, b < to.blks.length → Lf (bl b) → L' b := fun b hb hl => by
    by_cases hbn : b < t.nf
    · have e : bl b = blOf bls b := by show outBl bls N t.nf b = _; unfold outBl; rw [if_pos hbn]
      rw [e] at hl
      rcases (hLf _).1 hl with h | h
      · exact (hfixL hbn).2 h.1
      · have := hblt (j := b) (by omega); omega
    · have hb' : to.blks[b]? = some to.blks[b] := List.getElem?_eq_getElem hb
      exact hst.live b _ hb' (o4 b _ (by omega) hb')
  have hst2 : StDen U to (nmOf es) bl r gf Lf a' w' := hst.tr o1 o2 (fun j => hv j) hsame hback
  have gl : GLe g L gf Lf := ⟨fun id h => by
    have hlt := hh.bnd id h
    have hlt : id < N := hlt
    exact ⟨(hLf id).2 (.inl ⟨h, hlt⟩), by show (if N ≤ id ∧ id < M then _ else g.a id) = _; rw [if_neg (by omega)], by show (if N ≤ id ∧ id < M then _ else g.n id) = _; rw [if_neg (by omega)]⟩, fun id h => by
    have hlt : id < N := hh.bnd id h
    show (if N ≤ id ∧ id < M then _ else g.o id) = _; rw [if_neg (by omega)]⟩
  -- a block that a loop may write
  have mayS : ∀ {x : Nat}, (∃ i b, t.blks[i]? = some b ∧ b.wr = true ∧ (i < t.blks.length ∧ L (blOf bls i)) ∧ (g.via (blOf bls)).a i = x) → ∃ i b s, t.blks[i]? = some b ∧ b.wr = true ∧ i < t.blks.length ∧ L (blOf bls i) ∧ S.c.h[blOf bls i]? = some (some s) ∧ s.wr = true ∧ g.a (blOf bls i) = x := by
    rintro x ⟨i, b, h1, h2, ⟨h3, h4⟩, h5⟩
    obtain ⟨s, k1, k2, _⟩ := hf.blk h1
    exact ⟨i, b, s, h1, h2, h3, h4, k1, k2 h2, h5⟩
  have frm : Frm (Wr g L S.c.h) w w' := by
    have f := hrel.frm
    refine ⟨f.os, f.tape, f.output, f.size, fun k hk hn => f.block k hk fun hm => ?_⟩
    obtain ⟨i, b, s, h1, h2, h3, h4, h5, h6, h7⟩ := mayS hm
    exact hn ⟨_, s, h4, h5, h6, h7⟩
  -- old blocks
  have old : ∀ {id : Nat} {s : SB}, id < N → H'[id]? = some (some s) → ∃ o, S.c.h[id]? = some o ∧ updB t (outSbs S.c.h t to bls es) bls id o = some s := by
    intro id s hlt h
    have h : (updH t (outSbs S.c.h t to bls es) bls 0 S.c.h ++ ((outSbs S.c.h t to bls es).drop t.nf).map some)[id]? = some (some s) := h
    rw [List.getElem?_append_left (by rw [updH_length]; exact hlt), updH_get, Nat.zero_add] at h
    cases ho : S.c.h[id]? with
    | none => rw [ho] at h; cases h
    | some o => rw [ho] at h; exact ⟨o, rfl, by simpa using h⟩
  -- an old block is as it was, or is one of those that stay and are written
  have kind : ∀ {id : Nat} {s : SB}, id < N → H'[id]? = some (some s) →
      (S.c.h[id]? = some (some s) ∧ ∀ i b, t.blks[i]? = some b → b.wr = true → blOf bls i ≠ id) ∨
      (∃ j b b', j < t.nf ∧ t.blks[j]? = some b ∧ b.wr = true ∧ to.blks[j]? = some b' ∧ b'.wr = true ∧ blOf bls j = id ∧ s = bpSB (nmOf es) bl j (varOf to.at0 to.blks j) b') := by
    intro id s hlt h
    obtain ⟨o, h1, h2⟩ := old hlt h
    unfold updB at h2
    split at h2
    · rename_i j hj
      obtain ⟨hj1, hj2⟩ := hpos hj
      split at h2
      · rename_i hnf'
        split at h2
        · rename_i b hb
          split at h2
          · rename_i hw
            right
            rw [outSbs, sbs_at] at h2
            cases hb' : to.blks[j]? with
            | none => rw [hb'] at h2; cases h2
            | some b' =>
              rw [hb'] at h2
              simp only [Option.map_some, Option.some.injEq] at h2
              have : b.wr = b'.wr := sameWr_get hsw (by rw [List.getElem?_take, if_pos hnf']; exact hb) (by rw [List.getElem?_take, if_pos hnf']; exact hb')
              exact ⟨j, b, b', hnf', hb, hw, hb', by rw [← this]; exact hw, hj2, h2.symm⟩
          · rename_i hw
            left
            subst h2
            refine ⟨h1, fun i b' hi hw' he => ?_⟩
            have := blOf_inj hf (List.getElem?_eq_some_iff.1 hi).1 hj1 (he.trans hj2.symm)
            subst this
            rw [hb] at hi
            cases hi
            exact hw hw'
        · rename_i hb
          rw [List.getElem?_eq_getElem hj1] at hb; cases hb
      · cases h2
    · rename_i hn
      left
      subst h2
      refine ⟨h1, fun i b hi _ he => ?_⟩
      have := hbls (List.getElem?_eq_some_iff.1 hi).1
      rw [he] at this
      exact posOf_none hn i this
  have newB : ∀ {id : Nat} {s : SB}, N ≤ id → H'[id]? = some (some s) → ∃ b, to.blks[id - N + t.nf]? = some b ∧ b.wr = true ∧ L' (id - N + t.nf) ∧ s = bpSB (nmOf es) bl (id - N + t.nf) (varOf to.at0 to.blks (id - N + t.nf)) b ∧ bl (id - N + t.nf) = id := by
    intro id s hge h
    have hlt := (List.getElem?_eq_some_iff.1 h).1
    obtain ⟨k1, k2, b, k3, k4⟩ := hnew hge hlt
    have h : (updH t (outSbs S.c.h t to bls es) bls 0 S.c.h ++ ((outSbs S.c.h t to bls es).drop t.nf).map some)[id]? = some (some s) := h
    rw [List.getElem?_append_right (by rw [updH_length]; exact hge), updH_length, List.getElem?_map, List.getElem?_drop, outSbs, sbs_at] at h
    have e : t.nf + (id - S.c.h.length) = id - N + t.nf := by show t.nf + (id - N) = _; omega
    rw [e, k3] at h
    simp only [Option.map_some, Option.some.injEq] at h
    refine ⟨b, k3, k4, k2, h.symm, ?_⟩
    show outBl bls N t.nf (id - N + t.nf) = id
    unfold outBl
    rw [if_neg (by omega)]; omega
  -- what lies in a block
  have blkOf : ∀ {id : Nat} {s : SB}, Lf id → H'[id]? = some (some s) → BlkDen U r gf Lf w' s id := by
    intro id s hl h
    by_cases hlt : id < N
    · have hL : L id := by
        rcases (hLf id).1 hl with h' | h'
        · exact h'.1
        · omega
      rcases kind hlt h with ⟨h1, h2⟩ | ⟨j, b, b', h1, h2, h3, h4, h5, h6, rfl⟩
      · obtain ⟨xs, tt, fz, e1, e2, e3, e4, e5⟩ := hh.blk id s hL h1
        have hsame' : w'.heap[g.a id]? = w.heap[g.a id]? := hrel.frm.block _ (hh.lt id hL) fun hm => by
          obtain ⟨i, b, s', k1, k2, k3, k4, k5, k6, k7⟩ := mayS hm
          exact h2 i b k1 k2 (hh.inj _ _ s' s k4 hL k5 k6 h1 k7)
        refine ⟨by rw [(gl.on id hL).2.1]; exact Nat.lt_of_lt_of_le (hh.lt id hL) hrel.frm.size, xs, tt, fz, by rw [(gl.on id hL).2.1, hsame']; exact e1, by rw [(gl.on id hL).2.2]; exact e2, e3, e4, fun q c hc => ?_, fun ks e he => ?_⟩
        · obtain ⟨v, hv', hd⟩ := e5 q c hc
          exact ⟨v, hv', SV.den_mono gl hd⟩
        · obtain ⟨ys, t', fz', q1, q2⟩ := hh.rows id s ks e hL h1 he
          rw [e1] at q1
          cases q1
          rw [gl.off id hL]; exact q2
      · have hb := hst2.blk j b' h4 (by
          show Lf (bl j)
          have e : bl j = blOf bls j := by show outBl bls N t.nf j = _; unfold outBl; rw [if_pos h1]
          rw [e, h6]; exact hl)
        have e : bl j = id := by
          have e : bl j = blOf bls j := by show outBl bls N t.nf j = _; unfold outBl; rw [if_pos h1]
          rw [e, h6]
        rw [e] at hb
        exact hb
    · obtain ⟨b, k1, k2, k3, rfl, k5⟩ := newB (by omega) h
      have hb := hst2.blk _ b k1 (by rw [k5]; exact hl)
      rw [k5] at hb
      exact hb
  have wrS : ∀ {id : Nat} {s : SB}, id < N → H'[id]? = some (some s) → ∃ s0, S.c.h[id]? = some (some s0) ∧ (s.wr = true → s0.wr = true) := by
    intro id s hlt h
    rcases kind hlt h with ⟨h1, _⟩ | ⟨j, b, b', h1, h2, h3, h4, h5, h6, rfl⟩
    · exact ⟨s, h1, fun h => h⟩
    · obtain ⟨s0, k1, k2, _⟩ := hf.blk h2
      rw [h6] at k1
      exact ⟨s0, k1, fun _ => k2 h3⟩
  -- where a new block lies
  have lies : ∀ {id : Nat}, N ≤ id → id < H'.length → w.heap.size ≤ gf.a id ∨ ∃ i b s, t.blks[i]? = some b ∧ b.wr = true ∧ i < t.blks.length ∧ L (blOf bls i) ∧ S.c.h[blOf bls i]? = some (some s) ∧ s.wr = true ∧ g.a (blOf bls i) = gf.a id := by
    intro id h1 h2
    obtain ⟨k1, k2, _⟩ := hnew h1 h2
    have e : gf.a id = g'.a (id - N + t.nf) := by show (if N ≤ id ∧ id < M then _ else _) = _; rw [if_pos (by omega)]
    rw [e]
    rcases hrel.new _ (by omega) k2 with h3 | ⟨i, b, q1, q2, q3, q4⟩
    · exact .inl h3
    · right
      rw [q4]
      exact mayS ⟨i, b, q1, q2, q3, rfl⟩
  have gfo : ∀ {id : Nat}, id < N → gf.a id = g.a id := fun {id} h => by show (if N ≤ id ∧ id < M then _ else _) = _; rw [if_neg (by omega)]
  have heap : HeapDen U r gf Lf H' w' := by
    refine ⟨fun id h => ?_, fun id h => ?_, fun id s hl hs => ?_, fun i j s s' hi hj hs hw hs' he => ?_, fun id s ks e hl hs hr => ?_, fun id s hs hw => ?_⟩
    · rcases (hLf id).1 h with h | h
      · omega
      · exact h.2
    · rcases (hLf id).1 h with ⟨h1, h2⟩ | ⟨h1, h2⟩
      · rw [gfo h2]; exact Nat.lt_of_lt_of_le (hh.lt id h1) hrel.frm.size
      · obtain ⟨k1, k2, b, k3, k4⟩ := hnew h1 h2
        have e : gf.a id = g'.a (id - N + t.nf) := by show (if N ≤ id ∧ id < M then _ else _) = _; rw [if_pos (by omega)]
        rw [e]
        exact (hst.blk _ b k3 k2).lt
    · obtain ⟨xs, t', fz, e1, e2, e3, e4, e5, _⟩ := (blkOf hl hs).cells
      exact ⟨xs, t', fz, e1, e2, e3, e4, e5⟩
    · rcases (hLf i).1 hi with ⟨i1, i2⟩ | ⟨i1, i2⟩ <;> rcases (hLf j).1 hj with ⟨j1, j2⟩ | ⟨j1, j2⟩
      · obtain ⟨s0, k1, k2⟩ := wrS i2 hs
        obtain ⟨s0', q1, _⟩ := wrS j2 hs'
        rw [gfo i2, gfo j2] at he
        exact hh.inj i j s0 s0' i1 j1 k1 (k2 hw) q1 he
      · rw [gfo i2] at he
        rcases lies j1 j2 with h | ⟨k, b, s0, k1, k2, k3, k4, k5, k6, k7⟩
        · have := hh.lt i i1; omega
        · obtain ⟨si, q1, q2⟩ := wrS i2 hs
          have hik := hh.inj _ _ s0 si k4 i1 k5 k6 q1 (k7.trans he.symm)
          -- 'i' is a block of the pattern that is written: it stays, or is known no more
          rcases kind i2 hs with ⟨_, h2⟩ | ⟨jj, b1, b1', h1, h2, h3, h4, h5, h6, _⟩
          · exact absurd hik (h2 k b k1 k2)
          · obtain ⟨n1, n2, nb, n3, n4⟩ := hnew j1 j2
            have hlj : L' jj := (hfixL h1).2 (by rw [h6]; exact i1)
            have ea : g'.a jj = g'.a (j - N + t.nf) := by
              have e1 := ((hrel.fix jj h1).2 ⟨by omega, by rw [h6]; exact i1⟩).1
              have e2 : gf.a j = g'.a (j - N + t.nf) := by show (if N ≤ j ∧ j < M then _ else _) = _; rw [if_pos (by omega)]
              rw [← e2, ← he, e1]
              show g.a (blOf bls jj) = _
              rw [h6]
            have := hst.inj jj (j - N + t.nf) b1' nb h4 n3 h5 hlj n2 ea
            omega
      · rw [gfo j2] at he
        rcases lies i1 i2 with h | ⟨k, b, s0, k1, k2, k3, k4, k5, k6, k7⟩
        · have := hh.lt j j1; omega
        · obtain ⟨sj, q1, q2⟩ := wrS j2 hs'
          have hjk := hh.inj _ _ s0 sj k4 j1 k5 k6 q1 (k7.trans he)
          rcases kind j2 hs' with ⟨_, h2⟩ | ⟨jj, b1, b1', h1, h2, h3, h4, h5, h6, _⟩
          · exact absurd hjk (h2 k b k1 k2)
          · obtain ⟨n1, n2, nb, n3, n4⟩ := hnew i1 i2
            have hlj : L' jj := (hfixL h1).2 (by rw [h6]; exact j1)
            have ea : g'.a jj = g'.a (i - N + t.nf) := by
              have e1 := ((hrel.fix jj h1).2 ⟨by omega, by rw [h6]; exact j1⟩).1
              have e2 : gf.a i = g'.a (i - N + t.nf) := by show (if N ≤ i ∧ i < M then _ else _) = _; rw [if_pos (by omega)]
              rw [← e2, he, e1]
              show g.a (blOf bls jj) = _
              rw [h6]
            have := hst.inj jj (i - N + t.nf) b1' nb h4 n3 h5 hlj n2 ea
            omega
      · obtain ⟨n1, n2, nb, n3, n4⟩ := hnew i1 i2
        obtain ⟨m1, m2, mb, m3, m4⟩ := hnew j1 j2
        have e1 : gf.a i = g'.a (i - N + t.nf) := by show (if N ≤ i ∧ i < M then _ else _) = _; rw [if_pos (by omega)]
        have e2 : gf.a j = g'.a (j - N + t.nf) := by show (if N ≤ j ∧ j < M then _ else _) = _; rw [if_pos (by omega)]
        rw [e1, e2] at he
        have := hst.inj _ _ nb mb n3 m3 n4 n2 m2 he
        omega
    · obtain ⟨xs, t', fz, e1, e2, e3, e4, e5, e6⟩ := (blkOf hl hs).cells
      exact ⟨xs, t', fz, e1, e6 ks e hr⟩
    · by_cases hlt : id < N
      · obtain ⟨s0, k1, k2⟩ := wrS hlt hs
        exact (hLf id).2 (.inl ⟨hh.live id s0 k1 (k2 hw), hlt⟩)
      · exact (hLf id).2 (.inr ⟨by omega, (List.getElem?_eq_some_iff.1 hs).1⟩)
  refine ⟨gf, ⟨Nat.le_refl _, fun _ => rfl, by show N ≤ H'.length; omega, fun id h => ?_, fun id h => ?_, heap, hp, frm, fun id s hl hs hw => ?_, fun id h1 h2 => ?_⟩, ⟨hst2.defers, hst2.size, hst2.slot⟩⟩
  · have h : ¬ (N ≤ id ∧ id < H'.length) := h
    exact ⟨by show (if N ≤ id ∧ id < M then _ else _) = _; rw [if_neg (by omega)], by show (if N ≤ id ∧ id < M then _ else _) = _; rw [if_neg (by omega)]⟩
  · have h : ¬ (N ≤ id ∧ id < H'.length) := h
    show (if N ≤ id ∧ id < M then _ else _) = _
    rw [if_neg (by omega)]
  · by_cases hlt : id < N
    · obtain ⟨s0, k1, k2⟩ := wrS hlt hs
      right
      exact ⟨id, s0, hh.live id s0 k1 (k2 hw), k1, k2 hw, (gfo hlt).symm⟩
    · rcases lies (by omega) (List.getElem?_eq_some_iff.1 hs).1 with h | ⟨k, b, s0, k1, k2, k3, k4, k5, k6, k7⟩
      · exact .inl h
      · exact .inr ⟨_, s0, k4, k5, k6, k7⟩
  · rcases lies h1 h2 with h | ⟨k, b, s0, k1, k2, k3, k4, k5, k6, k7⟩
    · exact .inl h
    · exact .inr ⟨_, s0, k4, k5, k6, k7⟩
end
end Go.Sx
