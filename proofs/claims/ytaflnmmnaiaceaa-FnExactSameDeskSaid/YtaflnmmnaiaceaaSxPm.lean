/-
  Sx, part Pm: when a state fits a pattern; what a loop comes to, round by round.
-/
import Derived.Test.YtaflnmmnaiaceaaSxPl
namespace Go.Sx
open E (mk1 mk2 mkIte mk1_ev mk2_ev mkIte_ev)

def nmOf (es : List E) : Nat → E := fun j => es.getD j (.b false)
def blOf (bls : List Nat) : Nat → Nat := fun b => bls.getD b 0

/-! ### The check -/

def fitsSk (nm : Nat → E) : Nat → List Sk → List SV → Bool
  | _, [], [] => true
  | i, k :: l, s :: m => (match skE k s with
    | some e => e.same (nm i)
    | none => false) && fitsSk nm (i + 1) l m
  | _, _, _ => false

def fitsLP (nm : Nat → E) (bl : Nat → Nat) (i : Nat) (p : LP) (s : SV) : Bool :=
  match p with
  | .any => true
  | .one k => (match skE k s with
    | some e => e.same (nm i)
    | none => false)
  | .ag ks => (match s with
    | .agg cs => fitsSk nm i ks cs
    | _ => false)
  | .ptr b off => (match s with
    | .ptr id off' => Nat.beq id (bl b) && Nat.beq off off'
    | _ => false)
  | .slo b sz => (match s with
    | .slo id sz' len => Nat.beq id (bl b) && (Nat.beq sz sz' && len.same (mk1 .llen (nm b)))
    | _ => false)
  | .fn0 f => (match s with
    | .fn (.func f') [] [] => Nat.beq f f'
    | _ => false)

def fitsCells (nm : Nat → E) (bl : Nat → Nat) : Nat → List LP → List SV → Bool
  | _, [], _ => true
  | i, p :: l, s :: m => fitsLP nm bl i p s && fitsCells nm bl (i + lpN p) l m
  | _, _ :: _, [] => false

def fitsSlots (nm : Nat → E) (bl : Nat → Nat) (tmps : Tm) : Nat → List (Tmp × LP) → Bool
  | _, [] => true
  | i, p :: l => fitsLP nm bl i p.2 (tmps.get p.1) && fitsSlots nm bl tmps (i + lpN p.2) l

def fitsBlk (m : Nat) (nm : Nat → E) (bl : Nat → Nat) (H : SH) (j i : Nat) (b : BP) : Bool :=
  match H[bl j]? with
  | some (some s) => (!b.wr || s.wr) && (refsOk m b.cs && (fitsCells nm bl i b.cs s.cs && (match b.row with
    | none => true
    | some ks => (match s.row with
      | some (ks', a) => sameSks ks ks' && a.same (nm j)
      | none => false))))
  | _ => false

def fitsBlks (m : Nat) (nm : Nat → E) (bl : Nat → Nat) (H : SH) : Nat → Nat → List BP → Bool
  | _, _, [] => true
  | j, i, b :: l => fitsBlk m nm bl H j i b && fitsBlks m nm bl H (j + 1) (i + lpsN b.cs) l

def apartN : List Nat → Bool
  | [] => true
  | a :: l => (l.all fun b => !(Nat.beq a b)) && apartN l

def Tmpl.fits (t : Tmpl) (es : List E) (bls : List Nat) (S : St) : Bool :=
  Nat.beq S.tmps.n t.n && (Nat.beq bls.length t.blks.length && (apartN bls && (refsOk t.blks.length (t.slots.map (·.2)) &&
    (fitsSlots (nmOf es) (blOf bls) S.tmps t.blks.length t.slots && fitsBlks t.blks.length (nmOf es) (blOf bls) S.c.h 0 t.at0 t.blks))))

/-! ### The search -/

def bindB (b id : Nat) (β : List (Nat × Nat)) : List (Nat × Nat) := if β.any fun p => Nat.beq p.1 b then β else (b, id) :: β
def lkN (b : Nat) : List (Nat × Nat) → Nat
  | [] => 0
  | (i, x) :: l => bif Nat.beq i b then x else lkN b l

def seekLP (p : LP) (s : SV) (β : List (Nat × Nat)) : List E × List (Nat × Nat) :=
  match p, s with
  | .one k, s => (match skE k s with
    | some e => ([e], β)
    | none => ([.b false], β))
  | .ag ks, .agg cs => (match skL ks cs with
    | some es => (es, β)
    | none => ([], β))
  | .ptr b _, .ptr id _ => ([], bindB b id β)
  | .slo b _, .slo id _ _ => ([], bindB b id β)
  | _, _ => ([], β)

def seekSlots (tmps : Tm) : List (Tmp × LP) → List (Nat × Nat) → List E × List (Nat × Nat)
  | [], β => ([], β)
  | p :: l, β => match seekLP p.2 (tmps.get p.1) β with
    | (es, β) => match seekSlots tmps l β with
      | (fs, β) => (es ++ fs, β)

def seekCells : List LP → List SV → List (Nat × Nat) → List E × List (Nat × Nat)
  | p :: l, s :: m, β => (match seekLP p s β with
    | (es, β) => match seekCells l m β with
      | (fs, β) => (es ++ fs, β))
  | _, _, β => ([], β)

def seekBlks (H : SH) : Nat → List BP → List (Nat × Nat) → List E × List E × List (Nat × Nat)
  | _, [], β => ([], [], β)
  | j, b :: l, β => match H[lkN j β]? with
    | some (some s) => (match seekCells b.cs s.cs β with
      | (es, β) => match seekBlks H (j + 1) l β with
        | (rs, fs, β) => ((match s.row with
          | some (_, a) => a
          | none => .b false) :: rs, es ++ fs, β))
    | _ => ([], [], β)

def Tmpl.seek (t : Tmpl) (S : St) : List E × List Nat :=
  match seekSlots S.tmps t.slots [] with
  | (es, β) => match seekBlks S.c.h 0 t.blks β with
    | (rs, fs, β) => (rs ++ (es ++ fs), (List.range t.blks.length).map fun b => lkN b β)

/-- How a state fits a pattern. -/
def Tmpl.fit (t : Tmpl) (S : St) : Option (List E × List Nat) :=
  match t.seek S with
  | (es, bls) => if t.fits es bls S then some (es, bls) else none

theorem Tmpl.fit_fits {t : Tmpl} {S : St} {es : List E} {bls : List Nat} (h : t.fit S = some (es, bls)) : t.fits es bls S = true := by
  unfold Tmpl.fit at h
  split at h
  split at h
  · rename_i hf; cases h; exact hf
  · cases h

/-! ### What it says -/

/-- A state is of a pattern. -/
structure StDen (U : Nat → D → D) (t : Tmpl) (nm : Nat → E) (bl : Nat → Nat) (r : Nat → D) (g : Gh) (L : Nat → Prop) (a : Act) (w : World) : Prop where
  defers : a.defers = []
  size : a.tmps.size = t.n
  slot : ∀ q, (lkp q (slotsSV nm bl t.blks.length t.slots)).den U r g L (a.tmps.getD q undef)
  blk : ∀ j b, t.blks[j]? = some b → L (bl j) → BlkDen U r g L w (bpSB nm bl j (varOf t.at0 t.blks j) b) (bl j)
  live : ∀ j b, t.blks[j]? = some b → b.wr = true → L (bl j)
  inj : ∀ i j b b', t.blks[i]? = some b → t.blks[j]? = some b' → b.wr = true → L (bl i) → L (bl j) → g.a (bl i) = g.a (bl j) → i = j

section
variable {U : Nat → D → D} {r r1 r2 : Nat → D} {g g1 g2 : Gh} {L L1 L2 : Nat → Prop} {nm nm1 nm2 : Nat → E} {bl bl1 bl2 : Nat → Nat} {w : World} {a : Act}

theorem fitsSk_ok : ∀ {ks : List Sk} {cs : List SV} {i : Nat}, fitsSk nm i ks cs = true → cs = skNm nm i ks := by
  intro ks
  induction ks with
  | nil => intro cs i h; cases cs <;> simp_all [fitsSk, skNm]
  | cons k ks ih =>
    intro cs i h
    cases cs with
    | nil => simp [fitsSk] at h
    | cons s cs =>
      simp only [fitsSk, Bool.and_eq_true] at h
      obtain ⟨h1, h2⟩ := h
      rw [ih h2]
      split at h1
      · rename_i e he
        rw [skE_eq he, E.same_eq h1]; rfl
      · cases h1

theorem fitsLP_ok {i : Nat} {p : LP} {s : SV} {v : Value} (h : fitsLP nm bl i p s = true) (hd : s.den U r g L v) : (lpSV nm bl i p).den U r g L v := by
  unfold fitsLP at h
  split at h
  · trivial
  · split at h
    · rename_i k e he
      rw [skE_eq he, E.same_eq h] at hd; exact hd
    · cases h
  · split at h
    · rw [fitsSk_ok h] at hd; exact hd
    · cases h
  · split at h
    · rw [Bool.and_eq_true] at h
      have h1 := Nat.eq_of_beq_eq_true h.1
      have h2 := Nat.eq_of_beq_eq_true h.2
      subst h1 h2; exact hd
    · cases h
  · split at h
    · rw [Bool.and_eq_true, Bool.and_eq_true] at h
      have h1 := Nat.eq_of_beq_eq_true h.1
      have h2 := Nat.eq_of_beq_eq_true h.2.1
      have h3 := E.same_eq h.2.2
      subst h1 h2 h3; exact hd
    · cases h
  · split at h
    · have h1 := Nat.eq_of_beq_eq_true h
      subst h1; exact hd
    · cases h

theorem fitsCells_ok {xs : Array Value} : ∀ {l : List LP} {cs : List SV} {i o : Nat}, fitsCells nm bl i l cs = true → (∀ (j : Nat) (c : SV), cs[j]? = some c → ∃ v, xs[o + j]? = some v ∧ c.den U r g L v) →
    l.length ≤ cs.length ∧ ∀ (j : Nat) (c : SV), (lpsSV nm bl i l)[j]? = some c → ∃ v, xs[o + j]? = some v ∧ c.den U r g L v := by
  intro l
  induction l with
  | nil => intro cs i o _ _; exact ⟨by simp, fun j c hc => by simp [lpsSV] at hc⟩
  | cons p l ih =>
    intro cs i o h hd
    cases cs with
    | nil => simp [fitsCells] at h
    | cons s cs =>
      simp only [fitsCells, Bool.and_eq_true] at h
      obtain ⟨k1, k2⟩ := ih (o := o + 1) h.2 (fun j c hc => by
        obtain ⟨v, hv, hd'⟩ := hd (j + 1) c (by simpa using hc)
        exact ⟨v, by rw [← hv]; congr 1; omega, hd'⟩)
      refine ⟨by simp; omega, fun j c hc => ?_⟩
      cases j with
      | zero =>
        simp only [lpsSV, List.getElem?_cons_zero, Option.some.injEq] at hc
        subst hc
        obtain ⟨v, hv, hd'⟩ := hd 0 s (by simp)
        exact ⟨v, hv, fitsLP_ok h.1 hd'⟩
      | succ j =>
        simp only [lpsSV, List.getElem?_cons_succ] at hc
        obtain ⟨v, hv, hd'⟩ := k2 j c hc
        exact ⟨v, by rw [← hv]; congr 1; omega, hd'⟩

theorem fitsSlots_ok {tmps : Tm} {q : Nat} {v : Value} (hd : (tmps.get q).den U r g L v) : ∀ {l : List (Tmp × LP)} {i : Nat}, fitsSlots nm bl tmps i l = true → (lkp q (slotsSV nm bl i l)).den U r g L v := by
  intro l
  induction l with
  | nil => intro i _; trivial
  | cons p l ih =>
    intro i h
    simp only [fitsSlots, Bool.and_eq_true] at h
    simp only [slotsSV, lkp]
    cases hb : Nat.beq p.1 q with
    | true =>
      simp only [cond_true]
      have := Nat.eq_of_beq_eq_true hb
      rw [this] at h
      exact fitsLP_ok h.1 hd
    | false => simp only [cond_false]; exact ih h.2

theorem fitsBlks_get {m : Nat} {H : SH} : ∀ {l : List BP} {j i k : Nat} {b : BP}, fitsBlks m nm bl H j i l = true → l[k]? = some b → fitsBlk m nm bl H (j + k) (varOf i l k) b = true := by
  intro l
  induction l with
  | nil => intro j i k b _ h; simp at h
  | cons x l ih =>
    intro j i k b h hk
    simp only [fitsBlks, Bool.and_eq_true] at h
    cases k with
    | zero => simp at hk; subst hk; simpa [varOf] using h.1
    | succ k =>
      have := ih h.2 (k := k) (by simpa using hk)
      rw [show j + (k + 1) = j + 1 + k by omega]
      simpa [varOf] using this

theorem apartN_ok : ∀ {l : List Nat}, apartN l = true → ∀ {i j x : Nat}, l[i]? = some x → l[j]? = some x → i = j := by
  intro l
  induction l with
  | nil => intro _ i j x h; simp at h
  | cons a l ih =>
    intro h i j x hi hj
    simp only [apartN, Bool.and_eq_true, List.all_eq_true] at h
    have no : ∀ {k : Nat}, l[k]? = some a → False := fun {k} hk => by
      have := h.1 a (List.mem_of_getElem? hk)
      simp at this
    cases i with
    | zero =>
      simp at hi; subst hi
      cases j with
      | zero => rfl
      | succ j => exact (no (by simpa using hj)).elim
    | succ i =>
      cases j with
      | zero => simp at hj; subst hj; exact (no (by simpa using hi)).elim
      | succ j => exact congrArg (· + 1) (ih h.2 (by simpa using hi) (by simpa using hj))

structure Fits (t : Tmpl) (es : List E) (bls : List Nat) (S : St) : Prop where
  n : S.tmps.n = t.n
  len : bls.length = t.blks.length
  apart : apartN bls = true
  refs : refsOk t.blks.length (t.slots.map (·.2)) = true
  slots : fitsSlots (nmOf es) (blOf bls) S.tmps t.blks.length t.slots = true
  blks : fitsBlks t.blks.length (nmOf es) (blOf bls) S.c.h 0 t.at0 t.blks = true

theorem Tmpl.fits_ok {t : Tmpl} {es : List E} {bls : List Nat} {S : St} (h : t.fits es bls S = true) : Fits t es bls S := by
  simp only [Tmpl.fits, Bool.and_eq_true] at h
  exact ⟨Nat.eq_of_beq_eq_true h.1, Nat.eq_of_beq_eq_true h.2.1, h.2.2.1, h.2.2.2.1, h.2.2.2.2.1, h.2.2.2.2.2⟩

theorem Fits.blk {t : Tmpl} {es : List E} {bls : List Nat} {S : St} (h : Fits t es bls S) {j : Nat} {b : BP} (hb : t.blks[j]? = some b) :
    ∃ s, S.c.h[blOf bls j]? = some (some s) ∧ (b.wr = true → s.wr = true) ∧ refsOk t.blks.length b.cs = true ∧ fitsCells (nmOf es) (blOf bls) (varOf t.at0 t.blks j) b.cs s.cs = true ∧
      (∀ ks, b.row = some ks → s.row = some (ks, nmOf es j)) := by
  have := fitsBlks_get h.blks hb
  rw [Nat.zero_add] at this
  unfold fitsBlk at this
  split at this
  · rename_i s hs
    simp only [Bool.and_eq_true, Bool.or_eq_true, Bool.not_eq_true'] at this
    refine ⟨s, hs, fun hw => ?_, this.2.1, this.2.2.1, fun ks hk => ?_⟩
    · rcases this.1 with h1 | h1
      · rw [h1] at hw; cases hw
      · exact h1
    · have h4 := this.2.2.2
      rw [hk] at h4
      dsimp only at h4
      split at h4
      · rename_i ks' a' hr
        rw [Bool.and_eq_true] at h4
        rw [hr, sameSks_eq h4.1, E.same_eq h4.2]
      · cases h4
  · cases this

theorem blOf_inj {t : Tmpl} {es : List E} {bls : List Nat} {S : St} (h : Fits t es bls S) {i j : Nat} (hi : i < t.blks.length) (hj : j < t.blks.length) (he : blOf bls i = blOf bls j) : i = j := by
  have e : ∀ {k}, k < t.blks.length → bls[k]? = some (blOf bls k) := fun {k} hk => by
    unfold blOf
    rw [List.getD_eq_getElem?_getD, List.getElem?_eq_getElem (by rw [h.len]; exact hk)]; rfl
  exact apartN_ok h.apart (e hi) (by rw [he]; exact e hj)

theorem Fits.den {t : Tmpl} {es : List E} {bls : List Nat} {S : St} (h : Fits t es bls S) (hh : HeapDen U r g L S.c.h w) (hs : Slots U r g L S.tmps a) : StDen U t (nmOf es) (blOf bls) r g L a w where
  defers := hs.defers
  size := hs.size.trans h.n
  slot := fun q => fitsSlots_ok (hs.at_ q) h.slots
  blk := fun j b hb hl => by
    obtain ⟨s, h1, h2, h3, h4, h5⟩ := h.blk hb
    obtain ⟨xs, t', fz, e1, e2, e3, e4, e5⟩ := hh.blk _ s hl h1
    obtain ⟨k1, k2⟩ := fitsCells_ok (o := 0) h4 (fun j c hc => by rw [Nat.zero_add]; exact e5 j c hc)
    refine ⟨hh.lt _ hl, xs, t', fz, e1, e2, fun hw => e3 (h2 hw), ?_, fun j c hc => by have := k2 j c hc; rwa [Nat.zero_add] at this, fun ks e he => ?_⟩
    · simp only [bpSB, lpsSV_length]; omega
    · simp only [bpSB, Option.map_eq_some_iff] at he
      obtain ⟨ks', hk, he⟩ := he
      cases he
      obtain ⟨ys, t'', fz', q1, q2⟩ := hh.rows _ s _ _ hl h1 (h5 _ hk)
      rw [e1] at q1
      cases q1
      exact q2
  live := fun j b hb hw => by
    obtain ⟨s, h1, h2, _⟩ := h.blk hb
    exact hh.live _ s h1 (h2 hw)
  inj := fun i j b b' hb hb' hw hl hl' he => by
    obtain ⟨s, h1, h2, _⟩ := h.blk hb
    obtain ⟨s', h1', _⟩ := h.blk hb'
    have hi : i < t.blks.length := (List.getElem?_eq_some_iff.1 hb).1
    have hj : j < t.blks.length := (List.getElem?_eq_some_iff.1 hb').1
    exact blOf_inj h hi hj (hh.inj _ _ s s' hl hl' h1 (h2 hw) h1' he)

/-- The same state under other names. -/
theorem StDen.tr {t : Tmpl} (hd : StDen U t nm1 bl1 r1 g1 L1 a w) (hr : refsOk t.blks.length (t.slots.map (·.2)) = true) (hrb : ∀ (j : Nat) (b : BP), t.blks[j]? = some b → refsOk t.blks.length b.cs = true)
    (hv : ∀ j, EqAt t.blks.length j ((nm1 j).ev U r1) ((nm2 j).ev U r2)) (hb : ∀ b, b < t.blks.length → SameAt g1 L1 bl1 g2 L2 bl2 b) (hL : ∀ b, b < t.blks.length → L2 (bl2 b) → L1 (bl1 b)) : StDen U t nm2 bl2 r2 g2 L2 a w where
  defers := hd.defers
  size := hd.size
  slot := fun q => slots_tr hv hb (Nat.le_refl _) hr (hd.slot q)
  blk := fun j b hj hl => by
    have hlt := (List.getElem?_eq_some_iff.1 hj).1
    have hl1 := hL j hlt hl
    exact bp_tr hv hb (Nat.le_trans (Nat.le_add_right _ _) (varOf_le t.blks t.at0 j)) (hrb j b hj) hlt hl1 (hd.blk j b hj hl1)
  live := fun j b hj hw => (hb j (List.getElem?_eq_some_iff.1 hj).1 (hd.live j b hj hw)).1
  inj := fun i j b b' hi hj hw hl hl' he => by
    have hi' := (List.getElem?_eq_some_iff.1 hi).1
    have hj' := (List.getElem?_eq_some_iff.1 hj).1
    have k1 := hL i hi' hl
    have k2 := hL j hj' hl'
    obtain ⟨_, q1, _⟩ := hb i hi' k1
    obtain ⟨_, q2, _⟩ := hb j hj' k2
    exact hd.inj i j b b' hi hj hw k1 k2 (by rw [← q1, ← q2]; exact he)

/-- A state of a pattern under its own names: memory and slots. -/
theorem StDen.own {t : Tmpl} (hd : StDen U t E.v id r g L a w) (hL : ∀ b, L b → b < t.blks.length) : HeapDen U r g L ((t.sbs E.v id).map some) w ∧ Slots U r g L (t.tm E.v id) a := by
  have get : ∀ {id : Nat} {s : SB}, ((t.sbs E.v _root_.id).map some)[id]? = some (some s) → ∃ b, t.blks[id]? = some b ∧ s = bpSB E.v _root_.id id (varOf t.at0 t.blks id) b := by
    intro id s h
    rw [List.getElem?_map, Tmpl.sbs, blksSB_get] at h
    cases hb : t.blks[id]? with
    | none => rw [hb] at h; cases h
    | some b =>
      rw [hb] at h
      simp only [Option.map_some, Option.some.injEq, Nat.zero_add] at h
      exact ⟨b, rfl, h.symm⟩
  have len : ((t.sbs E.v _root_.id).map some).length = t.blks.length := by simp [Tmpl.sbs, blksSB_length]
  have one : ∀ {id}, L id → ∃ b, t.blks[id]? = some b ∧ BlkDen U r g L w (bpSB E.v _root_.id id (varOf t.at0 t.blks id) b) id := fun {id} hl => by
    have hlt := hL id hl
    exact ⟨t.blks[id], List.getElem?_eq_getElem hlt, hd.blk id _ (List.getElem?_eq_getElem hlt) hl⟩
  refine ⟨⟨fun id hl => by rw [len]; exact hL id hl, fun id hl => ?_, fun id s hl hs => ?_, fun i j b b' hi hj hb hw hb' he => ?_, fun id s ks e hl hs hr => ?_, fun id s hs hw => ?_⟩, ⟨hd.defers, hd.size, hd.slot⟩⟩
  · obtain ⟨b, _, hb⟩ := one hl; exact hb.lt
  · obtain ⟨b, hb, rfl⟩ := get hs
    obtain ⟨b', hb', k⟩ := one hl
    rw [hb] at hb'; cases hb'
    obtain ⟨xs, t', fz, e1, e2, e3, e4, e5, e6⟩ := k.cells
    exact ⟨xs, t', fz, e1, e2, e3, e4, e5⟩
  · obtain ⟨b1, hb1, rfl⟩ := get hb
    obtain ⟨b2, hb2, rfl⟩ := get hb'
    exact hd.inj i j b1 b2 hb1 hb2 hw hi hj he
  · obtain ⟨b, hb, rfl⟩ := get hs
    obtain ⟨b', hb', k⟩ := one hl
    rw [hb] at hb'; cases hb'
    obtain ⟨xs, t', fz, e1, e2, e3, e4, e5, e6⟩ := k.cells
    exact ⟨xs, t', fz, e1, e6 ks e hr⟩
  · obtain ⟨b, hb, rfl⟩ := get hs
    exact hd.live id b hb hw
end
end Go.Sx
