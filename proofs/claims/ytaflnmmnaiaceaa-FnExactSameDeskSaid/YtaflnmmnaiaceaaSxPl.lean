/-
  Sx, part Pl: loops of any number of rounds: patterns of what stands at a loop's head, and when a state fits one.
-/
import Derived.Test.YtaflnmmnaiaceaaSxP
namespace Go.Sx
open E (mk1 mk2 mkIte mk1_ev mk2_ev mkIte_ev)

/-- One as the other, however it is read. -/
def D.eqv (x y : D) : Prop := x.toB = y.toB ∧ x.toI = y.toI ∧ x.toF = y.toF ∧ x.toS = y.toS ∧ x.toL = y.toL
theorem D.eqv.refl (x : D) : D.eqv x x := ⟨rfl, rfl, rfl, rfl, rfl⟩
theorem D.eqv.of_eq {x y : D} (h : x = y) : D.eqv x y := h ▸ D.eqv.refl x
theorem D.eqv.symm {x y : D} (h : D.eqv x y) : D.eqv y x := ⟨h.1.symm, h.2.1.symm, h.2.2.1.symm, h.2.2.2.1.symm, h.2.2.2.2.symm⟩

/-- The same row; behind the first 'm' also the same otherwise. -/
def EqAt (m j : Nat) (x y : D) : Prop := x.toL = y.toL ∧ (m ≤ j → D.eqv x y)
theorem EqAt.of_eqv {m j : Nat} {x y : D} (h : D.eqv x y) : EqAt m j x y := ⟨h.2.2.2.2, fun _ => h⟩
theorem EqAt.of_eq {m j : Nat} {x y : D} (h : x = y) : EqAt m j x y := .of_eqv (.of_eq h)

theorem Sk.den_eqv {k : Sk} {x y : D} {v : Value} (h : D.eqv x y) (hd : k.den x v) : k.den y v := by
  cases k <;> simp only [Sk.den] at hd ⊢
  · rw [← h.1]; exact hd
  · rw [← h.2.1]; exact hd
  · rw [← h.2.2.1]; exact hd
  · rw [← h.2.2.2.1]; exact hd

/-- What stands in a slot, or a cell, at a loop's head. 'ptr b off': into block 'b' of the pattern. 'slo b sz': the whole row that is block 'b'. -/
inductive LP where
  | any
  | one (k : Sk)
  | ag (ks : List Sk)
  | ptr (b off : Nat)
  | slo (b sz : Nat)
  | fn0 (f : FuncId)

/-- A block of the pattern: is it written; its cells; or a row. -/
structure BP where
  wr : Bool
  cs : List LP
  row : Option (List Sk)

/-- A pattern of a state: how many slots the frame has, what stands in some; blocks. Variable 'b' is the row of block 'b'; behind them come those of the slots, then those of the blocks' cells. The first 'nf' blocks stay where they are. -/
structure Tmpl where
  n : Nat
  nf : Nat
  slots : List (Tmp × LP)
  blks : List BP

def lpN : LP → Nat
  | .one _ => 1
  | .ag ks => ks.length
  | _ => 0

def lpRef : LP → Option Nat
  | .ptr b _ => some b
  | .slo b _ => some b
  | _ => none

def skNm (nm : Nat → E) : Nat → List Sk → List SV
  | _, [] => []
  | i, k :: l => skSV k (nm i) :: skNm nm (i + 1) l

def lpSV (nm : Nat → E) (bl : Nat → Nat) (i : Nat) : LP → SV
  | .any => .any
  | .one k => skSV k (nm i)
  | .ag ks => .agg (skNm nm i ks)
  | .ptr b off => .ptr (bl b) off
  | .slo b sz => .slo (bl b) sz (mk1 .llen (nm b))
  | .fn0 f => .fn (.func f) [] []

def lpsN : List LP → Nat
  | [] => 0
  | p :: l => lpN p + lpsN l

def lpsSV (nm : Nat → E) (bl : Nat → Nat) : Nat → List LP → List SV
  | _, [] => []
  | i, p :: l => lpSV nm bl i p :: lpsSV nm bl (i + lpN p) l

def slotsN : List (Tmp × LP) → Nat
  | [] => 0
  | p :: l => lpN p.2 + slotsN l

def slotsSV (nm : Nat → E) (bl : Nat → Nat) : Nat → List (Tmp × LP) → List (Nat × SV)
  | _, [] => []
  | i, p :: l => (p.1, lpSV nm bl i p.2) :: slotsSV nm bl (i + lpN p.2) l

def bpSB (nm : Nat → E) (bl : Nat → Nat) (j i : Nat) (b : BP) : SB := ⟨b.wr, lpsSV nm bl i b.cs, b.row.map fun ks => (ks, nm j)⟩

def blksSB (nm : Nat → E) (bl : Nat → Nat) : Nat → Nat → List BP → List SB
  | _, _, [] => []
  | j, i, b :: l => bpSB nm bl j i b :: blksSB nm bl (j + 1) (i + lpsN b.cs) l

/-- Where the variables of block 'j' begin. -/
def varOf : Nat → List BP → Nat → Nat
  | i, [], _ => i
  | i, _ :: _, 0 => i
  | i, b :: l, j + 1 => varOf (i + lpsN b.cs) l j

def Tmpl.tm (nm : Nat → E) (bl : Nat → Nat) (t : Tmpl) : Tm := ⟨t.n, slotsSV nm bl t.blks.length t.slots⟩
def Tmpl.at0 (t : Tmpl) : Nat := t.blks.length + slotsN t.slots
def Tmpl.sbs (nm : Nat → E) (bl : Nat → Nat) (t : Tmpl) : List SB := blksSB nm bl 0 t.at0 t.blks

theorem blksSB_get (nm : Nat → E) (bl : Nat → Nat) : ∀ (l : List BP) (j i k : Nat), (blksSB nm bl j i l)[k]? = (l[k]?).map fun b => bpSB nm bl (j + k) (varOf i l k) b := by
  intro l
  induction l with
  | nil => intro j i k; simp [blksSB]
  | cons b l ih =>
    intro j i k
    cases k with
    | zero => simp [blksSB, varOf]
    | succ k => simp only [blksSB, List.getElem?_cons_succ, ih, varOf]; congr 2; funext b; congr 1; omega

theorem varOf_le : ∀ (l : List BP) (i j : Nat), i ≤ varOf i l j := by
  intro l
  induction l with
  | nil => intro i j; simp [varOf]
  | cons b l ih =>
    intro i j
    cases j with
    | zero => simp [varOf]
    | succ j => exact Nat.le_trans (by omega) (ih (i + lpsN b.cs) j)

theorem blksSB_length (nm : Nat → E) (bl : Nat → Nat) : ∀ (l : List BP) (j i : Nat), (blksSB nm bl j i l).length = l.length := by
  intro l
  induction l with
  | nil => intro j i; rfl
  | cons b l ih => intro j i; simp [blksSB, ih]

section
variable {U : Nat → D → D} {r r1 r2 : Nat → D} {g g1 g2 : Gh} {L L1 L2 : Nat → Prop} {nm nm1 nm2 : Nat → E} {bl bl1 bl2 : Nat → Nat}

/-- The blocks that one pattern's names stand for are those that the other's stand for. -/
def SameAt (g1 : Gh) (L1 : Nat → Prop) (bl1 : Nat → Nat) (g2 : Gh) (L2 : Nat → Prop) (bl2 : Nat → Nat) (b : Nat) : Prop :=
  L1 (bl1 b) → L2 (bl2 b) ∧ g2.a (bl2 b) = g1.a (bl1 b) ∧ g2.n (bl2 b) = g1.n (bl1 b) ∧ g2.o (bl2 b) = g1.o (bl1 b)

theorem skNm_tr {m : Nat} (hv : ∀ j, EqAt m j ((nm1 j).ev U r1) ((nm2 j).ev U r2)) : ∀ {ks : List Sk} {i : Nat} {vs : List Value}, m ≤ i → SV.denL U r1 g1 L1 (skNm nm1 i ks) vs → SV.denL U r2 g2 L2 (skNm nm2 i ks) vs := by
  intro ks
  induction ks with
  | nil => intro i vs _ h; cases vs <;> simp_all [skNm, SV.denL]
  | cons k ks ih =>
    intro i vs hi h
    cases vs with
    | nil => simp [skNm, SV.denL] at h
    | cons v vs =>
      simp only [skNm, SV.denL] at h ⊢
      exact ⟨skSV_iff.2 (Sk.den_eqv ((hv i).2 hi) (skSV_iff.1 h.1)), ih (by omega) h.2⟩

theorem lp_tr {m : Nat} {p : LP} {i : Nat} {v : Value} (hi : m ≤ i) (hv : ∀ j, EqAt m j ((nm1 j).ev U r1) ((nm2 j).ev U r2)) (hb : ∀ b, lpRef p = some b → SameAt g1 L1 bl1 g2 L2 bl2 b)
    (h : (lpSV nm1 bl1 i p).den U r1 g1 L1 v) : (lpSV nm2 bl2 i p).den U r2 g2 L2 v := by
  cases p with
  | any => trivial
  | one k => exact skSV_iff.2 (Sk.den_eqv ((hv i).2 hi) (skSV_iff.1 h))
  | ag ks =>
    simp only [lpSV, SV.den] at h ⊢
    obtain ⟨xs, hv', hd⟩ := h
    exact ⟨xs, hv', skNm_tr hv hi hd⟩
  | ptr b off =>
    simp only [lpSV, SV.den] at h ⊢
    obtain ⟨h1, h2, _⟩ := hb b rfl h.1
    exact ⟨h1, by rw [h2]; exact h.2⟩
  | slo b sz =>
    simp only [lpSV, SV.den, mk1_ev] at h ⊢
    have hl : (O1.llen.ev ((nm2 b).ev U r2)) = (O1.llen.ev ((nm1 b).ev U r1)) := by simp only [O1.ev, (hv b).1]
    rw [hl]
    obtain ⟨h0, base, c, hv', h3, h4⟩ := h
    refine ⟨h0, base, c, hv', h3, ?_⟩
    rcases h4 with h4 | ⟨hl', h4, h5⟩
    · exact .inl h4
    · obtain ⟨k1, k2, k3, k4⟩ := hb b rfl hl'
      exact .inr ⟨k1, by rw [k2, k4]; exact h4, by rw [k3, k4]; exact h5⟩
  | fn0 f =>
    simp only [lpSV, SV.den] at h ⊢
    obtain ⟨p, q, hv', h1, h2⟩ := h
    refine ⟨p, q, hv', ?_, ?_⟩
    · cases hp : p.toList <;> rw [hp] at h1 <;> simp_all [SV.denL]
    · cases hq : q.toList <;> rw [hq] at h2 <;> simp_all [SV.denL]

/-- All blocks that patterns name are below a number. -/
def refsOk (m : Nat) (l : List LP) : Bool := l.all fun p => match lpRef p with
  | some b => Nat.blt b m
  | none => true

theorem lps_tr {m : Nat} (hv : ∀ j, EqAt m j ((nm1 j).ev U r1) ((nm2 j).ev U r2)) (hb : ∀ b, b < m → SameAt g1 L1 bl1 g2 L2 bl2 b) : ∀ {l : List LP} {i j : Nat} {s : SV}, m ≤ i → refsOk m l = true → (lpsSV nm2 bl2 i l)[j]? = some s →
    ∃ s1, (lpsSV nm1 bl1 i l)[j]? = some s1 ∧ ∀ v, s1.den U r1 g1 L1 v → s.den U r2 g2 L2 v := by
  intro l
  induction l with
  | nil => intro i j s _ _ h; simp [lpsSV] at h
  | cons p l ih =>
    intro i j s hi hr h
    simp only [refsOk, List.all_cons, Bool.and_eq_true] at hr
    cases j with
    | zero =>
      simp only [lpsSV, List.getElem?_cons_zero, Option.some.injEq] at h
      subst h
      refine ⟨_, by simp [lpsSV], fun v => lp_tr hi hv fun b hb' => hb b ?_⟩
      have := hr.1
      rw [hb'] at this
      rw [Nat.blt_eq] at this; exact this
    | succ j =>
      simp only [lpsSV, List.getElem?_cons_succ] at h
      obtain ⟨s1, h1, h2⟩ := ih (by omega) hr.2 h
      exact ⟨s1, by simpa [lpsSV] using h1, h2⟩

theorem slots_tr {m : Nat} (hv : ∀ j, EqAt m j ((nm1 j).ev U r1) ((nm2 j).ev U r2)) (hb : ∀ b, b < m → SameAt g1 L1 bl1 g2 L2 bl2 b) {t : Nat} {v : Value} : ∀ {l : List (Tmp × LP)} {i : Nat}, m ≤ i → refsOk m (l.map (·.2)) = true →
    (lkp t (slotsSV nm1 bl1 i l)).den U r1 g1 L1 v → (lkp t (slotsSV nm2 bl2 i l)).den U r2 g2 L2 v := by
  intro l
  induction l with
  | nil => intro i _ _ _; trivial
  | cons p l ih =>
    intro i hi hr h
    simp only [List.map_cons, refsOk, List.all_cons, Bool.and_eq_true] at hr
    simp only [slotsSV, lkp] at h ⊢
    cases hb' : Nat.beq p.1 t with
    | true =>
      rw [hb'] at h
      simp only [cond_true] at h ⊢
      refine lp_tr hi hv (fun b hb'' => hb b ?_) h
      have := hr.1
      rw [hb''] at this
      rw [Nat.blt_eq] at this; exact this
    | false =>
      rw [hb'] at h
      simp only [cond_false] at h ⊢
      exact ih (by omega) hr.2 h

/-- A pattern's blocks, cells and rows, lie in memory. -/
structure BlkDen (U : Nat → D → D) (r : Nat → D) (g : Gh) (L : Nat → Prop) (w : World) (s : SB) (id : Nat) : Prop where
  lt : g.a id < w.heap.size
  cells : ∃ xs t fz, w.heap[g.a id]? = some (.cells xs t fz) ∧ xs.size = g.n id ∧ (s.wr = true → fz = (0, 0)) ∧ s.cs.length ≤ xs.size ∧ (∀ (j : Nat) (c : SV), s.cs[j]? = some c → ∃ v, xs[j]? = some v ∧ c.den U r g L v) ∧
    ∀ ks e, s.row = some (ks, e) → RowDen ks (e.ev U r).toL (g.o id) xs

theorem lpsSV_length (nm : Nat → E) (bl : Nat → Nat) : ∀ (l : List LP) (i : Nat), (lpsSV nm bl i l).length = l.length := by
  intro l
  induction l with
  | nil => intro i; rfl
  | cons p l ih => intro i; simp [lpsSV, ih]

theorem bp_tr {w : World} {m : Nat} (hv : ∀ j, EqAt m j ((nm1 j).ev U r1) ((nm2 j).ev U r2)) (hb : ∀ b, b < m → SameAt g1 L1 bl1 g2 L2 bl2 b) {b : BP} {j i : Nat} (hi : m ≤ i) (hr : refsOk m b.cs = true) (hj : j < m) (hl : L1 (bl1 j))
    (h : BlkDen U r1 g1 L1 w (bpSB nm1 bl1 j i b) (bl1 j)) : BlkDen U r2 g2 L2 w (bpSB nm2 bl2 j i b) (bl2 j) := by
  obtain ⟨k1, k2, k3, k4⟩ := hb j hj hl
  refine ⟨by rw [k2]; exact h.lt, ?_⟩
  obtain ⟨xs, t, fz, e1, e2, e3, e4, e5, e6⟩ := h.cells
  refine ⟨xs, t, fz, by rw [k2]; exact e1, by rw [k3]; exact e2, e3, ?_, fun q c hc => ?_, fun ks e he => ?_⟩
  · simp only [bpSB, lpsSV_length] at e4 ⊢; exact e4
  · obtain ⟨s1, hs1, hs2⟩ := lps_tr hv hb hi hr hc
    obtain ⟨v, hv', hd⟩ := e5 q s1 hs1
    exact ⟨v, hv', hs2 v hd⟩
  · simp only [bpSB, Option.map_eq_some_iff] at he
    obtain ⟨ks', hks, he⟩ := he
    cases he
    have := e6 ks (nm1 j) (by simp only [bpSB, hks, Option.map_some])
    rw [k4, ← (hv j).1]
    exact this
end
end Go.Sx
