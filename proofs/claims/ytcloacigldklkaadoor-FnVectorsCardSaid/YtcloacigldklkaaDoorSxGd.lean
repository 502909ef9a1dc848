/-
  Sx, parts Nu, Pl, Pm, Pn, Po, Pp, Pq, Pr.
-/
import Derived.Test.YtcloacigldklkaaDoorSxGh
/-
  Sx, part Nu: which floats are numbers, by the orders in which they are known to stand.
-/
namespace Go.Sx

/-- Surely a number. -/
def numE (cs : List (E × Bool)) (k : FloatKind) (a : E) : Bool :=
  (match a with
    | .f (some w) => !isNanW k w
    | _ => false) || cs.any fun p => p.2 && (match p.1 with
    | .o2 (.flt q) x y => decide (q = k) && (x.same a || y.same a)
    | .o2 (.fle q) x y => decide (q = k) && (x.same a || y.same a)
    | .o2 (.feq q) x y => decide (q = k) && (x.same a || y.same a)
    | _ => false)
/-- A number is itself. -/
def selfF (cs : List (E × Bool)) : E → Bool
  | .o2 (.feq k) x y => x.same y && numE cs k x
  | _ => false

section
variable {U : Nat → D → D} {r : Nat → D}
/-- A float that stands in an order is a number. -/
def IsN (k : FloatKind) (x : Fl) : Prop := ∃ a, x = some a ∧ (k.format.read a).isNaN = false
theorem order_some {x y : Ieee.Datum} (ha : x.isNaN = false) (hb : y.isNaN = false) : ∃ o, x.order y = some o := by
  cases x <;> cases y <;> simp_all [Ieee.Datum.isNaN, Ieee.Datum.order]
theorem order_num {x y : Ieee.Datum} {o : Ordering} (h : x.order y = some o) : x.isNaN = false ∧ y.isNaN = false := by
  cases x <;> cases y <;> simp_all [Ieee.Datum.isNaN, Ieee.Datum.order]
theorem ord_num {k : FloatKind} {x y : Fl} {o : Ordering} (h : Fl.ord k x y = some o) : IsN k x ∧ IsN k y := by
  cases x <;> cases y <;> simp only [Fl.ord, reduceCtorEq] at h
  exact ⟨⟨_, rfl, (order_num h).1⟩, _, rfl, (order_num h).2⟩
theorem ord_of_num {k : FloatKind} {x y : Fl} (hx : IsN k x) (hy : IsN k y) : ∃ o, Fl.ord k x y = some o := by
  obtain ⟨a, rfl, ha⟩ := hx
  obtain ⟨b, rfl, hb⟩ := hy
  exact order_some ha hb
theorem numE_ok {cs : List (E × Bool)} (hp : PcOk U r cs) {k : FloatKind} {a : E} (h : numE cs k a = true) : IsN k (a.ev U r).toF := by
  unfold numE at h
  rw [Bool.or_eq_true, List.any_eq_true] at h
  rcases h with h | ⟨p, hm, h⟩
  · split at h
    · rename_i w
      exact ⟨w, rfl, by simpa [isNanW] using h⟩
    · cases h
  · rw [Bool.and_eq_true] at h
    have hv := hp p hm
    rw [h.1] at hv
    obtain ⟨e, b⟩ := p
    replace h := h.2
    dsimp only at h hv
    have fin : ∀ {q : FloatKind} {x y : E} {o : Ordering}, Fl.ord q (x.ev U r).toF (y.ev U r).toF = some o → (decide (q = k) && (x.same a || y.same a)) = true → IsN k (a.ev U r).toF := by
      intro q x y o ho h
      rw [Bool.and_eq_true, decide_eq_true_eq, Bool.or_eq_true] at h
      obtain ⟨hq, h⟩ := h
      rw [hq] at ho
      rcases h with h | h
      · rw [← E.same_eq h]; exact (ord_num ho).1
      · rw [← E.same_eq h]; exact (ord_num ho).2
    split at h
    · simp only [E.ev, O2.ev, D.toB_b, Fl.lt, beq_iff_eq] at hv
      exact fin hv h
    · simp only [E.ev, O2.ev, D.toB_b, Fl.le, Bool.or_eq_true, beq_iff_eq] at hv
      exact hv.elim (fun hv => fin hv h) (fun hv => fin hv h)
    · simp only [E.ev, O2.ev, D.toB_b, Fl.eq, beq_iff_eq] at hv
      exact fin hv h
    · cases h
theorem self_num {k : FloatKind} {x : Fl} (h : IsN k x) : Fl.eq k x x = true := by
  obtain ⟨o, ho⟩ := ord_of_num h h
  have hs := ord_swap k x x
  unfold Fl.eq
  rw [ho] at hs ⊢
  cases o with
  | eq => rfl
  | lt => cases hs
  | gt => cases hs
theorem selfF_ok {cs : List (E × Bool)} (hp : PcOk U r cs) {e : E} (h : selfF cs e = true) : (e.ev U r).toB = true := by
  unfold selfF at h
  split at h
  · rename_i k x y
    rw [Bool.and_eq_true] at h
    have hxy := E.same_eq h.1
    subst hxy
    simp only [E.ev, O2.ev, D.toB_b]
    exact self_num (numE_ok hp h.2)
  · cases h
end
end Go.Sx

/-
  Sx, part Pl: loops of any number of rounds: patterns of what stands at a loop's head, and when a state fits one.
-/
namespace Go.Sx
open E (mk1 mk2 mkIte mk1_ev mk2_ev mkIte_ev)

/-- One as the other, however it is read. -/
def D.eqv (x y : D) : Prop := x.toB = y.toB ∧ x.toI = y.toI ∧ x.toF = y.toF ∧ x.toS = y.toS ∧ x.toL = y.toL
theorem D.eqv.refl (x : D) : D.eqv x x := ⟨rfl, rfl, rfl, rfl, rfl⟩
theorem D.eqv.of_eq {x y : D} (h : x = y) : D.eqv x y := h ▸ D.eqv.refl x
theorem D.eqv.symm {x y : D} (h : D.eqv x y) : D.eqv y x := ⟨h.1.symm, h.2.1.symm, h.2.2.1.symm, h.2.2.2.1.symm, h.2.2.2.2.symm⟩

/-- The same row; behind the first 'm' also the same otherwise. -/
def EqAt (m j : Nat) (x y : D) : Prop := x.toL = y.toL ∧ (m ≤ j → D.eqv x y)
theorem EqAt.of_eqv {m j : Nat} {x y : D} (h : D.eqv x y) : EqAt m j x y := ⟨h.2.2.2.2, fun _ => h⟩
theorem EqAt.of_eq {m j : Nat} {x y : D} (h : x = y) : EqAt m j x y := .of_eqv (.of_eq h)

theorem Sk.den_eqv {k : Sk} {x y : D} {v : Value} (h : D.eqv x y) (hd : k.den x v) : k.den y v := by
  cases k <;> simp only [Sk.den] at hd ⊢
  · rw [← h.1]; exact hd
  · rw [← h.2.1]; exact hd
  · rw [← h.2.2.1]; exact hd
  · rw [← h.2.2.2.1]; exact hd
  · rw [← h.2.1]; exact hd

/-- What stands in a slot, or a cell, at a loop's head. 'ptr b off': into block 'b' of the pattern. 'slo b sz': the whole row that is block 'b'. -/
inductive LP where
  | any
  | one (k : Sk)
  | ag (ks : List Sk)
  | ptr (b off : Nat)
  | slo (b sz : Nat)
  | fn0 (f : FuncId)
  | fnc (f : FuncId) (caps : List (Nat × Nat))
  | nils

/-- A block of the pattern: is it written; its cells; or a row. -/
structure BP where
  wr : Bool
  cs : List LP
  row : Option (List Sk)

/-- A pattern of a state: how many slots the frame has, what stands in some; blocks. Variable 'b' is the row of block 'b'; behind them come those of the slots, then those of the blocks' cells. The first 'nf' blocks stay where they are. -/
structure Tmpl where
  n : Nat
  nf : Nat
  slots : List (Tmp × LP)
  blks : List BP

def lpN : LP → Nat
  | .one _ => 1
  | .ag ks => ks.length
  | _ => 0

def lpRefs : LP → List Nat
  | .ptr b _ => [b]
  | .slo b _ => [b]
  | .fnc _ caps => caps.map (·.1)
  | _ => []

def skNm (nm : Nat → E) : Nat → List Sk → List SV
  | _, [] => []
  | i, k :: l => skSV k (nm i) :: skNm nm (i + 1) l

def capsSV (bl : Nat → Nat) : List (Nat × Nat) → List SV
  | [] => []
  | c :: l => .ptr (bl c.1) c.2 :: capsSV bl l
def lpSV (nm : Nat → E) (bl : Nat → Nat) (i : Nat) : LP → SV
  | .any => .any
  | .one k => skSV k (nm i)
  | .ag ks => .agg (skNm nm i ks)
  | .ptr b off => .ptr (bl b) off
  | .slo b sz => .slo (bl b) sz (mk1 .llen (nm b))
  | .fn0 f => .fn (.func f) [] []
  | .fnc f caps => .fn (.func f) [] (capsSV bl caps)
  | .nils => .con (.slice none 0 0)

def lpsN : List LP → Nat
  | [] => 0
  | p :: l => lpN p + lpsN l

def lpsSV (nm : Nat → E) (bl : Nat → Nat) : Nat → List LP → List SV
  | _, [] => []
  | i, p :: l => lpSV nm bl i p :: lpsSV nm bl (i + lpN p) l

def slotsN : List (Tmp × LP) → Nat
  | [] => 0
  | p :: l => lpN p.2 + slotsN l

def slotsSV (nm : Nat → E) (bl : Nat → Nat) : Nat → List (Tmp × LP) → List (Nat × SV)
  | _, [] => []
  | i, p :: l => (p.1, lpSV nm bl i p.2) :: slotsSV nm bl (i + lpN p.2) l

def bpSB (nm : Nat → E) (bl : Nat → Nat) (j i : Nat) (b : BP) : SB := ⟨b.wr, lpsSV nm bl i b.cs, b.row.map fun ks => (ks, nm j)⟩

def blksSB (nm : Nat → E) (bl : Nat → Nat) : Nat → Nat → List BP → List SB
  | _, _, [] => []
  | j, i, b :: l => bpSB nm bl j i b :: blksSB nm bl (j + 1) (i + lpsN b.cs) l

/-- Where the variables of block 'j' begin. -/
def varOf : Nat → List BP → Nat → Nat
  | i, [], _ => i
  | i, _ :: _, 0 => i
  | i, b :: l, j + 1 => varOf (i + lpsN b.cs) l j

def Tmpl.tm (nm : Nat → E) (bl : Nat → Nat) (t : Tmpl) : Tm := ⟨t.n, slotsSV nm bl t.blks.length t.slots⟩
def Tmpl.at0 (t : Tmpl) : Nat := t.blks.length + slotsN t.slots
def Tmpl.sbs (nm : Nat → E) (bl : Nat → Nat) (t : Tmpl) : List SB := blksSB nm bl 0 t.at0 t.blks

theorem blksSB_get (nm : Nat → E) (bl : Nat → Nat) : ∀ (l : List BP) (j i k : Nat), (blksSB nm bl j i l)[k]? = (l[k]?).map fun b => bpSB nm bl (j + k) (varOf i l k) b := by
  intro l
  induction l with
  | nil => intro j i k; simp [blksSB]
  | cons b l ih =>
    intro j i k
    cases k with
    | zero => simp [blksSB, varOf]
    | succ k => simp only [blksSB, List.getElem?_cons_succ, ih, varOf]; congr 2; funext b; congr 1; omega

theorem varOf_le : ∀ (l : List BP) (i j : Nat), i ≤ varOf i l j := by
  intro l
  induction l with
  | nil => intro i j; simp [varOf]
  | cons b l ih =>
    intro i j
    cases j with
    | zero => simp [varOf]
    | succ j => exact Nat.le_trans (by omega) (ih (i + lpsN b.cs) j)

theorem blksSB_length (nm : Nat → E) (bl : Nat → Nat) : ∀ (l : List BP) (j i : Nat), (blksSB nm bl j i l).length = l.length := by
  intro l
  induction l with
  | nil => intro j i; rfl
  | cons b l ih => intro j i; simp [blksSB, ih]

section
variable {U : Nat → D → D} {r r1 r2 : Nat → D} {g g1 g2 : Gh} {L L1 L2 : Nat → Prop} {nm nm1 nm2 : Nat → E} {bl bl1 bl2 : Nat → Nat}

/-- The blocks that one pattern's names stand for are those that the other's stand for. -/
def SameAt (g1 : Gh) (L1 : Nat → Prop) (bl1 : Nat → Nat) (g2 : Gh) (L2 : Nat → Prop) (bl2 : Nat → Nat) (b : Nat) : Prop :=
  L1 (bl1 b) → L2 (bl2 b) ∧ g2.a (bl2 b) = g1.a (bl1 b) ∧ g2.n (bl2 b) = g1.n (bl1 b) ∧ g2.o (bl2 b) = g1.o (bl1 b)

theorem skNm_tr {m : Nat} (hv : ∀ j, EqAt m j ((nm1 j).ev U r1) ((nm2 j).ev U r2)) : ∀ {ks : List Sk} {i : Nat} {vs : List Value}, m ≤ i → SV.denL U r1 g1 L1 (skNm nm1 i ks) vs → SV.denL U r2 g2 L2 (skNm nm2 i ks) vs := by
  intro ks
  induction ks with
  | nil => intro i vs _ h; cases vs <;> simp_all [skNm, SV.denL]
  | cons k ks ih =>
    intro i vs hi h
    cases vs with
    | nil => simp [skNm, SV.denL] at h
    | cons v vs =>
      simp only [skNm, SV.denL] at h ⊢
      exact ⟨skSV_iff.2 (Sk.den_eqv ((hv i).2 hi) (skSV_iff.1 h.1)), ih (by omega) h.2⟩

theorem caps_tr : ∀ {caps : List (Nat × Nat)} {vs : List Value}, (∀ b ∈ caps.map (·.1), SameAt g1 L1 bl1 g2 L2 bl2 b) → SV.denL U r1 g1 L1 (capsSV bl1 caps) vs → SV.denL U r2 g2 L2 (capsSV bl2 caps) vs
  | [], [], _, _ => by simp [capsSV, SV.denL]
  | [], _ :: _, _, h => by simp [capsSV, SV.denL] at h
  | _ :: _, [], _, h => by simp [capsSV, SV.denL] at h
  | c :: l, v :: vs, hb, h => by
    simp only [capsSV, SV.denL, SV.den] at h ⊢
    obtain ⟨⟨k1, k2⟩, k3⟩ := h
    obtain ⟨q1, q2, _⟩ := hb c.1 (by simp) k1
    exact ⟨⟨q1, by rw [q2]; exact k2⟩, caps_tr (fun b hm => hb b (by simp only [List.map_cons, List.mem_cons]; exact .inr hm)) k3⟩

theorem lp_tr {m : Nat} {p : LP} {i : Nat} {v : Value} (hi : m ≤ i) (hv : ∀ j, EqAt m j ((nm1 j).ev U r1) ((nm2 j).ev U r2)) (hb : ∀ b ∈ lpRefs p, SameAt g1 L1 bl1 g2 L2 bl2 b)
    (h : (lpSV nm1 bl1 i p).den U r1 g1 L1 v) : (lpSV nm2 bl2 i p).den U r2 g2 L2 v := by
  cases p with
  | any => trivial
  | one k => exact skSV_iff.2 (Sk.den_eqv ((hv i).2 hi) (skSV_iff.1 h))
  | ag ks =>
    simp only [lpSV, SV.den] at h ⊢
    obtain ⟨xs, hv', hd⟩ := h
    exact ⟨xs, hv', skNm_tr hv hi hd⟩
  | ptr b off =>
    simp only [lpSV, SV.den] at h ⊢
    obtain ⟨h1, h2, _⟩ := hb b (List.mem_singleton.2 rfl) h.1
    exact ⟨h1, by rw [h2]; exact h.2⟩
  | slo b sz =>
    simp only [lpSV, SV.den, mk1_ev] at h ⊢
    have hl : (O1.llen.ev ((nm2 b).ev U r2)) = (O1.llen.ev ((nm1 b).ev U r1)) := by simp only [O1.ev, (hv b).1]
    rw [hl]
    obtain ⟨h0, base, c, hv', h3, h4⟩ := h
    refine ⟨h0, base, c, hv', h3, ?_⟩
    rcases h4 with h4 | ⟨hl', h4, h5⟩
    · exact .inl h4
    · obtain ⟨k1, k2, k3, k4⟩ := hb b (List.mem_singleton.2 rfl) hl'
      exact .inr ⟨k1, by rw [k2, k4]; exact h4, by rw [k3, k4]; exact h5⟩
  | fn0 f =>
    simp only [lpSV, SV.den] at h ⊢
    obtain ⟨p, q, hv', h1, h2⟩ := h
    refine ⟨p, q, hv', ?_, ?_⟩
    · cases hp : p.toList <;> rw [hp] at h1 <;> simp_all [SV.denL]
    · cases hq : q.toList <;> rw [hq] at h2 <;> simp_all [SV.denL]
  | fnc f caps =>
    simp only [lpSV, SV.den] at h ⊢
    obtain ⟨p, q, hv', h1, h2⟩ := h
    refine ⟨p, q, hv', ?_, caps_tr hb h2⟩
    cases hp : p.toList <;> rw [hp] at h1 <;> simp_all [SV.denL]
  | nils => exact h

/-- All blocks that patterns name are below a number. -/
def refsOk (m : Nat) (l : List LP) : Bool := l.all fun p => (lpRefs p).all fun b => Nat.blt b m
theorem refs_lt {m b : Nat} {p : LP} (h : ((lpRefs p).all fun b => Nat.blt b m) = true) (hb : b ∈ lpRefs p) : b < m := by
  have := List.all_eq_true.1 h b hb
  rwa [Nat.blt_eq] at this

theorem lps_tr {m : Nat} (hv : ∀ j, EqAt m j ((nm1 j).ev U r1) ((nm2 j).ev U r2)) (hb : ∀ b, b < m → SameAt g1 L1 bl1 g2 L2 bl2 b) : ∀ {l : List LP} {i j : Nat} {s : SV}, m ≤ i → refsOk m l = true → (lpsSV nm2 bl2 i l)[j]? = some s →
    ∃ s1, (lpsSV nm1 bl1 i l)[j]? = some s1 ∧ ∀ v, s1.den U r1 g1 L1 v → s.den U r2 g2 L2 v := by
  intro l
  induction l with
  | nil => intro i j s _ _ h; simp [lpsSV] at h
  | cons p l ih =>
    intro i j s hi hr h
    simp only [refsOk, List.all_cons, Bool.and_eq_true] at hr
    cases j with
    | zero =>
      simp only [lpsSV, List.getElem?_cons_zero, Option.some.injEq] at h
      subst h
      refine ⟨_, by simp [lpsSV], fun v => lp_tr hi hv fun b hb' => hb b (refs_lt hr.1 hb')⟩
    | succ j =>
      simp only [lpsSV, List.getElem?_cons_succ] at h
      obtain ⟨s1, h1, h2⟩ := ih (by omega) hr.2 h
      exact ⟨s1, by simpa [lpsSV] using h1, h2⟩

theorem slots_tr {m : Nat} (hv : ∀ j, EqAt m j ((nm1 j).ev U r1) ((nm2 j).ev U r2)) (hb : ∀ b, b < m → SameAt g1 L1 bl1 g2 L2 bl2 b) {t : Nat} {v : Value} : ∀ {l : List (Tmp × LP)} {i : Nat}, m ≤ i → refsOk m (l.map (·.2)) = true →
    (lkp t (slotsSV nm1 bl1 i l)).den U r1 g1 L1 v → (lkp t (slotsSV nm2 bl2 i l)).den U r2 g2 L2 v := by
  intro l
  induction l with
  | nil => intro i _ _ _; trivial
  | cons p l ih =>
    intro i hi hr h
    simp only [List.map_cons, refsOk, List.all_cons, Bool.and_eq_true] at hr
    simp only [slotsSV, lkp] at h ⊢
    cases hb' : Nat.beq p.1 t with
    | true =>
      rw [hb'] at h
      simp only [cond_true] at h ⊢
      exact lp_tr hi hv (fun b hb'' => hb b (refs_lt hr.1 hb'')) h
    | false =>
      rw [hb'] at h
      simp only [cond_false] at h ⊢
      exact ih (by omega) hr.2 h

/-- A pattern's blocks, cells and rows, lie in memory. -/
structure BlkDen (U : Nat → D → D) (r : Nat → D) (g : Gh) (L : Nat → Prop) (w : World) (s : SB) (id : Nat) : Prop where
  lt : g.a id < w.heap.size
  cells : ∃ xs t fz, w.heap[g.a id]? = some (.cells xs t fz) ∧ xs.size = g.n id ∧ (s.wr = true → fz = (0, 0)) ∧ s.cs.length ≤ xs.size ∧ (∀ (j : Nat) (c : SV), s.cs[j]? = some c → ∃ v, xs[j]? = some v ∧ c.den U r g L v) ∧
    ∀ ks e, s.row = some (ks, e) → RowDen ks (e.ev U r).toL (g.o id) xs

theorem lpsSV_length (nm : Nat → E) (bl : Nat → Nat) : ∀ (l : List LP) (i : Nat), (lpsSV nm bl i l).length = l.length := by
  intro l
  induction l with
  | nil => intro i; rfl
  | cons p l ih => intro i; simp [lpsSV, ih]

theorem bp_tr {w : World} {m : Nat} (hv : ∀ j, EqAt m j ((nm1 j).ev U r1) ((nm2 j).ev U r2)) (hb : ∀ b, b < m → SameAt g1 L1 bl1 g2 L2 bl2 b) {b : BP} {j i : Nat} (hi : m ≤ i) (hr : refsOk m b.cs = true) (hj : j < m) (hl : L1 (bl1 j))
    (h : BlkDen U r1 g1 L1 w (bpSB nm1 bl1 j i b) (bl1 j)) : BlkDen U r2 g2 L2 w (bpSB nm2 bl2 j i b) (bl2 j) := by
  obtain ⟨k1, k2, k3, k4⟩ := hb j hj hl
  refine ⟨by rw [k2]; exact h.lt, ?_⟩
  obtain ⟨xs, t, fz, e1, e2, e3, e4, e5, e6⟩ := h.cells
  refine ⟨xs, t, fz, by rw [k2]; exact e1, by rw [k3]; exact e2, e3, ?_, fun q c hc => ?_, fun ks e he => ?_⟩
  · simp only [bpSB, lpsSV_length] at e4 ⊢; exact e4
  · obtain ⟨s1, hs1, hs2⟩ := lps_tr hv hb hi hr hc
    obtain ⟨v, hv', hd⟩ := e5 q s1 hs1
    exact ⟨v, hv', hs2 v hd⟩
  · simp only [bpSB, Option.map_eq_some_iff] at he
    obtain ⟨ks', hks, he⟩ := he
    cases he
    have := e6 ks (nm1 j) (by simp only [bpSB, hks, Option.map_some])
    rw [k4, ← (hv j).1]
    exact this
end
end Go.Sx

/-
  Sx, part Pm: when a state fits a pattern; what a loop comes to, round by round.
-/
namespace Go.Sx
open E (mk1 mk2 mkIte mk1_ev mk2_ev mkIte_ev)

def nmOf (es : List E) : Nat → E := fun j => es.getD j (.b false)
def blOf (bls : List Nat) : Nat → Nat := fun b => bls.getD b 0

/-! ### The check -/

def fitsSk (nm : Nat → E) : Nat → List Sk → List SV → Bool
  | _, [], [] => true
  | i, k :: l, s :: m => (match skE k s with
    | some e => e.same (nm i)
    | none => false) && fitsSk nm (i + 1) l m
  | _, _, _ => false

def bindB0 (b id : Nat) (β : List (Nat × Nat)) : List (Nat × Nat) := if β.any fun p => Nat.beq p.1 b then β else (b, id) :: β
def fitsCaps (bl : Nat → Nat) : List (Nat × Nat) → List SV → Bool
  | [], [] => true
  | c :: l, .ptr id off :: ys => Nat.beq id (bl c.1) && (Nat.beq off c.2 && fitsCaps bl l ys)
  | _, _ => false
theorem fitsCaps_eq {bl : Nat → Nat} : ∀ {caps : List (Nat × Nat)} {ys : List SV}, fitsCaps bl caps ys = true → ys = capsSV bl caps
  | [], [], _ => rfl
  | [], _ :: _, h => by simp [fitsCaps] at h
  | _ :: _, [], h => by simp [fitsCaps] at h
  | c :: l, y :: ys, h => by
    cases y <;> simp only [fitsCaps, Bool.and_eq_true, Bool.false_eq_true] at h
    rw [capsSV, Nat.eq_of_beq_eq_true h.1, Nat.eq_of_beq_eq_true h.2.1, fitsCaps_eq h.2.2]
def seekCaps : List (Nat × Nat) → List SV → List (Nat × Nat) → List (Nat × Nat)
  | c :: l, .ptr id _ :: ys, β => seekCaps l ys (bindB0 c.1 id β)
  | _, _, β => β

def fitsLP (nm : Nat → E) (bl : Nat → Nat) (i : Nat) (p : LP) (s : SV) : Bool :=
  match p with
  | .any => true
  | .one k => (match skE k s with
    | some e => e.same (nm i)
    | none => false)
  | .ag ks => (match s with
    | .agg cs => fitsSk nm i ks cs
    | _ => false)
  | .ptr b off => (match s with
    | .ptr id off' => Nat.beq id (bl b) && Nat.beq off off'
    | _ => false)
  | .slo b sz => (match s with
    | .slo id sz' len => Nat.beq id (bl b) && (Nat.beq sz sz' && len.same (mk1 .llen (nm b)))
    | _ => false)
  | .fn0 f => (match s with
    | .fn (.func f') [] [] => Nat.beq f f'
    | _ => false)
  | .fnc f caps => (match s with
    | .fn (.func f') [] ys => Nat.beq f f' && fitsCaps bl caps ys
    | _ => false)
  | .nils => (match s with
    | .con (.slice none 0 0) => true
    | _ => false)

def fitsCells (nm : Nat → E) (bl : Nat → Nat) : Nat → List LP → List SV → Bool
  | _, [], _ => true
  | i, p :: l, s :: m => fitsLP nm bl i p s && fitsCells nm bl (i + lpN p) l m
  | _, _ :: _, [] => false

def fitsSlots (nm : Nat → E) (bl : Nat → Nat) (tmps : Tm) : Nat → List (Tmp × LP) → Bool
  | _, [] => true
  | i, p :: l => fitsLP nm bl i p.2 (tmps.get p.1) && fitsSlots nm bl tmps (i + lpN p.2) l

def fitsBlk (m : Nat) (nm : Nat → E) (bl : Nat → Nat) (H : SH) (j i : Nat) (b : BP) : Bool :=
  match H[bl j]? with
  | some (some s) => (!b.wr || s.wr) && (refsOk m b.cs && (fitsCells nm bl i b.cs s.cs && (match b.row with
    | none => true
    | some ks => (match s.row with
      | some (ks', a) => sameSks ks ks' && a.same (nm j)
      | none => false))))
  | _ => false

def fitsBlks (m : Nat) (nm : Nat → E) (bl : Nat → Nat) (H : SH) : Nat → Nat → List BP → Bool
  | _, _, [] => true
  | j, i, b :: l => fitsBlk m nm bl H j i b && fitsBlks m nm bl H (j + 1) (i + lpsN b.cs) l

def apartN : List Nat → Bool
  | [] => true
  | a :: l => (l.all fun b => !(Nat.beq a b)) && apartN l

def Tmpl.fits (t : Tmpl) (es : List E) (bls : List Nat) (S : St) : Bool :=
  Nat.beq S.tmps.n t.n && (Nat.beq bls.length t.blks.length && (apartN bls && (refsOk t.blks.length (t.slots.map (·.2)) &&
    (fitsSlots (nmOf es) (blOf bls) S.tmps t.blks.length t.slots && fitsBlks t.blks.length (nmOf es) (blOf bls) S.c.h 0 t.at0 t.blks))))

/-! ### The search -/

def bindB (b id : Nat) (β : List (Nat × Nat)) : List (Nat × Nat) := if β.any fun p => Nat.beq p.1 b then β else (b, id) :: β
def lkN (b : Nat) : List (Nat × Nat) → Nat
  | [] => 0
  | (i, x) :: l => bif Nat.beq i b then x else lkN b l

def seekLP (p : LP) (s : SV) (β : List (Nat × Nat)) : List E × List (Nat × Nat) :=
  match p, s with
  | .one k, s => (match skE k s with
    | some e => ([e], β)
    | none => ([.b false], β))
  | .ag ks, .agg cs => (match skL ks cs with
    | some es => (es, β)
    | none => ([], β))
  | .ptr b _, .ptr id _ => ([], bindB b id β)
  | .slo b _, .slo id _ _ => ([], bindB b id β)
  | .fnc _ caps, .fn _ [] ys => ([], seekCaps caps ys β)
  | _, _ => ([], β)

def seekSlots (tmps : Tm) : List (Tmp × LP) → List (Nat × Nat) → List E × List (Nat × Nat)
  | [], β => ([], β)
  | p :: l, β => match seekLP p.2 (tmps.get p.1) β with
    | (es, β) => match seekSlots tmps l β with
      | (fs, β) => (es ++ fs, β)

def seekCells : List LP → List SV → List (Nat × Nat) → List E × List (Nat × Nat)
  | p :: l, s :: m, β => (match seekLP p s β with
    | (es, β) => match seekCells l m β with
      | (fs, β) => (es ++ fs, β))
  | _, _, β => ([], β)

def seekBlks (H : SH) : Nat → List BP → List (Nat × Nat) → List E × List E × List (Nat × Nat)
  | _, [], β => ([], [], β)
  | j, b :: l, β => match H[lkN j β]? with
    | some (some s) => (match seekCells b.cs s.cs β with
      | (es, β) => match seekBlks H (j + 1) l β with
        | (rs, fs, β) => ((match s.row with
          | some (_, a) => a
          | none => .b false) :: rs, es ++ fs, β))
    | _ => ([], [], β)

def Tmpl.seek (t : Tmpl) (S : St) : List E × List Nat :=
  match seekSlots S.tmps t.slots [] with
  | (es, β) => match seekBlks S.c.h 0 t.blks β with
    | (rs, fs, β) => (rs ++ (es ++ fs), (List.range t.blks.length).map fun b => lkN b β)

/-- How a state fits a pattern. -/
def Tmpl.fit (t : Tmpl) (S : St) : Option (List E × List Nat) :=
  match t.seek S with
  | (es, bls) => if t.fits es bls S then some (es, bls) else none

theorem Tmpl.fit_fits {t : Tmpl} {S : St} {es : List E} {bls : List Nat} (h : t.fit S = some (es, bls)) : t.fits es bls S = true := by
  unfold Tmpl.fit at h
  split at h
  split at h
  · rename_i hf; cases h; exact hf
  · cases h

/-! ### What it says -/

/-- A state is of a pattern. -/
structure StDen (U : Nat → D → D) (t : Tmpl) (nm : Nat → E) (bl : Nat → Nat) (r : Nat → D) (g : Gh) (L : Nat → Prop) (a : Act) (w : World) : Prop where
  defers : a.defers = []
  size : a.tmps.size = t.n
  slot : ∀ q, (lkp q (slotsSV nm bl t.blks.length t.slots)).den U r g L (a.tmps.getD q undef)
  blk : ∀ j b, t.blks[j]? = some b → L (bl j) → BlkDen U r g L w (bpSB nm bl j (varOf t.at0 t.blks j) b) (bl j)
  live : ∀ j b, t.blks[j]? = some b → b.wr = true → L (bl j)
  inj : ∀ i j b b', t.blks[i]? = some b → t.blks[j]? = some b' → b.wr = true → L (bl i) → L (bl j) → g.a (bl i) = g.a (bl j) → i = j

section
variable {U : Nat → D → D} {r r1 r2 : Nat → D} {g g1 g2 : Gh} {L L1 L2 : Nat → Prop} {nm nm1 nm2 : Nat → E} {bl bl1 bl2 : Nat → Nat} {w : World} {a : Act}

theorem fitsSk_ok : ∀ {ks : List Sk} {cs : List SV} {i : Nat}, fitsSk nm i ks cs = true → cs = skNm nm i ks := by
  intro ks
  induction ks with
  | nil => intro cs i h; cases cs <;> simp_all [fitsSk, skNm]
  | cons k ks ih =>
    intro cs i h
    cases cs with
    | nil => simp [fitsSk] at h
    | cons s cs =>
      simp only [fitsSk, Bool.and_eq_true] at h
      obtain ⟨h1, h2⟩ := h
      rw [ih h2]
      split at h1
      · rename_i e he
        rw [skE_eq he, E.same_eq h1]; rfl
      · cases h1

theorem fitsLP_ok {i : Nat} {p : LP} {s : SV} {v : Value} (h : fitsLP nm bl i p s = true) (hd : s.den U r g L v) : (lpSV nm bl i p).den U r g L v := by
  unfold fitsLP at h
  split at h
  · trivial
  · split at h
    · rename_i k e he
      rw [skE_eq he, E.same_eq h] at hd; exact hd
    · cases h
  · split at h
    · rw [fitsSk_ok h] at hd; exact hd
    · cases h
  · split at h
    · rw [Bool.and_eq_true] at h
      have h1 := Nat.eq_of_beq_eq_true h.1
      have h2 := Nat.eq_of_beq_eq_true h.2
      subst h1 h2; exact hd
    · cases h
  · split at h
    · rw [Bool.and_eq_true, Bool.and_eq_true] at h
      have h1 := Nat.eq_of_beq_eq_true h.1
      have h2 := Nat.eq_of_beq_eq_true h.2.1
      have h3 := E.same_eq h.2.2
      subst h1 h2 h3; exact hd
    · cases h
  · split at h
    · have h1 := Nat.eq_of_beq_eq_true h
      subst h1; exact hd
    · cases h
  · split at h
    · rw [Bool.and_eq_true] at h
      have h1 := Nat.eq_of_beq_eq_true h.1
      have h2 := fitsCaps_eq h.2
      subst h1 h2; exact hd
    · cases h
  · split at h
    · exact hd
    · cases h

theorem fitsCells_ok {xs : Array Value} : ∀ {l : List LP} {cs : List SV} {i o : Nat}, fitsCells nm bl i l cs = true → (∀ (j : Nat) (c : SV), cs[j]? = some c → ∃ v, xs[o + j]? = some v ∧ c.den U r g L v) →
    l.length ≤ cs.length ∧ ∀ (j : Nat) (c : SV), (lpsSV nm bl i l)[j]? = some c → ∃ v, xs[o + j]? = some v ∧ c.den U r g L v := by
  intro l
  induction l with
  | nil => intro cs i o _ _; exact ⟨by simp, fun j c hc => by simp [lpsSV] at hc⟩
  | cons p l ih =>
    intro cs i o h hd
    cases cs with
    | nil => simp [fitsCells] at h
    | cons s cs =>
      simp only [fitsCells, Bool.and_eq_true] at h
      obtain ⟨k1, k2⟩ := ih (o := o + 1) h.2 (fun j c hc => by
        obtain ⟨v, hv, hd'⟩ := hd (j + 1) c (by simpa using hc)
        exact ⟨v, by rw [← hv]; congr 1; omega, hd'⟩)
      refine ⟨by simp; omega, fun j c hc => ?_⟩
      cases j with
      | zero =>
        simp only [lpsSV, List.getElem?_cons_zero, Option.some.injEq] at hc
        subst hc
        obtain ⟨v, hv, hd'⟩ := hd 0 s (by simp)
        exact ⟨v, hv, fitsLP_ok h.1 hd'⟩
      | succ j =>
        simp only [lpsSV, List.getElem?_cons_succ] at hc
        obtain ⟨v, hv, hd'⟩ := k2 j c hc
        exact ⟨v, by rw [← hv]; congr 1; omega, hd'⟩

theorem fitsSlots_ok {tmps : Tm} {q : Nat} {v : Value} (hd : (tmps.get q).den U r g L v) : ∀ {l : List (Tmp × LP)} {i : Nat}, fitsSlots nm bl tmps i l = true → (lkp q (slotsSV nm bl i l)).den U r g L v := by
  intro l
  induction l with
  | nil => intro i _; trivial
  | cons p l ih =>
    intro i h
    simp only [fitsSlots, Bool.and_eq_true] at h
    simp only [slotsSV, lkp]
    cases hb : Nat.beq p.1 q with
    | true =>
      simp only [cond_true]
      have := Nat.eq_of_beq_eq_true hb
      rw [this] at h
      exact fitsLP_ok h.1 hd
    | false => simp only [cond_false]; exact ih h.2

theorem fitsBlks_get {m : Nat} {H : SH} : ∀ {l : List BP} {j i k : Nat} {b : BP}, fitsBlks m nm bl H j i l = true → l[k]? = some b → fitsBlk m nm bl H (j + k) (varOf i l k) b = true := by
  intro l
  induction l with
  | nil => intro j i k b _ h; simp at h
  | cons x l ih =>
    intro j i k b h hk
    simp only [fitsBlks, Bool.and_eq_true] at h
    cases k with
    | zero => simp at hk; subst hk; simpa [varOf] using h.1
    | succ k =>
      have := ih h.2 (k := k) (by simpa using hk)
      rw [show j + (k + 1) = j + 1 + k by omega]
      simpa [varOf] using this

theorem apartN_ok : ∀ {l : List Nat}, apartN l = true → ∀ {i j x : Nat}, l[i]? = some x → l[j]? = some x → i = j := by
  intro l
  induction l with
  | nil => intro _ i j x h; simp at h
  | cons a l ih =>
    intro h i j x hi hj
    simp only [apartN, Bool.and_eq_true, List.all_eq_true] at h
    have no : ∀ {k : Nat}, l[k]? = some a → False := fun {k} hk => by
      have := h.1 a (List.mem_of_getElem? hk)
      simp at this
    cases i with
    | zero =>
      simp at hi; subst hi
      cases j with
      | zero => rfl
      | succ j => exact (no (by simpa using hj)).elim
    | succ i =>
      cases j with
      | zero => simp at hj; subst hj; exact (no (by simpa using hi)).elim
      | succ j => exact congrArg (· + 1) (ih h.2 (by simpa using hi) (by simpa using hj))

structure Fits (t : Tmpl) (es : List E) (bls : List Nat) (S : St) : Prop where
  n : S.tmps.n = t.n
  len : bls.length = t.blks.length
  apart : apartN bls = true
  refs : refsOk t.blks.length (t.slots.map (·.2)) = true
  slots : fitsSlots (nmOf es) (blOf bls) S.tmps t.blks.length t.slots = true
  blks : fitsBlks t.blks.length (nmOf es) (blOf bls) S.c.h 0 t.at0 t.blks = true

theorem Tmpl.fits_ok {t : Tmpl} {es : List E} {bls : List Nat} {S : St} (h : t.fits es bls S = true) : Fits t es bls S := by
  simp only [Tmpl.fits, Bool.and_eq_true] at h
  exact ⟨Nat.eq_of_beq_eq_true h.1, Nat.eq_of_beq_eq_true h.2.1, h.2.2.1, h.2.2.2.1, h.2.2.2.2.1, h.2.2.2.2.2⟩

theorem Fits.blk {t : Tmpl} {es : List E} {bls : List Nat} {S : St} (h : Fits t es bls S) {j : Nat} {b : BP} (hb : t.blks[j]? = some b) :
    ∃ s, S.c.h[blOf bls j]? = some (some s) ∧ (b.wr = true → s.wr = true) ∧ refsOk t.blks.length b.cs = true ∧ fitsCells (nmOf es) (blOf bls) (varOf t.at0 t.blks j) b.cs s.cs = true ∧
      (∀ ks, b.row = some ks → s.row = some (ks, nmOf es j)) := by
  have := fitsBlks_get h.blks hb
  rw [Nat.zero_add] at this
  unfold fitsBlk at this
  split at this
  · rename_i s hs
    simp only [Bool.and_eq_true, Bool.or_eq_true, Bool.not_eq_true'] at this
    refine ⟨s, hs, fun hw => ?_, this.2.1, this.2.2.1, fun ks hk => ?_⟩
    · rcases this.1 with h1 | h1
      · rw [h1] at hw; cases hw
      · exact h1
    · have h4 := this.2.2.2
      rw [hk] at h4
      dsimp only at h4
      split at h4
      · rename_i ks' a' hr
        rw [Bool.and_eq_true] at h4
        rw [hr, sameSks_eq h4.1, E.same_eq h4.2]
      · cases h4
  · cases this

theorem blOf_inj {t : Tmpl} {es : List E} {bls : List Nat} {S : St} (h : Fits t es bls S) {i j : Nat} (hi : i < t.blks.length) (hj : j < t.blks.length) (he : blOf bls i = blOf bls j) : i = j := by
  have e : ∀ {k}, k < t.blks.length → bls[k]? = some (blOf bls k) := fun {k} hk => by
    unfold blOf
    rw [List.getD_eq_getElem?_getD, List.getElem?_eq_getElem (by rw [h.len]; exact hk)]; rfl
  exact apartN_ok h.apart (e hi) (by rw [he]; exact e hj)

theorem Fits.den {t : Tmpl} {es : List E} {bls : List Nat} {S : St} (h : Fits t es bls S) (hh : HeapDen U r g L S.c.h w) (hs : Slots U r g L S.tmps a) : StDen U t (nmOf es) (blOf bls) r g L a w where
  defers := hs.defers
  size := hs.size.trans h.n
  slot := fun q => fitsSlots_ok (hs.at_ q) h.slots
  blk := fun j b hb hl => by
    obtain ⟨s, h1, h2, h3, h4, h5⟩ := h.blk hb
    obtain ⟨xs, t', fz, e1, e2, e3, e4, e5⟩ := hh.blk _ s hl h1
    obtain ⟨k1, k2⟩ := fitsCells_ok (o := 0) h4 (fun j c hc => by rw [Nat.zero_add]; exact e5 j c hc)
    refine ⟨hh.lt _ hl, xs, t', fz, e1, e2, fun hw => e3 (h2 hw), ?_, fun j c hc => by have := k2 j c hc; rwa [Nat.zero_add] at this, fun ks e he => ?_⟩
    · simp only [bpSB, lpsSV_length]; omega
    · simp only [bpSB, Option.map_eq_some_iff] at he
      obtain ⟨ks', hk, he⟩ := he
      cases he
      obtain ⟨ys, t'', fz', q1, q2⟩ := hh.rows _ s _ _ hl h1 (h5 _ hk)
      rw [e1] at q1
      cases q1
      exact q2
  live := fun j b hb hw => by
    obtain ⟨s, h1, h2, _⟩ := h.blk hb
    exact hh.live _ s h1 (h2 hw)
  inj := fun i j b b' hb hb' hw hl hl' he => by
    obtain ⟨s, h1, h2, _⟩ := h.blk hb
    obtain ⟨s', h1', _⟩ := h.blk hb'
    have hi : i < t.blks.length := (List.getElem?_eq_some_iff.1 hb).1
    have hj : j < t.blks.length := (List.getElem?_eq_some_iff.1 hb').1
    exact blOf_inj h hi hj (hh.inj _ _ s s' hl hl' h1 (h2 hw) h1' he)

/-- The same state under other names. -/
theorem StDen.tr {t : Tmpl} (hd : StDen U t nm1 bl1 r1 g1 L1 a w) (hr : refsOk t.blks.length (t.slots.map (·.2)) = true) (hrb : ∀ (j : Nat) (b : BP), t.blks[j]? = some b → refsOk t.blks.length b.cs = true)
    (hv : ∀ j, EqAt t.blks.length j ((nm1 j).ev U r1) ((nm2 j).ev U r2)) (hb : ∀ b, b < t.blks.length → SameAt g1 L1 bl1 g2 L2 bl2 b) (hL : ∀ b, b < t.blks.length → L2 (bl2 b) → L1 (bl1 b)) : StDen U t nm2 bl2 r2 g2 L2 a w where
  defers := hd.defers
  size := hd.size
  slot := fun q => slots_tr hv hb (Nat.le_refl _) hr (hd.slot q)
  blk := fun j b hj hl => by
    have hlt := (List.getElem?_eq_some_iff.1 hj).1
    have hl1 := hL j hlt hl
    exact bp_tr hv hb (Nat.le_trans (Nat.le_add_right _ _) (varOf_le t.blks t.at0 j)) (hrb j b hj) hlt hl1 (hd.blk j b hj hl1)
  live := fun j b hj hw => (hb j (List.getElem?_eq_some_iff.1 hj).1 (hd.live j b hj hw)).1
  inj := fun i j b b' hi hj hw hl hl' he => by
    have hi' := (List.getElem?_eq_some_iff.1 hi).1
    have hj' := (List.getElem?_eq_some_iff.1 hj).1
    have k1 := hL i hi' hl
    have k2 := hL j hj' hl'
    obtain ⟨_, q1, _⟩ := hb i hi' k1
    obtain ⟨_, q2, _⟩ := hb j hj' k2
    exact hd.inj i j b b' hi hj hw k1 k2 (by rw [← q1, ← q2]; exact he)

/-- A state of a pattern under its own names: memory and slots. -/
theorem StDen.own {t : Tmpl} (hd : StDen U t E.v id r g L a w) (hL : ∀ b, L b → b < t.blks.length) : HeapDen U r g L ((t.sbs E.v id).map some) w ∧ Slots U r g L (t.tm E.v id) a := by
  have get : ∀ {id : Nat} {s : SB}, ((t.sbs E.v _root_.id).map some)[id]? = some (some s) → ∃ b, t.blks[id]? = some b ∧ s = bpSB E.v _root_.id id (varOf t.at0 t.blks id) b := by
    intro id s h
    rw [List.getElem?_map, Tmpl.sbs, blksSB_get] at h
    cases hb : t.blks[id]? with
    | none => rw [hb] at h; cases h
    | some b =>
      rw [hb] at h
      simp only [Option.map_some, Option.some.injEq, Nat.zero_add] at h
      exact ⟨b, rfl, h.symm⟩
  have len : ((t.sbs E.v _root_.id).map some).length = t.blks.length := by simp [Tmpl.sbs, blksSB_length]
  have one : ∀ {id}, L id → ∃ b, t.blks[id]? = some b ∧ BlkDen U r g L w (bpSB E.v _root_.id id (varOf t.at0 t.blks id) b) id := fun {id} hl => by
    have hlt := hL id hl
    exact ⟨t.blks[id], List.getElem?_eq_getElem hlt, hd.blk id _ (List.getElem?_eq_getElem hlt) hl⟩
  refine ⟨⟨fun id hl => by rw [len]; exact hL id hl, fun id hl => ?_, fun id s hl hs => ?_, fun i j b b' hi hj hb hw hb' he => ?_, fun id s ks e hl hs hr => ?_, fun id s hs hw => ?_⟩, ⟨hd.defers, hd.size, hd.slot⟩⟩
  · obtain ⟨b, _, hb⟩ := one hl; exact hb.lt
  · obtain ⟨b, hb, rfl⟩ := get hs
    obtain ⟨b', hb', k⟩ := one hl
    rw [hb] at hb'; cases hb'
    obtain ⟨xs, t', fz, e1, e2, e3, e4, e5, e6⟩ := k.cells
    exact ⟨xs, t', fz, e1, e2, e3, e4, e5⟩
  · obtain ⟨b1, hb1, rfl⟩ := get hb
    obtain ⟨b2, hb2, rfl⟩ := get hb'
    exact hd.inj i j b1 b2 hb1 hb2 hw hi hj he
  · obtain ⟨b, hb, rfl⟩ := get hs
    obtain ⟨b', hb', k⟩ := one hl
    rw [hb] at hb'; cases hb'
    obtain ⟨xs, t', fz, e1, e2, e3, e4, e5, e6⟩ := k.cells
    exact ⟨xs, t', fz, e1, e6 ks e hr⟩
  · obtain ⟨b, hb, rfl⟩ := get hs
    exact hd.live id b hb hw
end
end Go.Sx

/-
  Sx, part Pn: loops of any number of rounds: a round made once, at variables; all rounds.
-/
namespace Go.Sx
open E (mk1 mk2 mkIte mk1_ev mk2_ev mkIte_ev)

/-! ### Trees reckoned -/

section
variable {α β : Type}

/-- The leaf of a tree, its names let in. -/
def evA (U : Nat → D → D) : Tree α → (Nat → D) → Option (α × (Nat → D))
  | .ret s, r => some (s, r)
  | .ite c t e, r => if (c.ev U r).toB then evA U t r else evA U e r
  | .chk c t, r => match c with
    | .o2 .fsame (.v i) e => evA U t (Tree.upd r i (e.ev U r))
    | _ => none
  | _, _ => none

/-- The names and tests of a tree are over older variables. -/
def okA : Nat → Tree α → Bool
  | _, .ret _ => true
  | m, .ite c t e => c.under m && (okA m t && okA m e)
  | m, .chk (.o2 .fsame (.v i) e) t => Nat.ble m i && (e.under m && okA (i + 1) t)
  | _, .bad => true
  | _, _ => false

def mapT (f : α → β) : Tree α → Tree β
  | .ret a => .ret (f a)
  | .ite c t e => .ite c (mapT f t) (mapT f e)
  | .all i t => .all i (mapT f t)
  | .asm c t => .asm c (mapT f t)
  | .chk c t => .chk c (mapT f t)
  | .bad => .bad

theorem evA_map {U : Nat → D → D} (f : α → β) : ∀ {t : Tree α} {r : Nat → D}, evA U (mapT f t) r = (evA U t r).map fun p => (f p.1, p.2) := by
  intro t
  induction t with
  | ret a => intro r; rfl
  | ite c t e iht ihe => intro r; simp only [mapT, evA]; split <;> simp_all
  | chk c t ih =>
    intro r
    simp only [mapT, evA]
    split
    · exact ih
    · rfl
  | all i t ih => intro r; rfl
  | asm c t ih => intro r; rfl
  | bad => intro r; rfl

theorem okA_map (f : α → β) : ∀ {t : Tree α} {m : Nat}, okA m (mapT f t) = okA m t := by
  intro t
  induction t with
  | ret a => intro m; rfl
  | ite c t e iht ihe => intro m; simp only [mapT, okA, iht, ihe]
  | chk c t ih =>
    intro m
    simp only [mapT]
    unfold okA
    split
    · rename_i h'; cases h'
    · rename_i h'; cases h'
    · rename_i i e t' h'
      cases h'
      simp only [ih]
    · rename_i h'; cases h'
    · rename_i hne h1 h2 h3 h4
      split
      · rename_i h'; cases h'
      · rename_i h'; cases h'
      · rename_i i e t' h'
        cases h'
        exact absurd rfl (h3 i e (mapT f t))
      · rename_i h'; cases h'
      · rfl
  | all i t ih => intro m; rfl
  | asm c t ih => intro m; rfl
  | bad => intro m; rfl

theorem evA_sat {U : Nat → D → D} : ∀ {t : Tree α} {m : Nat} {r : Nat → D} {x : α} {r' : Nat → D}, okA m t = true → evA U t r = some (x, r') → (∀ n, n < m → r' n = r n) ∧ ∀ Q : (Nat → D) → α → Prop, Q r' x → t.sat U Q r' := by
  intro t
  induction t with
  | ret a =>
    intro m r x r' _ h
    simp only [evA, Option.some.injEq, Prod.mk.injEq] at h
    obtain ⟨rfl, rfl⟩ := h
    exact ⟨fun _ _ => rfl, fun Q hq => hq⟩
  | ite c t e iht ihe =>
    intro m r x r' ho h
    simp only [okA, Bool.and_eq_true] at ho
    simp only [evA] at h
    split at h
    · rename_i hc
      obtain ⟨k1, k2⟩ := iht ho.2.1 h
      refine ⟨k1, fun Q hq => ?_⟩
      simp only [Tree.sat]
      rw [if_pos (by rw [E.ev_under U k1 ho.1]; exact hc)]
      exact k2 Q hq
    · rename_i hc
      obtain ⟨k1, k2⟩ := ihe ho.2.2 h
      refine ⟨k1, fun Q hq => ?_⟩
      simp only [Tree.sat]
      rw [if_neg (by rw [E.ev_under U k1 ho.1]; exact hc)]
      exact k2 Q hq
  | chk c t ih =>
    intro m r x r' ho h
    unfold okA at ho
    split at ho
    · rename_i h'; cases h'
    · rename_i h'; cases h'
    · rename_i m _ _ i e t' h'
      cases h'
      simp only [Bool.and_eq_true] at ho
      simp only [evA] at h
      obtain ⟨k1, k2⟩ := ih ho.2.2 h
      have hm := Nat.le_of_ble_eq_true ho.1
      have hlow : ∀ n, n < m → r' n = r n := fun n hn => by
        rw [k1 n (by omega)]
        unfold Tree.upd
        rw [if_neg (by omega)]
      refine ⟨hlow, fun Q hq => ?_⟩
      simp only [Tree.sat]
      refine ⟨?_, k2 Q hq⟩
      have : r' i = e.ev U r := by rw [k1 i (by omega)]; unfold Tree.upd; rw [if_pos rfl]
      simp only [E.ev, O2.ev, D.toB_b, this, E.ev_under U hlow ho.2.1, beq_self_eq_true]
    · rename_i h'; cases h'
    · cases ho
  | all i t ih => intro m r x r' ho; simp [okA] at ho
  | asm c t ih => intro m r x r' ho; simp [okA] at ho
  | bad => intro m r x r' _ h; cases h
end

/-! ### A loop -/

/-- What a round comes to. -/
inductive LRes where
  | next (es : List E)
  | done (k : Nat) (es : List E)
  | stuck

/-- A loop: its head; what holds there; the ways out, each with what it leaves. -/
structure LoopT where
  t : Tmpl
  inv : List E
  outs : List (Ex × Tmpl)

def Ex.same : Ex → Ex → Bool
  | .normal, .normal => true
  | .exit i, .exit j => Nat.beq i j
  | .ret, .ret => true
  | _, _ => false

theorem Ex.same_eq {x y : Ex} (h : x.same y = true) : x = y := by
  cases x <;> cases y <;> simp [Ex.same] at h <;> first | rfl | (subst h; rfl)

/-- What is known at a loop's head. -/
def headP (inv : List E) : List (E × Bool) := inv.flatMap fun e => splitB e true
theorem splitB_under {m : Nat} : ∀ {e : E} {b : Bool}, e.under m = true → ∀ x ∈ splitB e b, x.1.under m = true := by
  intro e
  have one : ∀ (e : E) (b : Bool), e.under m = true → ∀ x ∈ [(e, b)], x.1.under m = true := fun e b h x hx => by rw [List.mem_singleton.1 hx]; exact h
  induction e with
  | o1 o x ih =>
    intro b h
    cases o
    case not => exact ih (b := !b) h
    all_goals exact one _ _ h
  | o2 o x y ihx ihy =>
    intro b h
    have h' := h
    simp only [E.under, Bool.and_eq_true] at h'
    cases o
    case band =>
      cases b
      · exact one _ _ h
      · intro z hz
        rcases List.mem_append.1 hz with hz | hz
        · exact ihx h'.1 z hz
        · exact ihy h'.2 z hz
    case bor =>
      cases b
      · intro z hz
        rcases List.mem_append.1 hz with hz | hz
        · exact ihx h'.1 z hz
        · exact ihy h'.2 z hz
      · exact one _ _ h
    all_goals exact one _ _ h
  | v n => intro b h; exact one _ _ h
  | b n => intro b h; exact one _ _ h
  | i n => intro b h; exact one _ _ h
  | f n => intro b h; exact one _ _ h
  | s n => intro b h; exact one _ _ h
  | o3 o x y z => intro b h; exact one _ _ h
  | app n x => intro b h; exact one _ _ h
theorem headP_ok {U : Nat → D → D} {r : Nat → D} {inv : List E} (h : ∀ e ∈ inv, (e.ev U r).toB = true) : PcOk U r (headP inv) := by
  intro p hp
  obtain ⟨e, he, hm⟩ := List.mem_flatMap.1 hp
  exact splitB_ok (h e he) p hm
theorem headP_under {m : Nat} {inv : List E} (h : ∀ e ∈ inv, e.under m = true) : ∀ p ∈ headP inv, p.1.under m = true := by
  intro p hp
  obtain ⟨e, he, hm⟩ := List.mem_flatMap.1 hp
  exact splitB_under (h e he) p hm
def LoopT.c0 (A : LoopT) : Cx := ⟨(A.t.sbs E.v id).map some, 1000, headP A.inv⟩
def LoopT.s0 (A : LoopT) : St := ⟨A.t.tm E.v id, A.c0⟩

/-- The first blocks stay. -/
def stays (nf : Nat) (bls : List Nat) : Bool := (List.range nf).all fun j => Nat.beq (blOf bls j) j

def pickOut (e : Ex) : Nat → List (Ex × Tmpl) → Option (Nat × Tmpl)
  | _, [] => none
  | k, (x, t) :: l => if x.same e then some (k, t) else pickOut e (k + 1) l

theorem pickOut_ok {e : Ex} {to : Tmpl} {k : Nat} : ∀ {l : List (Ex × Tmpl)} {i : Nat}, pickOut e i l = some (k, to) → i ≤ k ∧ l[k - i]? = some (e, to) := by
  intro l
  induction l with
  | nil => intro i h; cases h
  | cons x l ih =>
    intro i h
    obtain ⟨x, t⟩ := x
    unfold pickOut at h
    split at h
    · rename_i hs
      cases h
      rw [Ex.same_eq hs]
      simp
    · obtain ⟨h1, h2⟩ := ih h
      refine ⟨by omega, ?_⟩
      rw [show k - i = (k - (i + 1)) + 1 by omega]
      simpa using h2

def LoopT.leaf (A : LoopT) (x : Ex × St) : LRes :=
  match x.1 with
  | .normal => (match A.t.fit x.2 with
    | some (es, bls) => if stays A.t.nf bls then .next es else .stuck
    | none => .stuck)
  | e => (match pickOut e 0 A.outs with
    | some (k, to) => (match to.fit x.2 with
      | some (es, bls) => if stays A.t.nf bls then .done k es else .stuck
      | none => .stuck)
    | none => .stuck)

def Tmpl.wf (t : Tmpl) : Bool :=
  refsOk t.blks.length (t.slots.map (·.2)) && ((t.blks.all fun b => refsOk t.blks.length b.cs) && (Nat.ble t.nf t.blks.length && ((t.blks.drop t.nf).all fun b => b.wr)))

def sameWr : List BP → List BP → Bool
  | [], [] => true
  | a :: l, b :: m => (a.wr == b.wr) && sameWr l m
  | _, _ => false

def underB (m : Nat) (s : SB) : Bool := SV.underL m s.cs && (match s.row with
  | some (_, e) => e.under m
  | none => true)

def LoopT.wf (A : LoopT) : Bool :=
  A.t.wf && ((A.outs.all fun o => o.2.wf && (Nat.beq o.2.n A.t.n && (Nat.beq o.2.nf A.t.nf && sameWr (A.t.blks.take A.t.nf) (o.2.blks.take A.t.nf)))) &&
    ((A.inv.all fun e => e.under 1000) && ((A.t.tm E.v id).under 1000 && (A.t.sbs E.v id).all (underB 1000))))

def rOf (ds : List D) : Nat → D := fun j => ds.getD j (.b false)

/-- What holds at a loop's head. -/
def HoldI (U : Nat → D → D) (inv : List E) (ds : List D) : Prop := ∀ e ∈ inv, (e.ev U (rOf ds)).toB = true

/-- The rounds of a loop, from what stands at its head to a way out. -/
inductive LoopTo (U : Nat → D → D) (inv : List E) (T : Tree LRes) : List D → Nat → List D → Prop where
  | done {ds : List D} {k : Nat} {es : List E} {r' : Nat → D} : HoldI U inv ds → evA U T (rOf ds) = some (.done k es, r') → LoopTo U inv T ds k (es.map (E.ev U r'))
  | next {ds : List D} {es : List E} {r' : Nat → D} {k : Nat} {os : List D} : HoldI U inv ds → evA U T (rOf ds) = some (.next es, r') → LoopTo U inv T (es.map (E.ev U r')) k os → LoopTo U inv T ds k os

/-- What rounds leave of memory. -/
structure Rel (t : Tmpl) (g : Gh) (L : Nat → Prop) (w : World) (g' : Gh) (L' : Nat → Prop) (w' : World) : Prop where
  frm : Frm (fun x => ∃ i b, t.blks[i]? = some b ∧ b.wr = true ∧ L i ∧ g.a i = x) w w'
  fix : ∀ j, j < t.nf → (L' j ↔ L j) ∧ (L j → g'.a j = g.a j ∧ g'.n j = g.n j ∧ g'.o j = g.o j)
  new : ∀ j, t.nf ≤ j → L' j → w.heap.size ≤ g'.a j ∨ ∃ i b, t.blks[i]? = some b ∧ b.wr = true ∧ L i ∧ g'.a j = g.a i

/-- Names of blocks, read through. -/
def Gh.via (g : Gh) (bl : Nat → Nat) : Gh := ⟨fun b => g.a (bl b), fun b => g.n (bl b), fun b => g.o (bl b)⟩

section
variable {U : Nat → D → D} {L L' L'' : Nat → Prop} {r r' : Nat → D} {g g' g'' : Gh} {c c' : Cx} {w w' w'' : World} {P : Program} {a a' : Act}

theorem Rel.trans {t : Tmpl} (h : Rel t g L w g' L' w') (h' : Rel t g' L' w' g'' L'' w'') : Rel t g L w g'' L'' w'' where
  frm := by
    have f := h.frm
    have f' := h'.frm
    refine ⟨f'.os.trans f.os, f'.tape.trans f.tape, f'.output.trans f.output, Nat.le_trans f.size f'.size, fun k hk hn => ?_⟩
    refine (f'.block k (Nat.lt_of_lt_of_le hk f.size) ?_).trans (f.block k hk hn)
    rintro ⟨i, b, h1, h2, h3, h4⟩
    by_cases hi : i < t.nf
    · have hl := (h.fix i hi).1.1 h3
      exact hn ⟨i, b, h1, h2, hl, by rw [← ((h.fix i hi).2 hl).1]; exact h4⟩
    · rcases h.new i (by omega) h3 with h5 | ⟨i', b', k1, k2, k3, k4⟩
      · omega
      · exact hn ⟨i', b', k1, k2, k3, by rw [← k4]; exact h4⟩
  fix := fun j hj => by
    obtain ⟨a1, a2⟩ := h.fix j hj
    obtain ⟨b1, b2⟩ := h'.fix j hj
    refine ⟨b1.trans a1, fun hl => ?_⟩
    obtain ⟨p1, p2, p3⟩ := a2 hl
    obtain ⟨q1, q2, q3⟩ := b2 (a1.2 hl)
    exact ⟨q1.trans p1, q2.trans p2, q3.trans p3⟩
  new := fun j hj hl => by
    rcases h'.new j hj hl with h1 | ⟨i, b, k1, k2, k3, k4⟩
    · exact .inl (Nat.le_trans h.frm.size h1)
    · by_cases hi : i < t.nf
      · have hl' := (h.fix i hi).1.1 k3
        exact .inr ⟨i, b, k1, k2, hl', by rw [k4]; exact ((h.fix i hi).2 hl').1⟩
      · rcases h.new i (by omega) k3 with h5 | ⟨i', b', q1, q2, q3, q4⟩
        · exact .inl (by rw [k4]; exact h5)
        · exact .inr ⟨i', b', q1, q2, q3, by rw [k4]; exact q4⟩

theorem stays_ok {nf : Nat} {bls : List Nat} (h : stays nf bls = true) {j : Nat} (hj : j < nf) : blOf bls j = j := by
  unfold stays at h
  rw [List.all_eq_true] at h
  exact Nat.eq_of_beq_eq_true (h j (List.mem_range.2 hj))

theorem Tmpl.wf_ok {t : Tmpl} (h : t.wf = true) : refsOk t.blks.length (t.slots.map (·.2)) = true ∧ (∀ (j : Nat) (b : BP), t.blks[j]? = some b → refsOk t.blks.length b.cs = true) ∧ t.nf ≤ t.blks.length ∧
    ∀ (j : Nat) (b : BP), t.nf ≤ j → t.blks[j]? = some b → b.wr = true := by
  simp only [Tmpl.wf, Bool.and_eq_true, List.all_eq_true] at h
  refine ⟨h.1, fun j b hb => h.2.1 b (List.mem_of_getElem? hb), Nat.le_of_ble_eq_true h.2.2.1, fun j b hj hb => h.2.2.2 b (List.mem_of_getElem? (i := j - t.nf) ?_)⟩
  rw [List.getElem?_drop, show t.nf + (j - t.nf) = j by omega]
  exact hb

theorem sbs_get {t : Tmpl} {nm : Nat → E} {bl : Nat → Nat} {id : Nat} {s : SB} (h : ((t.sbs nm bl).map some)[id]? = some (some s)) : ∃ b, t.blks[id]? = some b ∧ s = bpSB nm bl id (varOf t.at0 t.blks id) b := by
  rw [List.getElem?_map, Tmpl.sbs, blksSB_get] at h
  cases hb : t.blks[id]? with
  | none => rw [hb] at h; cases h
  | some b =>
    rw [hb] at h
    simp only [Option.map_some, Option.some.injEq, Nat.zero_add] at h
    exact ⟨b, rfl, h.symm⟩

theorem sbs_length (t : Tmpl) (nm : Nat → E) (bl : Nat → Nat) : (t.sbs nm bl).length = t.blks.length := by simp [Tmpl.sbs, blksSB_length]

/-- What one round leaves. -/
theorem rel_of_ext {t to : Tmpl} {inv : List (E × Bool)} {es : List E} {bls : List Nat} {S : St} (hto : to.wf = true) (hnf : to.nf = t.nf) (ht : t.wf = true)
    (e : Ext U L r g ⟨(t.sbs E.v id).map some, 1000, inv⟩ w r' g' S.c w') (hf : Fits to es bls S) (hs : stays t.nf bls = true) :
    Rel t g L w (g'.via (blOf bls)) (fun j => j < to.blks.length ∧ Lx L ((t.sbs E.v id).map some) S.c.h (blOf bls j)) w' := by
  have wr : ∀ {k : Nat}, Wr g L ((t.sbs E.v id).map some) k → ∃ i b, t.blks[i]? = some b ∧ b.wr = true ∧ L i ∧ g.a i = k := by
    rintro k ⟨id, s, h1, h2, h3, h4⟩
    obtain ⟨b, hb, rfl⟩ := sbs_get h2
    exact ⟨id, b, hb, h3, h1, h4⟩
  have len : ((t.sbs E.v id).map some).length = t.blks.length := by simp [sbs_length]
  obtain ⟨_, _, hle, _⟩ := Tmpl.wf_ok ht
  obtain ⟨_, _, hle', hw'⟩ := Tmpl.wf_ok hto
  refine ⟨⟨e.frm.os, e.frm.tape, e.frm.output, e.frm.size, fun k hk hn => e.frm.block k hk fun hw => hn (wr hw)⟩, fun j hj => ?_, fun j hj hl => ?_⟩
  · have hb := stays_ok hs hj
    show ((j < to.blks.length ∧ Lx L _ S.c.h (blOf bls j)) ↔ L j) ∧ (L j → g'.a (blOf bls j) = g.a j ∧ g'.n (blOf bls j) = g.n j ∧ g'.o (blOf bls j) = g.o j)
    rw [hb]
    refine ⟨⟨fun h => ?_, fun h => ⟨by omega, .inl h⟩⟩, fun _ => ?_⟩
    · rcases h.2 with h | h
      · exact h
      · rw [len] at h; omega
    · have hno : ¬ (((t.sbs E.v id).map some).length ≤ j ∧ j < S.c.h.length) := by rw [len]; omega
      exact ⟨(e.ga j hno).1, (e.ga j hno).2, e.go j hno⟩
  · obtain ⟨hlt, hl⟩ := hl
    have hb : to.blks[j]? = some to.blks[j] := List.getElem?_eq_getElem hlt
    obtain ⟨s, h1, h2, _⟩ := hf.blk hb
    have hwr := h2 (hw' j _ (by omega) hb)
    rcases e.wrs _ s hl h1 hwr with h3 | h3
    · exact .inl h3
    · obtain ⟨i, b, k1, k2, k3, k4⟩ := wr h3
      exact .inr ⟨i, b, k1, k2, k3, k4.symm⟩

theorem HeapDen.under {H : SH} {m : Nat} (hh : HeapDen U r g L H w) (hr : ∀ n, n < m → r' n = r n) (hu : ∀ (id : Nat) (s : SB), H[id]? = some (some s) → underB m s = true) : HeapDen U r' g L H w where
  bnd := hh.bnd
  lt := hh.lt
  blk := fun id b hl hb => by
    obtain ⟨xs, t, fz, e1, e2, e3, e4, e5⟩ := hh.blk id b hl hb
    refine ⟨xs, t, fz, e1, e2, e3, e4, fun j c hc => ?_⟩
    obtain ⟨v, hv, hd⟩ := e5 j c hc
    have := hu id b hb
    simp only [underB, Bool.and_eq_true] at this
    refine ⟨v, hv, SV.den_under hr ?_ hd⟩
    have all : ∀ {l : List SV} {j : Nat} {c : SV}, SV.underL m l = true → l[j]? = some c → c.under m = true := by
      intro l
      induction l with
      | nil => intro j c _ h; simp at h
      | cons x l ih =>
        intro j c h hc
        simp only [SV.underL, Bool.and_eq_true] at h
        cases j with
        | zero => simp at hc; subst hc; exact h.1
        | succ j => exact ih h.2 (by simpa using hc)
    exact all this.1 hc
  inj := hh.inj
  rows := fun id b ks e hl hb hr' => by
    obtain ⟨xs, t, fz, e1, e2⟩ := hh.rows id b ks e hl hb hr'
    have := hu id b hb
    simp only [underB, Bool.and_eq_true, hr'] at this
    exact ⟨xs, t, fz, e1, by rw [E.ev_under U hr this.2]; exact e2⟩
  live := hh.live

/-- The walk of a loop's body. -/
def BodyOk (U : Nat → D → D) (P : Program) (b : Code) (ex : St → Tree (Ex × St)) : Prop :=
  ∀ (S : St) (L : Nat → Prop) (r : Nat → D) (g : Gh) (a : Act) (w : World) (Q : Exit → Act → World → Prop),
    HeapDen U r g L S.c.h w → PcOk U r S.c.pc → Slots U r g L S.tmps a → (ex S).sat U (EPost U L r g S.c w Q) r → b.wp P Q a w

structure LoopT.Wf (A : LoopT) : Prop where
  t : A.t.wf = true
  outs : ∀ (k : Nat) (e : Ex) (to : Tmpl), A.outs[k]? = some (e, to) → to.wf = true ∧ to.n = A.t.n ∧ to.nf = A.t.nf ∧ sameWr (A.t.blks.take A.t.nf) (to.blks.take A.t.nf) = true
  inv : ∀ e ∈ A.inv, e.under 1000 = true
  tm : (A.t.tm E.v id).under 1000 = true
  sbs : ∀ s ∈ A.t.sbs E.v id, underB 1000 s = true

theorem LoopT.wf_ok {A : LoopT} (h : A.wf = true) : A.Wf := by
  simp only [LoopT.wf, Bool.and_eq_true, List.all_eq_true] at h
  refine ⟨h.1, fun k e to hk => ?_, h.2.2.1, h.2.2.2.1, h.2.2.2.2⟩
  have := h.2.1 (e, to) (List.mem_of_getElem? hk)
  exact ⟨this.1, Nat.eq_of_beq_eq_true this.2.1, Nat.eq_of_beq_eq_true this.2.2.1, this.2.2.2⟩

theorem evs_rOf (es : List E) (r : Nat → D) (j : Nat) : rOf (es.map (E.ev U r)) j = (nmOf es j).ev U r := by
  unfold rOf nmOf
  rw [List.getD_eq_getElem?_getD, List.getElem?_map, List.getD_eq_getElem?_getD]
  cases es[j]? <;> rfl

/-- A state that fits, under the pattern's own names. -/
theorem fits_own {to : Tmpl} {es : List E} {bls : List Nat} {S : St} (hwf : to.wf = true) (hf : Fits to es bls S) (hh : HeapDen U r g L S.c.h w) (hs : Slots U r g L S.tmps a) :
    StDen U to E.v id (rOf (es.map (E.ev U r))) (g.via (blOf bls)) (fun j => j < to.blks.length ∧ L (blOf bls j)) a w := by
  obtain ⟨h1, h2, _, _⟩ := Tmpl.wf_ok hwf
  refine (hf.den hh hs).tr h1 h2 (fun j => ?_) (fun b hb hl => ⟨⟨hb, hl⟩, rfl, rfl, rfl⟩) (fun b _ hl => hl.2)
  refine EqAt.of_eq ?_
  show _ = rOf _ j
  rw [evs_rOf]

set_option maxHeartbeats 1000000 in
/-- ALL ROUNDS. -/
theorem loop_chain {A : LoopT} {b : Code} {ex : St → Tree (Ex × St)} (hex : BodyOk U P b ex) (hwf : A.Wf) (hok : okA 1000 (mapT A.leaf (ex A.s0)) = true) {ds : List D} {k : Nat} {os : List D}
    (h : LoopTo U A.inv (mapT A.leaf (ex A.s0)) ds k os) :
    ∃ e to, A.outs[k]? = some (e, to) ∧ ∃ N, ∀ (g : Gh) (L : Nat → Prop) (a : Act) (w : World), (∀ j, L j → j < A.t.blks.length) → StDen U A.t E.v id (rOf ds) g L a w →
      ∀ Q : Exit → Act → World → Prop, (∀ g' L' a' w', (∀ j, L' j → j < to.blks.length) → StDen U to E.v id (rOf os) g' L' a' w' → Rel A.t g L w g' L' w' → Q e.out a' w') → Code.rounds P b Q N a w := by
  -- a round
  have round : ∀ {ds : List D} {res : LRes} {r' : Nat → D}, HoldI U A.inv ds → evA U (mapT A.leaf (ex A.s0)) (rOf ds) = some (res, r') →
      ∃ x : Ex × St, A.leaf x = res ∧ ∀ (g : Gh) (L : Nat → Prop) (a : Act) (w : World), (∀ j, L j → j < A.t.blks.length) → StDen U A.t E.v id (rOf ds) g L a w → ∀ Q : Exit → Act → World → Prop,
        (∀ g' a' w', Ext U L r' g A.c0 w r' g' x.2.c w' → Slots U r' g' (Lx L A.c0.h x.2.c.h) x.2.tmps a' → Q x.1.out a' w') → b.wp P Q a w := by
    intro ds res r' hinv hev
    rw [evA_map] at hev
    cases hx : evA U (ex A.s0) (rOf ds) with
    | none => rw [hx] at hev; cases hev
    | some p =>
      rw [hx] at hev
      obtain ⟨x, r1⟩ := p
      simp only [Option.map_some, Option.some.injEq, Prod.mk.injEq] at hev
      obtain ⟨h1, rfl⟩ := hev
      rw [okA_map] at hok
      obtain ⟨hlow, hsat⟩ := evA_sat hok hx
      refine ⟨x, h1, fun g L a w hL hst Q hQ => ?_⟩
      obtain ⟨hh, hs⟩ := hst.own hL
      have hh' : HeapDen U r1 g L A.c0.h w := hh.under hlow fun id s hs' => by
        have hm : s ∈ A.t.sbs E.v _root_.id := by
          have hs' : ((A.t.sbs E.v _root_.id).map some)[id]? = some (some s) := hs'
          rw [List.getElem?_map] at hs'
          cases hq : (A.t.sbs E.v _root_.id)[id]? with
          | none => rw [hq] at hs'; cases hs'
          | some s' => rw [hq] at hs'; simp only [Option.map_some, Option.some.injEq] at hs'; subst hs'; exact List.mem_of_getElem? hq
        exact hwf.sbs s hm
      have hs' : Slots U r1 g L A.s0.tmps a := hs.under hlow hwf.tm
      have hp : PcOk U r1 A.c0.pc := headP_ok fun e he => by
        rw [E.ev_under U hlow (hwf.inv e he)]
        exact hinv e he
      exact hex A.s0 L r1 g a w Q hh' hp hs' (hsat _ fun g' a' w' he hs => hQ g' a' w' he hs)
  induction h with
  | @done ds k es r' hinv hev =>
    obtain ⟨x, hx, hrun⟩ := round hinv hev
    unfold LoopT.leaf at hx
    split at hx
    · split at hx
      · split at hx <;> cases hx
      · cases hx
    · rename_i e hne
      split at hx
      · rename_i k' to hpick
        split at hx
        · rename_i es' bls hfit
          split at hx
          · rename_i hst'
            cases hx
            obtain ⟨_, hout⟩ := pickOut_ok hpick
            rw [Nat.sub_zero] at hout
            obtain ⟨w1, w2, w3, w4⟩ := hwf.outs _ _ _ hout
            have hf := Tmpl.fits_ok (Tmpl.fit_fits hfit)
            refine ⟨_, _, hout, 1, fun g L a w hL hst Q hQ => ?_⟩
            rw [rounds_succ]
            refine hrun g L a w hL hst _ fun g' a' w' he hs => ?_
            have hq := hQ _ _ a' w' (fun j hj => hj.1) (fits_own w1 hf he.heap hs) (rel_of_ext w1 w3 hwf.t he hf hst')
            cases hx1 : x.1 with
            | normal => exact absurd hx1 hne
            | exit i => rw [hx1] at hq; exact hq
            | ret => rw [hx1] at hq; exact hq
          · cases hx
        · cases hx
      · cases hx
  | @next ds es r' k os hinv hev hto ih =>
    obtain ⟨x, hx, hrun⟩ := round hinv hev
    obtain ⟨e, to, hout, N, ihr⟩ := ih
    unfold LoopT.leaf at hx
    split at hx
    · rename_i hnorm
      split at hx
      · rename_i es' bls hfit
        split at hx
        · rename_i hst'
          cases hx
          have hf := Tmpl.fits_ok (Tmpl.fit_fits hfit)
          refine ⟨e, to, hout, N + 1, fun g L a w hL hst Q hQ => ?_⟩
          rw [rounds_succ]
          refine hrun g L a w hL hst _ fun g' a' w' he hs => ?_
          rw [hnorm]
          refine ihr (g'.via (blOf bls)) (fun j => j < A.t.blks.length ∧ Lx L A.c0.h x.2.c.h (blOf bls j)) a' w' (fun j hj => hj.1) (fits_own hwf.t hf he.heap hs) Q fun g2 L2 a2 w2 hL2 hst2 hrel => ?_
          exact hQ g2 L2 a2 w2 hL2 hst2 ((rel_of_ext hwf.t rfl hwf.t he hf hst').trans hrel)
        · cases hx
      · cases hx
    · split at hx
      · split at hx
        · split at hx <;> cases hx
        · cases hx
      · cases hx
end
end Go.Sx

/-
  Sx, part Po: loops of any number of rounds, where they stand: what is known behind one.
-/
namespace Go.Sx
open E (mk1 mk2 mkIte mk1_ev mk2_ev mkIte_ev)

/-- The blocks behind a loop: the first ones where they were, the others new. -/
def outBl (bls : List Nat) (N nf : Nat) : Nat → Nat := fun j => if j < nf then blOf bls j else N + (j - nf)

def posOf (id : Nat) : List Nat → Option Nat
  | [] => none
  | x :: l => if Nat.beq x id then some 0 else (posOf id l).map (· + 1)

theorem posOf_some {id : Nat} : ∀ {l : List Nat} {j : Nat}, posOf id l = some j → l[j]? = some id := by
  intro l
  induction l with
  | nil => intro j h; cases h
  | cons x l ih =>
    intro j h
    unfold posOf at h
    split at h
    · rename_i hb; cases h; have := Nat.eq_of_beq_eq_true hb; subst this; rfl
    · simp only [Option.map_eq_some_iff] at h
      obtain ⟨k, hk, rfl⟩ := h
      simpa using ih hk

theorem posOf_none {id : Nat} : ∀ {l : List Nat}, posOf id l = none → ∀ j : Nat, l[j]? ≠ some id := by
  intro l
  induction l with
  | nil => intro _ j; simp
  | cons x l ih =>
    intro h j
    unfold posOf at h
    split at h
    · cases h
    · rename_i hb
      simp only [Option.map_eq_none_iff] at h
      cases j with
      | zero =>
        intro hx
        simp at hx
        subst hx
        exact hb (Nat.beq_refl x)
      | succ j => simpa using ih h j

/-- What becomes of an old block. -/
def updB (t : Tmpl) (sbs : List SB) (bls : List Nat) (id : Nat) (o : Option SB) : Option SB :=
  match posOf id bls with
  | some j => if j < t.nf then (match t.blks[j]? with
      | some b => if b.wr then sbs[j]? else o
      | none => o) else none
  | none => o

def updH (t : Tmpl) (sbs : List SB) (bls : List Nat) : Nat → SH → SH
  | _, [] => []
  | id, o :: l => updB t sbs bls id o :: updH t sbs bls (id + 1) l

theorem updH_length (t : Tmpl) (sbs : List SB) (bls : List Nat) : ∀ (l : SH) (i : Nat), (updH t sbs bls i l).length = l.length := by
  intro l
  induction l with
  | nil => intro i; rfl
  | cons o l ih => intro i; simp [updH, ih]

theorem updH_get (t : Tmpl) (sbs : List SB) (bls : List Nat) : ∀ (l : SH) (i k : Nat), (updH t sbs bls i l)[k]? = (l[k]?).map (updB t sbs bls (i + k)) := by
  intro l
  induction l with
  | nil => intro i k; simp [updH]
  | cons o l ih =>
    intro i k
    cases k with
    | zero => simp [updH]
    | succ k => simp only [updH, List.getElem?_cons_succ, ih]; congr 2; omega

def outSbs (H : SH) (t to : Tmpl) (bls : List Nat) (es : List E) : List SB := to.sbs (nmOf es) (outBl bls H.length t.nf)
def newH (H : SH) (t to : Tmpl) (bls : List Nat) (es : List E) : SH := updH t (outSbs H t to bls es) bls 0 H ++ ((outSbs H t to bls es).drop t.nf).map some
def outTm (H : SH) (t to : Tmpl) (bls : List Nat) (es : List E) : Tm := to.tm (nmOf es) (outBl bls H.length t.nf)

section
variable {U : Nat → D → D} {L L' : Nat → Prop} {r : Nat → D} {g g' : Gh} {w w' : World} {a a' : Act}

theorem sameWr_get : ∀ {l m : List BP} {j : Nat} {b b' : BP}, sameWr l m = true → l[j]? = some b → m[j]? = some b' → b.wr = b'.wr := by
  intro l
  induction l with
  | nil => intro m j b b' _ h; simp at h
  | cons x l ih =>
    intro m j b b' h h1 h2
    cases m with
    | nil => simp at h2
    | cons y m =>
      simp only [sameWr, Bool.and_eq_true, beq_iff_eq] at h
      cases j with
      | zero => simp at h1 h2; subst h1 h2; exact h.1
      | succ j => exact ih h.2 (by simpa using h1) (by simpa using h2)

theorem sbs_at (t : Tmpl) (nm : Nat → E) (bl : Nat → Nat) (j : Nat) : (t.sbs nm bl)[j]? = (t.blks[j]?).map fun b => bpSB nm bl j (varOf t.at0 t.blks j) b := by
  rw [Tmpl.sbs, blksSB_get]; simp

set_option maxHeartbeats 2000000 in
/-- BEHIND A LOOP. -/
theorem loop_out {S : St} {t to : Tmpl} {es0 es : List E} {bls : List Nat} {pc : List (E × Bool)} {os : List D} (hh : HeapDen U r g L S.c.h w) (hp : PcOk U r pc) (hf : Fits t es0 bls S) (ht : t.wf = true) (hto : to.wf = true)
    (hnf : to.nf = t.nf) (hsw : sameWr (t.blks.take t.nf) (to.blks.take t.nf) = true) (hst : StDen U to E.v id (rOf os) g' L' a' w')
    (hrel : Rel t (g.via (blOf bls)) (fun j => j < t.blks.length ∧ L (blOf bls j)) w g' L' w') (hv : ∀ j, EqAt to.blks.length j (rOf os j) ((nmOf es j).ev U r)) :
    ∃ gf, Ext U L r g S.c w r gf ⟨newH S.c.h t to bls es, S.c.nv, pc⟩ w' ∧ Slots U r gf (Lx L S.c.h (newH S.c.h t to bls es)) (outTm S.c.h t to bls es) a' := by
  let N := S.c.h.length
  let bl := outBl bls N t.nf
  obtain ⟨t1, t2, t3, t4⟩ := Tmpl.wf_ok ht
  obtain ⟨o1, o2, o3, o4⟩ := Tmpl.wf_ok hto
  have hblt : ∀ {j : Nat}, j < t.blks.length → blOf bls j < N := fun {j} hj => by
    obtain ⟨s, h1, _⟩ := hf.blk (List.getElem?_eq_getElem hj)
    exact (List.getElem?_eq_some_iff.1 h1).1
  have hbls : ∀ {j : Nat}, j < t.blks.length → bls[j]? = some (blOf bls j) := fun {j} hj => by
    unfold blOf
    rw [List.getD_eq_getElem?_getD, List.getElem?_eq_getElem (by rw [hf.len]; exact hj)]; rfl
  have hpos : ∀ {id j : Nat}, posOf id bls = some j → j < t.blks.length ∧ blOf bls j = id := fun {id j} h => by
    have h1 := posOf_some h
    have hj : j < t.blks.length := by rw [← hf.len]; exact (List.getElem?_eq_some_iff.1 h1).1
    rw [hbls hj] at h1
    exact ⟨hj, Option.some.inj h1⟩
  have hposOf : ∀ {j : Nat}, j < t.blks.length → posOf (blOf bls j) bls = some j := fun {j} hj => by
    cases hx : posOf (blOf bls j) bls with
    | none => exact absurd (hbls hj) (posOf_none hx j)
    | some k =>
      obtain ⟨k1, k2⟩ := hpos hx
      rw [blOf_inj hf k1 hj k2]
  let M := N + (to.blks.length - t.nf)
  let gf : Gh := ⟨fun id => if N ≤ id ∧ id < M then g'.a (id - N + t.nf) else g.a id, fun id => if N ≤ id ∧ id < M then g'.n (id - N + t.nf) else g.n id, fun id => if N ≤ id ∧ id < M then g'.o (id - N + t.nf) else g.o id⟩
  let H' := newH S.c.h t to bls es
  have hsl : (outSbs S.c.h t to bls es).length = to.blks.length := by simp [outSbs, sbs_length]
  have hH' : H'.length = M := by
    show (updH t (outSbs S.c.h t to bls es) bls 0 S.c.h ++ ((outSbs S.c.h t to bls es).drop t.nf).map some).length = _
    simp [updH_length, hsl, N, M]
  let Lf := Lx L S.c.h H'
  have hLf : ∀ id, Lf id ↔ (L id ∧ id < N) ∨ (N ≤ id ∧ id < H'.length) := fun id => by
    show (L id ∨ (S.c.h.length ≤ id ∧ id < H'.length)) ↔ _
    constructor
    · rintro (h | h)
      · exact .inl ⟨h, hh.bnd id h⟩
      · exact .inr h
    · rintro (h | h)
      · exact .inl h.1
      · exact .inr h
  -- new blocks are there
  have hnew : ∀ {id : Nat}, N ≤ id → id < H'.length → id - N + t.nf < to.blks.length ∧ L' (id - N + t.nf) ∧ (∃ b, to.blks[id - N + t.nf]? = some b ∧ b.wr = true) := fun {id} h1 h2 => by
    have hlt : id - N + t.nf < to.blks.length := by omega
    have hb : to.blks[id - N + t.nf]? = some to.blks[id - N + t.nf] := List.getElem?_eq_getElem hlt
    have hw := o4 _ _ (by omega) hb
    exact ⟨hlt, hst.live _ _ hb hw, _, hb, hw⟩
  have hfixL : ∀ {j : Nat}, j < t.nf → (L' j ↔ L (blOf bls j)) := fun {j} hj => by
    have := (hrel.fix j hj).1
    constructor
    · intro h; exact (this.1 h).2
    · intro h; exact this.2 ⟨by omega, h⟩
  -- the names of blocks behind the loop
  have hsame : ∀ b, b < to.blks.length → SameAt g' L' id gf Lf bl b := fun b hb hl => by
    show Lf (bl b) ∧ gf.a (bl b) = g'.a b ∧ gf.n (bl b) = g'.n b ∧ gf.o (bl b) = g'.o b
    by_cases hbn : b < t.nf
    · have e : bl b = blOf bls b := by show outBl bls N t.nf b = _; unfold outBl; rw [if_pos hbn]
      have hlb := (hfixL hbn).1 hl
      have hlt := hblt (j := b) (by omega)
      obtain ⟨k1, k2, k3⟩ := (hrel.fix b hbn).2 ⟨by omega, hlb⟩
      rw [e]
      refine ⟨(hLf _).2 (.inl ⟨hlb, hlt⟩), ?_, ?_, ?_⟩
      · show (if N ≤ blOf bls b ∧ blOf bls b < M then _ else g.a (blOf bls b)) = _
        rw [if_neg (by omega)]; exact k1.symm
      · show (if N ≤ blOf bls b ∧ blOf bls b < M then _ else g.n (blOf bls b)) = _
        rw [if_neg (by omega)]; exact k2.symm
      · show (if N ≤ blOf bls b ∧ blOf bls b < M then _ else g.o (blOf bls b)) = _
        rw [if_neg (by omega)]; exact k3.symm
    · have e : bl b = N + (b - t.nf) := by show outBl bls N t.nf b = _; unfold outBl; rw [if_neg hbn]
      have e2 : N + (b - t.nf) - N + t.nf = b := by omega
      rw [e]
      refine ⟨(hLf _).2 (.inr ⟨by omega, by omega⟩), ?_, ?_, ?_⟩
      · show (if N ≤ N + (b - t.nf) ∧ N + (b - t.nf) < M then g'.a (N + (b - t.nf) - N + t.nf) else _) = _
        rw [if_pos (by omega), e2]
      · show (if N ≤ N + (b - t.nf) ∧ N + (b - t.nf) < M then g'.n (N + (b - t.nf) - N + t.nf) else _) = _
        rw [if_pos (by omega), e2]
      · show (if N ≤ N + (b - t.nf) ∧ N + (b - t.nf) < M then g'.o (N + (b - t.nf) - N + t.nf) else _) = _
        rw [if_pos (by omega), e2]
  have hback : ∀ b, b < to.blks.length → Lf (bl b) → L' b := fun b hb hl => by
    by_cases hbn : b < t.nf
    · have e : bl b = blOf bls b := by show outBl bls N t.nf b = _; unfold outBl; rw [if_pos hbn]
      rw [e] at hl
      rcases (hLf _).1 hl with h | h
      · exact (hfixL hbn).2 h.1
      · have := hblt (j := b) (by omega); omega
    · have hb' : to.blks[b]? = some to.blks[b] := List.getElem?_eq_getElem hb
      exact hst.live b _ hb' (o4 b _ (by omega) hb')
  have hst2 : StDen U to (nmOf es) bl r gf Lf a' w' := hst.tr o1 o2 (fun j => hv j) hsame hback
  have gl : GLe g L gf Lf := ⟨fun id h => by
    have hlt := hh.bnd id h
    have hlt : id < N := hlt
    exact ⟨(hLf id).2 (.inl ⟨h, hlt⟩), by show (if N ≤ id ∧ id < M then _ else g.a id) = _; rw [if_neg (by omega)], by show (if N ≤ id ∧ id < M then _ else g.n id) = _; rw [if_neg (by omega)]⟩, fun id h => by
    have hlt : id < N := hh.bnd id h
    show (if N ≤ id ∧ id < M then _ else g.o id) = _; rw [if_neg (by omega)]⟩
  -- a block that a loop may write
  have mayS : ∀ {x : Nat}, (∃ i b, t.blks[i]? = some b ∧ b.wr = true ∧ (i < t.blks.length ∧ L (blOf bls i)) ∧ (g.via (blOf bls)).a i = x) → ∃ i b s, t.blks[i]? = some b ∧ b.wr = true ∧ i < t.blks.length ∧ L (blOf bls i) ∧ S.c.h[blOf bls i]? = some (some s) ∧ s.wr = true ∧ g.a (blOf bls i) = x := by
    rintro x ⟨i, b, h1, h2, ⟨h3, h4⟩, h5⟩
    obtain ⟨s, k1, k2, _⟩ := hf.blk h1
    exact ⟨i, b, s, h1, h2, h3, h4, k1, k2 h2, h5⟩
  have frm : Frm (Wr g L S.c.h) w w' := by
    have f := hrel.frm
    refine ⟨f.os, f.tape, f.output, f.size, fun k hk hn => f.block k hk fun hm => ?_⟩
    obtain ⟨i, b, s, h1, h2, h3, h4, h5, h6, h7⟩ := mayS hm
    exact hn ⟨_, s, h4, h5, h6, h7⟩
  -- old blocks
  have old : ∀ {id : Nat} {s : SB}, id < N → H'[id]? = some (some s) → ∃ o, S.c.h[id]? = some o ∧ updB t (outSbs S.c.h t to bls es) bls id o = some s := by
    intro id s hlt h
    have h : (updH t (outSbs S.c.h t to bls es) bls 0 S.c.h ++ ((outSbs S.c.h t to bls es).drop t.nf).map some)[id]? = some (some s) := h
    rw [List.getElem?_append_left (by rw [updH_length]; exact hlt), updH_get, Nat.zero_add] at h
    cases ho : S.c.h[id]? with
    | none => rw [ho] at h; cases h
    | some o => rw [ho] at h; exact ⟨o, rfl, by simpa using h⟩
  -- an old block is as it was, or is one of those that stay and are written
  have kind : ∀ {id : Nat} {s : SB}, id < N → H'[id]? = some (some s) →
      (S.c.h[id]? = some (some s) ∧ ∀ i b, t.blks[i]? = some b → b.wr = true → blOf bls i ≠ id) ∨
      (∃ j b b', j < t.nf ∧ t.blks[j]? = some b ∧ b.wr = true ∧ to.blks[j]? = some b' ∧ b'.wr = true ∧ blOf bls j = id ∧ s = bpSB (nmOf es) bl j (varOf to.at0 to.blks j) b') := by
    intro id s hlt h
    obtain ⟨o, h1, h2⟩ := old hlt h
    unfold updB at h2
    split at h2
    · rename_i j hj
      obtain ⟨hj1, hj2⟩ := hpos hj
      split at h2
      · rename_i hnf'
        split at h2
        · rename_i b hb
          split at h2
          · rename_i hw
            right
            rw [outSbs, sbs_at] at h2
            cases hb' : to.blks[j]? with
            | none => rw [hb'] at h2; cases h2
            | some b' =>
              rw [hb'] at h2
              simp only [Option.map_some, Option.some.injEq] at h2
              have : b.wr = b'.wr := sameWr_get hsw (by rw [List.getElem?_take, if_pos hnf']; exact hb) (by rw [List.getElem?_take, if_pos hnf']; exact hb')
              exact ⟨j, b, b', hnf', hb, hw, hb', by rw [← this]; exact hw, hj2, h2.symm⟩
          · rename_i hw
            left
            subst h2
            refine ⟨h1, fun i b' hi hw' he => ?_⟩
            have := blOf_inj hf (List.getElem?_eq_some_iff.1 hi).1 hj1 (he.trans hj2.symm)
            subst this
            rw [hb] at hi
            cases hi
            exact hw hw'
        · rename_i hb
          rw [List.getElem?_eq_getElem hj1] at hb; cases hb
      · cases h2
    · rename_i hn
      left
      subst h2
      refine ⟨h1, fun i b hi _ he => ?_⟩
      have := hbls (List.getElem?_eq_some_iff.1 hi).1
      rw [he] at this
      exact posOf_none hn i this
  have newB : ∀ {id : Nat} {s : SB}, N ≤ id → H'[id]? = some (some s) → ∃ b, to.blks[id - N + t.nf]? = some b ∧ b.wr = true ∧ L' (id - N + t.nf) ∧ s = bpSB (nmOf es) bl (id - N + t.nf) (varOf to.at0 to.blks (id - N + t.nf)) b ∧ bl (id - N + t.nf) = id := by
    intro id s hge h
    have hlt := (List.getElem?_eq_some_iff.1 h).1
    obtain ⟨k1, k2, b, k3, k4⟩ := hnew hge hlt
    have h : (updH t (outSbs S.c.h t to bls es) bls 0 S.c.h ++ ((outSbs S.c.h t to bls es).drop t.nf).map some)[id]? = some (some s) := h
    rw [List.getElem?_append_right (by rw [updH_length]; exact hge), updH_length, List.getElem?_map, List.getElem?_drop, outSbs, sbs_at] at h
    have e : t.nf + (id - S.c.h.length) = id - N + t.nf := by show t.nf + (id - N) = _; omega
    rw [e, k3] at h
    simp only [Option.map_some, Option.some.injEq] at h
    refine ⟨b, k3, k4, k2, h.symm, ?_⟩
    show outBl bls N t.nf (id - N + t.nf) = id
    unfold outBl
    rw [if_neg (by omega)]; omega
  -- what lies in a block
  have blkOf : ∀ {id : Nat} {s : SB}, Lf id → H'[id]? = some (some s) → BlkDen U r gf Lf w' s id := by
    intro id s hl h
    by_cases hlt : id < N
    · have hL : L id := by
        rcases (hLf id).1 hl with h' | h'
        · exact h'.1
        · omega
      rcases kind hlt h with ⟨h1, h2⟩ | ⟨j, b, b', h1, h2, h3, h4, h5, h6, rfl⟩
      · obtain ⟨xs, tt, fz, e1, e2, e3, e4, e5⟩ := hh.blk id s hL h1
        have hsame' : w'.heap[g.a id]? = w.heap[g.a id]? := hrel.frm.block _ (hh.lt id hL) fun hm => by
          obtain ⟨i, b, s', k1, k2, k3, k4, k5, k6, k7⟩ := mayS hm
          exact h2 i b k1 k2 (hh.inj _ _ s' s k4 hL k5 k6 h1 k7)
        refine ⟨by rw [(gl.on id hL).2.1]; exact Nat.lt_of_lt_of_le (hh.lt id hL) hrel.frm.size, xs, tt, fz, by rw [(gl.on id hL).2.1, hsame']; exact e1, by rw [(gl.on id hL).2.2]; exact e2, e3, e4, fun q c hc => ?_, fun ks e he => ?_⟩
        · obtain ⟨v, hv', hd⟩ := e5 q c hc
          exact ⟨v, hv', SV.den_mono gl hd⟩
        · obtain ⟨ys, t', fz', q1, q2⟩ := hh.rows id s ks e hL h1 he
          rw [e1] at q1
          cases q1
          rw [gl.off id hL]; exact q2
      · have hb := hst2.blk j b' h4 (by
          show Lf (bl j)
          have e : bl j = blOf bls j := by show outBl bls N t.nf j = _; unfold outBl; rw [if_pos h1]
          rw [e, h6]; exact hl)
        have e : bl j = id := by
          have e : bl j = blOf bls j := by show outBl bls N t.nf j = _; unfold outBl; rw [if_pos h1]
          rw [e, h6]
        rw [e] at hb
        exact hb
    · obtain ⟨b, k1, k2, k3, rfl, k5⟩ := newB (by omega) h
      have hb := hst2.blk _ b k1 (by rw [k5]; exact hl)
      rw [k5] at hb
      exact hb
  have wrS : ∀ {id : Nat} {s : SB}, id < N → H'[id]? = some (some s) → ∃ s0, S.c.h[id]? = some (some s0) ∧ (s.wr = true → s0.wr = true) := by
    intro id s hlt h
    rcases kind hlt h with ⟨h1, _⟩ | ⟨j, b, b', h1, h2, h3, h4, h5, h6, rfl⟩
    · exact ⟨s, h1, fun h => h⟩
    · obtain ⟨s0, k1, k2, _⟩ := hf.blk h2
      rw [h6] at k1
      exact ⟨s0, k1, fun _ => k2 h3⟩
  -- where a new block lies
  have lies : ∀ {id : Nat}, N ≤ id → id < H'.length → w.heap.size ≤ gf.a id ∨ ∃ i b s, t.blks[i]? = some b ∧ b.wr = true ∧ i < t.blks.length ∧ L (blOf bls i) ∧ S.c.h[blOf bls i]? = some (some s) ∧ s.wr = true ∧ g.a (blOf bls i) = gf.a id := by
    intro id h1 h2
    obtain ⟨k1, k2, _⟩ := hnew h1 h2
    have e : gf.a id = g'.a (id - N + t.nf) := by show (if N ≤ id ∧ id < M then _ else _) = _; rw [if_pos (by omega)]
    rw [e]
    rcases hrel.new _ (by omega) k2 with h3 | ⟨i, b, q1, q2, q3, q4⟩
    · exact .inl h3
    · right
      rw [q4]
      exact mayS ⟨i, b, q1, q2, q3, rfl⟩
  have gfo : ∀ {id : Nat}, id < N → gf.a id = g.a id := fun {id} h => by show (if N ≤ id ∧ id < M then _ else _) = _; rw [if_neg (by omega)]
  have heap : HeapDen U r gf Lf H' w' := by
    refine ⟨fun id h => ?_, fun id h => ?_, fun id s hl hs => ?_, fun i j s s' hi hj hs hw hs' he => ?_, fun id s ks e hl hs hr => ?_, fun id s hs hw => ?_⟩
    · rcases (hLf id).1 h with h | h
      · omega
      · exact h.2
    · rcases (hLf id).1 h with ⟨h1, h2⟩ | ⟨h1, h2⟩
      · rw [gfo h2]; exact Nat.lt_of_lt_of_le (hh.lt id h1) hrel.frm.size
      · obtain ⟨k1, k2, b, k3, k4⟩ := hnew h1 h2
        have e : gf.a id = g'.a (id - N + t.nf) := by show (if N ≤ id ∧ id < M then _ else _) = _; rw [if_pos (by omega)]
        rw [e]
        exact (hst.blk _ b k3 k2).lt
    · obtain ⟨xs, t', fz, e1, e2, e3, e4, e5, _⟩ := (blkOf hl hs).cells
      exact ⟨xs, t', fz, e1, e2, e3, e4, e5⟩
    · rcases (hLf i).1 hi with ⟨i1, i2⟩ | ⟨i1, i2⟩ <;> rcases (hLf j).1 hj with ⟨j1, j2⟩ | ⟨j1, j2⟩
      · obtain ⟨s0, k1, k2⟩ := wrS i2 hs
        obtain ⟨s0', q1, _⟩ := wrS j2 hs'
        rw [gfo i2, gfo j2] at he
        exact hh.inj i j s0 s0' i1 j1 k1 (k2 hw) q1 he
      · rw [gfo i2] at he
        rcases lies j1 j2 with h | ⟨k, b, s0, k1, k2, k3, k4, k5, k6, k7⟩
        · have := hh.lt i i1; omega
        · obtain ⟨si, q1, q2⟩ := wrS i2 hs
          have hik := hh.inj _ _ s0 si k4 i1 k5 k6 q1 (k7.trans he.symm)
          -- 'i' is a block of the pattern that is written: it stays, or is known no more
          rcases kind i2 hs with ⟨_, h2⟩ | ⟨jj, b1, b1', h1, h2, h3, h4, h5, h6, _⟩
          · exact absurd hik (h2 k b k1 k2)
          · obtain ⟨n1, n2, nb, n3, n4⟩ := hnew j1 j2
            have hlj : L' jj := (hfixL h1).2 (by rw [h6]; exact i1)
            have ea : g'.a jj = g'.a (j - N + t.nf) := by
              have e1 := ((hrel.fix jj h1).2 ⟨by omega, by rw [h6]; exact i1⟩).1
              have e2 : gf.a j = g'.a (j - N + t.nf) := by show (if N ≤ j ∧ j < M then _ else _) = _; rw [if_pos (by omega)]
              rw [← e2, ← he, e1]
              show g.a (blOf bls jj) = _
              rw [h6]
            have := hst.inj jj (j - N + t.nf) b1' nb h4 n3 h5 hlj n2 ea
            omega
      · rw [gfo j2] at he
        rcases lies i1 i2 with h | ⟨k, b, s0, k1, k2, k3, k4, k5, k6, k7⟩
        · have := hh.lt j j1; omega
        · obtain ⟨sj, q1, q2⟩ := wrS j2 hs'
          have hjk := hh.inj _ _ s0 sj k4 j1 k5 k6 q1 (k7.trans he)
          rcases kind j2 hs' with ⟨_, h2⟩ | ⟨jj, b1, b1', h1, h2, h3, h4, h5, h6, _⟩
          · exact absurd hjk (h2 k b k1 k2)
          · obtain ⟨n1, n2, nb, n3, n4⟩ := hnew i1 i2
            have hlj : L' jj := (hfixL h1).2 (by rw [h6]; exact j1)
            have ea : g'.a jj = g'.a (i - N + t.nf) := by
              have e1 := ((hrel.fix jj h1).2 ⟨by omega, by rw [h6]; exact j1⟩).1
              have e2 : gf.a i = g'.a (i - N + t.nf) := by show (if N ≤ i ∧ i < M then _ else _) = _; rw [if_pos (by omega)]
              rw [← e2, he, e1]
              show g.a (blOf bls jj) = _
              rw [h6]
            have := hst.inj jj (i - N + t.nf) b1' nb h4 n3 h5 hlj n2 ea
            omega
      · obtain ⟨n1, n2, nb, n3, n4⟩ := hnew i1 i2
        obtain ⟨m1, m2, mb, m3, m4⟩ := hnew j1 j2
        have e1 : gf.a i = g'.a (i - N + t.nf) := by show (if N ≤ i ∧ i < M then _ else _) = _; rw [if_pos (by omega)]
        have e2 : gf.a j = g'.a (j - N + t.nf) := by show (if N ≤ j ∧ j < M then _ else _) = _; rw [if_pos (by omega)]
        rw [e1, e2] at he
        have := hst.inj _ _ nb mb n3 m3 n4 n2 m2 he
        omega
    · obtain ⟨xs, t', fz, e1, e2, e3, e4, e5, e6⟩ := (blkOf hl hs).cells
      exact ⟨xs, t', fz, e1, e6 ks e hr⟩
    · by_cases hlt : id < N
      · obtain ⟨s0, k1, k2⟩ := wrS hlt hs
        exact (hLf id).2 (.inl ⟨hh.live id s0 k1 (k2 hw), hlt⟩)
      · exact (hLf id).2 (.inr ⟨by omega, (List.getElem?_eq_some_iff.1 hs).1⟩)
  refine ⟨gf, ⟨Nat.le_refl _, fun _ => rfl, by show N ≤ H'.length; omega, fun id h => ?_, fun id h => ?_, heap, hp, frm, fun id s hl hs hw => ?_, fun id h1 h2 => ?_⟩, ⟨hst2.defers, hst2.size, hst2.slot⟩⟩
  · have h : ¬ (N ≤ id ∧ id < H'.length) := h
    exact ⟨by show (if N ≤ id ∧ id < M then _ else _) = _; rw [if_neg (by omega)], by show (if N ≤ id ∧ id < M then _ else _) = _; rw [if_neg (by omega)]⟩
  · have h : ¬ (N ≤ id ∧ id < H'.length) := h
    show (if N ≤ id ∧ id < M then _ else _) = _
    rw [if_neg (by omega)]
  · by_cases hlt : id < N
    · obtain ⟨s0, k1, k2⟩ := wrS hlt hs
      right
      exact ⟨id, s0, hh.live id s0 k1 (k2 hw), k1, k2 hw, (gfo hlt).symm⟩
    · rcases lies (by omega) (List.getElem?_eq_some_iff.1 hs).1 with h | ⟨k, b, s0, k1, k2, k3, k4, k5, k6, k7⟩
      · exact .inl h
      · exact .inr ⟨_, s0, k4, k5, k6, k7⟩
  · rcases lies h1 h2 with h | ⟨k, b, s0, k1, k2, k3, k4, k5, k6, k7⟩
    · exact .inl h
    · exact .inr ⟨_, s0, k4, k5, k6, k7⟩
end
end Go.Sx

/-
  Sx, part Pp: walks of functions whose loops are told.
-/
namespace Go.Sx
open E (mk1 mk2 mkIte mk1_ev mk2_ev mkIte_ev)

/-- A loop that is told: which way out it takes, and what it leaves, as words over what stood at its head. -/
structure LRun where
  loop : LoopT
  tag : List E → E
  res : Nat → List E → List E
  ent : List E := []
  conj : Option (List E → List E) := none
  post : Nat → List E → List (E × Bool) := fun _ _ => []

/-- All of some words: 0; else 1. -/
def conjE : List E → E
  | [] => .b true
  | x :: l => mk2 .band x (conjE l)
def conjTag (l : List E) : E := mkIte (conjE l) (.i 0) (.i 1)
def LRun.tagE (R : LRun) (es : List E) : E := match R.conj with
  | some ws => conjTag (ws es)
  | none => R.tag es

/-- A choice by what is known. -/
def rsv (pc : List (E × Bool)) : E → E
  | .o3 .ite c a b => (match look c pc with
    | some true => rsv pc a
    | some false => rsv pc b
    | none => .o3 .ite c a b)
  | e => e
/-- Is a tag that number: a choice is made first. -/
def tagBr {α : Type} (k : Nat) (t f : Cx → Tree α) : E → Cx → Tree α
  | .o3 .ite x a b, c => br c x (tagBr k t f a) (tagBr k t f b)
  | e, c => br c (mk2 .ieq e (.i k)) t f
def LRun.outLeaf (R : LRun) (bls : List Nat) (es : List E) (k : Nat) (o : Ex × Tmpl) (c : Cx) : Tree (Ex × St) :=
  .ret (o.1, ⟨outTm c.h R.loop.t o.2 bls ((R.res k es).map (rsv c.pc)), ⟨newH c.h R.loop.t o.2 bls ((R.res k es).map (rsv c.pc)), c.nv, R.post k es ++ c.pc⟩⟩)

def LRun.outTree (R : LRun) (bls : List Nat) (es : List E) : Nat → List (Ex × Tmpl) → Cx → Tree (Ex × St)
  | _, [], _ => .bad
  | k, [o], c => R.outLeaf bls es k o c
  | k, o :: p :: l, c => tagBr k (R.outLeaf bls es k o) (R.outTree bls es (k + 1) (p :: l)) (R.tag es) c

/-- The two ways out of a loop that asks whether some words are all true. -/
def LRun.conjTree (R : LRun) (bls : List Nat) (es : List E) (o0 o1 : Ex × Tmpl) : List E → Cx → Tree (Ex × St)
  | [], c => R.outLeaf bls es 0 o0 c
  | x :: l, c => br c x (R.conjTree bls es o0 o1 l) (R.outLeaf bls es 1 o1)
def LRun.tree (R : LRun) (bls : List Nat) (es : List E) (c : Cx) : Tree (Ex × St) :=
  match R.conj, R.loop.outs with
  | some ws, [o0, o1] => R.conjTree bls es o0 o1 (ws es) c
  | some _, _ => .bad
  | none, outs => R.outTree bls es 0 outs c

def holdAll (inv : List E) (es : List E) (pc : List (E × Bool)) : Bool := inv.all fun e => match e.sub (numbered 0 es) with
  | some e' => triE (fun x => known x pc) e' == some true || selfF pc e'
  | none => false

/-- How many variables a pattern has. -/
def Tmpl.cnt (t : Tmpl) : Nat := varOf t.at0 t.blks t.blks.length

/-- An empty slice of a block, seen as the slice of an empty row. -/
def prep1 (t : Tmpl) (S : St) (p : Tmp × LP) : St := match p.2, S.tmps.get p.1 with
  | .slo b sz, .sl id 0 sz' (.i 0) cp => (match t.blks[b]?, S.c.h[id]? with
    | some ⟨true, _, some ks⟩, some (some ⟨true, _, _⟩) => if sz = sz' ∧ ks.length = sz then
        ⟨S.tmps.put p.1 (.slo S.c.h.length sz (.i 0)), { S.c with h := S.c.h.set id none ++ [some ⟨true, [], some (ks, .o2 .lrep (.i 0) (.b false))⟩] }⟩
      else ⟨S.tmps.put p.1 (.sl id 0 sz' (.i 0) cp), S.c⟩
    | _, _ => S)
  | _, _ => S
def prep (t : Tmpl) : List (Tmp × LP) → St → St
  | [], S => S
  | p :: l, S => prep t l (prep1 t S p)

def LRun.run0 (R : LRun) (S : St) : Option (Tree (Ex × St)) :=
  match R.loop.t.fit S with
  | some (es, bls) => if Nat.beq es.length R.loop.t.cnt && (holdAll R.loop.inv es S.c.pc && holdAll R.ent es S.c.pc) then some (R.tree bls es S.c) else none
  | none => none

def LRun.run (R : LRun) (S : St) : Option (Tree (Ex × St)) := R.run0 (prep R.loop.t R.loop.t.slots S)

/-- The rows of a pattern whose elements are known to be whole. -/
def isSlo (b : Nat) : LP → Bool
  | .slo b' _ => Nat.beq b' b
  | _ => false
def isPtr (b : Nat) : LP → Bool
  | .ptr b' _ => Nat.beq b' b
  | _ => false

def Tmpl.sees (t : Tmpl) (b : Nat) : Bool :=
  (match t.blks[b]? with
    | some x => x.wr
    | none => false) || (apartN (t.slots.map (·.1)) && t.slots.any fun p => isSlo b p.2) ||
  (apartN (t.slots.map (·.1)) && (List.range t.blks.length).any fun i => (t.slots.any fun p => isPtr i p.2) && (match t.blks[i]? with
    | some x => x.cs.any (isSlo b)
    | none => false))

/-- Elements are whole. -/
def ShapeOk (t : Tmpl) (ds : List D) : Prop := ∀ (b : Nat) (x : BP) (ks : List Sk), t.blks[b]? = some x → x.row = some ks → t.sees b = true → ∀ d ∈ (rOf ds b).toL, ∃ fs, d = .l fs ∧ fs.length = ks.length

def LRunOk (U : Nat → D → D) (P : Program) (b : Code) (R : LRun) : Prop :=
  ∀ (S : St) (T : Tree (Ex × St)) (L : Nat → Prop) (r : Nat → D) (g : Gh) (a : Act) (w : World) (Q : Exit → Act → World → Prop), R.run S = some T →
    HeapDen U r g L S.c.h w → PcOk U r S.c.pc → Slots U r g L S.tmps a → T.sat U (EPost U L r g S.c w Q) r → (Code.loop b).wp P Q a w

/-- What is to be shown of a loop that is told. -/
def Told (U : Nat → D → D) (T : Tree LRes) (R : LRun) : Prop :=
  ∀ (r : Nat → D) (es : List E), es.length = R.loop.t.cnt → HoldI U R.loop.inv (es.map (E.ev U r)) → HoldI U R.ent (es.map (E.ev U r)) → ShapeOk R.loop.t (es.map (E.ev U r)) →
    ∃ k os, LoopTo U R.loop.inv T (es.map (E.ev U r)) k os ∧ ((R.tagE es).ev U r).toI = k ∧ PcOk U r (R.post k es) ∧ ∀ (e : Ex) (to : Tmpl), R.loop.outs[k]? = some (e, to) → ∀ j, EqAt to.blks.length j (rOf os j) ((nmOf (R.res k es) j).ev U r)

section
variable {U : Nat → D → D} {L : Nat → Prop} {r : Nat → D} {g : Gh} {w w' : World} {P : Program} {a : Act}

theorem lkM_back : ∀ {l : List E} {i n : Nat} {e : E}, lkM n (numbered i l) = some e → ∃ j, n = i + j ∧ l[j]? = some e := by
  intro l
  induction l with
  | nil => intro i n e h; simp [numbered, lkM] at h
  | cons a l ih =>
    intro i n e h
    unfold numbered lkM at h
    cases hb : Nat.beq i n with
    | true =>
      rw [hb] at h
      simp only [cond_true, Option.some.injEq] at h
      exact ⟨0, (Nat.eq_of_beq_eq_true hb).symm, by simp [h]⟩
    | false =>
      rw [hb] at h
      simp only [cond_false] at h
      obtain ⟨j, h1, h2⟩ := ih h
      exact ⟨j + 1, by omega, by simpa using h2⟩

theorem fills_rOf (es : List E) : Fills U r (rOf (es.map (E.ev U r))) (numbered 0 es) := by
  intro n e h
  obtain ⟨j, rfl, h2⟩ := lkM_back h
  rw [Nat.zero_add, evs_rOf]
  unfold nmOf
  rw [List.getD_eq_getElem?_getD, h2]; rfl

theorem holdAll_ok {inv es : List E} {pc : List (E × Bool)} (hp : PcOk U r pc) (h : holdAll inv es pc = true) : HoldI U inv (es.map (E.ev U r)) := by
  intro e he
  unfold holdAll at h
  rw [List.all_eq_true] at h
  have := h e he
  split at this
  · rename_i e' hs
    rw [← E.sub_ev (fills_rOf es) hs]
    rw [Bool.or_eq_true] at this
    rcases this with this | this
    · exact triE_ok (fun _ _ h => known_ok hp h) (eq_of_beq this)
    · exact selfF_ok hp this
  · cases this

theorem lkp_of {nm : Nat → E} {bl : Nat → Nat} : ∀ {l : List (Tmp × LP)} {i n : Nat} {p : Tmp × LP}, apartN (l.map (·.1)) = true → l[n]? = some p → ∃ j, lkp p.1 (slotsSV nm bl i l) = lpSV nm bl j p.2 := by
  intro l
  induction l with
  | nil => intro i n p _ h; simp at h
  | cons q l ih =>
    intro i n p ha h
    simp only [List.map_cons, apartN, Bool.and_eq_true, List.all_eq_true] at ha
    cases n with
    | zero =>
      simp at h
      subst h
      exact ⟨i, by simp [slotsSV, lkp]⟩
    | succ n =>
      have h : l[n]? = some p := by simpa using h
      obtain ⟨j, hj⟩ := ih (i := i + lpN q.2) ha.2 h
      refine ⟨j, ?_⟩
      have : Nat.beq q.1 p.1 = false := by
        have := ha.1 p.1 (List.mem_map.2 ⟨p, List.mem_of_getElem? h, rfl⟩)
        simpa using this
      simp only [slotsSV, lkp, this, cond_false]
      exact hj

theorem lpsSV_mem {nm : Nat → E} {bl : Nat → Nat} : ∀ {l : List LP} {i n : Nat} {p : LP}, l[n]? = some p → ∃ j, (lpsSV nm bl i l)[n]? = some (lpSV nm bl j p) := by
  intro l
  induction l with
  | nil => intro i n p h; simp at h
  | cons q l ih =>
    intro i n p h
    cases n with
    | zero => simp at h; subst h; exact ⟨i, by simp [lpsSV]⟩
    | succ n =>
      obtain ⟨j, hj⟩ := ih (i := i + lpN q) (by simpa using h)
      exact ⟨j, by simpa [lpsSV] using hj⟩

/-- A slice of a row that is known: its elements are whole. -/
theorem slo_shape {t : Tmpl} {ds : List D} (hd : StDen U t E.v id (rOf ds) g L a w) {b sz : Nat} {x : BP} {ks : List Sk} {i : Nat} {v : Value} (hx : t.blks[b]? = some x) (hk : x.row = some ks)
    (h : (lpSV E.v id i (.slo b sz)).den U (rOf ds) g L v) : ∀ d ∈ (rOf ds b).toL, ∃ fs, d = .l fs ∧ fs.length = ks.length := by
  simp only [lpSV, SV.den, mk1_ev] at h
  obtain ⟨h0, base, c, hv, h3, h4⟩ := h
  have hlen : (O1.llen.ev (E.ev U (rOf ds) (E.v b))).toI.toNat = (rOf ds b).toL.length := by
    show ((((rOf ds b).toL.length : Nat) : Int)).toNat = _
    omega
  rcases h4 with h5 | ⟨hl, _, _⟩
  · intro d hmem
    have : (rOf ds b).toL = [] := by
      apply List.eq_nil_of_length_eq_zero; omega
    rw [this] at hmem; cases hmem
  · intro d hmem
    have hb := hd.blk b x hx hl
    obtain ⟨xs, t', fz, e1, e2, e3, e4, e5, e6⟩ := hb.cells
    have := e6 ks (E.v b) (by simp [bpSB, hk])
    obtain ⟨i, hi, rfl⟩ := List.getElem_of_mem hmem
    exact (this i _ (List.getElem?_eq_getElem hi)).1

theorem shapes_of {t : Tmpl} {ds : List D} (hd : StDen U t E.v id (rOf ds) g L a w) : ShapeOk t ds := by
  intro b x ks hx hk hs
  simp only [Tmpl.sees, hx, Bool.or_eq_true, Bool.and_eq_true, List.any_eq_true] at hs
  rcases hs with (hs | ⟨h1, p, h2, h3⟩) | ⟨h1, i, h2, ⟨p, h3, h4⟩, h5⟩
  · have hl := hd.live b x hx hs
    have hb := hd.blk b x hx hl
    obtain ⟨xs, t', fz, e1, e2, e3, e4, e5, e6⟩ := hb.cells
    have := e6 ks (E.v b) (by simp [bpSB, hk])
    intro d hmem
    obtain ⟨i, hi, rfl⟩ := List.getElem_of_mem hmem
    exact (this i _ (List.getElem?_eq_getElem hi)).1
  · obtain ⟨n, hn, rfl⟩ := List.getElem_of_mem h2
    obtain ⟨j, hj⟩ := lkp_of (nm := E.v) (bl := id) (i := t.blks.length) h1 (List.getElem?_eq_getElem hn)
    have := hd.slot t.slots[n].1
    rw [hj] at this
    cases hp : t.slots[n].2 with
    | slo b' sz =>
      rw [hp] at h3 this
      have := Nat.eq_of_beq_eq_true h3
      subst this
      exact slo_shape hd hx hk (by assumption)
    | _ => rw [hp] at h3; simp [isSlo] at h3
  · obtain ⟨n, hn, rfl⟩ := List.getElem_of_mem h3
    obtain ⟨j, hj⟩ := lkp_of (nm := E.v) (bl := id) (i := t.blks.length) h1 (List.getElem?_eq_getElem hn)
    have hsl := hd.slot t.slots[n].1
    rw [hj] at hsl
    cases hp : t.slots[n].2 with
    | ptr b' off =>
      rw [hp] at h4 hsl
      have := Nat.eq_of_beq_eq_true h4
      subst this
      simp only [lpSV, SV.den] at hsl
      split at h5
      · rename_i y hy
        rw [List.any_eq_true] at h5
        obtain ⟨q, hq, h6⟩ := h5
        obtain ⟨m, hm, rfl⟩ := List.getElem_of_mem hq
        have hb := hd.blk _ y hy hsl.1
        obtain ⟨xs, t', fz, e1, e2, e3, e4, e5, e6⟩ := hb.cells
        obtain ⟨j', hj'⟩ := lpsSV_mem (nm := E.v) (bl := id) (i := varOf t.at0 t.blks b') (List.getElem?_eq_getElem hm)
        obtain ⟨v, _, hdv⟩ := e5 m _ hj'
        cases hp' : y.cs[m] with
        | slo b'' sz =>
          rw [hp'] at h6 hdv
          have := Nat.eq_of_beq_eq_true h6
          subst this
          exact slo_shape hd hx hk hdv
        | _ => rw [hp'] at h6; simp [isSlo] at h6
      · cases h5
    | _ => rw [hp] at h4; simp [isPtr] at h4

theorem rsv_ev {pc : List (E × Bool)} (hp : PcOk U r pc) : ∀ e : E, (rsv pc e).ev U r = e.ev U r := by
  intro e
  induction e with
  | o3 o c a b _ iha ihb =>
    cases o
    case ite =>
      simp only [rsv]
      split
      · rename_i hl; rw [iha]; simp only [E.ev, O3.ev, look_ok hp hl, if_true]
      · rename_i hl; rw [ihb]; simp only [E.ev, O3.ev, look_ok hp hl]; rfl
      · rfl
    all_goals rfl
  | _ => rfl
theorem rsv_nm {pc : List (E × Bool)} (hp : PcOk U r pc) (l : List E) (j : Nat) : (nmOf (l.map (rsv pc)) j).ev U r = (nmOf l j).ev U r := by
  unfold nmOf
  rw [List.getD_eq_getElem?_getD, List.getD_eq_getElem?_getD, List.getElem?_map]
  cases l[j]? with
  | none => rfl
  | some e => exact rsv_ev hp e
theorem tagBr_sat {α : Type} {Q : (Nat → D) → α → Prop} {k : Nat} {t f : Cx → Tree α} : ∀ {e : E} {c : Cx}, PcOk U r c.pc → (tagBr k t f e c).sat U Q r →
    ∃ pc', PcOk U r pc' ∧ (((e.ev U r).toI = (k : Int) ∧ (t { c with pc := pc' }).sat U Q r) ∨ ((e.ev U r).toI ≠ (k : Int) ∧ (f { c with pc := pc' }).sat U Q r)) := by
  intro e
  have other : ∀ {e : E} {c : Cx}, PcOk U r c.pc → (br c (mk2 .ieq e (.i k)) t f).sat U Q r →
      ∃ pc', PcOk U r pc' ∧ (((e.ev U r).toI = (k : Int) ∧ (t { c with pc := pc' }).sat U Q r) ∨ ((e.ev U r).toI ≠ (k : Int) ∧ (f { c with pc := pc' }).sat U Q r)) := by
    intro e c hp h
    obtain ⟨pc, hp', h | h⟩ := br_sat hp h
    · have h1 := h.1
      rw [mk2_ev] at h1
      exact ⟨pc, hp', .inl ⟨by simpa [O2.ev, E.ev, D.toI_i, D.toB_b] using h1, h.2⟩⟩
    · have h1 := h.1
      rw [mk2_ev] at h1
      exact ⟨pc, hp', .inr ⟨by simpa [O2.ev, E.ev, D.toI_i, D.toB_b] using h1, h.2⟩⟩
  induction e with
  | o3 o x a b _ iha ihb =>
    intro c hp h
    cases o
    case ite =>
      simp only [tagBr] at h
      obtain ⟨pc, hp', h | h⟩ := br_sat hp h
      · obtain ⟨pc2, q1, q2⟩ := iha (c := { c with pc := pc }) hp' h.2
        exact ⟨pc2, q1, by simp only [E.ev, O3.ev, h.1, if_true]; exact q2⟩
      · obtain ⟨pc2, q1, q2⟩ := ihb (c := { c with pc := pc }) hp' h.2
        exact ⟨pc2, q1, by simp only [E.ev, O3.ev, h.1]; exact q2⟩
    all_goals exact other hp h
  | _ => intro c hp h; exact other hp h

theorem outTree_sat {R : LRun} {bls : List Nat} {es : List E} {Q : (Nat → D) → Ex × St → Prop} : ∀ {l : List (Ex × Tmpl)} {k n : Nat} {c : Cx} {o : Ex × Tmpl}, PcOk U r c.pc → ((R.tag es).ev U r).toI = n → k ≤ n → l[n - k]? = some o →
    (R.outTree bls es k l c).sat U Q r → ∃ pc, PcOk U r pc ∧ (R.outLeaf bls es n o { c with pc := pc }).sat U Q r := by
  intro l
  induction l with
  | nil => intro k n c o _ _ _ h; simp at h
  | cons x l ih =>
    intro k n c o hp hn hk ho h
    cases l with
    | nil =>
      have h0 : n - k = 0 := by
        have := (List.getElem?_eq_some_iff.1 ho).1; simp at this; omega
      rw [h0] at ho
      simp at ho
      subst ho
      have : n = k := by omega
      subst this
      exact ⟨c.pc, hp, h⟩
    | cons y l =>
      simp only [LRun.outTree] at h
      obtain ⟨pc, hp', h | h⟩ := tagBr_sat hp h
      · have h1 : ((R.tag es).ev U r).toI = ((k : Nat) : Int) := h.1
        have : n = k := by omega
        subst this
        rw [Nat.sub_self] at ho
        simp at ho
        subst ho
        exact ⟨pc, hp', h.2⟩
      · have h1 : ((R.tag es).ev U r).toI ≠ ((k : Nat) : Int) := h.1
        have hlt : k < n := by omega
        exact ih (k := k + 1) (c := { c with pc := pc }) hp' hn hlt (by rw [show n - k = (n - (k + 1)) + 1 by omega] at ho; simpa using ho) h.2

theorem conjE_ev {x : E} {l : List E} : ((conjE (x :: l)).ev U r).toB = ((x.ev U r).toB && ((conjE l).ev U r).toB) := by
  simp only [conjE, mk2_ev, O2.ev, D.toB_b]
theorem conjTree_sat {R : LRun} {bls : List Nat} {es : List E} {o0 o1 : Ex × Tmpl} {Q : (Nat → D) → Ex × St → Prop} : ∀ {l : List E} {c : Cx}, PcOk U r c.pc → (R.conjTree bls es o0 o1 l c).sat U Q r →
    (((conjE l).ev U r).toB = true ∧ ∃ pc, PcOk U r pc ∧ (R.outLeaf bls es 0 o0 { c with pc := pc }).sat U Q r) ∨ (((conjE l).ev U r).toB = false ∧ ∃ pc, PcOk U r pc ∧ (R.outLeaf bls es 1 o1 { c with pc := pc }).sat U Q r) := by
  intro l
  induction l with
  | nil => intro c hp h; exact .inl ⟨rfl, c.pc, hp, h⟩
  | cons x l ih =>
    intro c hp h
    simp only [LRun.conjTree] at h
    rw [conjE_ev]
    obtain ⟨pc, hp', h | h⟩ := br_sat hp h
    · rcases ih (c := { c with pc := pc }) hp' h.2 with ⟨h1, h2⟩ | ⟨h1, h2⟩
      · exact .inl ⟨by rw [h.1, h1]; rfl, h2⟩
      · exact .inr ⟨by rw [h.1, h1]; rfl, h2⟩
    · exact .inr ⟨by rw [h.1]; rfl, pc, hp', h.2⟩
theorem tree_sat {R : LRun} {bls : List Nat} {es : List E} {n : Nat} {c : Cx} {o : Ex × Tmpl} {Q : (Nat → D) → Ex × St → Prop} (hp : PcOk U r c.pc) (hn : ((R.tagE es).ev U r).toI = n) (ho : R.loop.outs[n]? = some o) (h : (R.tree bls es c).sat U Q r) :
    ∃ pc, PcOk U r pc ∧ (R.outLeaf bls es n o { c with pc := pc }).sat U Q r := by
  unfold LRun.tree at h
  split at h
  · rename_i ws o0 o1 hc hl
    have ht : ((conjTag (ws es)).ev U r).toI = n := by rw [← hn]; unfold LRun.tagE; rw [hc]
    rw [conjTag, mkIte_ev] at ht
    rcases conjTree_sat hp h with ⟨h1, h2⟩ | ⟨h1, h2⟩
    · rw [h1] at ht
      simp only [if_true, E.ev, D.toI_i] at ht
      have : n = 0 := by omega
      subst this
      rw [hl] at ho; cases ho; exact h2
    · rw [h1] at ht
      simp only [Bool.false_eq_true, if_false, E.ev, D.toI_i] at ht
      have : n = 1 := by omega
      subst this
      rw [hl] at ho; cases ho; exact h2
  · exact h.elim
  · rename_i hc
    have ht : ((R.tag es).ev U r).toI = n := by rw [← hn]; unfold LRun.tagE; rw [hc]
    exact outTree_sat hp ht (Nat.zero_le n) (by rw [Nat.sub_zero]; exact ho) h

theorem lrun0_ok {b : Code} {ex : St → Tree (Ex × St)} {R : LRun} (hex : BodyOk U P b ex) (hwf : R.loop.wf = true) (hok : okA 1000 (mapT R.loop.leaf (ex R.loop.s0)) = true) (htold : Told U (mapT R.loop.leaf (ex R.loop.s0)) R) : ∀ (S : St) (T : Tree (Ex × St)) (L : Nat → Prop) (r : Nat → D) (g : Gh) (a : Act) (w : World) (Q : Exit → Act → World → Prop), R.run0 S = some T →
    HeapDen U r g L S.c.h w → PcOk U r S.c.pc → Slots U r g L S.tmps a → T.sat U (EPost U L r g S.c w Q) r → (Code.loop b).wp P Q a w := by
  intro S T L r g a w Q hrun hh hp hs hsat
  have hW := LoopT.wf_ok hwf
  unfold LRun.run0 at hrun
  split at hrun
  · rename_i es bls hfit
    split at hrun
    · rename_i hinv
      rw [Bool.and_eq_true, Bool.and_eq_true] at hinv
      obtain ⟨hcnt, hinv, hent⟩ := hinv
      have hcnt := Nat.eq_of_beq_eq_true hcnt
      cases hrun
      have hf := Tmpl.fits_ok (Tmpl.fit_fits hfit)
      have hown := fits_own hW.t hf hh hs
      obtain ⟨k, os, hto, htag, hpost, hres⟩ := htold r es hcnt (holdAll_ok hp hinv) (holdAll_ok hp hent) (shapes_of hown)
      obtain ⟨e, to, hout, N, hrounds⟩ := loop_chain hex hW hok hto
      obtain ⟨o1, o2, o3, o4⟩ := hW.outs _ _ _ hout
      refine wp_loop_rounds N (hrounds _ _ a w (fun j hj => hj.1) hown Q fun g' L' a' w' hL' hst hrel => ?_)
      obtain ⟨pc, hp', hleaf⟩ := tree_sat hp htag hout hsat
      obtain ⟨gf, hext, hsl⟩ := loop_out (S := S) (es := (R.res k es).map (rsv pc)) hh (pc := R.post k es ++ pc) (fun x hx => (List.mem_append.1 hx).elim (hpost x) (hp' x)) hf hW.t o1 o3 o4 hst hrel (fun j => by rw [rsv_nm hp']; exact hres _ _ hout j)
      exact hleaf gf a' w' hext hsl
    · cases hrun
  · cases hrun

theorem prep1_ok {t : Tmpl} {S : St} {p : Tmp × LP} (hh : HeapDen U r g L S.c.h w) (hp : PcOk U r S.c.pc) (hs : Slots U r g L S.tmps a) :
    ∃ g', Ext U L r g S.c w r g' (prep1 t S p).c w ∧ Slots U r g' (Lx L S.c.h (prep1 t S p).c.h) (prep1 t S p).tmps a := by
  have same : ∃ g', Ext U L r g S.c w r g' S.c w ∧ Slots U r g' (Lx L S.c.h S.c.h) S.tmps a := ⟨g, Ext.refl hh hp, by rw [Lx_self]; exact hs⟩
  unfold prep1
  split
  · rename_i b sz id sz' cp hlp hget
    split
    · rename_i cs0 ks bcs brow hb hid
      split
      · rename_i hc
        obtain ⟨rfl, hks⟩ := hc
        have hd := hs.at_ p.1
        rw [hget] at hd
        simp only [SV.den] at hd
        obtain ⟨hl, _, c, hv, _, hcs, _⟩ := hd
        have hlt := hh.bnd id hl
        obtain ⟨xs, ty, fz, e1, e2, e3, _, _⟩ := hh.blk id _ hl hid
        rw [e3 rfl] at e1
        have hw : Wrote (g.a id) xs ty w w := ⟨e1, fun _ _ => rfl, rfl, rfl, rfl, rfl⟩
        have ex := ext_move (cs' := []) hh hp hl hid rfl hw e2 (Nat.zero_le _) (fun j s h => by simp at h) (some (ks, .o2 .lrep (.i 0) (.b false))) 0 (by
          intro ks' e he
          cases he
          intro i d hi
          simp only [E.ev, O2.ev, D.toI_i, D.toL_l, Int.toNat_zero, List.replicate_zero] at hi
          simp at hi)
        refine ⟨_, ex, ?_⟩
        have gl := ex.gle (fun id h => hh.bnd id h)
        have hs' := hs.mono gl
        refine ⟨hs'.defers, by rw [Tm.put_n]; exact hs'.size, fun q => ?_⟩
        by_cases hq : p.1 < S.tmps.n
        · by_cases he : p.1 = q
          · subst he
            rw [Tm.get_put_self _ _ hq]
            show SV.den U r _ _ _ _
            rw [hv]
            simp only [SV.den]
            refine ⟨Int.le_refl _, _, c, rfl, Nat.zero_le _, .inr ⟨.inr ⟨Nat.le_refl _, by simp⟩, ?_, ?_⟩⟩
            · simp [Gh.put]
            · simp [Gh.put]; omega
          · rw [Tm.get_put_ne _ _ he]; exact hs'.at_ q
        · rw [Tm.get_put_out _ _ hq]; exact hs'.at_ q
      · refine ⟨g, Ext.refl hh hp, ?_⟩
        rw [Lx_self]
        refine ⟨hs.defers, by rw [Tm.put_n]; exact hs.size, fun q => ?_⟩
        by_cases hq : p.1 < S.tmps.n
        · by_cases he : p.1 = q
          · subst he
            rw [Tm.get_put_self _ _ hq, ← hget]; exact hs.at_ p.1
          · rw [Tm.get_put_ne _ _ he]; exact hs.at_ q
        · rw [Tm.get_put_out _ _ hq]; exact hs.at_ q
    · exact same
  · exact same
theorem prep_ok {t : Tmpl} : ∀ {l : List (Tmp × LP)} {S : St} {L : Nat → Prop} {g : Gh}, HeapDen U r g L S.c.h w → PcOk U r S.c.pc → Slots U r g L S.tmps a →
    ∃ g', Ext U L r g S.c w r g' (prep t l S).c w ∧ Slots U r g' (Lx L S.c.h (prep t l S).c.h) (prep t l S).tmps a := by
  intro l
  induction l with
  | nil => intro S L g hh hp hs; exact ⟨g, Ext.refl hh hp, by rw [prep, Lx_self]; exact hs⟩
  | cons p l ih =>
    intro S L g hh hp hs
    obtain ⟨g1, e1, s1⟩ := prep1_ok (t := t) (p := p) hh hp hs
    obtain ⟨g2, e2, s2⟩ := ih e1.heap e1.pc s1
    rw [Lx_trans e1.len e2.len] at s2
    exact ⟨g2, e1.trans e2, s2⟩

/-- A LOOP THAT IS TOLD. -/
theorem lrun_ok {b : Code} {ex : St → Tree (Ex × St)} {R : LRun} (hex : BodyOk U P b ex) (hwf : R.loop.wf = true) (hok : okA 1000 (mapT R.loop.leaf (ex R.loop.s0)) = true) (htold : Told U (mapT R.loop.leaf (ex R.loop.s0)) R) : LRunOk U P b R := by
  intro S T L r g a w Q hrun hh hp hs hsat
  obtain ⟨g', e, s'⟩ := prep_ok (t := R.loop.t) (l := R.loop.t.slots) hh hp hs
  exact lrun0_ok hex hwf hok htold _ T _ r g' a w Q hrun e.heap e.pc s' (Tree.sat_mono (fun _ _ hy => hy.shift e) hsat)

/-! ### Walks with told loops -/

def firstRegion : Code → Option Nat
  | .region id _ _ => some id
  | .seq x y => match firstRegion x with
    | some n => some n
    | none => firstRegion y
  | .cond _ x y => match firstRegion x with
    | some n => some n
    | none => firstRegion y
  | .block _ b => firstRegion b
  | .loop b => firstRegion b
  | .scope b => firstRegion b
  | _ => none

abbrev Loops := Nat → Option LRun
def Loops.at_ (lo : Loops) (b : Code) : Option LRun := match firstRegion b with
  | some n => lo n
  | none => none

def execL (P : Program) (ct : Contracts) (lo : Loops) : Nat → Code → St → Tree (Ex × St)
  | 0, _, _ => .bad
  | n + 1, code, S =>
    match code with
    | .skip => .ret (.normal, S)
    | .region _ ops draw => (regionX P (callX P ct (exec P ct n)) ops draw S).bind fun S' => .ret (.normal, S')
    | .seq x y => (execL P ct lo n x S).bind fun z =>
      match z.1 with
      | .normal => execL P ct lo n y z.2
      | e => .ret (e, z.2)
    | .cond x t f =>
      match evS S.tmps x with
      | .bool e => br S.c e (fun c => execL P ct lo n t ⟨S.tmps, c⟩) (fun c => execL P ct lo n f ⟨S.tmps, c⟩)
      | _ => .bad
    | .block id b => (execL P ct lo n b S).bind fun z =>
      match z.1 with
      | .exit j => .ret (if j = id then .normal else .exit j, z.2)
      | e => .ret (e, z.2)
    | .loop b => match lo.at_ b with
      | some R => (match R.run S with
        | some T => T
        | none => loopX (execL P ct lo n b) n S)
      | none => loopX (execL P ct lo n b) n S
    | .scope b => execL P ct lo n b S
    | .exit id => .ret (.exit id, S)
    | .ret => .ret (.ret, S)
    | _ => .bad

def loopsOf : Code → List Code
  | .seq x y => loopsOf x ++ loopsOf y
  | .cond _ x y => loopsOf x ++ loopsOf y
  | .block _ b => loopsOf b
  | .loop b => b :: loopsOf b
  | .scope b => loopsOf b
  | _ => []

def LoopsOk (U : Nat → D → D) (P : Program) (lo : Loops) (code : Code) : Prop := ∀ b ∈ loopsOf code, ∀ R, lo.at_ b = some R → LRunOk U P b R

variable {Q : Exit → Act → World → Prop}

theorem execL_ok {ct : Contracts} {lo : Loops} (hm : P.follows .mixedOrders = true) (hn : NamesOk P) (hct : ContractsOk U P ct) : ∀ (n : Nat) (code : Code), LoopsOk U P lo code → BodyOk U P code (execL P ct lo n code) := by
  intro n
  induction n with
  | zero => intro code _ S L r g a w Q _ _ _ h; exact h.elim
  | succ n ih =>
    intro code hlo S L r g a w Q hh hp hs h
    cases code <;> simp only [execL] at h <;> (try exact h.elim)
    case skip => exact wp_skip (EPost.here h hh hp hs)
    case region id ops draw =>
      rw [Tree.sat_bind] at h
      refine regionX_ok hm (callX_ok hn hct (exec_ok hm hn hct n)) hh hp hs (Tree.sat_mono ?_ h)
      intro r' S' hx g' a' w' he hs'
      exact hx g' a' w' he hs'
    case seq x y =>
      rw [Tree.sat_bind] at h
      refine wp_seq (ih x (fun b hb => hlo b (by simp [loopsOf, hb])) S L r g a w _ hh hp hs (Tree.sat_mono ?_ h))
      intro r' z hz g' a' w' he hs'
      cases hz1 : z.1 with
      | normal =>
        rw [hz1] at hz
        exact ih y (fun b hb => hlo b (by simp [loopsOf, hb])) z.2 (Lx L S.c.h z.2.c.h) r' g' a' w' Q he.heap he.pc hs' (Tree.sat_mono (fun _ _ hy => hy.shift he) hz)
      | exit id => rw [hz1] at hz; exact hz g' a' w' he hs'
      | ret => rw [hz1] at hz; exact hz g' a' w' he hs'
    case cond x t f =>
      split at h
      · rename_i e he
        have hx := hs.ev x
        rw [he] at hx
        simp only [SV.den] at hx
        obtain ⟨pc, hp', h | h⟩ := sat_br hp h
        · refine wp_cond hx ?_
          rw [h.1]
          exact ih t (fun b hb => hlo b (by simp [loopsOf, hb])) ⟨S.tmps, { S.c with pc := pc }⟩ L r g a w Q hh hp' hs (Tree.sat_mono (fun _ _ hy => fun g' a' w' he hs' => hy g' a' w' he.pcs hs') h.2)
        · refine wp_cond hx ?_
          rw [h.1]
          exact ih f (fun b hb => hlo b (by simp [loopsOf, hb])) ⟨S.tmps, { S.c with pc := pc }⟩ L r g a w Q hh hp' hs (Tree.sat_mono (fun _ _ hy => fun g' a' w' he hs' => hy g' a' w' he.pcs hs') h.2)
      · exact h.elim
    case block id b =>
      rw [Tree.sat_bind] at h
      refine wp_block (ih b (fun b hb => hlo b (by simpa [loopsOf] using hb)) S L r g a w _ hh hp hs (Tree.sat_mono ?_ h))
      intro r' z hz g' a' w' he hs'
      cases hz1 : z.1 with
      | normal => rw [hz1] at hz; exact hz g' a' w' he hs'
      | exit j =>
        rw [hz1] at hz
        have := hz g' a' w' he hs'
        show Exit.inBlock id Q (.exit j) a' w'
        unfold Exit.inBlock
        dsimp only at this ⊢
        split
        · rename_i hj; rw [if_pos hj] at this; exact this
        · rename_i hj; rw [if_neg hj] at this; exact this
      | ret => rw [hz1] at hz; exact hz g' a' w' he hs'
    case loop b =>
      have hb : BodyOk U P b (execL P ct lo n b) := ih b fun b' hb' => hlo b' (by simp [loopsOf, hb'])
      split at h
      · rename_i R hR
        split at h
        · rename_i T hT
          exact hlo b (by simp [loopsOf]) R hR S T L r g a w Q hT hh hp hs h
        · exact wp_loop_rounds n (loopX_ok hb n S L r g a w Q hh hp hs h)
      · exact wp_loop_rounds n (loopX_ok hb n S L r g a w Q hh hp hs h)
    case scope b =>
      refine wp_scope_straight (ih b (fun b hb => hlo b (by simpa [loopsOf] using hb)) S L r g a w _ hh hp hs (Tree.sat_mono ?_ h))
      intro r' z hz g' a' w' he hs'
      have := hz g' a' w' he hs'
      cases hz1 : z.1 with
      | normal => rw [hz1] at this; exact this
      | exit j => rw [hz1] at this; exact this
      | ret => rw [hz1] at this; exact this
    case exit id => exact wp_exit (EPost.here h hh hp hs)
    case ret => exact wp_ret (EPost.here h hh hp hs)

/-- The walk of a function's text, its loops told. -/
def textL (P : Program) (ct : Contracts) (lo : Loops) (n : Nat) (fn : Func) (body : Code) (args : List SV) (c : Cx) : Tree (SV × Cx) :=
  (execL P ct lo n body ⟨argTm args fn.ntmps, c⟩).bind (resX P fn)

theorem text_ok {f : FuncId} {fn : Func} {body : Code} {ex : St → Tree (Ex × St)} (hn : NamesOk P) (hf : P.funcs[f]? = some fn) (hb : fn.body = some body) (hex : BodyOk U P body ex) :
    EntryOk U P f fun args c => (ex ⟨argTm args fn.ntmps, c⟩).bind (resX P fn) := by
  intro args c L r g w vs K hh hp hd h
  dsimp only at h
  rw [Tree.sat_bind] at h
  refine callGoal_of hn hf hb (calls_of_wp hf hb ?_)
  have hl := SV.denL_length U r g L hd
  simp only [Array.length_toList] at hl
  refine hex _ L r g _ w _ hh hp ?_ (Tree.sat_mono ?_ h)
  · refine ⟨rfl, by simp [argTm, hl], fun t => ?_⟩
    show SV.den U r g L ((argTm args fn.ntmps).get t) _
    rw [argTm_get]
    cases ht : args[t]? with
    | none => rw [List.getD_eq_getElem?_getD, ht]; trivial
    | some s =>
      obtain ⟨v, hv, hd'⟩ := SV.denL_get U r g L hd ht
      rw [List.getD_eq_getElem?_getD, ht, Array.getD_eq_getD_getElem?]
      have hlt : t < vs.size := by have := (List.getElem?_eq_some_iff.1 hv).1; simpa using this
      have hv' : (vs ++ Array.replicate (fn.ntmps - vs.size) undef)[t]? = some v := by
        rw [Array.getElem?_append_left hlt]; simpa using hv
      rw [hv']; exact hd'
  · intro r' x hx g' a' w' he hs
    unfold resX at hx
    have fin : ∀ {ss}, resS P x.2 fn.results.toList = some ss → Post U L r g c w K r' (oneOf ss, x.2.c) → a'.defers = [] ∧ ∃ v, (results fn a'.tmps).run P w' = .ok v w' ∧ ∃ v', Ending.returned v = Ending.returned v' ∧ K v' w' := by
      intro ss hss hpost
      obtain ⟨v, h1, h2⟩ := results_run (fn := fn) (tmps := a'.tmps) he.heap hs.at_ hss
      exact ⟨hs.defers, v, h1, v, rfl, hpost g' v w' he h2⟩
    cases hx1 : x.1 with
    | exit id => rw [hx1] at hx; exact hx.elim
    | normal =>
      rw [hx1] at hx
      dsimp only at hx
      split at hx
      · rename_i ss hss; exact fin hss hx
      · exact hx.elim
    | ret =>
      rw [hx1] at hx
      dsimp only at hx
      split at hx
      · rename_i ss hss; exact fin hss hx
      · exact hx.elim

theorem textL_entry {f : FuncId} {fn : Func} {body : Code} {ct : Contracts} {lo : Loops} {n : Nat} (hm : P.follows .mixedOrders = true) (hn : NamesOk P) (hct : ContractsOk U P ct) (hf : P.funcs[f]? = some fn) (hb : fn.body = some body)
    (hlo : LoopsOk U P lo body) : EntryOk U P f (textL P ct lo n fn body) := text_ok hn hf hb (execL_ok hm hn hct n body hlo)
end
end Go.Sx

/-
  Sx, part Pq: loops without memory: that they end; that one does what another does.
-/
namespace Go.Sx
open E (mk1 mk2 mkIte mk1_ev mk2_ev mkIte_ev)

section
variable {U : Nat → D → D} {inv : List E} {T : Tree LRes}

theorem LoopTo.unique {ds : List D} {k k' : Nat} {os os' : List D} (h : LoopTo U inv T ds k os) (h' : LoopTo U inv T ds k' os') : k = k' ∧ os = os' := by
  induction h with
  | done hI he =>
    cases h' with
    | done _ he' => rw [he] at he'; cases he'; exact ⟨rfl, rfl⟩
    | next _ he' _ => rw [he] at he'; cases he'
  | next hI he _ ih =>
    cases h' with
    | done _ he' => rw [he] at he'; cases he'
    | next _ he' h2 => rw [he] at he'; cases he'; exact ih h2

theorem LoopTo.hold {ds : List D} {k : Nat} {os : List D} (h : LoopTo U inv T ds k os) : HoldI U inv ds := by
  cases h with
  | done hI _ => exact hI
  | next hI _ _ => exact hI

/-! ### Ends -/

def subAll (m : List (Nat × E)) : List E → Option (List E)
  | [] => some []
  | e :: l => match e.sub m, subAll m l with
    | some a, some b => some (a :: b)
    | _, _ => none

theorem subAll_ev {r r' : Nat → D} {m : List (Nat × E)} (hf : Fills U r r' m) : ∀ {l l' : List E}, subAll m l = some l' → l'.map (E.ev U r) = l.map (E.ev U r') := by
  intro l
  induction l with
  | nil => intro l' h; cases h; rfl
  | cons e l ih =>
    intro l' h
    unfold subAll at h
    split at h
    · rename_i a b h1 h2
      cases h
      simp only [List.map_cons, E.sub_ev hf h1, ih h2]
    · cases h

/-- Every way of a round is sure: it goes out, or what holds at the head holds again and the measure has fallen. -/
def endsT (cnt : Nat) (inv : List E) (mu : E) : Nat → List (E × Bool) → Tree LRes → Bool
  | _, _, .ret (.done _ _) => true
  | _, pc, .ret (.next es) => Nat.beq es.length cnt && (holdAll inv es pc && (match mu.sub (numbered 0 es) with
    | some mu' => sure (mk2 .ile (.i 0) mu') pc && sure (mk2 .ilt mu' mu) pc
    | none => false))
  | m, pc, .ite c t e => c.under m && (endsT cnt inv mu m ((c, true) :: pc) t && endsT cnt inv mu m ((c, false) :: pc) e)
  | m, pc, .chk (.o2 .fsame (.v i) e) t => Nat.ble m i && (e.under m && endsT cnt inv mu (i + 1) pc t)
  | _, _, _ => false

theorem pc_under {r r' : Nat → D} {m : Nat} {pc : List (E × Bool)} (hp : PcOk U r pc) (hu : ∀ x ∈ pc, x.1.under m = true) (hr : ∀ n, n < m → r' n = r n) : PcOk U r' pc := by
  intro x hx
  rw [E.ev_under U hr (hu x hx)]
  exact hp x hx

theorem endsT_ok {cnt : Nat} {mu : E} : ∀ {t : Tree LRes} {m : Nat} {pc : List (E × Bool)} {r : Nat → D}, endsT cnt inv mu m pc t = true → PcOk U r pc → (∀ x ∈ pc, x.1.under m = true) → mu.under m = true →
    ∃ x r', evA U t r = some (x, r') ∧ (∀ n, n < m → r' n = r n) ∧ (match x with
      | .next es => es.length = cnt ∧ HoldI U inv (es.map (E.ev U r')) ∧ 0 ≤ (mu.ev U (rOf (es.map (E.ev U r')))).toI ∧ (mu.ev U (rOf (es.map (E.ev U r')))).toI < (mu.ev U r).toI
      | .done _ _ => True
      | .stuck => False) := by
  intro t
  induction t with
  | ret x =>
    intro m pc r h hp hu hm
    cases x with
    | stuck => simp [endsT] at h
    | done k os => exact ⟨_, r, rfl, fun _ _ => rfl, trivial⟩
    | next es =>
      simp only [endsT, Bool.and_eq_true] at h
      obtain ⟨h1, h2, h3⟩ := h
      split at h3
      · rename_i mu' hs
        rw [Bool.and_eq_true] at h3
        have k1 := sure_ok hp h3.1
        have k2 := sure_ok hp h3.2
        rw [mk2_ev] at k1 k2
        have k1 : (0 : Int) ≤ (mu'.ev U r).toI := of_decide_eq_true k1
        have k2 : (mu'.ev U r).toI < (mu.ev U r).toI := of_decide_eq_true k2
        have e := E.sub_ev (fills_rOf (U := U) (r := r) es) hs
        rw [e] at k1 k2
        exact ⟨_, r, rfl, fun _ _ => rfl, Nat.eq_of_beq_eq_true h1, holdAll_ok hp h2, k1, k2⟩
      · cases h3
  | ite c t e iht ihe =>
    intro m pc r h hp hu hm
    simp only [endsT, Bool.and_eq_true] at h
    obtain ⟨h1, h2, h3⟩ := h
    have hu' : ∀ b, ∀ x ∈ (c, b) :: pc, x.1.under m = true := fun b x hx => by
      rcases List.mem_cons.1 hx with rfl | hx
      · exact h1
      · exact hu x hx
    have hp' : ∀ b, (c.ev U r).toB = b → PcOk U r ((c, b) :: pc) := fun b hb x hx => by
      rcases List.mem_cons.1 hx with rfl | hx
      · exact hb
      · exact hp x hx
    simp only [evA]
    cases hc : (c.ev U r).toB with
    | true => simp only [if_true]; exact iht h2 (hp' true hc) (hu' true) hm
    | false => simp only [Bool.false_eq_true, if_false]; exact ihe h3 (hp' false hc) (hu' false) hm
  | chk c t ih =>
    intro m pc r h hp hu hm
    unfold endsT at h
    split at h
    · rename_i h'; cases h'
    · rename_i h'; cases h'
    · rename_i h'; cases h'
    · rename_i m _ pc _ _ i e t' h'
      cases h'
      simp only [Bool.and_eq_true] at h
      obtain ⟨h1, h2, h3⟩ := h
      have h1 := Nat.le_of_ble_eq_true h1
      have hlow : ∀ n, n < m → Tree.upd r i (e.ev U r) n = r n := fun n hn => by unfold Tree.upd; rw [if_neg (by omega)]
      have up : ∀ {x : E}, x.under m = true → x.under (i + 1) = true := fun {x} hx => by
        have mono : ∀ {x : E}, x.under m = true → x.under (i + 1) = true := by
          intro x
          induction x with
          | v n => intro h; simp [E.under] at h ⊢; omega
          | o1 o a iha => intro h; exact iha h
          | app n a iha => intro h; exact iha h
          | o2 o a b iha ihb => intro h; simp [E.under] at h ⊢; exact ⟨iha h.1, ihb h.2⟩
          | o3 o a b c iha ihb ihc => intro h; simp [E.under] at h ⊢; exact ⟨iha h.1, ihb h.2.1, ihc h.2.2⟩
          | _ => intro _; rfl
        exact mono hx
      obtain ⟨x, r', k1, k2, k3⟩ := ih h3 (pc_under hp hu hlow) (fun x hx => up (hu x hx)) (up hm)
      refine ⟨x, r', by simp only [evA]; exact k1, fun n hn => by rw [k2 n (by omega)]; exact hlow n hn, ?_⟩
      have : mu.ev U (Tree.upd r i (e.ev U r)) = mu.ev U r := E.ev_under U hlow hm
      rw [this] at k3
      exact k3
    · cases h
  | all i t ih => intro m pc r h; simp [endsT] at h
  | asm c t ih => intro m pc r h; simp [endsT] at h
  | bad => intro m pc r h; simp [endsT] at h

def endsOk (cnt : Nat) (inv : List E) (mu : E) (T : Tree LRes) : Bool := endsT cnt inv mu 1000 (headP inv) T && (mu.under 1000 && inv.all fun e => e.under 1000)

theorem ends_ok {cnt : Nat} {mu : E} (h : endsOk cnt inv mu T = true) : ∀ {ds : List D}, ds.length = cnt → HoldI U inv ds → ∃ k os, LoopTo U inv T ds k os := by
  simp only [endsOk, Bool.and_eq_true, List.all_eq_true] at h
  obtain ⟨h1, h2, h3⟩ := h
  have key : ∀ (n : Nat) (ds : List D), ds.length = cnt → HoldI U inv ds → (mu.ev U (rOf ds)).toI.toNat ≤ n → ∃ k os, LoopTo U inv T ds k os := by
    intro n
    induction n with
    | zero =>
      intro ds hl hI hn
      have hp : PcOk U (rOf ds) (headP inv) := headP_ok hI
      obtain ⟨x, r', k1, _, k3⟩ := endsT_ok (r := rOf ds) h1 hp (headP_under h3) h2
      cases x with
      | stuck => exact k3.elim
      | done k os => exact ⟨k, _, .done hI k1⟩
      | next es => obtain ⟨_, _, q1, q2⟩ := k3; omega
    | succ n ih =>
      intro ds hl hI hn
      have hp : PcOk U (rOf ds) (headP inv) := headP_ok hI
      obtain ⟨x, r', k1, _, k3⟩ := endsT_ok (r := rOf ds) h1 hp (headP_under h3) h2
      cases x with
      | stuck => exact k3.elim
      | done k os => exact ⟨k, _, .done hI k1⟩
      | next es =>
        obtain ⟨q0, q1, q2, q3⟩ := k3
        obtain ⟨k, os, hk⟩ := ih (es.map (E.ev U r')) (by simp [q0]) q1 (by omega)
        exact ⟨k, os, .next hI k1 hk⟩
  intro ds hl hI
  exact key _ ds hl hI (Nat.le_refl _)
end

/-! ### A loop as a word -/

/-- What a way out leaves, of which the loop's word is not asked: what stood at a variable, or a literal; else the word's own. -/
inductive OutW where
  | same (c : Nat)
  | lit (e : E)
  | val (j : Nat)

def OutW.fits : OutW → E → Bool
  | .same c, e => e.same (.v c)
  | .lit x, e => e.same x
  | .val _, _ => true

def fitsOut : List OutW → List E → Bool
  | [], [] => true
  | o :: l, e :: m => o.fits e && fitsOut l m
  | _, _ => false

def keepsNext (C : List Nat) (es : List E) : Bool := C.all fun c => (nmOf es c).same (.v c)

/-- The variables of 'C' never turn, and the ways out are as told. -/
def keepsT (C : List Nat) (outs : List (List OutW)) : Tree LRes → Bool
  | .ret (.done k os) => (match outs[k]? with
    | some l => fitsOut l os && l.all fun o => match o with
      | .same c => C.any fun x => Nat.beq x c
      | .lit e => e.under 0
      | .val _ => true
    | none => false)
  | .ret (.next es) => keepsNext C es
  | .ite _ t e => keepsT C outs t && keepsT C outs e
  | .chk _ t => keepsT C outs t
  | _ => false

section
variable {U : Nat → D → D} {inv : List E} {T : Tree LRes}

theorem fitsOut_get : ∀ {l : List OutW} {os : List E}, fitsOut l os = true → l.length = os.length ∧ ∀ (j : Nat) (o : OutW) (e : E), l[j]? = some o → os[j]? = some e → o.fits e = true := by
  intro l
  induction l with
  | nil => intro os h; cases os <;> simp_all [fitsOut]
  | cons o l ih =>
    intro os h
    cases os with
    | nil => simp [fitsOut] at h
    | cons e os =>
      simp only [fitsOut, Bool.and_eq_true] at h
      obtain ⟨k1, k2⟩ := ih h.2
      refine ⟨by simp [k1], fun j o' e' h1 h2 => ?_⟩
      cases j with
      | zero => simp at h1 h2; subst h1 h2; exact h.1
      | succ j => exact k2 j o' e' (by simpa using h1) (by simpa using h2)

theorem keepsT_ok {C : List Nat} {outs : List (List OutW)} (hC : ∀ c ∈ C, c < 1000) : ∀ {t : Tree LRes} {m : Nat} {r : Nat → D} {x : LRes} {r' : Nat → D}, 1000 ≤ m → okA m t = true → keepsT C outs t = true → evA U t r = some (x, r') →
    (match x with
      | .next es => ∀ c ∈ C, (nmOf es c).ev U r' = r c
      | .done k os => ∃ l, outs[k]? = some l ∧ l.length = os.length ∧ ∀ (j : Nat) (o : OutW), l[j]? = some o → (match o with
        | .same c => c ∈ C ∧ (nmOf os j).ev U r' = r c
        | .lit e => e.under 0 = true ∧ (nmOf os j).ev U r' = e.ev U r
        | .val _ => True)
      | .stuck => False) := by
  intro t
  induction t with
  | ret x =>
    intro m r x' r' hm ho hk h
    simp only [evA, Option.some.injEq, Prod.mk.injEq] at h
    obtain ⟨rfl, rfl⟩ := h
    cases x with
    | stuck => simp [keepsT] at hk
    | next es =>
      intro c hc
      simp only [keepsT, keepsNext, List.all_eq_true] at hk
      rw [E.same_eq (hk c hc)]; rfl
    | done k os =>
      simp only [keepsT] at hk
      split at hk
      · rename_i l hl
        rw [Bool.and_eq_true, List.all_eq_true] at hk
        obtain ⟨k1, k2⟩ := fitsOut_get hk.1
        refine ⟨l, hl, k1, fun j o hj => ?_⟩
        have hlt : j < os.length := by rw [← k1]; exact (List.getElem?_eq_some_iff.1 hj).1
        have hf := k2 j o os[j] hj (List.getElem?_eq_getElem hlt)
        have hm := hk.2 o (List.mem_of_getElem? hj)
        have hnm : nmOf os j = os[j] := by unfold nmOf; rw [List.getD_eq_getElem?_getD, List.getElem?_eq_getElem hlt]; rfl
        cases o with
        | same c =>
          simp only [List.any_eq_true] at hm
          obtain ⟨x, hx1, hx2⟩ := hm
          have := Nat.eq_of_beq_eq_true hx2
          subst this
          refine ⟨hx1, ?_⟩
          rw [hnm, E.same_eq hf]; rfl
        | lit e => exact ⟨hm, by rw [hnm, E.same_eq hf]⟩
        | val _ => trivial
      · cases hk
  | ite c t e iht ihe =>
    intro m r x r' hm ho hk h
    simp only [okA, Bool.and_eq_true] at ho
    simp only [keepsT, Bool.and_eq_true] at hk
    simp only [evA] at h
    split at h
    · exact iht hm ho.2.1 hk.1 h
    · exact ihe hm ho.2.2 hk.2 h
  | chk c t ih =>
    intro m r x r' hm ho hk h
    unfold okA at ho
    split at ho
    · rename_i h'; cases h'
    · rename_i h'; cases h'
    · rename_i m _ _ i e t' h'
      cases h'
      simp only [Bool.and_eq_true] at ho
      simp only [evA] at h
      have hi := Nat.le_of_ble_eq_true ho.1
      have := ih (by omega) ho.2.2 hk h
      have low : ∀ c ∈ C, Tree.upd r i (e.ev U r) c = r c := fun c hc => by
        have := hC c hc
        unfold Tree.upd; rw [if_neg (by omega)]
      cases x with
      | stuck => exact this
      | next es => intro c hc; rw [this c hc]; exact low c hc
      | done k os =>
        obtain ⟨l, h1, h2, h3⟩ := this
        refine ⟨l, h1, h2, fun j o hj => ?_⟩
        have h4 := h3 j o hj
        cases o with
        | same c => exact ⟨h4.1, by rw [h4.2]; exact low c h4.1⟩
        | lit y =>
          exact ⟨h4.1, by rw [h4.2]; exact E.ev_under U (m := 0) (fun n hn => by omega) h4.1⟩
        | val _ => trivial
    · rename_i h'; cases h'
    · cases ho
  | all i t ih => intro m r x r' _ ho; simp [okA] at ho
  | asm c t ih => intro m r x r' _ ho; simp [okA] at ho
  | bad => intro m r x r' _ _ hk; simp [keepsT] at hk

/-- What a loop leaves where it is told not to ask. -/
def KeptAt (U : Nat → D → D) (C : List Nat) (outs : List (List OutW)) (ds : List D) (k : Nat) (os : List D) : Prop :=
  ∃ l, outs[k]? = some l ∧ l.length = os.length ∧ ∀ (j : Nat) (o : OutW), l[j]? = some o → (match o with
    | .same c => c ∈ C ∧ rOf os j = rOf ds c
    | .lit e => ∀ r : Nat → D, rOf os j = e.ev U r
    | .val _ => True)

theorem keeps_loop {C : List Nat} {outs : List (List OutW)} (hC : ∀ c ∈ C, c < 1000) (hok : okA 1000 T = true) (hk : keepsT C outs T = true) {ds : List D} {k : Nat} {os : List D} (h : LoopTo U inv T ds k os) : KeptAt U C outs ds k os := by
  induction h with
  | @done ds k es r' hI he =>
    obtain ⟨l, h1, h2, h3⟩ := keepsT_ok hC (Nat.le_refl _) hok hk he
    refine ⟨l, h1, by simp [h2], fun j o hj => ?_⟩
    have h4 := h3 j o hj
    cases o with
    | same c => exact ⟨h4.1, by rw [evs_rOf]; exact h4.2⟩
    | lit e => exact fun r => by rw [evs_rOf, h4.2]; exact E.ev_under U (m := 0) (fun n hn => by omega) h4.1
    | val _ => trivial
  | @next ds es r' k os hI he _ ih =>
    have hn := keepsT_ok hC (Nat.le_refl _) hok hk he
    obtain ⟨l, h1, h2, h3⟩ := ih
    refine ⟨l, h1, h2, fun j o hj => ?_⟩
    have h4 := h3 j o hj
    cases o with
    | same c =>
      exact ⟨h4.1, by rw [h4.2, evs_rOf]; exact hn c h4.1⟩
    | lit e => exact h4
    | val _ => trivial

/-- What a loop comes to. -/
noncomputable def loopVal (U : Nat → D → D) (inv : List E) (T : Tree LRes) (d : D) : D :=
  open Classical in if h : ∃ x : Nat × List D, LoopTo U inv T d.toL x.1 x.2 then .p (.i (Classical.choose h).1) (.l (Classical.choose h).2) else .b false

theorem loopVal_eq {ds : List D} {k : Nat} {os : List D} (h : LoopTo U inv T ds k os) : loopVal U inv T (.l ds) = .p (.i k) (.l os) := by
  have hex : ∃ x : Nat × List D, LoopTo U inv T (D.l ds).toL x.1 x.2 := ⟨(k, os), h⟩
  unfold loopVal
  rw [dif_pos hex]
  have hs := Classical.choose_spec hex
  obtain ⟨e1, e2⟩ := LoopTo.unique h hs
  rw [← e1, ← e2]

def tagW (n : Nat) (es : List E) : E := .o1 .fst (.app n (elemE es))
def valW (n : Nat) (es : List E) (j : Nat) : E := .o2 .sel (.o1 .snd (.app n (elemE es))) (.i j)
def resW (n : Nat) (outs : List (List OutW)) (ws : List E) (k : Nat) (es : List E) : List E := (outs.getD k []).map fun o => match o with
  | .same c => nmOf es c
  | .lit e => e
  | .val j => valW n ws j

/-- A loop that is a word by itself. -/
def wordRun (A : LoopT) (n : Nat) (outs : List (List OutW)) : LRun := ⟨A, tagW n, fun k es => resW n outs es k es, [], none, fun _ _ => []⟩

/-- What a way out leaves of the word is what stands there. -/
def ownVals : Nat → List OutW → Bool
  | _, [] => true
  | j, o :: l => (match o with
    | .val i => Nat.beq i j
    | _ => true) && ownVals (j + 1) l

theorem ownVals_get : ∀ {l : List OutW} {i j n : Nat}, ownVals i l = true → l[j]? = some (.val n) → n = i + j := by
  intro l
  induction l with
  | nil => intro i j n _ h; simp at h
  | cons o l ih =>
    intro i j n h hj
    simp only [ownVals, Bool.and_eq_true] at h
    cases j with
    | zero => simp at hj; subst hj; exact Nat.eq_of_beq_eq_true h.1
    | succ j => have := ih h.2 (by simpa using hj); omega

theorem word_ev {n : Nat} {r : Nat → D} {es : List E} {k : Nat} {os : List D} (hU : ∀ d, U n d = loopVal U inv T d) (h : LoopTo U inv T (es.map (E.ev U r)) k os) :
    ((tagW n es).ev U r).toI = k ∧ ∀ j, (valW n es j).ev U r = rOf os j := by
  have hv : E.ev U r (.app n (elemE es)) = .p (.i k) (.l os) := by
    show U n ((elemE es).ev U r) = _
    rw [hU, elemE_ev, loopVal_eq h]
  constructor
  · show (O1.fst.ev (E.ev U r (.app n (elemE es)))).toI = _
    rw [hv]; rfl
  · intro j
    show O2.sel.ev (O1.snd.ev (E.ev U r (.app n (elemE es)))) (.i j) = _
    rw [hv]
    show (D.l os).at_ ((j : Int)).toNat = _
    rw [Int.toNat_natCast]; rfl

theorem resW_get (n : Nat) (outs : List (List OutW)) (ws : List E) (k : Nat) (es : List E) {l : List OutW} (hl : outs[k]? = some l) (j : Nat) : nmOf (resW n outs ws k es) j = match l[j]? with
    | some (.same c) => nmOf es c
    | some (.lit e) => e
    | some (.val i) => valW n ws i
    | none => .b false := by
  unfold resW nmOf
  rw [List.getD_eq_getElem?_getD (l := outs), hl]
  show (List.map _ l).getD j _ = _
  rw [List.getD_eq_getElem?_getD, List.getElem?_map]
  cases hx : l[j]? with
  | none => rfl
  | some o => cases o <;> rfl

theorem rOf_none {os : List D} {j : Nat} (h : os.length ≤ j) : rOf os j = .b false := by
  unfold rOf; rw [List.getD_eq_getElem?_getD, List.getElem?_eq_none h]; rfl

/-- A LOOP AS A WORD. -/
theorem word_told {A : LoopT} {n : Nat} {outs : List (List OutW)} {C : List Nat} {mu : E} (hU : ∀ d, U n d = loopVal U A.inv T d) (hends : endsOk A.t.cnt A.inv mu T = true) (hok : okA 1000 T = true) (hC : C.all (fun c => Nat.blt c 1000) = true)
    (hk : keepsT C outs T = true) (hown : outs.all (ownVals 0) = true) : Told U T (wordRun A n outs) := by
  intro r es hlen hI _ _
  obtain ⟨k, os, hto⟩ := ends_ok hends (ds := es.map (E.ev U r)) (by rw [List.length_map]; exact hlen) hI
  obtain ⟨h1, h2⟩ := word_ev hU hto
  refine ⟨k, os, hto, h1, (fun _ hx => by cases hx), fun _ _ _ j => .of_eqv ?_⟩
  have hC' : ∀ c ∈ C, c < 1000 := fun c hc => by
    rw [List.all_eq_true] at hC
    have := hC c hc
    rwa [Nat.blt_eq] at this
  obtain ⟨l, q1, q2, q3⟩ := keeps_loop hC' hok hk hto
  show D.eqv (rOf os j) ((nmOf (resW n outs es k es) j).ev U r)
  rw [resW_get n outs es k es q1 j]
  cases hx : l[j]? with
  | none =>
    rw [rOf_none (by rw [← q2]; exact List.getElem?_eq_none_iff.1 hx)]
    exact D.eqv.refl _
  | some o =>
    have h4 := q3 j o hx
    cases o with
    | same c => dsimp only at h4 ⊢; rw [h4.2, evs_rOf]; exact D.eqv.refl _
    | lit e => dsimp only at h4 ⊢; rw [h4 r]; exact D.eqv.refl _
    | val i =>
      dsimp only
      rw [h2 i]
      have : i = j := by
        rw [List.all_eq_true] at hown
        have := ownVals_get (hown l (List.mem_of_getElem? q1)) hx
        omega
      rw [this]; exact D.eqv.refl _
end

/-! ### One loop as another -/

def nrm2 (o : O2) (x y : E) : E := match o, x, y with
  | .iadd, .o2 .iadd a (.i m), .i n => .o2 .iadd a (.i (m + n))
  | .sel, a, .o2 .iadd i (.i 0) => .o2 .sel a i
  | o, x, y => .o2 o x y
/-- Sums of numbers with literals, one way. -/
def E.nrm : E → E
  | .o1 o x => .o1 o x.nrm
  | .o2 o x y => nrm2 o x.nrm y.nrm
  | .o3 o x y z => .o3 o x.nrm y.nrm z.nrm
  | .app n x => .app n x.nrm
  | e => e
theorem nrm2_ev {U : Nat → D → D} {r : Nat → D} (o : O2) (x y : E) : (nrm2 o x y).ev U r = o.ev (x.ev U r) (y.ev U r) := by
  unfold nrm2
  split
  · rename_i a m n
    show D.i _ = D.i _
    congr 1
    show (a.ev U r).toI + (m + n) = ((a.ev U r).toI + m) + n
    omega
  · rename_i k
    show (x.ev U r).at_ (k.ev U r).toI.toNat = (x.ev U r).at_ ((k.ev U r).toI + 0).toNat
    rw [Int.add_zero]
  · rfl

theorem E.nrm_ev {U : Nat → D → D} {r : Nat → D} : ∀ (e : E), e.nrm.ev U r = e.ev U r := by
  intro e
  induction e with
  | o1 o x ih => simp only [E.nrm, E.ev, ih]
  | app n x ih => simp only [E.nrm, E.ev, ih]
  | o3 o x y z ihx ihy ihz => simp only [E.nrm, E.ev, ihx, ihy, ihz]
  | o2 o x y ihx ihy =>
    show (nrm2 o x.nrm y.nrm).ev U r = _
    rw [nrm2_ev, ihx, ihy]; rfl
  | _ => rfl

def findN (e : E) : List (Nat × E) → Option Nat
  | [] => none
  | (j, x) :: l => if x.nrm.same e.nrm then some j else findN e l
def nameN (e : E) (nms : List (Nat × E)) : E := match findN e nms with
  | some j => .v j
  | none => e

/-- The other loop's round, walked where this one's has come to. -/
def sim1 (leaf : List (Nat × E) → LRes → Bool) (nms : List (Nat × E)) : List (Nat × E) → List (E × Bool) → Tree LRes → Bool
  | m, _, .ret x => leaf m x
  | m, pc, .ite c t e => (match c.sub m with
    | some c' => (match known c' pc with
      | some true => sim1 leaf nms m pc t
      | some false => sim1 leaf nms m pc e
      | none => sim1 leaf nms m ((c', true) :: pc) t && sim1 leaf nms m ((c', false) :: pc) e)
    | none => false)
  | m, pc, .chk (.o2 .fsame (.v i) e) t => (match lkM i m, e.sub m with
    | none, some e' => sim1 leaf nms ((i, nameN e' nms) :: m) pc t
    | _, _ => false)
  | _, _, _ => false

def simLeaf (rho : List E) (outs : List (List OutW)) (x2 : LRes) (m : List (Nat × E)) (x1 : LRes) : Bool :=
  match x1, x2 with
  | .next es1, .next es2 => (match subAll m es1, subAll (numbered 0 es2) rho with
    | some a, some b => E.sameAll (a.map E.nrm) (b.map E.nrm)
    | _, _ => false)
  | .done k1 os1, .done k2 os2 => Nat.beq k1 k2 && (match outs[k2]? with
    | some l => Nat.beq l.length os2.length && (List.range l.length).all fun j => (match l[j]? with
      | some (.val i) => (match (nmOf os1 i).sub m with
        | some e => e.nrm.same (nmOf os2 j).nrm
        | none => false)
      | _ => true)
    | none => false)
  | _, _ => false

def sim2 (rho : List E) (outs : List (List OutW)) (T1 : Tree LRes) : List (E × Bool) → List (Nat × E) → Tree LRes → Bool
  | pc, nms, .ret x => sim1 (simLeaf rho outs x) nms (numbered 0 rho) pc T1
  | pc, nms, .ite c t e => (match known c pc with
    | some true => sim2 rho outs T1 pc nms t
    | some false => sim2 rho outs T1 pc nms e
    | none => sim2 rho outs T1 ((c, true) :: pc) nms t && sim2 rho outs T1 ((c, false) :: pc) nms e)
  | pc, nms, .chk (.o2 .fsame (.v i) e) t => sim2 rho outs T1 pc ((i, e) :: nms) t
  | _, _, _ => false

def NmsOk (U : Nat → D → D) (r : Nat → D) (nms : List (Nat × E)) : Prop := ∀ p ∈ nms, r p.1 = p.2.ev U r

section
variable {U : Nat → D → D}

theorem nameN_ev {r : Nat → D} {e : E} {nms : List (Nat × E)} (h : NmsOk U r nms) : (nameN e nms).ev U r = e.ev U r := by
  have : ∀ {nms : List (Nat × E)} {j : Nat}, NmsOk U r nms → findN e nms = some j → r j = e.ev U r := by
    intro nms
    induction nms with
    | nil => intro j _ h; cases h
    | cons p l ih =>
      intro j hn h
      obtain ⟨i, x⟩ := p
      have h0 := hn (i, x) (by simp)
      unfold findN at h
      split at h
      · rename_i hs
        cases h
        rw [← E.nrm_ev x, E.same_eq hs, E.nrm_ev] at h0
        exact h0
      · exact ih (fun q hq => hn q (by simp [hq])) h
  unfold nameN
  split
  · rename_i j hj; exact this h hj
  · rfl

theorem sim1_ok {leaf : List (Nat × E) → LRes → Bool} {nms : List (Nat × E)} {r : Nat → D} (hn : NmsOk U r nms) : ∀ {t : Tree LRes} {m : List (Nat × E)} {pc : List (E × Bool)} {r1 : Nat → D}, Fills U r r1 m → PcOk U r pc → sim1 leaf nms m pc t = true →
    ∃ x r1' m', evA U t r1 = some (x, r1') ∧ Fills U r r1' m' ∧ leaf m' x = true := by
  intro t
  induction t with
  | ret x => intro m pc r1 hf _ h; exact ⟨x, r1, m, rfl, hf, h⟩
  | ite c t e iht ihe =>
    intro m pc r1 hf hp h
    simp only [sim1] at h
    split at h
    · rename_i c' hc
      have hev := E.sub_ev hf hc
      simp only [evA]
      rw [← hev]
      split at h
      · rename_i hk; rw [known_ok hp hk, if_pos rfl]; exact iht hf hp h
      · rename_i hk; rw [known_ok hp hk, if_neg (by simp)]; exact ihe hf hp h
      · rw [Bool.and_eq_true] at h
        have ext : ∀ b, (c'.ev U r).toB = b → PcOk U r ((c', b) :: pc) := fun b hb x hx => by
          rcases List.mem_cons.1 hx with rfl | hx
          · exact hb
          · exact hp x hx
        cases hb : (c'.ev U r).toB with
        | true => rw [if_pos rfl]; exact iht hf (ext true hb) h.1
        | false => rw [if_neg (by simp)]; exact ihe hf (ext false hb) h.2
    · cases h
  | chk c t ih =>
    intro m pc r1 hf hp h
    unfold sim1 at h
    split at h
    · rename_i h'; cases h'
    · rename_i h'; cases h'
    · rename_i i e t' h'
      cases h'
      split at h
      · rename_i e' hi he
        simp only [evA]
        refine ih ?_ hp h
        intro n x hx
        unfold lkM at hx
        unfold Tree.upd
        cases hb : Nat.beq i n with
        | true =>
          rw [hb] at hx
          simp only [cond_true, Option.some.injEq] at hx
          have := Nat.eq_of_beq_eq_true hb
          subst this hx
          rw [if_pos rfl, nameN_ev hn, E.sub_ev hf he]
        | false =>
          rw [hb] at hx
          simp only [cond_false] at hx
          have hne : n ≠ i := fun e => by subst e; rw [Nat.beq_refl] at hb; cases hb
          rw [if_neg hne]
          exact hf n x hx
      · cases h
    · cases h
  | all i t ih => intro m pc r1 _ _ h; simp [sim1] at h
  | asm c t ih => intro m pc r1 _ _ h; simp [sim1] at h
  | bad => intro m pc r1 _ _ h; simp [sim1] at h

theorem under_le {m m' : Nat} (h : m ≤ m') : ∀ {x : E}, x.under m = true → x.under m' = true := by
  intro x
  induction x with
  | v n => intro h; simp [E.under] at h ⊢; omega
  | o1 o a iha => intro h; exact iha h
  | app n a iha => intro h; exact iha h
  | o2 o a b iha ihb => intro h; simp [E.under] at h ⊢; exact ⟨iha h.1, ihb h.2⟩
  | o3 o a b c iha ihb ihc => intro h; simp [E.under] at h ⊢; exact ⟨iha h.1, ihb h.2.1, ihc h.2.2⟩
  | _ => intro _; rfl

theorem sim2_ok {rho : List E} {outs : List (List OutW)} {T1 : Tree LRes} : ∀ {t : Tree LRes} {m : Nat} {pc : List (E × Bool)} {nms : List (Nat × E)} {r : Nat → D} {x2 : LRes} {r2 : Nat → D}, okA m t = true → sim2 rho outs T1 pc nms t = true →
    PcOk U r pc → (∀ x ∈ pc, x.1.under m = true) → NmsOk U r nms → (∀ p ∈ nms, p.1 < m ∧ p.2.under m = true) → (∀ e ∈ rho, e.under m = true) → evA U t r = some (x2, r2) →
    (∀ e ∈ rho, e.ev U r2 = e.ev U r) ∧ ∀ r1, Fills U r r1 (numbered 0 rho) → ∃ x1 r1' m', evA U T1 r1 = some (x1, r1') ∧ Fills U r2 r1' m' ∧ simLeaf rho outs x2 m' x1 = true := by
  intro t
  induction t with
  | ret x =>
    intro m pc nms r x2 r2 _ h hp _ hn _ _ he
    simp only [evA, Option.some.injEq, Prod.mk.injEq] at he
    obtain ⟨rfl, rfl⟩ := he
    exact ⟨fun _ _ => rfl, fun r1 hf => sim1_ok hn hf hp h⟩
  | ite c t e iht ihe =>
    intro m pc nms r x2 r2 ho h hp hu hn hnu hr he
    simp only [okA, Bool.and_eq_true] at ho
    simp only [sim2] at h
    simp only [evA] at he
    have ext : ∀ b, (c.ev U r).toB = b → PcOk U r ((c, b) :: pc) := fun b hb x hx => by
      rcases List.mem_cons.1 hx with rfl | hx
      · exact hb
      · exact hp x hx
    have extu : ∀ b, ∀ x ∈ (c, b) :: pc, x.1.under m = true := fun b x hx => by
      rcases List.mem_cons.1 hx with rfl | hx
      · exact ho.1
      · exact hu x hx
    split at h
    · rename_i hk; rw [known_ok hp hk, if_pos rfl] at he; exact iht ho.2.1 h hp hu hn hnu hr he
    · rename_i hk; rw [known_ok hp hk, if_neg (by simp)] at he; exact ihe ho.2.2 h hp hu hn hnu hr he
    · rw [Bool.and_eq_true] at h
      cases hb : (c.ev U r).toB with
      | true => rw [hb, if_pos rfl] at he; exact iht ho.2.1 h.1 (ext true hb) (extu true) hn hnu hr he
      | false => rw [hb, if_neg (by simp)] at he; exact ihe ho.2.2 h.2 (ext false hb) (extu false) hn hnu hr he
  | chk c t ih =>
    intro m pc nms r x2 r2 ho h hp hu hn hnu hr he
    unfold okA at ho
    split at ho
    · rename_i h'; cases h'
    · rename_i h'; cases h'
    · rename_i m0 _ _ i e t' h'
      cases h'
      simp only [Bool.and_eq_true] at ho
      simp only [sim2] at h
      simp only [evA] at he
      have hi := Nat.le_of_ble_eq_true ho.1
      have low : ∀ n, n < m0 → Tree.upd r i (e.ev U r) n = r n := fun n hn => by unfold Tree.upd; rw [if_neg (by omega)]
      obtain ⟨k1, k2⟩ := ih (m := i + 1) ho.2.2 h (pc_under hp hu low) (fun x hx => under_le (by omega) (hu x hx)) (fun p hp' => by
          rcases List.mem_cons.1 hp' with rfl | hp'
          · show Tree.upd r i (e.ev U r) i = _
            rw [E.ev_under U low ho.2.1]
            unfold Tree.upd; rw [if_pos rfl]
          · obtain ⟨q1, q2⟩ := hnu p hp'
            rw [low _ q1, E.ev_under U low q2]; exact hn p hp')
        (fun p hp' => by
          rcases List.mem_cons.1 hp' with rfl | hp'
          · exact ⟨by show i < i + 1; omega, under_le (by omega) ho.2.1⟩
          · obtain ⟨q1, q2⟩ := hnu p hp'
            exact ⟨by omega, under_le (by omega) q2⟩) (fun e he => under_le (by omega) (hr e he)) he
      refine ⟨fun x hx => by rw [k1 x hx, E.ev_under U low (hr x hx)], fun r1 hf => k2 r1 fun n x hx => ?_⟩
      obtain ⟨j, _, hj⟩ := lkM_back hx
      rw [E.ev_under U low (hr x (List.mem_of_getElem? hj))]
      exact hf n x hx
    · rename_i h'; cases h'
    · cases ho
  | all i t ih => intro m pc nms r x2 r2 ho; simp [okA] at ho
  | asm c t ih => intro m pc nms r x2 r2 ho; simp [okA] at ho
  | bad => intro m pc nms r x2 r2 _ h; simp [sim2] at h

/-- One loop does what another does, whose variables are 'rho' of its own. -/
def simOk (inv1 inv2 rho : List E) (outs : List (List OutW)) (T1 T2 : Tree LRes) : Bool :=
  sim2 rho outs T1 (headP inv2) [] T2 && (holdAll inv1 rho (headP inv2) && ((rho.all fun e => e.under 1000) && inv2.all fun e => e.under 1000))

theorem sim_loop {inv1 inv2 rho : List E} {outs : List (List OutW)} {T1 T2 : Tree LRes} (hs : simOk inv1 inv2 rho outs T1 T2 = true) (hok : okA 1000 T2 = true) {ds : List D} {k : Nat} {os : List D} (h : LoopTo U inv2 T2 ds k os) :
    ∃ os1, LoopTo U inv1 T1 (rho.map (E.ev U (rOf ds))) k os1 ∧ ∀ l, outs[k]? = some l → ∀ (j i : Nat), l[j]? = some (.val i) → rOf os j = rOf os1 i := by
  simp only [simOk, Bool.and_eq_true, List.all_eq_true] at hs
  obtain ⟨h1, h2, h3, h4⟩ := hs
  have start : ∀ {ds : List D}, HoldI U inv2 ds → PcOk U (rOf ds) (headP inv2) := fun {ds} hI => headP_ok hI
  have step : ∀ {ds : List D} {x2 : LRes} {r2 : Nat → D}, HoldI U inv2 ds → evA U T2 (rOf ds) = some (x2, r2) → HoldI U inv1 (rho.map (E.ev U (rOf ds))) ∧
      ∃ x1 r1' m', evA U T1 (rOf (rho.map (E.ev U (rOf ds)))) = some (x1, r1') ∧ Fills U r2 r1' m' ∧ simLeaf rho outs x2 m' x1 = true := by
    intro ds x2 r2 hI he
    refine ⟨holdAll_ok (start hI) h2, ?_⟩
    obtain ⟨_, k2⟩ := sim2_ok hok h1 (start hI) (headP_under h4) (fun p hp => by cases hp) (fun p hp => by cases hp) h3 he
    exact k2 _ (fills_rOf rho)
  induction h with
  | @done ds k es r2 hI he =>
    obtain ⟨hI1, x1, r1', m', k1, k2, k3⟩ := step hI he
    cases x1 with
    | done kk os1 =>
      simp only [simLeaf, Bool.and_eq_true] at k3
      have e1 := Nat.eq_of_beq_eq_true k3.1
      subst e1
      refine ⟨_, .done hI1 k1, fun l hl j i hj => ?_⟩
      have k4 := k3.2
      rw [hl] at k4
      simp only [Bool.and_eq_true, List.all_eq_true] at k4
      have := k4.2 j (List.mem_range.2 (List.getElem?_eq_some_iff.1 hj).1)
      rw [hj] at this
      dsimp only at this
      split at this
      · rename_i e hsub
        rw [evs_rOf, evs_rOf, ← E.nrm_ev (nmOf _ j), ← E.same_eq this, E.nrm_ev, E.sub_ev k2 hsub]
      · cases this
    | next _ => simp [simLeaf] at k3
    | stuck => simp [simLeaf] at k3
  | @next ds es r2 k os hI he _ ih =>
    obtain ⟨hI1, x1, r1', m', k1, k2, k3⟩ := step hI he
    cases x1 with
    | done _ _ => simp [simLeaf] at k3
    | stuck => simp [simLeaf] at k3
    | next es1 =>
      simp only [simLeaf] at k3
      split at k3
      · rename_i a b ha hb
        have e := E.sameAll_eq k3
        have eab : a.map (E.ev U r2) = b.map (E.ev U r2) := by
          have := congrArg (List.map (E.ev U r2)) e
          rw [List.map_map, List.map_map] at this
          have hc : (E.ev U r2) ∘ E.nrm = E.ev U r2 := funext fun x => E.nrm_ev x
          rwa [hc] at this
        have e1 := subAll_ev k2 ha
        have e2 := subAll_ev (fills_rOf (U := U) (r := r2) es) hb
        obtain ⟨os1, q1, q2⟩ := ih
        refine ⟨os1, .next hI1 k1 ?_, q2⟩
        rw [← e1, eab, e2]
        exact q1
      · cases k3

theorem sub_total {es : List E} : ∀ {e : E}, e.under es.length = true → ∃ e', e.sub (numbered 0 es) = some e' := by
  intro e
  induction e with
  | v n =>
    intro h
    have hn : n < es.length := by simpa [E.under] using h
    exact ⟨es[n], by have := lkM_numbered (i := 0) (List.getElem?_eq_getElem hn); rw [Nat.zero_add] at this; exact this⟩
  | o1 o a iha => intro h; obtain ⟨a', ha⟩ := iha h; simp only [E.sub, ha]; exact ⟨_, rfl⟩
  | app n a iha => intro h; obtain ⟨a', ha⟩ := iha h; simp only [E.sub, ha]; exact ⟨_, rfl⟩
  | o2 o a b iha ihb =>
    intro h
    simp [E.under] at h
    obtain ⟨a', ha⟩ := iha h.1
    obtain ⟨b', hb⟩ := ihb h.2
    simp only [E.sub, ha, hb]
    exact ⟨_, rfl⟩
  | o3 o a b c iha ihb ihc =>
    intro h
    simp [E.under] at h
    obtain ⟨a', ha⟩ := iha h.1
    obtain ⟨b', hb⟩ := ihb h.2.1
    obtain ⟨c', hc⟩ := ihc h.2.2
    simp only [E.sub, ha, hb, hc]
    cases o <;> exact ⟨_, rfl⟩
  | b x => intro _; exact ⟨_, rfl⟩
  | i x => intro _; exact ⟨_, rfl⟩
  | f x => intro _; exact ⟨_, rfl⟩
  | s x => intro _; exact ⟨_, rfl⟩

theorem subAll_total {es : List E} : ∀ {l : List E}, (l.all fun e => e.under es.length) = true → ∃ l', subAll (numbered 0 es) l = some l' := by
  intro l
  induction l with
  | nil => intro _; exact ⟨[], rfl⟩
  | cons e l ih =>
    intro h
    simp only [List.all_cons, Bool.and_eq_true] at h
    obtain ⟨e', he⟩ := sub_total h.1
    obtain ⟨l', hl⟩ := ih h.2
    simp only [subAll, he, hl]
    exact ⟨_, rfl⟩

/-- The other loop's variables, where this one begins. -/
def rhoAt (rho es : List E) : List E := (subAll (numbered 0 es) rho).getD []

/-- A loop that is another one's word. -/
def simRun (A : LoopT) (n : Nat) (rho : List E) (outs : List (List OutW)) : LRun := ⟨A, fun es => tagW n (rhoAt rho es), fun k es => resW n outs (rhoAt rho es) k es, [], none, fun _ _ => []⟩

/-- A LOOP AS ANOTHER ONE'S WORD. -/
theorem sim_told {A : LoopT} {n : Nat} {rho inv1 : List E} {outs : List (List OutW)} {C : List Nat} {mu : E} {T1 T2 : Tree LRes} (hU : ∀ d, U n d = loopVal U inv1 T1 d) (hends : endsOk A.t.cnt A.inv mu T2 = true) (hok : okA 1000 T2 = true)
    (hC : C.all (fun c => Nat.blt c 1000) = true) (hk : keepsT C outs T2 = true) (hs : simOk inv1 A.inv rho outs T1 T2 = true) (hrho : (rho.all fun e => e.under A.t.cnt) = true) : Told U T2 (simRun A n rho outs) := by
  intro r es hlen hI _ _
  obtain ⟨k, os, hto⟩ := ends_ok hends (ds := es.map (E.ev U r)) (by rw [List.length_map]; exact hlen) hI
  obtain ⟨os1, hto1, hval⟩ := sim_loop hs hok hto
  obtain ⟨ws, hws⟩ := subAll_total (es := es) (l := rho) (by rw [hlen]; exact hrho)
  have hat : rhoAt rho es = ws := by unfold rhoAt; rw [hws]; rfl
  have hev : ws.map (E.ev U r) = rho.map (E.ev U (rOf (es.map (E.ev U r)))) := subAll_ev (fills_rOf es) hws
  rw [← hev] at hto1
  obtain ⟨h1, h2⟩ := word_ev hU hto1
  refine ⟨k, os, hto, by show ((tagW n (rhoAt rho es)).ev U r).toI = k; rw [hat]; exact h1, (fun _ hx => by cases hx), fun _ _ _ j => .of_eqv ?_⟩
  have hC' : ∀ c ∈ C, c < 1000 := fun c hc => by
    rw [List.all_eq_true] at hC
    have := hC c hc
    rwa [Nat.blt_eq] at this
  obtain ⟨l, q1, q2, q3⟩ := keeps_loop hC' hok hk hto
  show D.eqv (rOf os j) ((nmOf (resW n outs (rhoAt rho es) k es) j).ev U r)
  rw [hat, resW_get n outs ws k es q1 j]
  cases hx : l[j]? with
  | none =>
    rw [rOf_none (by rw [← q2]; exact List.getElem?_eq_none_iff.1 hx)]
    exact D.eqv.refl _
  | some o =>
    have h4 := q3 j o hx
    cases o with
    | same c => dsimp only at h4 ⊢; rw [h4.2, evs_rOf]; exact D.eqv.refl _
    | lit e => dsimp only at h4 ⊢; rw [h4 r]; exact D.eqv.refl _
    | val i =>
      dsimp only
      rw [h2 i, hval l q1 j i hx]; exact D.eqv.refl _
end
end Go.Sx

/-
  Sx, part Pr: loops that compare two rows; loops that copy one.
-/
namespace Go.Sx
open E (mk1 mk2 mkIte mk1_ev mk2_ev mkIte_ev)

/-! ### Rows compared -/

def eqLeaf (_ : List (Nat × E)) (x : LRes) : Bool :=
  match x with
  | .done k _ => Nat.beq k 0
  | .next _ => true
  | .stuck => false

/-- Where variable 'b' is 'a', the loop goes out by its first way. -/
def eqOk (cnt a b : Nat) (inv : List E) (T : Tree LRes) : Bool := sim1 eqLeaf [] (numbered 0 ((List.range cnt).map fun j => .v (if j = b then a else j))) (headP inv) T

def eqRun (A : LoopT) (n a b : Nat) (outs : List (List OutW)) : LRun := ⟨A, fun es => if (nmOf es a).same (nmOf es b) then .i 0 else tagW n es, fun k es => resW n outs es k es, [], none, fun _ _ => []⟩

section
variable {U : Nat → D → D} {inv : List E} {T : Tree LRes}

theorem eq_zero {cnt a b : Nat} {C : List Nat} {outs : List (List OutW)} (hC : ∀ c ∈ C, c < 1000) (ha : a ∈ C) (hb : b ∈ C) (hok : okA 1000 T = true) (hk : keepsT C outs T = true) (he : eqOk cnt a b inv T = true) {ds : List D} {k : Nat} {os : List D}
    (h : LoopTo U inv T ds k os) (hab : rOf ds a = rOf ds b) : k = 0 := by
  have step : ∀ {ds : List D}, HoldI U inv ds → rOf ds a = rOf ds b → ∃ x r', evA U T (rOf ds) = some (x, r') ∧ eqLeaf [] x = true := by
    intro ds hI hab
    have hf : Fills U (rOf ds) (rOf ds) (numbered 0 ((List.range cnt).map fun j => .v (if j = b then a else j))) := by
      intro n e hn
      obtain ⟨j, rfl, hj⟩ := lkM_back hn
      rw [Nat.zero_add]
      rw [List.getElem?_map] at hj
      cases hr : (List.range cnt)[j]? with
      | none => rw [hr] at hj; cases hj
      | some j' =>
        rw [hr] at hj
        have hlt := (List.getElem?_eq_some_iff.1 hr).1
        have : j' = j := by rw [List.getElem?_range (by simpa using hlt)] at hr; exact (Option.some.inj hr).symm
        subst this
        simp only [Option.map_some, Option.some.injEq] at hj
        subst hj
        show rOf ds j' = rOf ds (if j' = b then a else j')
        split
        · rename_i hjb; subst hjb; exact hab.symm
        · rfl
    obtain ⟨x, r', m', k1, _, k3⟩ := sim1_ok (nms := []) (fun p hp => by cases hp) hf (headP_ok hI) he
    exact ⟨x, r', k1, k3⟩
  induction h with
  | done hI hev =>
    obtain ⟨x, r', k1, k2⟩ := step hI hab
    rw [hev] at k1
    cases k1
    exact Nat.eq_of_beq_eq_true k2
  | next hI hev _ ih =>
    have hn := keepsT_ok hC (Nat.le_refl _) hok hk hev
    refine ih ?_
    rw [evs_rOf, evs_rOf, hn a ha, hn b hb]
    exact hab

theorem eq_told {A : LoopT} {n a b : Nat} {outs : List (List OutW)} {C : List Nat} {mu : E} (hU : ∀ d, U n d = loopVal U A.inv T d) (hends : endsOk A.t.cnt A.inv mu T = true) (hok : okA 1000 T = true) (hC : C.all (fun c => Nat.blt c 1000) = true)
    (hk : keepsT C outs T = true) (hown : outs.all (ownVals 0) = true) (hab : (C.any (fun c => Nat.beq c a) && C.any fun c => Nat.beq c b) = true) (he : eqOk A.t.cnt a b A.inv T = true) : Told U T (eqRun A n a b outs) := by
  intro r es hlen hI hE hS
  obtain ⟨k, os, h1, h2, h4, h3⟩ := word_told hU hends hok hC hk hown r es hlen hI hE hS
  refine ⟨k, os, h1, ?_, h4, h3⟩
  show ((if (nmOf es a).same (nmOf es b) then E.i 0 else tagW n es).ev U r).toI = k
  split
  · rename_i hs
    have hC' : ∀ c ∈ C, c < 1000 := fun c hc => by
      rw [List.all_eq_true] at hC
      have := hC c hc
      rwa [Nat.blt_eq] at this
    rw [Bool.and_eq_true, List.any_eq_true, List.any_eq_true] at hab
    obtain ⟨⟨x, hx1, hx2⟩, ⟨y, hy1, hy2⟩⟩ := hab
    have e1 := Nat.eq_of_beq_eq_true hx2
    have e2 := Nat.eq_of_beq_eq_true hy2
    subst e1 e2
    have := eq_zero hC' hx1 hy1 hok hk he h1 (by rw [evs_rOf, evs_rOf, E.same_eq hs])
    rw [this]; rfl
  · exact h2

/-! ### A row copied -/

def fldE (f : Nat) : E := .o2 .sel (.o2 .sel (.v 0) (.v 2)) (.i f)

/-- The fields of the element at hand, floats under names. -/
def cpT : Nat → Nat → List Sk → (List E → Tree LRes) → Tree LRes
  | _, _, [], K => K []
  | f, nm, .f _ :: ks, K => .chk (.o2 .fsame (.v nm) (fldE f)) (cpT (f + 1) (nm + 1) ks fun ws => K (.v nm :: ws))
  | f, nm, _ :: ks, K => cpT (f + 1) nm ks fun ws => K (fldE f :: ws)

def copyT (ks : List Sk) : Tree LRes :=
  .ite (.o2 .ilt (.v 2) (.o1 .llen (.v 0))) (cpT 0 1000 ks fun ws => .ret (.next [.v 0, .o3 .upd (.v 1) (.v 2) (elemE ws), .o2 .iadd (.v 2) (.i 1)])) (.ret (.done 0 [.v 0, .v 1]))

def copyA (n : Nat) (ks : List Sk) : LoopT :=
  ⟨⟨n, 2, [(0, .slo 0 ks.length), (3, .slo 1 ks.length), (4, .one (.i .i64))], [⟨false, [], some ks⟩, ⟨true, [], some ks⟩]⟩,
    [.o2 .ile (.i 0) (.v 2), .o2 .ile (.o1 .llen (.v 0)) (.i 1048576), .o2 .ieq (.o1 .llen (.v 1)) (.o1 .llen (.v 0))],
    [(.exit 0, ⟨n, 2, [(3, .slo 1 ks.length)], [⟨false, [], some ks⟩, ⟨true, [], some ks⟩]⟩)]⟩

def copyRun (n : Nat) (ks : List Sk) : LRun := ⟨copyA n ks, fun _ => .i 0, fun _ es => [nmOf es 0, nmOf es 0], [.o2 .ieq (.v 2) (.i 0)], none, fun _ _ => []⟩

theorem cpT_ev : ∀ (ks : List Sk) (f nm : Nat) (r : Nat → D) (K : List E → Tree LRes), 1000 ≤ nm → ∃ ws r', evA U (cpT f nm ks K) r = evA U (K ws) r' ∧ (∀ n, n < nm → r' n = r n) ∧
    ws.map (E.ev U r') = (List.range ks.length).map fun j => ((r 0).at_ (r 2).toI.toNat).at_ (f + j) := by
  intro ks
  induction ks with
  | nil => intro f nm r K _; exact ⟨[], r, rfl, fun _ _ => rfl, rfl⟩
  | cons k ks ih =>
    intro f nm r K hnm
    have rng : ∀ g : Nat → D, (List.range (ks.length + 1)).map g = g 0 :: (List.range ks.length).map fun j => g (j + 1) := fun g => by
      rw [List.range_succ_eq_map]; simp
    have plain : cpT f nm (k :: ks) K = cpT (f + 1) nm ks (fun ws => K (fldE f :: ws)) → ∃ ws r', evA U (cpT f nm (k :: ks) K) r = evA U (K ws) r' ∧ (∀ n, n < nm → r' n = r n) ∧
        ws.map (E.ev U r') = (List.range (k :: ks).length).map fun j => ((r 0).at_ (r 2).toI.toNat).at_ (f + j) := by
      intro hc
      obtain ⟨ws, r', h1, h2, h3⟩ := ih (f + 1) nm r (fun ws => K (fldE f :: ws)) hnm
      refine ⟨fldE f :: ws, r', by rw [hc]; exact h1, h2, ?_⟩
      rw [List.length_cons, rng, List.map_cons, h3]
      congr 1
      · show ((r' 0).at_ (r' 2).toI.toNat).at_ ((f : Int)).toNat = _
        rw [h2 0 (by omega), h2 2 (by omega), Int.toNat_natCast]; rfl
      · apply List.map_congr_left; intro j _; congr 1; omega
    cases k with
    | f q =>
      obtain ⟨ws, r', h1, h2, h3⟩ := ih (f + 1) (nm + 1) (Tree.upd r nm ((fldE f).ev U r)) (fun ws => K (.v nm :: ws)) (by omega)
      have low : ∀ n, n < nm → r' n = r n := fun n hn => by
        rw [h2 n (by omega)]; unfold Tree.upd; rw [if_neg (by omega)]
      refine ⟨.v nm :: ws, r', h1, low, ?_⟩
      rw [List.length_cons, rng, List.map_cons, h3]
      have e0 : Tree.upd r nm ((fldE f).ev U r) 0 = r 0 := by unfold Tree.upd; rw [if_neg (by omega)]
      have e2 : Tree.upd r nm ((fldE f).ev U r) 2 = r 2 := by unfold Tree.upd; rw [if_neg (by omega)]
      rw [e0, e2]
      congr 1
      · show r' nm = _
        rw [h2 nm (by omega)]
        unfold Tree.upd
        rw [if_pos rfl]
        show ((r 0).at_ (r 2).toI.toNat).at_ ((f : Int)).toNat = _
        rw [Int.toNat_natCast]; rfl
      · apply List.map_congr_left; intro j _; congr 1; omega
    | b => exact plain rfl
    | i q => exact plain rfl
    | s => exact plain rfl
    | byte => exact plain rfl

theorem whole {ks : List Sk} {d : D} (h : ∃ fs, d = .l fs ∧ fs.length = ks.length) : D.l ((List.range ks.length).map fun j => d.at_ (0 + j)) = d := by
  obtain ⟨fs, rfl, hl⟩ := h
  congr 1
  apply List.ext_getElem
  · simp [hl]
  · intro i h1 h2
    simp only [List.getElem_map, List.getElem_range, Nat.zero_add]
    unfold D.at_
    rw [D.toL_l, List.getD_eq_getElem?_getD, List.getElem?_eq_getElem h2]; rfl

/-- A LOOP THAT COPIES A ROW. -/
theorem copy_told {n : Nat} {ks : List Sk} (hT : T = copyT ks) : Told U T (copyRun n ks) := by
  subst hT
  have key : ∀ (m : Nat) (a o d2 : D), 0 ≤ d2.toI → a.toL.length ≤ 1048576 → o.toL.length = a.toL.length → (∀ d ∈ a.toL, ∃ fs, d = .l fs ∧ fs.length = ks.length) → (∀ j : Nat, (j : Int) < d2.toI → o.toL[j]? = a.toL[j]?) → a.toL.length - d2.toI.toNat ≤ m →
      ∃ o', LoopTo U (copyA n ks).inv (copyT ks) [a, o, d2] 0 [a, o'] ∧ o'.toL = a.toL := by
    have hold : ∀ {a o d2 : D}, 0 ≤ d2.toI → a.toL.length ≤ 1048576 → o.toL.length = a.toL.length → HoldI U (copyA n ks).inv [a, o, d2] := by
      intro a o d2 h1 h2 h3 e he
      simp only [copyA, List.mem_cons, List.not_mem_nil, or_false] at he
      rcases he with rfl | rfl | rfl
      · exact decide_eq_true h1
      · refine decide_eq_true ?_
        show ((a.toL.length : Nat) : Int) ≤ 1048576
        omega
      · refine beq_iff_eq.2 ?_
        show ((o.toL.length : Nat) : Int) = ((a.toL.length : Nat) : Int)
        omega
    intro m
    induction m with
    | zero =>
      intro a o d2 h1 h2 h3 h4 h5 h6
      have hge : ¬ d2.toI < (a.toL.length : Int) := by omega
      refine ⟨o, ?_, ?_⟩
      · have hev : evA U (copyT ks) (rOf [a, o, d2]) = some (.done 0 [.v 0, .v 1], rOf [a, o, d2]) := by
          show (if decide (d2.toI < (a.toL.length : Int)) = true then _ else _) = _
          rw [if_neg (by simpa using hge)]; rfl
        exact .done (hold h1 h2 h3) hev
      · apply List.ext_getElem?
        intro j
        by_cases hj : (j : Int) < d2.toI
        · exact h5 j hj
        · rw [List.getElem?_eq_none (by omega), List.getElem?_eq_none (by omega)]
    | succ m ih =>
      intro a o d2 h1 h2 h3 h4 h5 h6
      by_cases hlt : d2.toI < (a.toL.length : Int)
      · obtain ⟨ws, r', k1, k2, k3⟩ := cpT_ev (U := U) ks 0 1000 (rOf [a, o, d2]) (fun ws => .ret (.next [.v 0, .o3 .upd (.v 1) (.v 2) (elemE ws), .o2 .iadd (.v 2) (.i 1)])) (Nat.le_refl _)
        have hev : evA U (copyT ks) (rOf [a, o, d2]) = some (.next [.v 0, .o3 .upd (.v 1) (.v 2) (elemE ws), .o2 .iadd (.v 2) (.i 1)], r') := by
          show (if decide (d2.toI < (a.toL.length : Int)) = true then _ else _) = _
          rw [if_pos (by simpa using hlt)]
          exact k1
        have hi : d2.toI.toNat < a.toL.length := by omega
        have hel : (elemE ws).ev U r' = a.toL[d2.toI.toNat] := by
          rw [elemE_ev, k3]
          have e0 : (rOf [a, o, d2] 0).at_ (rOf [a, o, d2] 2).toI.toNat = a.toL[d2.toI.toNat] := by
            show a.toL.getD d2.toI.toNat _ = _
            rw [List.getD_eq_getElem?_getD, List.getElem?_eq_getElem hi]; rfl
          rw [e0]
          exact whole (h4 _ (List.getElem_mem hi))
        have hnext : ([E.v 0, .o3 .upd (.v 1) (.v 2) (elemE ws), .o2 .iadd (.v 2) (.i 1)] : List E).map (E.ev U r') = [a, .l (o.toL.set d2.toI.toNat a.toL[d2.toI.toNat]), .i (d2.toI + 1)] := by
          simp only [List.map_cons, List.map_nil, E.ev, O3.ev, O2.ev, hel, k2 0 (by omega), k2 1 (by omega), k2 2 (by omega), D.toI_i]
          rfl
        obtain ⟨o', q1, q2⟩ := ih a (.l (o.toL.set d2.toI.toNat a.toL[d2.toI.toNat])) (.i (d2.toI + 1)) (by show 0 ≤ d2.toI + 1; omega) h2 (by simp [D.toL_l, h3]) h4 (fun j hj => by
          have hj : (j : Int) < d2.toI + 1 := hj
          rw [D.toL_l]
          by_cases hji : j = d2.toI.toNat
          · subst hji
            rw [List.getElem?_set_self (by omega), List.getElem?_eq_getElem hi]
          · rw [List.getElem?_set_ne (Ne.symm hji)]
            exact h5 j (by omega)) (by show a.toL.length - (d2.toI + 1).toNat ≤ m; omega)
        refine ⟨o', .next (hold h1 h2 h3) hev ?_, q2⟩
        rw [hnext]; exact q1
      · refine ⟨o, ?_, ?_⟩
        · have hev : evA U (copyT ks) (rOf [a, o, d2]) = some (.done 0 [.v 0, .v 1], rOf [a, o, d2]) := by
            show (if decide (d2.toI < (a.toL.length : Int)) = true then _ else _) = _
            rw [if_neg (by simpa using hlt)]; rfl
          exact .done (hold h1 h2 h3) hev
        · apply List.ext_getElem?
          intro j
          by_cases hj : (j : Int) < d2.toI
          · exact h5 j hj
          · rw [List.getElem?_eq_none (by omega), List.getElem?_eq_none (by omega)]
  intro r es hlen hI hE hS
  have hcnt : (copyA n ks).t.cnt = 3 := by rfl
  have hlen : es.length = 3 := hlen.trans hcnt
  match es, hlen with
  | [e0, e1, e2], _ =>
    have i0 := hI (.o2 .ile (.i 0) (.v 2)) (by simp [copyRun, copyA])
    have i1 := hI (.o2 .ile (.o1 .llen (.v 0)) (.i 1048576)) (by simp [copyRun, copyA])
    have i2 := hI (.o2 .ieq (.o1 .llen (.v 1)) (.o1 .llen (.v 0))) (by simp [copyRun, copyA])
    have i3 := hE (.o2 .ieq (.v 2) (.i 0)) (by simp [copyRun])
    have i1 : (((e0.ev U r).toL.length : Nat) : Int) ≤ 1048576 := of_decide_eq_true i1
    have i2 : (((e1.ev U r).toL.length : Nat) : Int) = (((e0.ev U r).toL.length : Nat) : Int) := beq_iff_eq.1 i2
    have i3 : (e2.ev U r).toI = 0 := beq_iff_eq.1 i3
    have hs : ∀ d ∈ (e0.ev U r).toL, ∃ fs, d = .l fs ∧ fs.length = ks.length := by
      refine hS 0 ⟨false, [], some ks⟩ ks rfl rfl ?_
      show (_ || _ || _) = true
      simp [copyRun, copyA, apartN, isSlo]
      exact .inl ⟨⟨rfl, rfl⟩, rfl⟩
    obtain ⟨o', q1, q2⟩ := key (e0.ev U r).toL.length (e0.ev U r) (e1.ev U r) (e2.ev U r) (by omega) (by omega) (by omega) hs (fun j hj => by omega) (by omega)
    refine ⟨0, _, q1, rfl, (fun _ hx => by cases hx), fun e to hto j => ?_⟩
    have hto : some (Ex.exit 0, _) = some (e, to) := hto
    cases hto
    match j with
    | 0 => exact .of_eq rfl
    | 1 => exact ⟨q2, fun h => absurd h (by show ¬ 2 ≤ 1; omega)⟩
    | j + 2 => exact .of_eq rfl
end

/-! ### Words over words -/

/-- Only words below a number are asked. -/
def E.lowW (N : Nat) : E → Bool
  | .app n x => Nat.blt n N && x.lowW N
  | .o1 _ x => x.lowW N
  | .o2 _ x y => x.lowW N && y.lowW N
  | .o3 _ x y z => x.lowW N && (y.lowW N && z.lowW N)
  | _ => true

def belowT (N : Nat) : Tree LRes → Bool
  | .ret (.next es) => es.all fun e => e.lowW N
  | .ret (.done _ es) => es.all fun e => e.lowW N
  | .ret .stuck => true
  | .ite c t e => c.lowW N && (belowT N t && belowT N e)
  | .chk c t => c.lowW N && belowT N t
  | .all _ t => belowT N t
  | .asm _ t => belowT N t
  | .bad => true

section
variable {U U' : Nat → D → D} {N : Nat}

theorem E.ev_lowW (hU : ∀ n, n < N → U n = U' n) {r : Nat → D} {e : E} (h : e.lowW N = true) : e.ev U r = e.ev U' r := by
  induction e with
  | app n x ih =>
    simp only [E.lowW, Bool.and_eq_true] at h
    have hn : n < N := by rw [← Nat.blt_eq]; exact h.1
    simp only [E.ev, ih h.2, hU n hn]
  | o1 o x ih => simp only [E.lowW] at h; simp only [E.ev, ih h]
  | o2 o x y ihx ihy => simp only [E.lowW, Bool.and_eq_true] at h; simp only [E.ev, ihx h.1, ihy h.2]
  | o3 o x y z ihx ihy ihz => simp only [E.lowW, Bool.and_eq_true] at h; simp only [E.ev, ihx h.1, ihy h.2.1, ihz h.2.2]
  | _ => rfl

theorem evA_below (hU : ∀ n, n < N → U n = U' n) : ∀ {t : Tree LRes} {r : Nat → D}, belowT N t = true → evA U t r = evA U' t r ∧ ∀ x r', evA U t r = some (x, r') → (match x with
    | .next es => es.map (E.ev U r') = es.map (E.ev U' r')
    | .done _ es => es.map (E.ev U r') = es.map (E.ev U' r')
    | .stuck => True) := by
  intro t
  induction t with
  | ret x =>
    intro r h
    refine ⟨rfl, fun y r' hy => ?_⟩
    simp only [evA, Option.some.injEq, Prod.mk.injEq] at hy
    obtain ⟨rfl, rfl⟩ := hy
    cases x with
    | stuck => trivial
    | next es =>
      simp only [belowT, List.all_eq_true] at h
      exact List.map_congr_left fun e he => E.ev_lowW hU (h e he)
    | done k es =>
      simp only [belowT, List.all_eq_true] at h
      exact List.map_congr_left fun e he => E.ev_lowW hU (h e he)
  | ite c t e iht ihe =>
    intro r h
    simp only [belowT, Bool.and_eq_true] at h
    simp only [evA]
    rw [← E.ev_lowW hU h.1]
    split
    · exact iht h.2.1
    · exact ihe h.2.2
  | chk c t ih =>
    intro r h
    simp only [belowT, Bool.and_eq_true] at h
    simp only [evA]
    split
    · rename_i i e
      have hc := h.1
      simp only [E.lowW, Bool.true_and] at hc
      rw [← E.ev_lowW hU hc]
      exact ih h.2
    · exact ⟨rfl, fun x r' hx => by cases hx⟩
  | all i t ih => intro r _; exact ⟨rfl, fun x r' hx => by cases hx⟩
  | asm c t ih => intro r _; exact ⟨rfl, fun x r' hx => by cases hx⟩
  | bad => intro r _; exact ⟨rfl, fun x r' hx => by cases hx⟩

theorem LoopTo.lowW {inv : List E} {T : Tree LRes} (hU : ∀ n, n < N → U n = U' n) (hi : (inv.all fun e => e.lowW N) = true) (hT : belowT N T = true) {ds : List D} {k : Nat} {os : List D} (h : LoopTo U inv T ds k os) : LoopTo U' inv T ds k os := by
  have hold : ∀ {ds : List D}, HoldI U inv ds → HoldI U' inv ds := fun {ds} hI e he => by
    rw [List.all_eq_true] at hi
    rw [← E.ev_lowW hU (hi e he)]; exact hI e he
  induction h with
  | done hI he =>
    obtain ⟨h1, h2⟩ := evA_below hU hT (r := rOf _)
    have := h2 _ _ he
    dsimp only at this
    rw [this]
    exact .done (hold hI) (by rw [← h1]; exact he)
  | next hI he _ ih =>
    obtain ⟨h1, h2⟩ := evA_below hU hT (r := rOf _)
    have := h2 _ _ he
    dsimp only at this
    rw [this] at ih
    exact .next (hold hI) (by rw [← h1]; exact he) ih

theorem loopVal_below {inv : List E} {T : Tree LRes} (hU : ∀ n, n < N → U n = U' n) (hi : (inv.all fun e => e.lowW N) = true) (hT : belowT N T = true) (d : D) : loopVal U inv T d = loopVal U' inv T d := by
  by_cases h : ∃ x : Nat × List D, LoopTo U inv T d.toL x.1 x.2
  · obtain ⟨⟨k, os⟩, hx⟩ := h
    have h1 := loopVal_eq hx
    have h2 := loopVal_eq (hx.lowW hU hi hT)
    have e1 : loopVal U inv T d = loopVal U inv T (.l d.toL) := rfl
    have e2 : loopVal U' inv T d = loopVal U' inv T (.l d.toL) := rfl
    rw [e1, e2, h1, h2]
  · have h' : ¬ ∃ x : Nat × List D, LoopTo U' inv T d.toL x.1 x.2 := fun ⟨x, hx⟩ => h ⟨x, hx.lowW (fun n hn => (hU n hn).symm) hi hT⟩
    unfold loopVal
    rw [dif_neg h, dif_neg h']

/-! ### A loop of the program -/

/-- The body of the loop that is told. -/
def bodyOf (code : Code) (k : Nat) : Code := ((loopsOf code)[k]?).getD .skip

theorem loops_one {U : Nat → D → D} {P : Program} {lo : Loops} {code : Code} (hlen : (loopsOf code).length = 1) (h : ∀ R, lo.at_ (bodyOf code 0) = some R → LRunOk U P (bodyOf code 0) R) : LoopsOk U P lo code := by
  intro b hb R hR
  have : b = bodyOf code 0 := by
    match hl : loopsOf code, hlen with
    | [x], _ =>
      rw [hl] at hb
      simp at hb
      rw [hb]; unfold bodyOf; rw [hl]; rfl
  subst this
  exact h R hR

theorem loops_none {U : Nat → D → D} {P : Program} {code : Code} : LoopsOk U P (fun _ => none) code := by
  intro b _ R hR
  unfold Loops.at_ at hR
  split at hR <;> cases hR

/-- One told loop in a function. -/
def oneLoop (key : Nat) (R : LRun) : Loops := fun n => bif Nat.beq n key then some R else none

theorem oneLoop_at {key : Nat} {R R' : LRun} {b : Code} (h : (oneLoop key R).at_ b = some R') : R' = R := by
  unfold Loops.at_ oneLoop at h
  split at h
  · rename_i n _
    cases hb : Nat.beq n key with
    | true => rw [hb] at h; simpa using h.symm
    | false => rw [hb] at h; cases h
  · cases h

/-- A FUNCTION WITH ONE TOLD LOOP. -/
theorem loopFn_entry {U : Nat → D → D} {P : Program} {f : FuncId} {fn : Func} {body : Code} {ct : Contracts} {key n : Nat} {R : LRun} (hm : P.follows .mixedOrders = true) (hn : NamesOk P) (hct : ContractsOk U P ct) (hf : P.funcs[f]? = some fn) (hb : fn.body = some body)
    (hlen : (loopsOf body).length = 1) (hwf : R.loop.wf = true) (hok : okA 1000 (mapT R.loop.leaf (execL P ct (fun _ => none) n (bodyOf body 0) R.loop.s0)) = true)
    (ht : Told U (mapT R.loop.leaf (execL P ct (fun _ => none) n (bodyOf body 0) R.loop.s0)) R) : EntryOk U P f (textL P ct (oneLoop key R) n fn body) :=
  textL_entry hm hn hct hf hb (loops_one hlen fun R' hR' => by
    rw [oneLoop_at hR']
    exact lrun_ok (execL_ok hm hn hct n _ loops_none) hwf hok ht)
end
end Go.Sx
