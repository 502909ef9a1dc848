/-
  Sx, part D: what one operation does to symbolic values, and that the model does it so.
-/
import Derived.Test.YtaflnmmnaiaceaaSxC
namespace Go.Sx
open E (mk1 mk2 mkIte mk1_ev mk2_ev mkIte_ev)

/-! ### Values of the program's text -/

def ofCell : Value → SV
  | .bool b => .bool (.b b)
  | .int k n => .int k (.i n)
  | .float k b => if b < 2 ^ k.format.width then .flt k (.f (cn k b)) else .con (.float k b)
  | .string s => .str (.s s.data.toList)
  | v => .con v

def ofValue : Value → SV
  | .agg cs => .agg (cs.toList.map ofCell)
  | v => ofCell v

section
variable {U : Nat → D → D} {L : Nat → Prop} {r : Nat → D} {g : Gh} {c : Cx} {w : World} {P : Program}

theorem ofCell_den (v : Value) : (ofCell v).den U r g L v := by
  cases v <;> simp only [ofCell]
  case float k b =>
    split
    · rename_i h; exact ⟨b, rfl, h, rfl⟩
    · rfl
  all_goals rfl

theorem denL_map_ofCell : ∀ (l : List Value), SV.denL U r g L (l.map ofCell) l
  | [] => by simp [SV.denL]
  | a :: l => by simp only [List.map, SV.denL]; exact ⟨ofCell_den a, denL_map_ofCell l⟩

theorem ofValue_den (v : Value) : (ofValue v).den U r g L v := by
  cases v with
  | agg cs => exact ⟨cs, rfl, denL_map_ofCell _⟩
  | _ => simp only [ofValue]; exact ofCell_den _

/-! ### Cells -/

/-- May it lie in one cell? -/
def SV.one : SV → Bool
  | .any | .agg _ | .tup _ => false
  | .con v => v.oneCell'
  | _ => true

theorem one_ok {s : SV} {v : Value} (h : s.one = true) (hd : s.den U r g L v) : v.oneCell' = true := by
  cases s with
  | any => simp [SV.one] at h
  | agg cs => simp [SV.one] at h
  | tup cs => simp [SV.one] at h
  | con u => simp only [SV.den] at hd; subst hd; exact h
  | bool e => simp only [SV.den] at hd; subst hd; rfl
  | int k e => simp only [SV.den] at hd; subst hd; rfl
  | flt k e => simp only [SV.den] at hd; obtain ⟨b, rfl, _⟩ := hd; rfl
  | str e => simp only [SV.den] at hd; subst hd; rfl
  | fb k e => simp only [SV.den] at hd; obtain ⟨b, rfl, _⟩ := hd; rfl
  | ptr id off => simp only [SV.den] at hd; obtain ⟨_, rfl⟩ := hd; rfl
  | sl id off sz len cap => simp only [SV.den] at hd; obtain ⟨_, _, _, rfl, _⟩ := hd; rfl
  | fn f xs ys => simp only [SV.den] at hd; obtain ⟨_, _, rfl, _⟩ := hd; rfl
  | slo id sz len => simp only [SV.den] at hd; obtain ⟨_, _, _, rfl, _⟩ := hd; rfl
  | ptrI id sz i f => simp only [SV.den] at hd; obtain ⟨_, _, rfl⟩ := hd; rfl

def SV.cells? : SV → Option (List SV)
  | .agg cs => if cs.all SV.one then some cs else none
  | s => if s.one then some [s] else none

theorem cells_of_one {v : Value} (h : v.oneCell' = true) : v.cells = #[v] := by
  cases v <;> first | rfl | simp [Value.oneCell'] at h

theorem cells_ok {s : SV} {v : Value} {cs : List SV} (h : s.cells? = some cs) (hd : s.den U r g L v) : SV.denL U r g L cs v.cells.toList ∧ (∀ x ∈ v.cells.toList, x.oneCell' = true) := by
  unfold SV.cells? at h
  split at h
  · rename_i cs'
    split at h
    · rename_i ha
      cases h
      simp only [SV.den] at hd
      obtain ⟨xs, rfl, hc⟩ := hd
      refine ⟨hc, fun x hx => ?_⟩
      obtain ⟨i, hi, rfl⟩ := List.getElem_of_mem hx
      have hi : i < xs.toList.length := hi
      have hl := SV.denL_length U r g L hc
      obtain ⟨v, hv, hd⟩ := SV.denL_get U r g L hc (i := i) (c := cs[i]'(by omega)) (by simp)
      have : v = xs.toList[i] := by
        rw [List.getElem?_eq_getElem hi] at hv; exact (Option.some.inj hv).symm
      subst this
      exact one_ok (List.all_eq_true.1 ha _ (List.getElem_mem _)) hd
    · cases h
  · split at h
    · rename_i h1
      cases h
      have h2 := one_ok h1 hd
      rw [cells_of_one h2]
      exact ⟨by simp only [SV.denL]; exact ⟨hd, trivial⟩, by simpa using h2⟩
    · cases h

/-! ### What is asked of an operation -/

/-- The run goes well, and 'K' holds of what it gives. -/
def VOk {α : Type} (P : Program) (s : Sem α) (w : World) (K : α → World → Prop) : Prop := ∃ v w', s.run P w = .ok v w' ∧ K v w'

theorem VOk.pure {α : Type} {a : α} {w : World} {K : α → World → Prop} (h : K a w) : VOk P (Pure.pure a) w K := ⟨a, w, rfl, h⟩
theorem VOk.bind {α β : Type} {s : Sem α} {f : α → Sem β} {w : World} {K : β → World → Prop} (h : VOk P s w fun a w' => VOk P (f a) w' K) : VOk P (s >>= f) w K := by
  obtain ⟨a, w', h1, b, w'', h2, h3⟩ := h
  exact ⟨b, w'', by rw [Sem.run_bind, h1]; exact h2, h3⟩
theorem VOk.mono {α : Type} {s : Sem α} {w : World} {K K' : α → World → Prop} (h : VOk P s w K) (hk : ∀ a w', K a w' → K' a w') : VOk P s w K' :=
  let ⟨a, w', h1, h2⟩ := h; ⟨a, w', h1, hk _ _ h2⟩

/-- The leaf of a step: in whatever memory it ends. -/
def Post (U : Nat → D → D) (L : Nat → Prop) (r : Nat → D) (g : Gh) (c : Cx) (w : World) (K : Value → World → Prop) (r' : Nat → D) (x : SV × Cx) : Prop :=
  ∀ g' v w', Ext U L r g c w r' g' x.2 w' → x.1.den U r' g' (Lx L c.h x.2.h) v → K v w'

theorem Post.same {K : Value → World → Prop} {s : SV} {pc : List (E × Bool)} (h : Post U L r g c w K r (s, { c with pc := pc })) (hh : HeapDen U r g L c.h w) (hp : PcOk U r pc) {w' : World} (hs : Same w w') {v : Value}
    (hd : s.den U r g L v) : K v w' :=
  h g v w' (ext_same hh hp hs) (by show s.den U r g (Lx L c.h c.h) v; rw [Lx_self]; exact hd)

/-- A plain value. -/
theorem Post.pureOk {K : Value → World → Prop} {s : SV} {pc : List (E × Bool)} (h : Post U L r g c w K r (s, { c with pc := pc })) (hh : HeapDen U r g L c.h w) (hp : PcOk U r pc) {v : Value} (hd : s.den U r g L v) : VOk P (Pure.pure v) w K :=
  .pure (h.same hh hp (Same.refl w) hd)

/-! ### Operations of two operands -/

def binI (c : Cx) (op : BinOp) (k : IntKind) (x y : E) : Tree (SV × Cx) :=
  match op with
  | .add => .ret (.int k (wrapC c.pc k (mk2 .iadd x y)), c)
  | .sub => .ret (.int k (wrapC c.pc k (mk2 .isub x y)), c)
  | .mul => .ret (.int k (wrapC c.pc k (mk2 .imul x y)), c)
  | .quo => br c (mk2 .ieq y (.i 0)) (fun _ => .bad) fun c => .ret (.int k (mk1 (.wrap k) (mk2 .itdiv x y)), c)
  | .rem => br c (mk2 .ieq y (.i 0)) (fun _ => .bad) fun c => .ret (.int k (mk2 .itmod x y), c)
  | .and => .ret (.int k (mk2 (.iand k) x y), c)
  | .or => .ret (.int k (mk2 (.ior k) x y), c)
  | .xor => .ret (.int k (mk2 (.ixor k) x y), c)
  | .andNot => .ret (.int k (mk2 (.iandn k) x y), c)
  | .eql => .ret (.bool (mk2 .ieq x y), c)
  | .neq => .ret (.bool (mk1 .not (mk2 .ieq x y)), c)
  | .lss => .ret (.bool (mk2 .ilt x y), c)
  | .leq => .ret (.bool (mk2 .ile x y), c)
  | .gtr => .ret (.bool (mk2 .ilt y x), c)
  | .geq => .ret (.bool (mk2 .ile y x), c)
  | _ => .bad

def shiftI (c : Cx) (op : BinOp) (k : IntKind) (x : E) (n : Int) : Tree (SV × Cx) :=
  if n < 0 then .bad else
  match op with
  | .shl => .ret (.int k (mk1 (.wrap k) (mk2 .ishl x (.i (min n.toNat k.bits : Nat)))), c)
  | .shr => .ret (.int k (mk2 .ishr x (.i (min n.toNat k.bits : Nat))), c)
  | _ => .bad

def binF (c : Cx) (op : BinOp) (k : FloatKind) (x y : E) : Tree (SV × Cx) :=
  match op with
  | .add => .ret (.flt k (mk2 (.fadd k) x y), c)
  | .sub => .ret (.flt k (mk2 (.fsub k) x y), c)
  | .mul => .ret (.flt k (mk2 (.fmul k) x y), c)
  | .quo => .ret (.flt k (mk2 (.fdiv k) x y), c)
  | .eql => .ret (.bool (mk2 (.feq k) x y), c)
  | .neq => .ret (.bool (mk1 .not (mk2 (.feq k) x y)), c)
  | .lss => .ret (.bool (mk2 (.flt k) x y), c)
  | .leq => .ret (.bool (mk2 (.fle k) x y), c)
  | .gtr => .ret (.bool (mk2 (.flt k) y x), c)
  | .geq => .ret (.bool (mk2 (.fle k) y x), c)
  | _ => .bad

def binS (c : Cx) (op : BinOp) (x y : E) : Tree (SV × Cx) :=
  match op with
  | .add => br c (mk2 .ile (mk2 .iadd (mk1 .slen x) (mk1 .slen y)) (.i 9223372036854775807)) (fun c => .ret (.str (mk2 .scat x y), c)) (fun _ => .bad)
  | .eql => .ret (.bool (mk2 .seq x y), c)
  | .neq => .ret (.bool (mk1 .not (mk2 .seq x y)), c)
  | .lss => .ret (.bool (mk2 .slt x y), c)
  | .geq => .ret (.bool (mk1 .not (mk2 .slt x y)), c)
  | _ => .bad

def binB (P : Program) (c : Cx) (op : BinOp) (t : TypeId) (x y : E) : Tree (SV × Cx) :=
  match P.underlying t with
  | some .bool =>
    match op with
    | .eql => .ret (.bool (mk2 .beq x y), c)
    | .neq => .ret (.bool (mk1 .not (mk2 .beq x y)), c)
    | _ => .bad
  | _ => .bad

/-- Surely nil, or surely not. -/
def SV.nil? : SV → Option Bool
  | .ptr _ _ | .sl _ _ _ _ _ | .fn _ _ _ => some false
  | .con (.pointer none) | .con (.slice none _ _) | .con .nilFunc => some true
  | _ => none

def binN (P : Program) (c : Cx) (op : BinOp) (t : TypeId) (x y : SV) : Tree (SV × Cx) :=
  match x.nil?, y.nil? with
  | some a, some b =>
    if a || b then
      match P.underlying t, op with
      | some (.pointer _), .eql | some (.slice _), .eql | some (.func _ _ _), .eql => .ret (.bool (.b (a && b)), c)
      | some (.pointer _), .neq | some (.slice _), .neq | some (.func _ _ _), .neq => .ret (.bool (.b (!(a && b))), c)
      | _, _ => .bad
    else .bad
  | _, _ => .bad

def bin (P : Program) (c : Cx) (op : BinOp) (t : TypeId) (x y : SV) : Tree (SV × Cx) :=
  match x, y with
  | .int k a, .int k' b =>
    match op with
    | .shl | .shr => match b with
      | .i n => shiftI c op k a n
      | _ => .bad
    | op => if k = k' then binI c op k a b else .bad
  | .flt k a, .flt k' b => if k = k' then binF c op k a b else .bad
  | .str a, .str b => binS c op a b
  | .bool a, .bool b => binB P c op t a b
  | .fb k e, .int k' (.i m) => if op = .andNot ∧ k' = ukOf k ∧ m = (k.format.signWeight : Int) then .ret (.fb k (mk1 (.fabs k) e), c) else .bad
  | _, _ => .bad

theorem floatArith_run (op : BinOp) (k : FloatKind) (x y : Nat) (w : World) (hop : op = .add ∨ op = .sub ∨ op = .mul ∨ op = .quo) :
    ∃ b w', (Op.floatArith op k x y).run P w = .ok (.float k b) w' ∧ b < 2 ^ k.format.width ∧ cn k b = fop op k x y ∧ Same w w' := by
  cases hf : fop op k x y with
  | some b =>
    refine ⟨b, w, ?_, fop_lt hf, cn_of_not (fop_not_nan hf), Same.refl w⟩
    unfold fop at hf
    rcases hop with rfl | rfl | rfl | rfl <;> simp only at hf <;> simp [Op.floatArith, hf]
  | none =>
    obtain ⟨h1, h2, h3⟩ := nan_drawn (.nanBits k x y) k (.inl ⟨x, y, rfl⟩) (w.tape w.drawn (.nanBits k x y))
    refine ⟨_, { w with drawn := w.drawn + 1 }, ?_, h2, h3, ⟨rfl, rfl, rfl, rfl⟩⟩
    unfold fop at hf
    rcases hop with rfl | rfl | rfl | rfl <;> simp only at hf <;> simp [Op.floatArith, hf, h1]

/-- The guard at '==' lets plain values by. -/
theorem eqGuard_by (op : BinOp) (t : TypeId) (ox oy : Operand) {x y : Value} (w : World) (hx : x ≠ .nilIface) (ha : ∀ cs, x ≠ .agg cs) : (eqGuard op t ox oy x y).run P w = .ok () w := by
  unfold eqGuard
  cases op <;> first
    | rfl
    | (cases x <;> first | rfl | exact absurd rfl hx | exact absurd rfl (ha _))

theorem toI_i (n : Int) : (E.ev U r (.i n)).toI = n := rfl

theorem sat_br {α : Type} {Q : (Nat → D) → α → Prop} {e : E} {t f : Cx → Tree α} (hp : PcOk U r c.pc) (h : (br c e t f).sat U Q r) :
    ∃ pc', PcOk U r pc' ∧ (((e.ev U r).toB = true ∧ (t { c with pc := pc' }).sat U Q r) ∨ ((e.ev U r).toB = false ∧ (f { c with pc := pc' }).sat U Q r)) := br_sat hp h

theorem binI_ok {K : Value → World → Prop} {op : BinOp} {k : IntKind} {t : TypeId} {x y : E} (hh : HeapDen U r g L c.h w) (hp : PcOk U r c.pc) (h : (binI c op k x y).sat U (Post U L r g c w K) r)
    (h1 : op ≠ .shl) (h2 : op ≠ .shr) : VOk P (Go.binOp op t (.int k (x.ev U r).toI) (.int k (y.ev U r).toI)) w K := by
  cases op <;> simp only [binI] at h <;> (try exact h.elim) <;> (try exact absurd rfl h1) <;> (try exact absurd rfl h2)
  case quo =>
    obtain ⟨pc, hp', h | h⟩ := sat_br hp h
    · exact h.2.elim
    · have hy : (y.ev U r).toI ≠ 0 := by
        have := h.1; rw [mk2_ev] at this; simpa [O2.ev, D.toB, E.ev, D.toI] using this
      simp only [Go.binOp, ne_eq, not_true_eq_false, if_false, Op.intDiv, if_neg hy]
      exact Post.pureOk h.2 hh hp' (by simp only [SV.den, mk1_ev, mk2_ev]; rfl)
  case rem =>
    obtain ⟨pc, hp', h | h⟩ := sat_br hp h
    · exact h.2.elim
    · have hy : (y.ev U r).toI ≠ 0 := by
        have := h.1; rw [mk2_ev] at this; simpa [O2.ev, D.toB, E.ev, D.toI] using this
      simp only [Go.binOp, ne_eq, not_true_eq_false, if_false, Op.intDiv, if_neg hy]
      exact Post.pureOk h.2 hh hp' (by simp only [SV.den, mk2_ev]; rfl)
  all_goals
    simp only [Go.binOp, ne_eq, not_true_eq_false, if_false, Op.intArith, Op.intBits, Op.intCmp]
    refine Post.pureOk h hh hp ?_
    first
      | (show Value.int k _ = Value.int k _; rw [wrapC_ev hp, mk2_ev]; rfl)
      | (simp only [SV.den, mk1_ev, mk2_ev, O1.ev, O2.ev, D.toI, D.toB]; try rfl)

theorem shiftI_ok {K : Value → World → Prop} {op : BinOp} {k k' : IntKind} {t : TypeId} {x : E} {n : Int} (hh : HeapDen U r g L c.h w) (hp : PcOk U r c.pc) (h : (shiftI c op k x n).sat U (Post U L r g c w K) r) :
    VOk P (Go.binOp op t (.int k (x.ev U r).toI) (.int k' n)) w K := by
  unfold shiftI at h
  split at h
  · exact h.elim
  · rename_i hn
    cases op <;> simp only at h <;> (try exact h.elim)
    all_goals
      simp only [Go.binOp, Op.shift, if_neg hn]
      refine Post.pureOk h hh hp ?_
      simp only [SV.den, mk1_ev, mk2_ev, O1.ev, O2.ev, D.toI, E.ev]
      try rfl

theorem fop_ev {op : BinOp} {k : FloatKind} {p q : Nat} {x y : Fl} (hp : cn k p = x) (hq : cn k q = y) : fop op k p q = Fl.op op k x y := by
  rw [← hp, ← hq, op_cn]

theorem binF_ok {K : Value → World → Prop} {op : BinOp} {k : FloatKind} {t : TypeId} {x y : E} {p q : Nat} (hh : HeapDen U r g L c.h w) (hpc : PcOk U r c.pc) (h : (binF c op k x y).sat U (Post U L r g c w K) r)
    (hx : cn k p = (x.ev U r).toF) (hy : cn k q = (y.ev U r).toF) : VOk P (Go.binOp op t (.float k p) (.float k q)) w K := by
  have ho := ord_cn k p q
  rw [hx, hy] at ho
  cases op <;> simp only [binF] at h <;> (try exact h.elim)
  case add =>
    obtain ⟨b, w', h1, h2, h3, h4⟩ := floatArith_run (P := P) .add k p q w (.inl rfl)
    refine ⟨_, w', by simp only [Go.binOp, ne_eq, not_true_eq_false, if_false]; exact h1, Post.same h hh hpc h4 ⟨b, rfl, h2, ?_⟩⟩
    rw [h3, fop_ev hx hy, mk2_ev]; rfl
  case sub =>
    obtain ⟨b, w', h1, h2, h3, h4⟩ := floatArith_run (P := P) .sub k p q w (.inr (.inl rfl))
    refine ⟨_, w', by simp only [Go.binOp, ne_eq, not_true_eq_false, if_false]; exact h1, Post.same h hh hpc h4 ⟨b, rfl, h2, ?_⟩⟩
    rw [h3, fop_ev hx hy, mk2_ev]; rfl
  case mul =>
    obtain ⟨b, w', h1, h2, h3, h4⟩ := floatArith_run (P := P) .mul k p q w (.inr (.inr (.inl rfl)))
    refine ⟨_, w', by simp only [Go.binOp, ne_eq, not_true_eq_false, if_false]; exact h1, Post.same h hh hpc h4 ⟨b, rfl, h2, ?_⟩⟩
    rw [h3, fop_ev hx hy, mk2_ev]; rfl
  case quo =>
    obtain ⟨b, w', h1, h2, h3, h4⟩ := floatArith_run (P := P) .quo k p q w (.inr (.inr (.inr rfl)))
    refine ⟨_, w', by simp only [Go.binOp, ne_eq, not_true_eq_false, if_false]; exact h1, Post.same h hh hpc h4 ⟨b, rfl, h2, ?_⟩⟩
    rw [h3, fop_ev hx hy, mk2_ev]; rfl
  case gtr =>
    simp only [Go.binOp, ne_eq, not_true_eq_false, if_false, Op.floatCmp]
    refine Post.pureOk h hh hpc ?_
    simp only [SV.den, mk2_ev, O2.ev, D.toB]
    rw [← gt_swap]; simp only [Fl.gt, ho]
  case geq =>
    simp only [Go.binOp, ne_eq, not_true_eq_false, if_false, Op.floatCmp]
    refine Post.pureOk h hh hpc ?_
    simp only [SV.den, mk2_ev, O2.ev, D.toB]
    rw [← ge_swap]; simp only [Fl.ge, ho]
  all_goals
    simp only [Go.binOp, ne_eq, not_true_eq_false, if_false, Op.floatCmp]
    refine Post.pureOk h hh hpc ?_
    simp only [SV.den, mk1_ev, mk2_ev, O1.ev, O2.ev, D.toB, Fl.eq, Fl.lt, Fl.le, ho]
    try rfl

theorem binS_ok {K : Value → World → Prop} {op : BinOp} {t : TypeId} {x y : E} (hh : HeapDen U r g L c.h w) (hp : PcOk U r c.pc) (h : (binS c op x y).sat U (Post U L r g c w K) r) :
    VOk P (Go.binOp op t (.string (x.ev U r).toS) (.string (y.ev U r).toS)) w K := by
  cases op <;> simp only [binS] at h <;> (try exact h.elim)
  case add =>
    obtain ⟨pc, hp', h | h⟩ := sat_br hp h
    · have hle : ¬ ((((x.ev U r).toS.size + (y.ev U r).toS.size : Nat) : Int) > IntKind.i64.max) := by
        have := h.1
        simp only [mk2_ev, mk1_ev, O2.ev, O1.ev, D.toB, D.toI, E.ev, decide_eq_true_eq] at this
        have e : IntKind.i64.max = 9223372036854775807 := by decide
        rw [e]; omega
      simp only [Go.binOp, Op.stringOp, if_neg hle]
      exact Post.pureOk h.2 hh hp' (by simp only [SV.den, mk2_ev]; rfl)
    · exact h.2.elim
  all_goals
    simp only [Go.binOp, Op.stringOp]
    refine Post.pureOk h hh hp ?_
    simp only [SV.den, mk1_ev, mk2_ev, O1.ev, O2.ev, D.toB]

theorem binB_ok {K : Value → World → Prop} {op : BinOp} {t : TypeId} {x y : E} (hh : HeapDen U r g L c.h w) (hp : PcOk U r c.pc) (h : (binB P c op t x y).sat U (Post U L r g c w K) r) :
    VOk P (Go.binOp op t (.bool (x.ev U r).toB) (.bool (y.ev U r).toB)) w K := by
  unfold binB at h
  split at h
  · rename_i hu
    have he : ∀ a b w, (Op.equal t (.bool a) (.bool b)).run P w = .ok (a == b) w := by
      intro a b w
      have key : ∀ d, (Op.equalIn (d + 1) t (.bool a) (.bool b)).run P w = .ok (a == b) w := by
        intro d; rw [Op.equalIn, Sem.run_bind, run_und hu]; rfl
      exact key 9999
    cases op <;> simp only at h <;> (try exact h.elim)
    · refine ⟨.bool ((x.ev U r).toB == (y.ev U r).toB), w, by simp [Go.binOp, he], Post.same h hh hp (Same.refl w) ?_⟩
      simp only [SV.den, mk2_ev]; rfl
    · refine ⟨.bool (!((x.ev U r).toB == (y.ev U r).toB)), w, by simp [Go.binOp, he], Post.same h hh hp (Same.refl w) ?_⟩
      simp only [SV.den, mk1_ev, mk2_ev]; rfl
  · exact h.elim

theorem clear_sign (k : FloatKind) {b : Nat} (hb : b < 2 ^ k.format.width) : (ukOf k).wrap (BitVec.ofInt (ukOf k).bits (b : Int) &&& ~~~ BitVec.ofInt (ukOf k).bits (k.format.signWeight : Int)).toNat = ((b % k.format.signWeight : Nat) : Int) := by
  cases k with
  | f32 =>
    show IntKind.u32.wrap (BitVec.ofInt 32 (b : Int) &&& ~~~ BitVec.ofInt 32 2147483648).toNat = ((b % 2147483648 : Nat) : Int)
    have hb : b < 4294967296 := hb
    have h1 : ~~~ BitVec.ofInt 32 2147483648 = BitVec.ofNat 32 2147483647 := by decide
    have h2 : (BitVec.ofInt 32 (b : Int) &&& BitVec.ofNat 32 2147483647).toNat = b % 2147483648 := by
      rw [BitVec.ofInt_natCast, BitVec.toNat_and, BitVec.toNat_ofNat, BitVec.toNat_ofNat, Nat.mod_eq_of_lt hb]
      exact Nat.and_two_pow_sub_one_eq_mod b 31
    rw [h1, h2, IntKind.wrap_u32]
    omega
  | f64 =>
    show IntKind.u64.wrap (BitVec.ofInt 64 (b : Int) &&& ~~~ BitVec.ofInt 64 9223372036854775808).toNat = ((b % 9223372036854775808 : Nat) : Int)
    have hb : b < 18446744073709551616 := hb
    have h1 : ~~~ BitVec.ofInt 64 9223372036854775808 = BitVec.ofNat 64 9223372036854775807 := by decide
    have h2 : (BitVec.ofInt 64 (b : Int) &&& BitVec.ofNat 64 9223372036854775807).toNat = b % 9223372036854775808 := by
      rw [BitVec.ofInt_natCast, BitVec.toNat_and, BitVec.toNat_ofNat, BitVec.toNat_ofNat, Nat.mod_eq_of_lt hb]
      exact Nat.and_two_pow_sub_one_eq_mod b 63
    rw [h1, h2, IntKind.wrap_u64]
    omega

theorem abs_cn (k : FloatKind) {b : Nat} : cn k (b % k.format.signWeight) = Fl.abs k (cn k b) := by
  have hn : isNanW k (b % k.format.signWeight) = isNanW k b := by rw [isNanW_eq, isNanW_eq, Nat.mod_mod]
  unfold cn
  rw [hn]
  split <;> rfl

theorem bin_ok {K : Value → World → Prop} {op : BinOp} {t : TypeId} {x y : SV} {vx vy : Value} (ox oy : Operand) (hh : HeapDen U r g L c.h w) (hp : PcOk U r c.pc) (hx : x.den U r g L vx) (hy : y.den U r g L vy)
    (h : (bin P c op t x y).sat U (Post U L r g c w K) r) : VOk P (do eqGuard op t ox oy vx vy; Go.binOp op t vx vy) w K := by
  have key : VOk P (Go.binOp op t vx vy) w K ∧ vx ≠ .nilIface ∧ ∀ cs, vx ≠ .agg cs := by
    unfold bin at h
    split at h
    · simp only [SV.den] at hx hy
      subst hx hy
      refine ⟨?_, by simp, by simp⟩
      split at h
      · split at h
        · exact shiftI_ok hh hp h
        · exact h.elim
      · split at h
        · exact shiftI_ok hh hp h
        · exact h.elim
      · split at h
        · rename_i h1 h2 hk; subst hk; exact binI_ok hh hp h h1 h2
        · exact h.elim
    · simp only [SV.den] at hx hy
      obtain ⟨p, rfl, hp1, hp2⟩ := hx
      obtain ⟨q, rfl, hq1, hq2⟩ := hy
      refine ⟨?_, by simp, by simp⟩
      split at h
      · rename_i hk; subst hk; exact binF_ok hh hp h hp2 hq2
      · exact h.elim
    · simp only [SV.den] at hx hy
      subst hx hy
      exact ⟨binS_ok hh hp h, by simp, by simp⟩
    · simp only [SV.den] at hx hy
      subst hx hy
      exact ⟨binB_ok hh hp h, by simp, by simp⟩
    · rename_i k e k' m
      simp only [SV.den] at hx hy
      obtain ⟨b, rfl, hb1, hb2⟩ := hx
      subst hy
      refine ⟨?_, by simp, by simp⟩
      split at h
      · rename_i hc
        obtain ⟨rfl, rfl, rfl⟩ := hc
        have hlt : b % k.format.signWeight < 2 ^ k.format.width := by
          obtain ⟨h0, h1, h2, h3, _⟩ := fmt_consts k
          have := Nat.mod_lt b (show k.format.signWeight > 0 by omega)
          omega
        have he := clear_sign k hb1
        simp only [Go.binOp, ne_eq, not_true_eq_false, if_false, Op.intBits, E.ev, D.toI]
        refine Post.pureOk h hh hp ?_
        simp only [SV.den, mk1_ev, O1.ev]
        refine ⟨b % k.format.signWeight, ?_, hlt, by rw [abs_cn, hb2]; rfl⟩
        congr 1
      · exact h.elim
    · exact h.elim
  refine VOk.bind ⟨(), w, eqGuard_by op t ox oy w key.2.1 key.2.2, key.1⟩

end
end Go.Sx
