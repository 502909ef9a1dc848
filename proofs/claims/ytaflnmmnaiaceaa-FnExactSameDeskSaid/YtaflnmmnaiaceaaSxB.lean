/-
  Sx, part B: symbolic values and memory, what they stand for, and trees of ways.
-/
import Derived.Test.YtaflnmmnaiaceaaSxAl
namespace Go.Sx

/-- Kinds of plain values. -/
inductive Sk where
  | b
  | i (k : IntKind)
  | f (k : FloatKind)
  | s

/-- A plain value stands for a value. -/
def Sk.den : Sk → D → Value → Prop
  | .b, d, v => v = .bool d.toB
  | .i q, d, v => v = .int q d.toI
  | .f q, d, v => ∃ b, v = .float q b ∧ b < 2 ^ q.format.width ∧ cn q b = d.toF
  | .s, d, v => v = .string d.toS

/-- Cells from 'o' on hold a row: its elements one after another, each with its fields. -/
def RowDen (ks : List Sk) (ds : List D) (o : Nat) (xs : Array Value) : Prop :=
  ∀ (i : Nat) (d : D), ds[i]? = some d → (∃ fs, d = .l fs ∧ fs.length = ks.length) ∧ ∀ (f : Nat) (k : Sk), ks[f]? = some k → ∃ v, xs[o + (i * ks.length + f)]? = some v ∧ k.den (d.at_ f) v

/-- A symbolic value. 'slo id sz len': a slice of a block that holds a row, from the row's begin on; or nil. 'ptrI id sz i f': into element 'i' of such a row. 'ptr id off': into the symbolic block 'id'. 'sl': a slice that begins there; 'sz': cells an element; 'cap': where it is told. 'con': just this value. -/
inductive SV where
  | any
  | bool (e : E)
  | int (k : IntKind) (e : E)
  | flt (k : FloatKind) (e : E)
  | str (e : E)
  | ptr (id off : Nat)
  | sl (id off sz : Nat) (len : E) (cap : Option E)
  | con (v : Value)
  | agg (cs : List SV)
  | tup (vs : List SV)
  | fn (f : Fn) (xs ys : List SV)
  | fb (k : FloatKind) (e : E)
  | slo (id sz : Nat) (len : E)
  | ptrI (id sz : Nat) (i : E) (f : Nat)

instance : Inhabited SV := ⟨.any⟩

/-- The whole numbers that hold a float's bits. -/
def ukOf : FloatKind → IntKind
  | .f32 => .u32
  | .f64 => .u64

/-- Where a symbolic block lies, and how many cells it has in truth. -/
structure Gh where
  a : Nat → Nat
  n : Nat → Nat
  o : Nat → Nat

section
variable (U : Nat → D → D) (r : Nat → D) (g : Gh) (L : Nat → Prop)

mutual
def SV.den : SV → Value → Prop
  | .any, _ => True
  | .bool e, v => v = .bool (e.ev U r).toB
  | .int k e, v => v = .int k (e.ev U r).toI
  | .flt k e, v => ∃ b, v = .float k b ∧ b < 2 ^ k.format.width ∧ cn k b = (e.ev U r).toF
  | .str e, v => v = .string (e.ev U r).toS
  | .ptr id off, v => L id ∧ v = .pointer (some ⟨g.a id, off, none⟩)
  | .sl id off sz len cap, v => L id ∧ 0 ≤ (len.ev U r).toI ∧ ∃ c, v = .slice (some ⟨g.a id, off, none⟩) (len.ev U r).toI.toNat c ∧ (len.ev U r).toI.toNat ≤ c ∧ off + c * sz ≤ g.n id ∧ ∀ e, cap = some e → c = (e.ev U r).toI.toNat
  | .con u, v => v = u
  | .agg cs, v => ∃ xs : Array Value, v = .agg xs ∧ SV.denL cs xs.toList
  | .tup cs, v => ∃ xs : Array Value, v = .tuple xs ∧ SV.denL cs xs.toList
  | .fb k e, v => ∃ b : Nat, v = .int (ukOf k) b ∧ b < 2 ^ k.format.width ∧ cn k b = (e.ev U r).toF
  | .slo id sz len, v => 0 ≤ (len.ev U r).toI ∧ ∃ base c, v = .slice base (len.ev U r).toI.toNat c ∧ (len.ev U r).toI.toNat ≤ c ∧
    (c = 0 ∨ (L id ∧ base = some ⟨g.a id, g.o id, none⟩ ∧ g.o id + c * sz ≤ g.n id))
  | .ptrI id sz i f, v => L id ∧ 0 ≤ (i.ev U r).toI ∧ v = .pointer (some ⟨g.a id, g.o id + ((i.ev U r).toI.toNat * sz + f), none⟩)
  | .fn f xs ys, v => ∃ p q : Array Value, v = .func f p q ∧ SV.denL xs p.toList ∧ SV.denL ys q.toList
def SV.denL : List SV → List Value → Prop
  | [], [] => True
  | a :: l, b :: m => SV.den a b ∧ SV.denL l m
  | _, _ => False
end

theorem SV.denL_length {l : List SV} : ∀ {m : List Value}, SV.denL U r g L l m → l.length = m.length := by
  induction l with
  | nil => intro m h; cases m <;> simp_all [SV.denL]
  | cons a l ih => intro m h; cases m with
    | nil => simp [SV.denL] at h
    | cons b m => simp only [SV.denL] at h; simp [ih h.2]

theorem SV.denL_get {l : List SV} : ∀ {m : List Value}, SV.denL U r g L l m → ∀ {i : Nat} {c : SV}, l[i]? = some c → ∃ v, m[i]? = some v ∧ c.den U r g L v := by
  induction l with
  | nil => intro m h i c hc; simp at hc
  | cons a l ih => intro m h i c hc; cases m with
    | nil => simp [SV.denL] at h
    | cons b m =>
      simp only [SV.denL] at h
      cases i with
      | zero => simp at hc; subst hc; exact ⟨b, by simp, h.1⟩
      | succ i => simp at hc; obtain ⟨v, hv, hd⟩ := ih h.2 hc; exact ⟨v, by simpa using hv, hd⟩

theorem SV.denL_of {l : List SV} : ∀ {m : List Value}, l.length = m.length → (∀ (i : Nat) (c : SV) (v : Value), l[i]? = some c → m[i]? = some v → c.den U r g L v) → SV.denL U r g L l m := by
  induction l with
  | nil => intro m h _; cases m <;> simp_all [SV.denL]
  | cons a l ih => intro m h hp; cases m with
    | nil => simp at h
    | cons b m =>
      simp only [SV.denL]
      exact ⟨hp 0 a b (by simp) (by simp), ih (by simpa using h) fun i c v h1 h2 => hp (i + 1) c v (by simpa using h1) (by simpa using h2)⟩

theorem SV.denL_append {l l' : List SV} {m m' : List Value} (h : SV.denL U r g L l m) (h' : SV.denL U r g L l' m') : SV.denL U r g L (l ++ l') (m ++ m') := by
  induction l generalizing m with
  | nil => cases m <;> simp_all [SV.denL]
  | cons a l ih => cases m with
    | nil => simp [SV.denL] at h
    | cons b m => simp only [SV.denL, List.cons_append] at h ⊢; exact ⟨h.1, ih h.2⟩
end

/-- What is known of more places, at the same addresses. -/
structure GLe (g : Gh) (L : Nat → Prop) (g' : Gh) (L' : Nat → Prop) : Prop where
  on : ∀ id, L id → L' id ∧ g'.a id = g.a id ∧ g'.n id = g.n id
  off : ∀ id, L id → g'.o id = g.o id

section
variable {U : Nat → D → D} {r r' : Nat → D} {g g' : Gh} {L L' : Nat → Prop}

mutual
theorem SV.den_mono (h : GLe g L g' L') : ∀ {s : SV} {v : Value}, s.den U r g L v → s.den U r g' L' v
  | .any, _, _ => by simp [SV.den]
  | .bool e, v, hd => hd
  | .int k e, v, hd => hd
  | .flt k e, v, hd => hd
  | .str e, v, hd => hd
  | .fb k e, v, hd => hd
  | .con u, v, hd => hd
  | .ptr id off, v, hd => by
    simp only [SV.den] at hd ⊢
    obtain ⟨h1, h2, _⟩ := h.on id hd.1
    exact ⟨h1, by rw [h2]; exact hd.2⟩
  | .sl id off sz len cap, v, hd => by
    simp only [SV.den] at hd ⊢
    obtain ⟨hl, h0, c, hv, h3, h4, h5⟩ := hd
    obtain ⟨h1, h2, h6⟩ := h.on id hl
    exact ⟨h1, h0, c, by rw [h2]; exact hv, h3, by rw [h6]; exact h4, h5⟩
  | .slo id sz len, v, hd => by
    simp only [SV.den] at hd ⊢
    obtain ⟨h0, base, c, hv, h3, h4⟩ := hd
    refine ⟨h0, base, c, hv, h3, ?_⟩
    rcases h4 with h4 | ⟨hl, h4, h5⟩
    · exact .inl h4
    · obtain ⟨h1, h2, h6⟩ := h.on id hl
      exact .inr ⟨h1, by rw [h2, h.off id hl]; exact h4, by rw [h6, h.off id hl]; exact h5⟩
  | .ptrI id sz i f, v, hd => by
    simp only [SV.den] at hd ⊢
    obtain ⟨h1, h2, _⟩ := h.on id hd.1
    exact ⟨h1, hd.2.1, by rw [h2, h.off id hd.1]; exact hd.2.2⟩
  | .agg cs, v, hd => by
    simp only [SV.den] at hd ⊢
    obtain ⟨xs, hv, hc⟩ := hd
    exact ⟨xs, hv, SV.denL_mono h hc⟩
  | .tup cs, v, hd => by
    simp only [SV.den] at hd ⊢
    obtain ⟨xs, hv, hc⟩ := hd
    exact ⟨xs, hv, SV.denL_mono h hc⟩
  | .fn f xs ys, v, hd => by
    simp only [SV.den] at hd ⊢
    obtain ⟨p, q, hv, hc, hc'⟩ := hd
    exact ⟨p, q, hv, SV.denL_mono h hc, SV.denL_mono h hc'⟩
theorem SV.denL_mono (h : GLe g L g' L') : ∀ {s : List SV} {v : List Value}, SV.denL U r g L s v → SV.denL U r g' L' s v
  | [], [], _ => by simp [SV.denL]
  | [], _ :: _, hd => by simp [SV.denL] at hd
  | _ :: _, [], hd => by simp [SV.denL] at hd
  | a :: l, b :: m, hd => by
    simp only [SV.denL] at hd ⊢
    exact ⟨SV.den_mono h hd.1, SV.denL_mono h hd.2⟩
end

mutual
/-- All variables of a value are below a number. -/
def SV.under (m : Nat) : SV → Bool
  | .bool e | .int _ e | .flt _ e | .str e | .fb _ e => e.under m
  | .sl _ _ _ len cap => len.under m && (match cap with | some e => e.under m | none => true)
  | .slo _ _ len => len.under m
  | .ptrI _ _ i _ => i.under m
  | .agg cs | .tup cs => SV.underL m cs
  | .fn _ xs ys => SV.underL m xs && SV.underL m ys
  | _ => true
def SV.underL (m : Nat) : List SV → Bool
  | [] => true
  | a :: l => SV.under m a && SV.underL m l
end

mutual
theorem SV.den_under {m : Nat} (hr : ∀ n, n < m → r' n = r n) : ∀ {s : SV} {v : Value}, s.under m = true → s.den U r g L v → s.den U r' g L v
  | .any, _, _, _ => by simp [SV.den]
  | .bool e, v, hu, hd => by simp only [SV.under] at hu; simp only [SV.den] at hd ⊢; rw [E.ev_under U hr hu]; exact hd
  | .int k e, v, hu, hd => by simp only [SV.under] at hu; simp only [SV.den] at hd ⊢; rw [E.ev_under U hr hu]; exact hd
  | .flt k e, v, hu, hd => by simp only [SV.under] at hu; simp only [SV.den] at hd ⊢; rw [E.ev_under U hr hu]; exact hd
  | .str e, v, hu, hd => by simp only [SV.under] at hu; simp only [SV.den] at hd ⊢; rw [E.ev_under U hr hu]; exact hd
  | .fb k e, v, hu, hd => by simp only [SV.under] at hu; simp only [SV.den] at hd ⊢; rw [E.ev_under U hr hu]; exact hd
  | .con u, v, _, hd => hd
  | .ptr id off, v, _, hd => hd
  | .sl id off sz len cap, v, hu, hd => by
    simp only [SV.under, Bool.and_eq_true] at hu
    simp only [SV.den] at hd ⊢
    rw [E.ev_under U hr hu.1]
    obtain ⟨hl, h0, c, hv, h3, h4, h5⟩ := hd
    refine ⟨hl, h0, c, hv, h3, h4, fun e he => ?_⟩
    subst he
    rw [E.ev_under U hr hu.2]
    exact h5 e rfl
  | .slo id sz len, v, hu, hd => by
    simp only [SV.under] at hu
    simp only [SV.den] at hd ⊢
    rw [E.ev_under U hr hu]
    exact hd
  | .ptrI id sz i f, v, hu, hd => by
    simp only [SV.under] at hu
    simp only [SV.den] at hd ⊢
    rw [E.ev_under U hr hu]
    exact hd
  | .agg cs, v, hu, hd => by
    simp only [SV.under] at hu
    simp only [SV.den] at hd ⊢
    obtain ⟨xs, hv, hc⟩ := hd
    exact ⟨xs, hv, SV.denL_under hr hu hc⟩
  | .tup cs, v, hu, hd => by
    simp only [SV.under] at hu
    simp only [SV.den] at hd ⊢
    obtain ⟨xs, hv, hc⟩ := hd
    exact ⟨xs, hv, SV.denL_under hr hu hc⟩
  | .fn f xs ys, v, hu, hd => by
    simp only [SV.under, Bool.and_eq_true] at hu
    simp only [SV.den] at hd ⊢
    obtain ⟨p, q, hv, hc, hc'⟩ := hd
    exact ⟨p, q, hv, SV.denL_under hr hu.1 hc, SV.denL_under hr hu.2 hc'⟩
theorem SV.denL_under {m : Nat} (hr : ∀ n, n < m → r' n = r n) : ∀ {s : List SV} {v : List Value}, SV.underL m s = true → SV.denL U r g L s v → SV.denL U r' g L s v
  | [], [], _, _ => by simp [SV.denL]
  | [], _ :: _, _, hd => by simp [SV.denL] at hd
  | _ :: _, [], _, hd => by simp [SV.denL] at hd
  | a :: l, b :: m, hu, hd => by
    simp only [SV.underL, Bool.and_eq_true] at hu
    simp only [SV.denL] at hd ⊢
    exact ⟨SV.den_under hr hu.1 hd.1, SV.denL_under hr hu.2 hd.2⟩
end
end

/-! ### Memory -/

/-- A block: may it be written; its first cells; or a row from its begin on. -/
structure SB where
  wr : Bool
  cs : List SV
  row : Option (List Sk × E) := none

/-- 'none': of this block nothing is known any more. -/
abbrev SH := List (Option SB)

/-- What goes with a walk: memory, the next variable, what the way has met. -/
structure Cx where
  h : SH
  nv : Nat
  pc : List (E × Bool)

section
variable (U : Nat → D → D)

structure HeapDen (r : Nat → D) (g : Gh) (L : Nat → Prop) (H : SH) (w : World) : Prop where
  bnd : ∀ id, L id → id < H.length
  lt : ∀ id, L id → g.a id < w.heap.size
  blk : ∀ id b, L id → H[id]? = some (some b) → ∃ xs t fz, w.heap[g.a id]? = some (.cells xs t fz) ∧ xs.size = g.n id ∧ (b.wr = true → fz = (0, 0)) ∧ b.cs.length ≤ xs.size ∧
    ∀ (j : Nat) (c : SV), b.cs[j]? = some c → ∃ v, xs[j]? = some v ∧ c.den U r g L v
  inj : ∀ i j b b', L i → L j → H[i]? = some (some b) → b.wr = true → H[j]? = some (some b') → g.a i = g.a j → i = j
  rows : ∀ id b ks e, L id → H[id]? = some (some b) → b.row = some (ks, e) → ∃ xs t fz, w.heap[g.a id]? = some (.cells xs t fz) ∧ RowDen ks (e.ev U r).toL (g.o id) xs
  live : ∀ id b, H[id]? = some (some b) → b.wr = true → L id
end

/-- The block of a world that a walk may write. -/
def Wr (g : Gh) (L : Nat → Prop) (H : SH) (k : Nat) : Prop := ∃ id b, L id ∧ H[id]? = some (some b) ∧ b.wr = true ∧ g.a id = k

/-- The worlds differ in new blocks, and in blocks that may be written. -/
structure Frm (may : Nat → Prop) (w w' : World) : Prop where
  os : w'.os = w.os
  tape : w'.tape = w.tape
  output : w'.output = w.output
  size : w.heap.size ≤ w'.heap.size
  block : ∀ k, k < w.heap.size → ¬ may k → w'.heap[k]? = w.heap[k]?

theorem Frm.refl (may : Nat → Prop) (w : World) : Frm may w w := ⟨rfl, rfl, rfl, Nat.le_refl _, fun _ _ _ => rfl⟩

/-- The places that are known behind a step. -/
def Lx (L : Nat → Prop) (H H' : SH) : Nat → Prop := fun id => L id ∨ (H.length ≤ id ∧ id < H'.length)

/-- A step of a walk. -/
structure Ext (U : Nat → D → D) (L : Nat → Prop) (r : Nat → D) (g : Gh) (c : Cx) (w : World) (r' : Nat → D) (g' : Gh) (c' : Cx) (w' : World) : Prop where
  nv : c.nv ≤ c'.nv
  agr : ∀ n, r' n = r n
  len : c.h.length ≤ c'.h.length
  ga : ∀ id, ¬ (c.h.length ≤ id ∧ id < c'.h.length) → g'.a id = g.a id ∧ g'.n id = g.n id
  go : ∀ id, ¬ (c.h.length ≤ id ∧ id < c'.h.length) → g'.o id = g.o id
  heap : HeapDen U r' g' (Lx L c.h c'.h) c'.h w'
  pc : PcOk U r' c'.pc
  frm : Frm (Wr g L c.h) w w'
  wrs : ∀ id b, Lx L c.h c'.h id → c'.h[id]? = some (some b) → b.wr = true → w.heap.size ≤ g'.a id ∨ Wr g L c.h (g'.a id)
  fresh : ∀ id, c.h.length ≤ id → id < c'.h.length → w.heap.size ≤ g'.a id ∨ Wr g L c.h (g'.a id)

theorem Lx_trans {L : Nat → Prop} {a b c : SH} (h : a.length ≤ b.length) (h' : b.length ≤ c.length) : Lx (Lx L a b) b c = Lx L a c := by
  funext id
  apply propext
  unfold Lx
  constructor
  · rintro ((h1 | h1) | h1)
    · exact .inl h1
    · exact .inr ⟨h1.1, by omega⟩
    · exact .inr ⟨by omega, h1.2⟩
  · rintro (h1 | h1)
    · exact .inl (.inl h1)
    · by_cases h2 : id < b.length
      · exact .inl (.inr ⟨h1.1, h2⟩)
      · exact .inr ⟨by omega, h1.2⟩

theorem Lx_self {L : Nat → Prop} {a : SH} : Lx L a a = L := by
  funext id
  apply propext
  unfold Lx
  constructor
  · rintro (h | h)
    · exact h
    · omega
  · exact .inl

section
variable {U : Nat → D → D} {L : Nat → Prop} {r r' r'' : Nat → D} {g g' g'' : Gh} {c c' c'' : Cx} {w w' w'' : World}

theorem Ext.refl (hh : HeapDen U r g L c.h w) (hp : PcOk U r c.pc) : Ext U L r g c w r g c w where
  nv := Nat.le_refl _
  agr := fun _ => rfl
  len := Nat.le_refl _
  ga := fun _ _ => ⟨rfl, rfl⟩
  go := fun _ _ => rfl
  heap := by rw [Lx_self]; exact hh
  pc := hp
  frm := Frm.refl _ _
  wrs := fun id b h1 h2 h3 => by rw [Lx_self] at h1; exact .inr ⟨id, b, h1, h2, h3, rfl⟩
  fresh := fun id h1 h2 => by omega

theorem Ext.trans (e : Ext U L r g c w r' g' c' w') (e' : Ext U (Lx L c.h c'.h) r' g' c' w' r'' g'' c'' w'') : Ext U L r g c w r'' g'' c'' w'' where
  nv := Nat.le_trans e.nv e'.nv
  agr := fun n => (e'.agr n).trans (e.agr n)
  len := Nat.le_trans e.len e'.len
  ga := fun id h => by
    have h1 := e.ga id (by have := e'.len; omega)
    have h2 := e'.ga id (by have := e.len; omega)
    exact ⟨h2.1.trans h1.1, h2.2.trans h1.2⟩
  go := fun id h => by
    have h1 := e.go id (by have := e'.len; omega)
    have h2 := e'.go id (by have := e.len; omega)
    exact h2.trans h1
  heap := by have := e'.heap; rwa [Lx_trans e.len e'.len] at this
  pc := e'.pc
  frm := by
    have f := e.frm
    have f' := e'.frm
    refine ⟨f'.os.trans f.os, f'.tape.trans f.tape, f'.output.trans f.output, Nat.le_trans f.size f'.size, fun k hk hn => ?_⟩
    refine (f'.block k (Nat.lt_of_lt_of_le hk f.size) ?_).trans (f.block k hk hn)
    rintro ⟨id, b, h1, h2, h3, h4⟩
    rcases e.wrs id b h1 h2 h3 with h5 | h5
    · omega
    · exact hn (h4 ▸ h5)
  wrs := fun id b h1 h2 h3 => by
    rw [← Lx_trans e.len e'.len] at h1
    rcases e'.wrs id b h1 h2 h3 with h4 | h4
    · exact .inl (Nat.le_trans e.frm.size h4)
    · obtain ⟨id0, b0, h5, h6, h7, h8⟩ := h4
      rcases e.wrs id0 b0 h5 h6 h7 with h9 | h9
      · exact .inl (by omega)
      · exact .inr (h8 ▸ h9)
  fresh := fun id h1 h2 => by
    by_cases hlt : id < c'.h.length
    · have hg := (e'.ga id (by omega)).1
      rw [hg]; exact e.fresh id h1 hlt
    · rcases e'.fresh id (by omega) h2 with h4 | h4
      · exact .inl (Nat.le_trans e.frm.size h4)
      · obtain ⟨id0, b0, h5, h6, h7, h8⟩ := h4
        rcases e.wrs id0 b0 h5 h6 h7 with h9 | h9
        · exact .inl (by omega)
        · exact .inr (h8 ▸ h9)

theorem Ext.gle (e : Ext U L r g c w r' g' c' w') (hb : ∀ id, L id → id < c.h.length) : GLe g L g' (Lx L c.h c'.h) :=
  ⟨fun id h => ⟨.inl h, e.ga id (by have := hb id h; omega)⟩, fun id h => e.go id (by have := hb id h; omega)⟩

/-- A value behind a step, where its variables are old, or no variable was made. -/
theorem Ext.den (e : Ext U L r g c w r' g' c' w') (hb : ∀ id, L id → id < c.h.length) {s : SV} {v : Value} (hu : s.under c.nv = true) (h : s.den U r g L v) : s.den U r' g' (Lx L c.h c'.h) v :=
  SV.den_mono (e.gle hb) (SV.den_under (fun n _ => e.agr n) hu h)
end

/-! ### Trees of ways -/

inductive Tree (α : Type) where
  | ret (a : α)
  | ite (c : E) (t e : Tree α)
  | all (i : Nat) (t : Tree α)
  | asm (c : E) (t : Tree α)
  | chk (c : E) (t : Tree α)
  | bad

namespace Tree
variable {α β : Type}

def bind (t : Tree α) (f : α → Tree β) : Tree β :=
  match t with
  | ret a => f a
  | ite c t e => ite c (t.bind f) (e.bind f)
  | all i t => all i (t.bind f)
  | asm c t => asm c (t.bind f)
  | chk c t => chk c (t.bind f)
  | bad => bad

def upd (r : Nat → D) (i : Nat) (d : D) : Nat → D := fun n => if n = i then d else r n

/-- Every way that is open under 'r' ends in a leaf of which 'Q' holds. -/
def sat (U : Nat → D → D) (Q : (Nat → D) → α → Prop) (r : Nat → D) : Tree α → Prop
  | ret a => Q r a
  | ite c t e => if (c.ev U r).toB then t.sat U Q r else e.sat U Q r
  | all i t => ∀ d, t.sat U Q (upd r i d)
  | asm c t => (c.ev U r).toB = true → t.sat U Q r
  | chk c t => (c.ev U r).toB = true ∧ t.sat U Q r
  | bad => False

theorem sat_bind {U : Nat → D → D} {Q : (Nat → D) → β → Prop} {f : α → Tree β} : ∀ {t : Tree α} {r : Nat → D}, (t.bind f).sat U Q r ↔ t.sat U (fun r' a => (f a).sat U Q r') r := by
  intro t
  induction t with
  | ret a => intro r; rfl
  | ite c t e iht ihe => intro r; simp only [bind, sat, iht, ihe]
  | all i t ih => intro r; simp only [bind, sat, ih]
  | asm c t ih => intro r; simp only [bind, sat, ih]
  | chk c t ih => intro r; simp only [bind, sat, ih]
  | bad => intro r; rfl

theorem sat_mono {U : Nat → D → D} {Q Q' : (Nat → D) → α → Prop} (h : ∀ r a, Q r a → Q' r a) : ∀ {t : Tree α} {r : Nat → D}, t.sat U Q r → t.sat U Q' r := by
  intro t
  induction t with
  | ret a => intro r; exact h r a
  | ite c t e iht ihe => intro r; simp only [sat]; split
                         · exact iht
                         · exact ihe
  | all i t ih => intro r hs d; exact ih (hs d)
  | asm c t ih => intro r hs hc; exact ih (hs hc)
  | chk c t ih => intro r hs; exact ⟨hs.1, ih hs.2⟩
  | bad => intro r hs; exact hs

/-- No variable is made, nothing is taken. -/
def plain : Tree α → Bool
  | ret _ => true
  | ite _ t e => t.plain && e.plain
  | all _ _ => false
  | asm _ _ => false
  | chk _ t => t.plain
  | bad => true

/-- The leaf under 'r'. -/
def leaf? (U : Nat → D → D) (r : Nat → D) : Tree α → Option α
  | ret a => some a
  | ite c t e => if (c.ev U r).toB then t.leaf? U r else e.leaf? U r
  | chk c t => if (c.ev U r).toB then t.leaf? U r else none
  | _ => none

theorem sat_plain {U : Nat → D → D} {Q : (Nat → D) → α → Prop} {r : Nat → D} : ∀ {t : Tree α}, t.plain = true → t.sat U Q r → ∃ a, t.leaf? U r = some a ∧ Q r a := by
  intro t
  induction t with
  | ret a => intro _ h; exact ⟨a, rfl, h⟩
  | ite c t e iht ihe =>
    intro hp h
    simp only [plain, Bool.and_eq_true] at hp
    simp only [sat, leaf?] at h ⊢
    split at h
    · rename_i hc; rw [if_pos hc]; exact iht hp.1 h
    · rename_i hc; rw [if_neg hc]; exact ihe hp.2 h
  | all i t ih => intro hp; simp [plain] at hp
  | asm c t ih => intro hp; simp [plain] at hp
  | chk c t ih =>
    intro hp h
    simp only [plain] at hp
    simp only [sat, leaf?] at h ⊢
    rw [if_pos h.1]; exact ih hp h.2
  | bad => intro _ h; exact h.elim
end Tree

/-- What the way has met of an expression, to the letter. -/
def lookS (e : E) : List (E × Bool) → Option Bool
  | [] => none
  | (x, b) :: l => if x.same e then some b else lookS e l

theorem lookS_ok {U : Nat → D → D} {r : Nat → D} {e : E} {b : Bool} : ∀ {pc : List (E × Bool)}, PcOk U r pc → lookS e pc = some b → (e.ev U r).toB = b := by
  intro pc
  induction pc with
  | nil => intro _ h; simp [lookS] at h
  | cons x l ih =>
    intro hp h
    obtain ⟨x, b'⟩ := x
    simp only [lookS] at h
    split at h
    · rename_i hs
      rw [← E.same_eq hs]
      have := hp (x, b') (by simp)
      simp at h
      rw [← h]; exact this
    · exact ih (fun y hy => hp y (by simp [hy])) h

/-- What the way has met of an expression, or what follows from it. -/
def look (e : E) (pc : List (E × Bool)) : Option Bool :=
  match lookS e pc with
  | some b => some b
  | none => askI pc e

theorem look_ok {U : Nat → D → D} {r : Nat → D} {e : E} {b : Bool} {pc : List (E × Bool)} (hp : PcOk U r pc) (h : look e pc = some b) : (e.ev U r).toB = b := by
  unfold look at h
  split at h
  · rename_i x hx; cases h; exact lookS_ok hp hx
  · exact askI_ok hp h

/-- Two ways, by the truth of an expression. -/
def br {α : Type} (c : Cx) (e : E) (t f : Cx → Tree α) : Tree α :=
  match e with
  | .b true => t c
  | .b false => f c
  | .o1 .not e => match look e c.pc with
    | some true => f c
    | some false => t c
    | none => .ite e (f { c with pc := (e, true) :: c.pc }) (t { c with pc := (e, false) :: c.pc })
  | e => match look e c.pc with
    | some true => t c
    | some false => f c
    | none => .ite e (t { c with pc := (e, true) :: c.pc }) (f { c with pc := (e, false) :: c.pc })

theorem br_sat {α : Type} {U : Nat → D → D} {Q : (Nat → D) → α → Prop} {r : Nat → D} {c : Cx} {e : E} {t f : Cx → Tree α} (hp : PcOk U r c.pc) (h : (br c e t f).sat U Q r) :
    ∃ pc', PcOk U r pc' ∧ (((e.ev U r).toB = true ∧ (t { c with pc := pc' }).sat U Q r) ∨ ((e.ev U r).toB = false ∧ (f { c with pc := pc' }).sat U Q r)) := by
  have cons : ∀ {x : E} {b : Bool}, (x.ev U r).toB = b → PcOk U r ((x, b) :: c.pc) := by
    intro x b hx y hy
    rcases List.mem_cons.1 hy with rfl | hy
    · exact hx
    · exact hp y hy
  unfold br at h
  split at h
  · exact ⟨c.pc, hp, .inl ⟨rfl, h⟩⟩
  · exact ⟨c.pc, hp, .inr ⟨rfl, h⟩⟩
  · rename_i e
    have hn : ((E.o1 .not e).ev U r).toB = !(e.ev U r).toB := rfl
    split at h
    · rename_i hl; have := look_ok hp hl; exact ⟨c.pc, hp, .inr ⟨by rw [hn, this]; rfl, h⟩⟩
    · rename_i hl; have := look_ok hp hl; exact ⟨c.pc, hp, .inl ⟨by rw [hn, this]; rfl, h⟩⟩
    · simp only [Tree.sat] at h
      split at h
      · rename_i hc; exact ⟨_, cons hc, .inr ⟨by rw [hn, hc]; rfl, h⟩⟩
      · rename_i hc
        have hc : (e.ev U r).toB = false := by simpa using hc
        exact ⟨_, cons hc, .inl ⟨by rw [hn, hc]; rfl, h⟩⟩
  · split at h
    · rename_i hl; have := look_ok hp hl; exact ⟨c.pc, hp, .inl ⟨this, h⟩⟩
    · rename_i hl; have := look_ok hp hl; exact ⟨c.pc, hp, .inr ⟨this, h⟩⟩
    · simp only [Tree.sat] at h
      split at h
      · rename_i hc; exact ⟨_, cons hc, .inl ⟨hc, h⟩⟩
      · rename_i hc
        have hc : (e.ev U r).toB = false := by simpa using hc
        exact ⟨_, cons hc, .inr ⟨hc, h⟩⟩

end Go.Sx
