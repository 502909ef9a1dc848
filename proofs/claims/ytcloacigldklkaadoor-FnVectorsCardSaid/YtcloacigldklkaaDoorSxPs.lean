/-
  Sx, part Ps: a function's walk made once, over memory, and used wherever what is handed over fits.
-/
import Derived.Test.YtcloacigldklkaaDoorSxSb
namespace Go.Sx
open E (mk1 mk2 mkIte mk1_ev mk2_ev mkIte_ev)

/-! ### Values under other names -/

mutual
def SV.ren (m : List (Nat × E)) (bl : Nat → Nat) : SV → Option SV
  | .any => some .any
  | .bool e => (e.sub m).map .bool
  | .int k e => (e.sub m).map (.int k)
  | .flt k e => (e.sub m).map (.flt k)
  | .str e => (e.sub m).map .str
  | .fb k e => (e.sub m).map (.fb k)
  | .con v => some (.con v)
  | .ptr id off => some (.ptr (bl id) off)
  | .sl id off sz len cap => match len.sub m, cap with
    | some l, none => some (.sl (bl id) off sz l none)
    | some l, some c => (c.sub m).map fun c' => .sl (bl id) off sz l (some c')
    | none, _ => none
  | .slo id sz len => (len.sub m).map (.slo (bl id) sz)
  | .ptrI id sz i f => (i.sub m).map fun i' => .ptrI (bl id) sz i' f
  | .emp => some .emp
  | .agg cs => (SV.renL m bl cs).map .agg
  | .tup cs => (SV.renL m bl cs).map .tup
  | .fn f xs ys => match SV.renL m bl xs, SV.renL m bl ys with
    | some a, some b => some (.fn f a b)
    | _, _ => none
def SV.renL (m : List (Nat × E)) (bl : Nat → Nat) : List SV → Option (List SV)
  | [] => some []
  | x :: l => match SV.ren m bl x, SV.renL m bl l with
    | some y, some z => some (y :: z)
    | _, _ => none
end

/-- Two places under each other's names. -/
structure Via (bl : Nat → Nat) (g1 : Gh) (L1 : Nat → Prop) (g2 : Gh) (L2 : Nat → Prop) : Prop where
  L : ∀ id, L1 id ↔ L2 (bl id)
  a : ∀ id, L1 id → g1.a id = g2.a (bl id)
  n : ∀ id, L1 id → g1.n id = g2.n (bl id)
  o : ∀ id, L1 id → g1.o id = g2.o (bl id)

section
variable {U : Nat → D → D} {r r' : Nat → D} {m : List (Nat × E)} {bl : Nat → Nat} {g1 g2 : Gh} {L1 L2 : Nat → Prop}
mutual
theorem SV.ren_den (hf : Fills U r r' m) (hv : Via bl g1 L1 g2 L2) : ∀ {x y : SV} {v : Value}, x.ren m bl = some y → (x.den U r' g1 L1 v ↔ y.den U r g2 L2 v)
  | .any, y, v, h => by simp only [SV.ren, Option.some.injEq] at h; subst h; simp [SV.den]
  | .bool e, y, v, h => by simp only [SV.ren, Option.map_eq_some_iff] at h; obtain ⟨a, ha, rfl⟩ := h; simp only [SV.den, E.sub_ev hf ha]
  | .int k e, y, v, h => by simp only [SV.ren, Option.map_eq_some_iff] at h; obtain ⟨a, ha, rfl⟩ := h; simp only [SV.den, E.sub_ev hf ha]
  | .flt k e, y, v, h => by simp only [SV.ren, Option.map_eq_some_iff] at h; obtain ⟨a, ha, rfl⟩ := h; simp only [SV.den, E.sub_ev hf ha]
  | .str e, y, v, h => by simp only [SV.ren, Option.map_eq_some_iff] at h; obtain ⟨a, ha, rfl⟩ := h; simp only [SV.den, E.sub_ev hf ha]
  | .fb k e, y, v, h => by simp only [SV.ren, Option.map_eq_some_iff] at h; obtain ⟨a, ha, rfl⟩ := h; simp only [SV.den, E.sub_ev hf ha]
  | .con u, y, v, h => by simp only [SV.ren, Option.some.injEq] at h; subst h; simp only [SV.den]
  | .ptr id off, y, v, h => by
    simp only [SV.ren, Option.some.injEq] at h; subst h
    simp only [SV.den, ← hv.L]
    constructor
    · rintro ⟨h1, h2⟩; exact ⟨h1, by rw [← hv.a id h1]; exact h2⟩
    · rintro ⟨h1, h2⟩; exact ⟨h1, by rw [hv.a id h1]; exact h2⟩
  | .sl id off sz len none, y, v, h => by
    simp only [SV.ren] at h
    cases hl : len.sub m with
    | none => simp [hl] at h
    | some l =>
      simp only [hl, Option.some.injEq] at h; subst h
      simp only [SV.den, E.sub_ev hf hl, ← hv.L, reduceCtorEq, false_implies, implies_true]
      constructor
      · rintro ⟨h1, h2⟩; rw [← hv.a id h1, ← hv.n id h1]; exact ⟨h1, h2⟩
      · rintro ⟨h1, h2⟩; rw [hv.a id h1, hv.n id h1]; exact ⟨h1, h2⟩
  | .sl id off sz len (some cp), y, v, h => by
    simp only [SV.ren] at h
    cases hl : len.sub m with
    | none => simp [hl] at h
    | some l =>
      simp only [hl, Option.map_eq_some_iff] at h
      obtain ⟨c', hc, rfl⟩ := h
      simp only [SV.den, E.sub_ev hf hl, ← hv.L, Option.some.injEq, forall_eq', E.sub_ev hf hc]
      constructor
      · rintro ⟨h1, h2⟩; rw [← hv.a id h1, ← hv.n id h1]; exact ⟨h1, h2⟩
      · rintro ⟨h1, h2⟩; rw [hv.a id h1, hv.n id h1]; exact ⟨h1, h2⟩
  | .slo id sz len, y, v, h => by
    simp only [SV.ren, Option.map_eq_some_iff] at h
    obtain ⟨l, hl, rfl⟩ := h
    simp only [SV.den, E.sub_ev hf hl, ← hv.L]
    constructor
    · rintro ⟨h0, base, c, h1, h2, h3⟩
      refine ⟨h0, base, c, h1, h2, h3.imp_right ?_⟩
      rintro ⟨k1, k2, k3⟩
      rw [← hv.a id k1, ← hv.n id k1, ← hv.o id k1]; exact ⟨k1, k2, k3⟩
    · rintro ⟨h0, base, c, h1, h2, h3⟩
      refine ⟨h0, base, c, h1, h2, h3.imp_right ?_⟩
      rintro ⟨k1, k2, k3⟩
      rw [hv.a id k1, hv.n id k1, hv.o id k1]; exact ⟨k1, k2, k3⟩
  | .ptrI id sz i f, y, v, h => by
    simp only [SV.ren, Option.map_eq_some_iff] at h
    obtain ⟨l, hl, rfl⟩ := h
    simp only [SV.den, E.sub_ev hf hl, ← hv.L]
    constructor
    · rintro ⟨h1, h2⟩; rw [← hv.a id h1, ← hv.o id h1]; exact ⟨h1, h2⟩
    · rintro ⟨h1, h2⟩; rw [hv.a id h1, hv.o id h1]; exact ⟨h1, h2⟩
  | .emp, y, v, h => by simp only [SV.ren, Option.some.injEq] at h; subst h; simp only [SV.den]
  | .agg cs, y, v, h => by
    simp only [SV.ren, Option.map_eq_some_iff] at h
    obtain ⟨z, h1, rfl⟩ := h
    simp only [SV.den]
    exact exists_congr fun xs => and_congr_right fun _ => SV.renL_den hf hv h1
  | .tup cs, y, v, h => by
    simp only [SV.ren, Option.map_eq_some_iff] at h
    obtain ⟨z, h1, rfl⟩ := h
    simp only [SV.den]
    exact exists_congr fun xs => and_congr_right fun _ => SV.renL_den hf hv h1
  | .fn f xs ys, y, v, h => by
    simp only [SV.ren] at h
    split at h
    · rename_i a b h1 h2
      cases h
      simp only [SV.den]
      exact exists_congr fun p => exists_congr fun q => and_congr_right fun _ => and_congr (SV.renL_den hf hv h1) (SV.renL_den hf hv h2)
    · cases h
theorem SV.renL_den (hf : Fills U r r' m) (hv : Via bl g1 L1 g2 L2) : ∀ {x y : List SV} {v : List Value}, SV.renL m bl x = some y → (SV.denL U r' g1 L1 x v ↔ SV.denL U r g2 L2 y v)
  | [], y, v, h => by
    simp only [SV.renL, Option.some.injEq] at h; subst h
    cases v <;> simp [SV.denL]
  | x :: l, y, v, h => by
    simp only [SV.renL] at h
    split at h
    · rename_i y' m' h1 h2
      cases h
      cases v with
      | nil => simp [SV.denL]
      | cons v u =>
        simp only [SV.denL]
        exact and_congr (SV.ren_den hf hv h1) (SV.renL_den hf hv h2)
    · cases h
end
end

/-! ### When a value is one that is awaited -/

mutual
def SV.fit : SV → SV → Bool
  | .any, _ => true
  | .bool e, .bool e' => e.same e'
  | .int k e, .int k' e' => if k = k' then e.same e' else false
  | .flt k e, .flt k' e' => if k = k' then e.same e' else false
  | .fb k e, .fb k' e' => if k = k' then e.same e' else false
  | .str e, .str e' => e.same e'
  | .ptr id off, .ptr id' off' => Nat.beq id id' && Nat.beq off off'
  | .slo id sz len, .slo id' sz' len' => Nat.beq id id' && (Nat.beq sz sz' && len.same len')
  | .sl id off sz len none, .sl id' off' sz' len' _ => Nat.beq id id' && (Nat.beq off off' && (Nat.beq sz sz' && len.same len'))
  | .ptrI id sz i f, .ptrI id' sz' i' f' => Nat.beq id id' && (Nat.beq sz sz' && (Nat.beq f f' && i.same i'))
  | .agg cs, .agg cs' => SV.fitL cs cs'
  | .tup cs, .tup cs' => SV.fitL cs cs'
  | .fn (.func f) xs ys, .fn (.func f') xs' ys' => Nat.beq f f' && (SV.fitL xs xs' && SV.fitL ys ys')
  | _, _ => false
def SV.fitL : List SV → List SV → Bool
  | [], [] => true
  | x :: l, y :: m => SV.fit x y && SV.fitL l m
  | _, _ => false
end
/-- The first values. -/
def SV.fitPre : List SV → List SV → Bool
  | [], _ => true
  | x :: l, y :: m => SV.fit x y && SV.fitPre l m
  | _ :: _, [] => false

section
variable {U : Nat → D → D} {r : Nat → D} {g : Gh} {L : Nat → Prop}
mutual
theorem SV.fit_den : ∀ {x y : SV} {v : Value}, SV.fit x y = true → y.den U r g L v → x.den U r g L v
  | .any, _, _, _, _ => by simp [SV.den]
  | .bool e, .bool e', v, h, hd => by simp only [SV.fit] at h; rw [E.same_eq h]; exact hd
  | .int k e, .int k' e', v, h, hd => by
    simp only [SV.fit] at h
    split at h
    · rename_i hk; subst hk; rw [E.same_eq h]; exact hd
    · cases h
  | .flt k e, .flt k' e', v, h, hd => by
    simp only [SV.fit] at h
    split at h
    · rename_i hk; subst hk; rw [E.same_eq h]; exact hd
    · cases h
  | .fb k e, .fb k' e', v, h, hd => by
    simp only [SV.fit] at h
    split at h
    · rename_i hk; subst hk; rw [E.same_eq h]; exact hd
    · cases h
  | .str e, .str e', v, h, hd => by simp only [SV.fit] at h; rw [E.same_eq h]; exact hd
  | .ptr id off, .ptr id' off', v, h, hd => by
    simp only [SV.fit, Bool.and_eq_true] at h
    rw [Nat.eq_of_beq_eq_true h.1, Nat.eq_of_beq_eq_true h.2]; exact hd
  | .slo id sz len, .slo id' sz' len', v, h, hd => by
    simp only [SV.fit, Bool.and_eq_true] at h
    rw [Nat.eq_of_beq_eq_true h.1, Nat.eq_of_beq_eq_true h.2.1, E.same_eq h.2.2]; exact hd
  | .sl id off sz len none, .sl id' off' sz' len' cp, v, h, hd => by
    simp only [SV.fit, Bool.and_eq_true] at h
    rw [Nat.eq_of_beq_eq_true h.1, Nat.eq_of_beq_eq_true h.2.1, Nat.eq_of_beq_eq_true h.2.2.1, E.same_eq h.2.2.2]
    simp only [SV.den] at hd ⊢
    obtain ⟨h1, h2, c, h3, h4, h5, _⟩ := hd
    exact ⟨h1, h2, c, h3, h4, h5, fun e he => by cases he⟩
  | .ptrI id sz i f, .ptrI id' sz' i' f', v, h, hd => by
    simp only [SV.fit, Bool.and_eq_true] at h
    rw [Nat.eq_of_beq_eq_true h.1, Nat.eq_of_beq_eq_true h.2.1, Nat.eq_of_beq_eq_true h.2.2.1, E.same_eq h.2.2.2]; exact hd
  | .agg cs, .agg cs', v, h, hd => by
    simp only [SV.fit] at h
    simp only [SV.den] at hd ⊢
    obtain ⟨xs, h1, h2⟩ := hd
    exact ⟨xs, h1, SV.fitL_den h h2⟩
  | .tup cs, .tup cs', v, h, hd => by
    simp only [SV.fit] at h
    simp only [SV.den] at hd ⊢
    obtain ⟨xs, h1, h2⟩ := hd
    exact ⟨xs, h1, SV.fitL_den h h2⟩
  | .fn (.func f) xs ys, .fn (.func f') xs' ys', v, h, hd => by
    simp only [SV.fit, Bool.and_eq_true] at h
    rw [Nat.eq_of_beq_eq_true h.1]
    simp only [SV.den] at hd ⊢
    obtain ⟨p, q, h1, h2, h3⟩ := hd
    exact ⟨p, q, h1, SV.fitL_den h.2.1 h2, SV.fitL_den h.2.2 h3⟩
theorem SV.fitL_den : ∀ {x y : List SV} {v : List Value}, SV.fitL x y = true → SV.denL U r g L y v → SV.denL U r g L x v
  | [], [], v, _, hd => hd
  | x :: l, y :: m, [], _, hd => by simp [SV.denL] at hd
  | x :: l, y :: m, v :: u, h, hd => by
    simp only [SV.fitL, Bool.and_eq_true] at h
    simp only [SV.denL] at hd ⊢
    exact ⟨SV.fit_den h.1 hd.1, SV.fitL_den h.2 hd.2⟩
end

theorem SV.fitPre_get : ∀ {l m : List SV} {j : Nat} {x : SV}, SV.fitPre l m = true → l[j]? = some x → ∃ y, m[j]? = some y ∧ SV.fit x y = true
  | [], _, j, x, _, h => by simp at h
  | a :: l, [], _, _, h, _ => by simp [SV.fitPre] at h
  | a :: l, b :: m, 0, x, h, hx => by
    simp only [SV.fitPre, Bool.and_eq_true] at h
    simp at hx; subst hx
    exact ⟨b, by simp, h.1⟩
  | a :: l, b :: m, j + 1, x, h, hx => by
    simp only [SV.fitPre, Bool.and_eq_true] at h
    obtain ⟨y, h1, h2⟩ := SV.fitPre_get h.2 (by simpa using hx)
    exact ⟨y, by simpa using h1, h2⟩
theorem SV.fitPre_length : ∀ {l m : List SV}, SV.fitPre l m = true → l.length ≤ m.length
  | [], _, _ => Nat.zero_le _
  | a :: l, [], h => by simp [SV.fitPre] at h
  | a :: l, b :: m, h => by
    simp only [SV.fitPre, Bool.and_eq_true] at h
    simpa using SV.fitPre_length h.2

theorem SV.renL_get {mm : List (Nat × E)} {bl : Nat → Nat} : ∀ {l l' : List SV} {j : Nat} {x : SV}, SV.renL mm bl l = some l' → l[j]? = some x → ∃ y, l'[j]? = some y ∧ x.ren mm bl = some y
  | [], _, j, x, _, h => by simp at h
  | a :: l, l', j, x, h, hx => by
    simp only [SV.renL] at h
    split at h
    · rename_i y z h1 h2
      cases h
      cases j with
      | zero => simp at hx; subst hx; exact ⟨y, by simp, h1⟩
      | succ j =>
        obtain ⟨u, k1, k2⟩ := SV.renL_get h2 (by simpa using hx)
        exact ⟨u, by simpa using k1, k2⟩
    · cases h
theorem SV.renL_length {mm : List (Nat × E)} {bl : Nat → Nat} : ∀ {l l' : List SV}, SV.renL mm bl l = some l' → l'.length = l.length
  | [], l', h => by simp only [SV.renL, Option.some.injEq] at h; subst h; rfl
  | a :: l, l', h => by
    simp only [SV.renL] at h
    split at h
    · rename_i y z h1 h2
      cases h
      simpa using SV.renL_length h2
    · cases h
end

/-! ### Memory under other names -/

def renSB (m : List (Nat × E)) (bl : Nat → Nat) (s : SB) : Option SB :=
  match SV.renL m bl s.cs, s.row with
  | some cs, none => some ⟨s.wr, cs, none⟩
  | some cs, some (ks, e) => (e.sub m).map fun e' => ⟨s.wr, cs, some (ks, e')⟩
  | none, _ => none
def renO (m : List (Nat × E)) (bl : Nat → Nat) : Option SB → Option (Option SB)
  | none => some none
  | some s => (renSB m bl s).map some
def renH (m : List (Nat × E)) (bl : Nat → Nat) : SH → Option SH
  | [] => some []
  | o :: l => match renO m bl o, renH m bl l with
    | some a, some b => some (a :: b)
    | _, _ => none
theorem renH_length {m : List (Nat × E)} {bl : Nat → Nat} : ∀ {l l' : SH}, renH m bl l = some l' → l'.length = l.length
  | [], l', h => by simp only [renH, Option.some.injEq] at h; subst h; rfl
  | o :: l, l', h => by
    simp only [renH] at h
    split at h
    · rename_i a b h1 h2
      cases h
      simpa using renH_length h2
    · cases h
theorem renH_get {m : List (Nat × E)} {bl : Nat → Nat} : ∀ {l l' : SH} {j : Nat} {o : Option SB}, renH m bl l = some l' → l'[j]? = some o → ∃ o0, l[j]? = some o0 ∧ renO m bl o0 = some o
  | [], l', j, o, h, hj => by simp only [renH, Option.some.injEq] at h; subst h; simp at hj
  | a :: l, l', j, o, h, hj => by
    simp only [renH] at h
    split at h
    · rename_i y z h1 h2
      cases h
      cases j with
      | zero => simp at hj; subst hj; exact ⟨a, by simp, h1⟩
      | succ j =>
        obtain ⟨u, k1, k2⟩ := renH_get h2 (by simpa using hj)
        exact ⟨u, by simpa using k1, k2⟩
    · cases h
theorem renO_some {m : List (Nat × E)} {bl : Nat → Nat} {o : Option SB} {s : SB} (h : renO m bl o = some (some s)) : ∃ s0, o = some s0 ∧ renSB m bl s0 = some s := by
  cases o with
  | none => simp [renO] at h
  | some s0 =>
    simp only [renO, Option.map_eq_some_iff] at h
    obtain ⟨a, h1, h2⟩ := h
    cases h2
    exact ⟨s0, rfl, h1⟩
theorem renSB_some {m : List (Nat × E)} {bl : Nat → Nat} {s0 s : SB} (h : renSB m bl s0 = some s) :
    s.wr = s0.wr ∧ SV.renL m bl s0.cs = some s.cs ∧ (s0.row = none → s.row = none) ∧ ∀ ks e, s.row = some (ks, e) → ∃ e0, s0.row = some (ks, e0) ∧ e0.sub m = some e := by
  unfold renSB at h
  split at h
  · rename_i cs hc hr
    cases h
    exact ⟨rfl, hc, fun _ => rfl, fun _ _ h => by cases h⟩
  · rename_i cs ks e hc hr
    simp only [Option.map_eq_some_iff] at h
    obtain ⟨e', he, rfl⟩ := h
    refine ⟨rfl, hc, fun h => ?_, fun ks' e'' h => ?_⟩
    · rw [hr] at h; cases h
    · cases h
      exact ⟨e, hr, he⟩
  · cases h

/-! ### The pattern -/

/-- What a function is handed over: its arguments, memory, what is known; all over variables below 1000 and the blocks of 'hs'. -/
structure HPat where
  as : List SV
  hs : List SB
  pc : List (E × Bool)
def HPat.c0 (p : HPat) : Cx := ⟨p.hs.map some, 1000, p.pc⟩

def bindV (x : E) (e : E) (m : List (Nat × E)) : List (Nat × E) :=
  match x with
  | .v i => (match lkM i m with
    | none => (i, e) :: m
    | some _ => m)
  | _ => m
mutual
def seekSV : SV → SV → List (Nat × E) × List (Nat × Nat) → List (Nat × E) × List (Nat × Nat)
  | .bool x, .bool e, (m, β) => (bindV x e m, β)
  | .int _ x, .int _ e, (m, β) => (bindV x e m, β)
  | .flt _ x, .flt _ e, (m, β) => (bindV x e m, β)
  | .fb _ x, .fb _ e, (m, β) => (bindV x e m, β)
  | .str x, .str e, (m, β) => (bindV x e m, β)
  | .ptr b _, .ptr id _, (m, β) => (m, bindB b id β)
  | .slo b _ x, .slo id _ e, (m, β) => (bindV x e m, bindB b id β)
  | .sl b _ _ x _, .sl id _ _ e _, (m, β) => (bindV x e m, bindB b id β)
  | .ptrI b _ x _, .ptrI id _ e _, (m, β) => (bindV x e m, bindB b id β)
  | .agg l, .agg l', z => seekSVs l l' z
  | .tup l, .tup l', z => seekSVs l l' z
  | .fn _ l k, .fn _ l' k', z => seekSVs k k' (seekSVs l l' z)
  | _, _, z => z
def seekSVs : List SV → List SV → List (Nat × E) × List (Nat × Nat) → List (Nat × E) × List (Nat × Nat)
  | x :: l, y :: k, z => seekSVs l k (seekSV x y z)
  | _, _, z => z
end
def seekHs (H : SH) : Nat → List SB → List (Nat × E) × List (Nat × Nat) → List (Nat × E) × List (Nat × Nat)
  | _, [], z => z
  | j, b :: l, z => match H[lkN j z.2]? with
    | some (some s) => (match seekSVs b.cs s.cs z, b.row, s.row with
      | (m, β), some (_, x), some (_, e) => seekHs H (j + 1) l (bindV x e m, β)
      | z, _, _ => seekHs H (j + 1) l z)
    | _ => z
def HPat.seek (p : HPat) (args : List SV) (H : SH) : List (Nat × E) × List Nat :=
  match seekHs H 0 p.hs (seekSVs p.as args ([], [])) with
  | (m, β) => (m, (List.range p.hs.length).map fun b => lkN b β)

/-- The names of blocks: those of the pattern, then new ones. -/
def blN (bls : List Nat) (N : Nat) : Nat → Nat := fun j => match bls[j]? with
  | some x => x
  | none => N + (j - bls.length)

def okSB (m : List (Nat × E)) (bl : Nat → Nat) (H : SH) (j : Nat) (b : SB) : Bool :=
  match H[bl j]? with
  | some (some s) => (!b.wr || s.wr) && ((match SV.renL m bl b.cs with
      | some cs => SV.fitPre cs s.cs
      | none => false) && (match b.row with
      | none => true
      | some (ks, e) => (match s.row, e.sub m with
        | some (ks', a), some e' => sameSks ks ks' && e'.same a
        | _, _ => false)))
  | _ => false
def okHs (m : List (Nat × E)) (bl : Nat → Nat) (H : SH) : Nat → List SB → Bool
  | _, [] => true
  | j, b :: l => okSB m bl H j b && okHs m bl H (j + 1) l
def okPc (m : List (Nat × E)) (pc : List (E × Bool)) : List (E × Bool) → Bool
  | [] => true
  | x :: l => (match x.1.sub m with
    | some e => (match known e pc with
      | some b => b == x.2
      | none => false)
    | none => false) && okPc m pc l
def HPat.ok (p : HPat) (m : List (Nat × E)) (bls : List Nat) (args : List SV) (c : Cx) : Bool :=
  Nat.beq bls.length p.hs.length && (apartN bls && ((match SV.renL m (blN bls c.h.length) p.as with
    | some as => SV.fitL as args
    | none => false) && (okHs m (blN bls c.h.length) c.h 0 p.hs && okPc m c.pc p.pc)))

/-- What becomes of an old block. -/
def updO (hs : List SB) (h1 : SH) (bls : List Nat) (id : Nat) (o : Option SB) : Option SB :=
  match posOf id bls with
  | some j => (match hs[j]? with
    | some b => if b.wr then (h1[j]?).getD none else o
    | none => o)
  | none => o
def updOs (hs : List SB) (h1 : SH) (bls : List Nat) : Nat → SH → SH
  | _, [] => []
  | id, o :: l => updO hs h1 bls id o :: updOs hs h1 bls (id + 1) l
theorem updOs_length (hs : List SB) (h1 : SH) (bls : List Nat) : ∀ (l : SH) (i : Nat), (updOs hs h1 bls i l).length = l.length := by
  intro l
  induction l with
  | nil => intro i; rfl
  | cons o l ih => intro i; simp [updOs, ih]
theorem updOs_get (hs : List SB) (h1 : SH) (bls : List Nat) : ∀ (l : SH) (i k : Nat), (updOs hs h1 bls i l)[k]? = (l[k]?).map (updO hs h1 bls (i + k)) := by
  intro l
  induction l with
  | nil => intro i k; simp [updOs]
  | cons o l ih =>
    intro i k
    cases k with
    | zero => simp [updOs]
    | succ k => simp only [updOs, List.getElem?_cons_succ, ih]; congr 2; omega
/-- Memory behind the call: 'h1' is that of the pattern's walk, under the names of the place. -/
def behindH (hs : List SB) (h1 : SH) (bls : List Nat) (H : SH) : SH := updOs hs h1 bls 0 H ++ h1.drop hs.length

/-- The pattern's tree at a place. -/
def subH (p : HPat) (bls : List Nat) (H : SH) : List (Nat × E) → Cx → Tree (SV × SH) → Tree (SV × Cx)
  | m, c, .ret x => (match x.1.ren m (blN bls H.length), renH m (blN bls H.length) x.2 with
    | some y, some h1 => .ret (y, ⟨behindH p.hs h1 bls H, c.nv, c.pc⟩)
    | _, _ => .bad)
  | m, c, .ite e t f => (match e.sub m with
    | some e' => br c e' (fun c => subH p bls H m c t) (fun c => subH p bls H m c f)
    | none => .bad)
  | m, c, .chk e t => (match e with
    | .o2 .fsame (.v i) e => (match lkM i m, e.sub m with
      | none, some e' =>
        if atomE e' then subH p bls H ((i, e') :: m) c t
        else match findE e' c.pc with
          | some j => subH p bls H ((i, .v j) :: m) c t
          | none => .chk (.o2 .fsame (.v c.nv) e') (subH p bls H ((i, .v c.nv) :: m) ⟨c.h, c.nv + 1, (.o2 .fsame (.v c.nv) e', true) :: c.pc⟩ t)
      | _, _ => .bad)
    | _ => .bad)
  | _, _, _ => .bad

/-- A truth that the way has told. -/
def settle1 (pc : List (E × Bool)) : SV → SV
  | .bool (.o1 .not e) => (match look e pc with
    | some b => .bool (.b (!b))
    | none => .bool (.o1 .not e))
  | .bool e => (match look e pc with
    | some b => .bool (.b b)
    | none => .bool e)
  | s => s
def settle (pc : List (E × Bool)) : SV → SV
  | .tup l => .tup (l.map (settle1 pc))
  | s => settle1 pc s
section
variable {U : Nat → D → D} {r : Nat → D} {g : Gh} {L : Nat → Prop} {pc : List (E × Bool)}
theorem settle1_den (hp : PcOk U r pc) {s : SV} {v : Value} (hd : s.den U r g L v) : (settle1 pc s).den U r g L v := by
  unfold settle1
  split
  · split
    · rename_i e b h
      have := look_ok hp h
      simp only [SV.den, E.ev, O1.ev, D.toB_b] at hd ⊢
      rw [hd, this]
    · exact hd
  · split
    · rename_i e _ b h
      have := look_ok hp h
      simp only [SV.den, E.ev, D.toB_b] at hd ⊢
      rw [hd, this]
    · exact hd
  · exact hd
theorem settleL_den (hp : PcOk U r pc) : ∀ {l : List SV} {vs : List Value}, SV.denL U r g L l vs → SV.denL U r g L (l.map (settle1 pc)) vs
  | [], [], h => h
  | [], _ :: _, h => by simp [SV.denL] at h
  | _ :: _, [], h => by simp [SV.denL] at h
  | s :: l, v :: vs, h => by
    simp only [SV.denL, List.map_cons] at h ⊢
    exact ⟨settle1_den hp h.1, settleL_den hp h.2⟩
theorem settle_den (hp : PcOk U r pc) {s : SV} {v : Value} (hd : s.den U r g L v) : (settle pc s).den U r g L v := by
  unfold settle
  split
  · simp only [SV.den] at hd ⊢
    obtain ⟨xs, h1, h2⟩ := hd
    exact ⟨xs, h1, settleL_den hp h2⟩
  · exact settle1_den hp hd
end

/-- What is kept of a walk: its result, and memory. -/
def heapT (t : Tree (SV × Cx)) : Tree (SV × SH) := t.bind fun x => .ret (settle x.2.pc x.1, x.2.h)

/-- What was asked of a place, where it is not yet told to the letter. -/
def morePc (m : List (Nat × E)) (pc : List (E × Bool)) : List (E × Bool) → List (E × Bool)
  | [] => []
  | x :: l => (match x.1.sub m with
    | some e => (match lookS e pc with
      | some _ => morePc m pc l
      | none => (e, x.2) :: morePc m pc l)
    | none => morePc m pc l)

def memoH (p : HPat) (T : Tree (SV × SH)) (other : List SV → Cx → Tree (SV × Cx)) (args : List SV) (c : Cx) : Tree (SV × Cx) :=
  match p.seek args c.h with
  | (m, bls) => if p.ok m bls args c then subH p bls c.h m ⟨c.h, c.nv, morePc m c.pc p.pc ++ c.pc⟩ T else other args c

/-- A leaf of a pattern's tree at a place. -/
def HLeaf (U : Nat → D → D) (r : Nat → D) (g : Gh) (L : Nat → Prop) (c0 : Cx) (w : World) (K : Value → World → Prop) (p : HPat) (bls : List Nat) (H : SH) (r' : Nat → D) (x : SV × SH) : Prop :=
  ∃ (m' : List (Nat × E)) (c' : Cx) (y : SV) (h1 : SH), c0.nv ≤ c'.nv ∧ PcOk U r c'.pc ∧ Fills U r r' m' ∧ x.1.ren m' (blN bls H.length) = some y ∧ renH m' (blN bls H.length) x.2 = some h1 ∧ Post U L r g c0 w K r (y, ⟨behindH p.hs h1 bls H, c'.nv, c'.pc⟩)

section
variable {U : Nat → D → D} {r r' : Nat → D} {g : Gh} {L : Nat → Prop} {c : Cx} {w w' : World} {P : Program} {K : Value → World → Prop}

/-- A pattern's tree at a place, and what it says of the pattern's own walk. -/
theorem subH_sat {p : HPat} {bls : List Nat} {H : SH} {c0 : Cx} : ∀ {t : Tree (SV × SH)} {m : List (Nat × E)} {c : Cx}, c0.nv ≤ c.nv → PcOk U r c.pc → (subH p bls H m c t).sat U (Post U L r g c0 w K) r →
    ∃ r', Fills U r r' m ∧ t.sat U (HLeaf U r g L c0 w K p bls H) r' := by
  intro t
  induction t with
  | ret x =>
    intro m c h2 hp h
    simp only [subH] at h
    split at h
    · rename_i y h1 hy hh1
      exact ⟨fillM U r m, fillM_ok m, m, c, y, h1, h2, hp, fillM_ok m, hy, hh1, h⟩
    · exact h.elim
  | ite e t f iht ihf =>
    intro m c h2 hp h
    simp only [subH] at h
    split at h
    · rename_i e' he
      obtain ⟨pc', hp', h | h⟩ := br_sat hp h
      · obtain ⟨r', hf, hs⟩ := iht (c := { c with pc := pc' }) h2 hp' h.2
        refine ⟨r', hf, ?_⟩
        simp only [Tree.sat]
        rw [if_pos (by rw [← E.sub_ev hf he]; exact h.1)]
        exact hs
      · obtain ⟨r', hf, hs⟩ := ihf (c := { c with pc := pc' }) h2 hp' h.2
        refine ⟨r', hf, ?_⟩
        simp only [Tree.sat]
        rw [if_neg (by rw [← E.sub_ev hf he]; simp [h.1])]
        exact hs
    · exact h.elim
  | chk e t ih =>
    intro m c h2 hp h
    simp only [subH] at h
    split at h
    · rename_i i e0
      split at h
      · rename_i e' hi he
        have fin : ∀ {x : E} {c' : Cx}, c0.nv ≤ c'.nv → PcOk U r c'.pc → (x.ev U r).toF = (e'.ev U r).toF → (subH p bls H ((i, x) :: m) c' t).sat U (Post U L r g c0 w K) r →
            ∃ r', Fills U r r' m ∧ (Tree.chk (.o2 .fsame (.v i) e0) t).sat U (HLeaf U r g L c0 w K p bls H) r' := by
          intro x c' h2 hp hx h
          obtain ⟨r', hf, hs⟩ := ih h2 hp h
          have hf' : Fills U r r' m := fun n e hn => by
            refine hf n e ?_
            unfold lkM
            cases hb : Nat.beq i n with
            | true => rw [Nat.eq_of_beq_eq_true hb] at hi; rw [hi] at hn; cases hn
            | false => exact hn
          have hi' : r' i = x.ev U r := hf i x (by unfold lkM; rw [Nat.beq_refl]; rfl)
          refine ⟨r', hf', ?_, hs⟩
          simp only [E.ev, O2.ev, D.toB_b, hi', hx, ← E.sub_ev hf' he, beq_self_eq_true]
        split at h
        · exact fin h2 hp rfl h
        · split at h
          · rename_i j hj
            exact fin h2 hp (by simp only [E.ev]; exact findE_ok hp hj) h
          · simp only [Tree.sat] at h
            refine fin (c' := ⟨c.h, c.nv + 1, (.o2 .fsame (.v c.nv) e', true) :: c.pc⟩) (Nat.le_succ_of_le h2) ?_ ?_ h.2
            · intro y hy
              rcases List.mem_cons.1 hy with rfl | hy
              · exact h.1
              · exact hp y hy
            · simpa [E.ev, O2.ev, D.toB_b] using h.1
      · exact h.elim
    · exact h.elim
  | all i t _ => intro m c _ _ h; exact h.elim
  | asm e t _ => intro m c _ _ h; exact h.elim
  | bad => intro m c _ _ h; exact h.elim

theorem okHs_get {m : List (Nat × E)} {bl : Nat → Nat} {H : SH} : ∀ {l : List SB} {j k : Nat} {b : SB}, okHs m bl H j l = true → l[k]? = some b → okSB m bl H (j + k) b = true := by
  intro l
  induction l with
  | nil => intro j k b _ h; simp at h
  | cons a l ih =>
    intro j k b h hk
    simp only [okHs, Bool.and_eq_true] at h
    cases k with
    | zero => simp at hk; subst hk; exact h.1
    | succ k => have := ih h.2 (by simpa using hk); rw [← this]; congr 1; omega
theorem okSB_ok {m : List (Nat × E)} {bl : Nat → Nat} {H : SH} {j : Nat} {b : SB} (h : okSB m bl H j b = true) :
    ∃ s cs, H[bl j]? = some (some s) ∧ (b.wr = true → s.wr = true) ∧ SV.renL m bl b.cs = some cs ∧ SV.fitPre cs s.cs = true ∧ ∀ ks e, b.row = some (ks, e) → ∃ e', e.sub m = some e' ∧ s.row = some (ks, e') := by
  unfold okSB at h
  split at h
  · rename_i s hs
    simp only [Bool.and_eq_true] at h
    obtain ⟨h1, h2, h3⟩ := h
    split at h2
    · rename_i cs hc
      refine ⟨s, cs, hs, fun hw => by rw [hw] at h1; simpa using h1, hc, h2, fun ks e hr => ?_⟩
      rw [hr] at h3
      simp only at h3
      split at h3
      · rename_i ks' a e' hr' he'
        simp only [Bool.and_eq_true] at h3
        refine ⟨e', he', ?_⟩
        rw [sameSks_eq h3.1, E.same_eq h3.2]; exact hr'
      · cases h3
    · cases h2
  · cases h
theorem okPc_ok {m : List (Nat × E)} {pc : List (E × Bool)} (hf : Fills U r r' m) (hp : PcOk U r pc) : ∀ {l : List (E × Bool)}, okPc m pc l = true → PcOk U r' l := by
  intro l
  induction l with
  | nil => intro _ x h; cases h
  | cons a l ih =>
    intro h x hx
    simp only [okPc, Bool.and_eq_true] at h
    rcases List.mem_cons.1 hx with rfl | hx
    · have h := h.1
      split at h
      · rename_i e he
        split at h
        · rename_i b hb
          rw [← E.sub_ev hf he, known_ok hp hb]
          simpa using h
        · cases h
      · cases h
    · exact ih h.2 x hx

theorem morePc_ok {m : List (Nat × E)} {pc : List (E × Bool)} (hp : PcOk U r pc) : ∀ {l : List (E × Bool)}, okPc m pc l = true → PcOk U r (morePc m pc l) := by
  intro l
  induction l with
  | nil => intro _ x h; cases h
  | cons a l ih =>
    intro h
    simp only [okPc, Bool.and_eq_true] at h
    obtain ⟨h1, h2⟩ := h
    split at h1
    · rename_i e he
      split at h1
      · rename_i b hb
        have hb' : b = a.2 := by simpa using h1
        simp only [morePc, he]
        split
        · exact ih h2
        · intro x hx
          rcases List.mem_cons.1 hx with rfl | hx
          · show (e.ev U r).toB = a.2
            rw [← hb']; exact known_ok hp hb
          · exact ih h2 x hx
      · cases h1
    · cases h1

set_option maxHeartbeats 2000000 in
/-- THE WALK OF 'f' OVER MEMORY, MADE ONCE. -/
theorem memoH_ok {cf : FuncId → List SV → Cx → Tree (SV × Cx)} {other : List SV → Cx → Tree (SV × Cx)} (hcf : CallsOk U P cf) {f : FuncId} (p : HPat) (ho : EntryOk U P f other) : EntryOk U P f (memoH p (heapT (cf f p.as p.c0)) other) := by
  intro args c L r g w vs K hh hp hd h
  unfold memoH at h
  split at h
  rename_i m bls _
  split at h
  case isFalse => exact ho args c L r g w vs K hh hp hd h
  rename_i hok
  simp only [HPat.ok, Bool.and_eq_true] at hok
  obtain ⟨hlen, hap, has, hbl, hpc⟩ := hok
  have hlen := Nat.eq_of_beq_eq_true hlen
  let N := c.h.length
  let k := p.hs.length
  let bl := blN bls N
  obtain ⟨r', hf, hs⟩ := subH_sat (c0 := c) (c := ⟨c.h, c.nv, morePc m c.pc p.pc ++ c.pc⟩) (Nat.le_refl _) (fun x hx => (List.mem_append.1 hx).elim (fun h => morePc_ok hp hpc x h) (fun h => hp x h)) h
  let g' := g.via bl
  let L' : Nat → Prop := fun id => L (bl id)
  have hvia : Via bl g' L' g L := ⟨fun _ => Iff.rfl, fun _ _ => rfl, fun _ _ => rfl, fun _ _ => rfl⟩
  have blOld : ∀ {j : Nat}, j < k → bls[j]? = some (bl j) := fun {j} hj => by
    have : bls[j]? = some bls[j] := List.getElem?_eq_getElem (by omega)
    show _ = some (blN bls N j)
    unfold blN
    rw [this]
  have blNew : ∀ {j : Nat}, k ≤ j → bl j = N + (j - k) := fun {j} hj => by
    show blN bls N j = _
    unfold blN
    rw [List.getElem?_eq_none (by omega), hlen]
  have blk : ∀ {j : Nat} {b : SB}, p.hs[j]? = some b → ∃ s cs, c.h[bl j]? = some (some s) ∧ (b.wr = true → s.wr = true) ∧ SV.renL m bl b.cs = some cs ∧ SV.fitPre cs s.cs = true ∧ ∀ ks e, b.row = some (ks, e) → ∃ e', e.sub m = some e' ∧ s.row = some (ks, e') := fun {j b} hb => by
    have := okHs_get hbl hb
    rw [Nat.zero_add] at this
    exact okSB_ok this
  have blLt : ∀ {j : Nat}, j < k → bl j < N := fun {j} hj => by
    obtain ⟨s, _, h1, _⟩ := blk (List.getElem?_eq_getElem hj)
    exact (List.getElem?_eq_some_iff.1 h1).1
  have blInj : ∀ {i j : Nat}, i < k → j < k → bl i = bl j → i = j := fun {i j} hi hj he => by
    have h1 := blOld hi
    have h2 := blOld hj
    rw [← he] at h2
    exact apartN_ok hap h1 h2
  have Lk : ∀ {id : Nat}, L' id → id < k := fun {id} hl => by
    have := hh.bnd _ hl
    rcases Nat.lt_or_ge id k with h | h
    · exact h
    · rw [blNew h] at this; have : N + (id - k) < N := this; omega
  have hc0 : ∀ {id : Nat} {b : SB}, p.c0.h[id]? = some (some b) → p.hs[id]? = some b := fun {id b} h => by
    simp only [HPat.c0, List.getElem?_map, Option.map_eq_some_iff, Option.some.injEq, exists_eq_right] at h
    exact h
  have hc0l : p.c0.h.length = k := by simp [HPat.c0, k]
  have heap0 : HeapDen U r' g' L' p.c0.h w := by
    refine ⟨fun id hl => by rw [hc0l]; exact Lk hl, fun id hl => hh.lt _ hl, fun id b hl hb => ?_, fun i j b b' hi hj hb hw hb' he => ?_, fun id b ks e hl hb hr => ?_, fun id b hb hw => ?_⟩
    · obtain ⟨s, cs, h1, h2, h3, h4, h5⟩ := blk (hc0 hb)
      obtain ⟨xs, t, fz, e1, e2, e3, e4, e5⟩ := hh.blk _ s hl h1
      refine ⟨xs, t, fz, e1, e2, fun hw => e3 (h2 hw), ?_, fun j x hx => ?_⟩
      · have := SV.fitPre_length h4; rw [SV.renL_length h3] at this; omega
      · obtain ⟨y, hy, hyr⟩ := SV.renL_get h3 hx
        obtain ⟨z, hz, hzf⟩ := SV.fitPre_get h4 hy
        obtain ⟨v, hv, hvd⟩ := e5 j z hz
        exact ⟨v, hv, (SV.ren_den hf hvia hyr).2 (SV.fit_den hzf hvd)⟩
    · obtain ⟨s, _, h1, h2, _⟩ := blk (hc0 hb)
      obtain ⟨s', _, h1', _⟩ := blk (hc0 hb')
      exact blInj (Lk hi) (Lk hj) (hh.inj _ _ s s' hi hj h1 (h2 hw) h1' he)
    · obtain ⟨s, cs, h1, h2, h3, h4, h5⟩ := blk (hc0 hb)
      obtain ⟨e', he', hr'⟩ := h5 ks e hr
      obtain ⟨xs, t, fz, q1, q2⟩ := hh.rows _ s ks e' hl h1 hr'
      exact ⟨xs, t, fz, q1, by rw [← E.sub_ev hf he']; exact q2⟩
    · obtain ⟨s, _, h1, h2, _⟩ := blk (hc0 hb)
      exact hh.live _ s h1 (h2 hw)
  have hd0 : SV.denL U r' g' L' p.as vs.toList := by
    split at has
    · rename_i as hr
      exact (SV.renL_den hf hvia hr).2 (SV.fitL_den has hd)
    · cases has
  refine hcf f p.as p.c0 L' r' g' w vs K heap0 (okPc_ok hf hp hpc) hd0 (Tree.sat_mono ?_ (Tree.sat_bind.1 hs))
  rintro r'' x ⟨m', c', y, h1, hnv, hp', hf', hy, hh1, hpost⟩ g1 v w' he hd1
  let M1 := x.2.h.length
  have hM1 : h1.length = M1 := renH_length hh1
  have hkM : k ≤ M1 := by have := he.len; rw [hc0l] at this; exact this
  let gf : Gh := ⟨fun id => if N ≤ id ∧ id < N + (M1 - k) then g1.a (id - N + k) else g.a id, fun id => if N ≤ id ∧ id < N + (M1 - k) then g1.n (id - N + k) else g.n id, fun id => if N ≤ id ∧ id < N + (M1 - k) then g1.o (id - N + k) else g.o id⟩
  let H' := behindH p.hs h1 bls c.h
  have hH' : H'.length = N + (M1 - k) := by
    show (updOs p.hs h1 bls 0 c.h ++ h1.drop p.hs.length).length = _
    simp [updOs_length, hM1, N, k]
  let Lf := Lx L c.h H'
  let L1 := Lx L' p.c0.h x.2.h
  have hLf : ∀ id, Lf id ↔ (L id ∧ id < N) ∨ (N ≤ id ∧ id < N + (M1 - k)) := fun id => by
    show (L id ∨ (c.h.length ≤ id ∧ id < H'.length)) ↔ _
    rw [hH']
    constructor
    · rintro (h | h)
      · exact .inl ⟨h, hh.bnd id h⟩
      · exact .inr h
    · rintro (h | h)
      · exact .inl h.1
      · exact .inr h
  have hL1 : ∀ id, L1 id ↔ (L (bl id) ∧ id < k) ∨ (k ≤ id ∧ id < M1) := fun id => by
    show (L' id ∨ (p.c0.h.length ≤ id ∧ id < M1)) ↔ _
    rw [hc0l]
    constructor
    · rintro (h | h)
      · exact .inl ⟨h, Lk h⟩
      · exact .inr h
    · rintro (h | h)
      · exact .inl h.1
      · exact .inr h
  have gfo : ∀ {id : Nat}, id < N → gf.a id = g.a id ∧ gf.n id = g.n id ∧ gf.o id = g.o id := fun {id} h => by
    refine ⟨?_, ?_, ?_⟩
    · show (if N ≤ id ∧ id < _ then _ else _) = _; rw [if_neg (by omega)]
    · show (if N ≤ id ∧ id < _ then _ else _) = _; rw [if_neg (by omega)]
    · show (if N ≤ id ∧ id < _ then _ else _) = _; rw [if_neg (by omega)]
  have gfn : ∀ {j : Nat}, k ≤ j → j < M1 → gf.a (bl j) = g1.a j ∧ gf.n (bl j) = g1.n j ∧ gf.o (bl j) = g1.o j := fun {j} h1 h2 => by
    have e : N + (j - k) - N + k = j := by omega
    rw [blNew h1]
    refine ⟨?_, ?_, ?_⟩
    · show (if N ≤ N + (j - k) ∧ N + (j - k) < _ then g1.a (N + (j - k) - N + k) else _) = _; rw [if_pos (by omega), e]
    · show (if N ≤ N + (j - k) ∧ N + (j - k) < _ then g1.n (N + (j - k) - N + k) else _) = _; rw [if_pos (by omega), e]
    · show (if N ≤ N + (j - k) ∧ N + (j - k) < _ then g1.o (N + (j - k) - N + k) else _) = _; rw [if_pos (by omega), e]
  have g1o : ∀ {j : Nat}, j < k → g1.a j = g.a (bl j) ∧ g1.n j = g.n (bl j) ∧ g1.o j = g.o (bl j) := fun {j} hj => by
    have e1 := he.ga j (by rw [hc0l]; omega)
    have e2 := he.go j (by rw [hc0l]; omega)
    exact ⟨e1.1, e1.2, e2⟩
  have via : Via bl g1 L1 gf Lf := by
    have key : ∀ id, L1 id → gf.a (bl id) = g1.a id ∧ gf.n (bl id) = g1.n id ∧ gf.o (bl id) = g1.o id := fun id hl => by
      rcases (hL1 id).1 hl with ⟨_, h2⟩ | ⟨h1, h2⟩
      · have q := gfo (blLt h2)
        have q' := g1o h2
        exact ⟨q.1.trans q'.1.symm, q.2.1.trans q'.2.1.symm, q.2.2.trans q'.2.2.symm⟩
      · exact gfn h1 h2
    refine ⟨fun id => ?_, fun id hl => (key id hl).1.symm, fun id hl => (key id hl).2.1.symm, fun id hl => (key id hl).2.2.symm⟩
    rw [hL1, hLf]
    rcases Nat.lt_or_ge id k with h | h
    · have := blLt h
      constructor
      · rintro (h' | h')
        · exact .inl ⟨h'.1, this⟩
        · omega
      · rintro (h' | h')
        · exact .inl ⟨h'.1, h⟩
        · omega
    · rw [blNew h]
      constructor
      · rintro (h' | h')
        · omega
        · exact .inr ⟨by omega, by omega⟩
      · rintro (h' | h')
        · omega
        · exact .inr ⟨h, by omega⟩
  have gl : GLe g L gf Lf := ⟨fun id h => by
    have hlt : id < N := hh.bnd id h
    exact ⟨(hLf id).2 (.inl ⟨h, hlt⟩), (gfo hlt).1, (gfo hlt).2.1⟩, fun id h => (gfo (hh.bnd id h)).2.2⟩
  -- what becomes of a block
  have fromMemo : ∀ {j : Nat} {s : SB}, h1[j]? = some (some s) → ∃ s0, x.2.h[j]? = some (some s0) ∧ renSB m' bl s0 = some s := fun {j s} h => by
    obtain ⟨o0, k1, k2⟩ := renH_get hh1 h
    obtain ⟨s0, rfl, k3⟩ := renO_some k2
    exact ⟨s0, k1, k3⟩
  have kind : ∀ {id : Nat} {s : SB}, H'[id]? = some (some s) →
      (id < N ∧ c.h[id]? = some (some s) ∧ ∀ j b, p.hs[j]? = some b → b.wr = true → bl j ≠ id) ∨
      (∃ j s0, bl j = id ∧ x.2.h[j]? = some (some s0) ∧ renSB m' bl s0 = some s ∧ (j < k → ∃ b, p.hs[j]? = some b ∧ b.wr = true)) := by
    intro id s h
    have h : (updOs p.hs h1 bls 0 c.h ++ h1.drop p.hs.length)[id]? = some (some s) := h
    rcases Nat.lt_or_ge id N with hlt | hge
    · rw [List.getElem?_append_left (by rw [updOs_length]; exact hlt), updOs_get, Nat.zero_add] at h
      have ho : c.h[id]? = some c.h[id] := List.getElem?_eq_getElem hlt
      rw [ho] at h
      simp only [Option.map_some, Option.some.injEq] at h
      unfold updO at h
      split at h
      · rename_i j hj
        have hj' := posOf_some hj
        have hjk : j < k := by have := (List.getElem?_eq_some_iff.1 hj').1; omega
        have hbj : bl j = id := by rw [blOld hjk] at hj'; exact Option.some.inj hj'
        split at h
        · rename_i b hb
          split at h
          · rename_i hw
            right
            cases hx : h1[j]? with
            | none => rw [hx] at h; cases h
            | some o =>
              rw [hx] at h
              simp only [Option.getD_some] at h
              subst h
              obtain ⟨s0, k1, k2⟩ := fromMemo hx
              exact ⟨j, s0, hbj, k1, k2, fun _ => ⟨b, hb, hw⟩⟩
          · rename_i hw
            left
            refine ⟨hlt, by rw [ho, h], fun i b' hi hw' he => ?_⟩
            have hik : i < k := (List.getElem?_eq_some_iff.1 hi).1
            have := blInj hik hjk (he.trans hbj.symm)
            subst this
            rw [hb] at hi
            cases hi
            exact hw hw'
        · rename_i hb
          rw [List.getElem?_eq_getElem hjk] at hb; cases hb
      · rename_i hn
        left
        refine ⟨hlt, by rw [ho, h], fun i b hi _ he => ?_⟩
        have := blOld (List.getElem?_eq_some_iff.1 hi).1
        rw [he] at this
        exact posOf_none hn i this
    · right
      rw [List.getElem?_append_right (by rw [updOs_length]; exact hge), updOs_length, List.getElem?_drop] at h
      obtain ⟨s0, k1, k2⟩ := fromMemo h
      refine ⟨_, s0, ?_, k1, k2, fun hlt => by have : k + (id - N) < k := hlt; omega⟩
      rw [blNew (show k ≤ p.hs.length + (id - c.h.length) from Nat.le_add_right _ _)]
      show N + (k + (id - N) - k) = id
      omega
  have mayS : ∀ {z : Nat}, Wr g' L' p.c0.h z → ∃ j b s, p.hs[j]? = some b ∧ b.wr = true ∧ L (bl j) ∧ c.h[bl j]? = some (some s) ∧ s.wr = true ∧ g.a (bl j) = z := by
    rintro z ⟨j, b, k1, k2, k3, k4⟩
    obtain ⟨s, _, q1, q2, _⟩ := blk (hc0 k2)
    exact ⟨j, b, s, hc0 k2, k3, k1, q1, q2 k3, k4⟩
  have frm : Frm (Wr g L c.h) w w' := by
    have f := he.frm
    refine ⟨f.os, f.tape, f.output, f.size, fun z hz hn => f.block z hz fun hm => ?_⟩
    obtain ⟨j, b, s, q1, q2, q3, q4, q5, q6⟩ := mayS hm
    exact hn ⟨_, s, q3, q4, q5, q6⟩
  have stays : ∀ {id : Nat} {s : SB}, L id → c.h[id]? = some (some s) → (∀ j b, p.hs[j]? = some b → b.wr = true → bl j ≠ id) → w'.heap[g.a id]? = w.heap[g.a id]? := fun {id s} hl hs hn => by
    refine he.frm.block _ (hh.lt id hl) fun hm => ?_
    obtain ⟨j, b, s', q1, q2, q3, q4, q5, q6⟩ := mayS hm
    exact hn j b q1 q2 (hh.inj _ _ s' s q3 hl q4 q5 hs q6)
  have mL : ∀ {j : Nat}, Lf (bl j) → L1 j := fun {j} h => (via.L j).2 h
  have blkOf : ∀ {id : Nat} {s : SB}, Lf id → H'[id]? = some (some s) → BlkDen U r gf Lf w' s id := by
    intro id s hl h
    rcases kind h with ⟨hlt, h1, h2⟩ | ⟨j, s0, rfl, k1, k2, k3⟩
    · have hL : L id := by
        rcases (hLf id).1 hl with h' | h'
        · exact h'.1
        · omega
      obtain ⟨xs, tt, fz, e1, e2, e3, e4, e5⟩ := hh.blk id s hL h1
      have hsame' := stays hL h1 h2
      refine ⟨by rw [(gl.on id hL).2.1]; exact Nat.lt_of_lt_of_le (hh.lt id hL) he.frm.size, xs, tt, fz, by rw [(gl.on id hL).2.1, hsame']; exact e1, by rw [(gl.on id hL).2.2]; exact e2, e3, e4, fun q c hc => ?_, fun ks e hr => ?_⟩
      · obtain ⟨v, hv', hd⟩ := e5 q c hc
        exact ⟨v, hv', SV.den_mono gl hd⟩
      · obtain ⟨ys, t', fz', q1, q2⟩ := hh.rows id s ks e hL h1 hr
        rw [e1] at q1
        cases q1
        rw [gl.off id hL]; exact q2
    · have hl1 := mL hl
      obtain ⟨w1, w2, w3, w4⟩ := renSB_some k2
      obtain ⟨xs, tt, fz, e1, e2, e3, e4, e5⟩ := he.heap.blk j s0 hl1 k1
      refine ⟨by rw [← via.a j hl1]; exact he.heap.lt j hl1, xs, tt, fz, by rw [← via.a j hl1]; exact e1, by rw [← via.n j hl1]; exact e2, fun h => e3 (by rw [← w1]; exact h), by rw [SV.renL_length w2]; exact e4, fun q y hq => ?_, fun ks e hr => ?_⟩
      · have : q < s0.cs.length := by have := (List.getElem?_eq_some_iff.1 hq).1; rw [SV.renL_length w2] at this; exact this
        obtain ⟨y', hy', hyr⟩ := SV.renL_get w2 (List.getElem?_eq_getElem this)
        rw [hq] at hy'
        cases hy'
        obtain ⟨v, hv, hvd⟩ := e5 q _ (List.getElem?_eq_getElem this)
        exact ⟨v, hv, (SV.ren_den hf' via hyr).1 hvd⟩
      · obtain ⟨e0, q1, q2⟩ := w4 ks e hr
        obtain ⟨ys, t', fz', q3, q4⟩ := he.heap.rows j s0 ks e0 hl1 k1 q1
        rw [e1] at q3
        cases q3
        rw [← via.o j hl1, E.sub_ev hf' q2]; exact q4
  -- where a block of the walk lies that is written
  have lies : ∀ {j : Nat} {s0 : SB}, L1 j → x.2.h[j]? = some (some s0) → (s0.wr = true ∨ k ≤ j) → w.heap.size ≤ g1.a j ∨ ∃ i b s, p.hs[i]? = some b ∧ b.wr = true ∧ L (bl i) ∧ c.h[bl i]? = some (some s) ∧ s.wr = true ∧ g.a (bl i) = g1.a j := by
    intro j s0 hl hs hw
    have : w.heap.size ≤ g1.a j ∨ Wr g' L' p.c0.h (g1.a j) := by
      rcases hw with hw | hw
      · exact he.wrs j s0 hl hs hw
      · exact he.fresh j (by rw [hc0l]; exact hw) (List.getElem?_eq_some_iff.1 hs).1
    exact this.imp_right mayS
  have oldL : ∀ {id : Nat}, Lf id → id < N → L id := fun {id} h hlt => by
    rcases (hLf id).1 h with h | h
    · exact h.1
    · omega
  have oldM : ∀ {j : Nat}, L1 j → j < k → L (bl j) := fun {j} h hlt => by
    rcases (hL1 j).1 h with h | h
    · exact h.1
    · omega
  have heap : HeapDen U r gf Lf H' w' := by
    refine ⟨fun id h => ?_, fun id h => ?_, fun id s hl hs => ?_, fun i j s s' hi hj hs hw hs' hij => ?_, fun id s ks e hl hs hr => ?_, fun id s hs hw => ?_⟩
    · rw [hH']
      rcases (hLf id).1 h with h | h
      · omega
      · exact h.2
    · rcases (hLf id).1 h with ⟨q1, q2⟩ | ⟨q1, q2⟩
      · rw [(gfo q2).1]; exact Nat.lt_of_lt_of_le (hh.lt id q1) he.frm.size
      · have e : id = bl (k + (id - N)) := by rw [blNew (Nat.le_add_right _ _)]; omega
        rw [e] at h ⊢
        rw [← via.a _ (mL h)]
        exact he.heap.lt _ (mL h)
    · obtain ⟨xs, t', fz, e1, e2, e3, e4, e5, _⟩ := (blkOf hl hs).cells
      exact ⟨xs, t', fz, e1, e2, e3, e4, e5⟩
    · rcases kind hs with ⟨i1, i2, i3⟩ | ⟨a, sa, rfl, ka1, ka2, ka3⟩ <;> rcases kind hs' with ⟨j1, j2, j3⟩ | ⟨b, sb, rfl, kb1, kb2, kb3⟩
      · rw [(gfo i1).1, (gfo j1).1] at hij
        have hLi : L i := oldL hi i1
        have hLj : L j := oldL hj j1
        exact hh.inj i j s s' hLi hLj i2 hw j2 hij
      · have hLi : L i := oldL hi i1
        have hlb := mL hj
        rw [(gfo i1).1, ← via.a b hlb] at hij
        rcases Nat.lt_or_ge b k with hbk | hbk
        · rw [(g1o hbk).1] at hij
          obtain ⟨pb, q1, q2⟩ := kb3 hbk
          obtain ⟨s1, _, q3, q4, _⟩ := blk q1
          have hLb : L (bl b) := oldM hlb hbk
          exact absurd (hh.inj i (bl b) s s1 hLi hLb i2 hw q3 hij).symm (i3 b pb q1 q2)
        · rcases lies hlb kb1 (.inr hbk) with h | ⟨z, pb, sz, q1, q2, q3, q4, q5, q6⟩
          · have := hh.lt i hLi; omega
          · exact absurd (hh.inj (bl z) i sz s q3 hLi q4 q5 i2 (q6.trans hij.symm)) (i3 z pb q1 q2)
      · have hLj : L j := oldL hj j1
        have hla := mL hi
        rw [(gfo j1).1, ← via.a a hla] at hij
        have hwa : sa.wr = true := by rw [← (renSB_some ka2).1]; exact hw
        rcases Nat.lt_or_ge a k with hak | hak
        · rw [(g1o hak).1] at hij
          obtain ⟨pb, q1, q2⟩ := ka3 hak
          obtain ⟨s1, _, q3, q4, _⟩ := blk q1
          have hLa : L (bl a) := oldM hla hak
          exact absurd (hh.inj (bl a) j s1 s' hLa hLj q3 (q4 q2) j2 hij) (j3 a pb q1 q2)
        · rcases lies hla ka1 (.inr hak) with h | ⟨z, pb, sz, q1, q2, q3, q4, q5, q6⟩
          · have := hh.lt j hLj; omega
          · exact absurd (hh.inj (bl z) j sz s' q3 hLj q4 q5 j2 (q6.trans hij)) (j3 z pb q1 q2)
      · have hla := mL hi
        have hlb := mL hj
        rw [← via.a a hla, ← via.a b hlb] at hij
        have hwa : sa.wr = true := by rw [← (renSB_some ka2).1]; exact hw
        rw [he.heap.inj a b sa sb hla hlb ka1 hwa kb1 hij]
    · obtain ⟨xs, t', fz, e1, e2, e3, e4, e5, e6⟩ := (blkOf hl hs).cells
      exact ⟨xs, t', fz, e1, e6 ks e hr⟩
    · rcases kind hs with ⟨i1, i2, i3⟩ | ⟨a, sa, rfl, ka1, ka2, ka3⟩
      · exact (hLf id).2 (.inl ⟨hh.live id s i2 hw, i1⟩)
      · exact (via.L a).1 (he.heap.live a sa ka1 (by rw [← (renSB_some ka2).1]; exact hw))
  refine hpost gf v w' ⟨hnv, fun _ => rfl, by show N ≤ H'.length; omega, fun id h => ?_, fun id h => ?_, heap, hp', frm, fun id s hl hs hw => ?_, fun id q1 q2 => ?_⟩ ((SV.ren_den hf' via hy).1 (settle_den he.pc hd1))
  · have h : ¬ (N ≤ id ∧ id < H'.length) := h
    rw [hH'] at h
    exact ⟨by show (if N ≤ id ∧ id < _ then _ else _) = _; rw [if_neg h], by show (if N ≤ id ∧ id < _ then _ else _) = _; rw [if_neg h]⟩
  · have h : ¬ (N ≤ id ∧ id < H'.length) := h
    rw [hH'] at h
    show (if N ≤ id ∧ id < _ then _ else _) = _
    rw [if_neg h]
  · rcases kind hs with ⟨i1, i2, i3⟩ | ⟨a, sa, rfl, ka1, ka2, ka3⟩
    · exact .inr ⟨id, s, hh.live id s i2 hw, i2, hw, ((gfo i1).1).symm⟩
    · have hla := mL hl
      have hwa : sa.wr = true := by rw [← (renSB_some ka2).1]; exact hw
      rw [← via.a a hla]
      rcases lies hla ka1 (.inl hwa) with h | ⟨z, pb, sz, q1, q2, q3, q4, q5, q6⟩
      · exact .inl h
      · exact .inr ⟨_, sz, q3, q4, q5, q6⟩
  · have q1 : N ≤ id := q1
    have q2 : id < H'.length := q2
    rw [hH'] at q2
    have e : id = bl (k + (id - N)) := by rw [blNew (Nat.le_add_right _ _)]; omega
    have ea : gf.a id = g1.a (k + (id - N)) := by
      have := (gfn (j := k + (id - N)) (Nat.le_add_right _ _) (by omega)).1
      rw [← e] at this; exact this
    rw [ea]
    rcases he.fresh (k + (id - N)) (by rw [hc0l]; omega) (show k + (id - N) < M1 by omega) with h | h
    · exact .inl h
    · obtain ⟨j, b, s, q1, q2, q3, q4, q5, q6⟩ := mayS h
      exact .inr ⟨_, s, q3, q4, q5, q6⟩
end

/-! ### Questions: functions that only read, and answer with a truth -/

/-- Names put back. -/
def E.inl (env : List (Nat × E)) : E → E
  | .v n => (lkM n env).getD (.v n)
  | .o1 o x => .o1 o (x.inl env)
  | .o2 o x y => .o2 o (x.inl env) (y.inl env)
  | .o3 o x y z => .o3 o (x.inl env) (y.inl env) (z.inl env)
  | .app n x => .app n (x.inl env)
  | e => e
theorem E.inl_ev {U : Nat → D → D} {r : Nat → D} {env : List (Nat × E)} (he : EnvOk U r env) : ∀ e : E, (e.inl env).ev U r = e.ev U r := by
  intro e
  induction e with
  | v n =>
    show ((lkM n env).getD (.v n)).ev U r = r n
    cases h : lkM n env with
    | none => rfl
    | some x => exact (he _ (lkM_mem h)).symm
  | o1 o x ih => simp only [E.inl, E.ev, ih]
  | o2 o x y ihx ihy => simp only [E.inl, E.ev, ihx, ihy]
  | o3 o x y z ihx ihy ihz => simp only [E.inl, E.ev, ihx, ihy, ihz]
  | app n x ih => simp only [E.inl, E.ev, ih]
  | _ => rfl
theorem E.inl_under {m : Nat} {env : List (Nat × E)} (he : EnvUnder m env) : ∀ {e : E}, e.under m = true → (e.inl env).under m = true := by
  intro e
  induction e with
  | v n =>
    intro h
    show ((lkM n env).getD (.v n)).under m = true
    cases hl : lkM n env with
    | none => exact h
    | some x => exact (he _ (lkM_mem hl)).2
  | o1 o x ih => intro h; exact ih h
  | o2 o x y ihx ihy => intro h; simp only [E.under, Bool.and_eq_true] at h; simp only [E.inl, E.under, Bool.and_eq_true]; exact ⟨ihx h.1, ihy h.2⟩
  | o3 o x y z ihx ihy ihz => intro h; simp only [E.under, Bool.and_eq_true] at h; simp only [E.inl, E.under, Bool.and_eq_true]; exact ⟨ihx h.1, ihy h.2.1, ihz h.2.2⟩
  | app n x ih => intro h; exact ih h
  | _ => intro _; rfl

/-- Every way answers as 'e' says. -/
def mergeT (e : E) : List (Nat × E) → List (E × Bool) → Tree (SV × Cx) → Bool
  | env, pc, .ret (.bool x, _) => (match x.inl env with
    | .b v => look e pc == some v
    | x => look e (splitB x true ++ pc) == some true && look e (splitB x false ++ pc) == some false)
  | env, pc, .ite c t f => mergeT e env (splitB (c.inl env) true ++ pc) t && mergeT e env (splitB (c.inl env) false ++ pc) f
  | env, pc, .chk (.o2 .fsame (.v i) d) t => mergeT e ((i, d.inl env) :: env) pc t
  | _, _, _ => false
theorem mergeT_ok {U : Nat → D → D} {e : E} : ∀ {t : Tree (SV × Cx)} {m : Nat} {env : List (Nat × E)} {pc : List (E × Bool)} {r : Nat → D}, mergeT e env pc t = true → okA m t = true → EnvOk U r env → EnvUnder m env → PcOk U r pc → (∀ x ∈ pc, x.1.under m = true) → e.under m = true →
    ∃ x c1 r'', evA U t r = some ((.bool x, c1), r'') ∧ (∀ n, n < m → r'' n = r n) ∧ (x.ev U r'').toB = (e.ev U r).toB := by
  intro t
  have app : ∀ {r : Nat → D} {x : E} {b : Bool} {pc : List (E × Bool)}, PcOk U r pc → (x.ev U r).toB = b → PcOk U r (splitB x b ++ pc) := fun hp hx y hy => (List.mem_append.1 hy).elim (splitB_ok hx y) (hp y)
  induction t with
  | ret z =>
    intro m env pc r h hok he hu hp hpu _
    obtain ⟨s, c1⟩ := z
    cases s <;> simp only [mergeT, Bool.false_eq_true] at h
    rename_i x
    refine ⟨x, c1, r, rfl, fun _ _ => rfl, ?_⟩
    have hx := E.inl_ev he x
    split at h
    · rename_i v hv
      rw [hv] at hx
      rw [← hx, look_ok hp (beq_iff_eq.1 h)]; rfl
    · rw [Bool.and_eq_true] at h
      rw [← hx]
      cases hb : ((x.inl env).ev U r).toB with
      | true => exact (look_ok (app hp hb) (beq_iff_eq.1 h.1)).symm
      | false => exact (look_ok (app hp hb) (beq_iff_eq.1 h.2)).symm
  | ite c t f iht ihf =>
    intro m env pc r h hok he hu hp hpu heu
    simp only [mergeT, Bool.and_eq_true] at h
    simp only [okA, Bool.and_eq_true] at hok
    have hx := E.inl_ev he c
    have under : ∀ {b : Bool}, ∀ x ∈ splitB (E.inl env c) b ++ pc, x.1.under m = true := fun x hx => (List.mem_append.1 hx).elim (splitB_under (E.inl_under hu hok.1) x) (hpu x)
    cases hb : (c.ev U r).toB with
    | true =>
      obtain ⟨x, c1, r'', q1, q2⟩ := iht h.1 hok.2.1 he hu (app hp (by rw [hx]; exact hb)) under heu
      exact ⟨x, c1, r'', by simp only [evA, hb, if_true]; exact q1, q2⟩
    | false =>
      obtain ⟨x, c1, r'', q1, q2⟩ := ihf h.2 hok.2.2 he hu (app hp (by rw [hx]; exact hb)) under heu
      exact ⟨x, c1, r'', by simp only [evA, hb]; exact q1, q2⟩
  | chk c t ih =>
    intro m env pc r h hok he hu hp hpu heu
    unfold mergeT at h
    split at h
    · cases ‹Tree.chk c t = _›
    · cases ‹Tree.chk c t = _›
    · rename_i env pc _ _ _ i d t' heq
      cases heq
      simp only [okA, Bool.and_eq_true] at hok
      obtain ⟨h1, h2, h3⟩ := hok
      have hmi := Nat.le_of_ble_eq_true h1
      have old : ∀ {x : E}, x.under m = true → x.ev U (Tree.upd r i (d.ev U r)) = x.ev U r := fun hx => E.ev_under U (m := m) (fun n hn => upd_low (by omega)) hx
      have mono : ∀ {x : E}, x.under m = true → x.under (i + 1) = true := fun hx => under_le (by omega) hx
      obtain ⟨x, c1, r'', q1, q2, q3⟩ := ih (m := i + 1) (r := Tree.upd r i (d.ev U r)) h h3 (fun p hp' => by
          rcases List.mem_cons.1 hp' with rfl | hp'
          · show Tree.upd r i (d.ev U r) i = (d.inl env).ev U (Tree.upd r i (d.ev U r))
            rw [old (E.inl_under hu h2), E.inl_ev he]
            unfold Tree.upd; rw [if_pos rfl]
          · have k1 := hu p hp'
            rw [old k1.2, upd_low (by omega)]
            exact he p hp') (fun p hp' => by
          rcases List.mem_cons.1 hp' with rfl | hp'
          · exact ⟨by omega, mono (E.inl_under hu h2)⟩
          · have k1 := hu p hp'
            exact ⟨by omega, mono k1.2⟩) (fun p hp' => by rw [old (hpu p hp')]; exact hp p hp') (fun p hp' => mono (hpu p hp')) (mono heu)
      exact ⟨x, c1, r'', q1, fun n hn => by rw [q2 n (by omega)]; exact upd_low (by omega), by rw [q3, old heu]⟩
    · cases h
  | all i t _ => intro m env pc r h; cases h
  | asm c t _ => intro m env pc r h; cases h
  | bad => intro m env pc r h; cases h

/-- A question's contract. -/
def askRun (p : HPat) (e : E) (other : List SV → Cx → Tree (SV × Cx)) (args : List SV) (c : Cx) : Tree (SV × Cx) :=
  match p.seek args c.h with
  | (m, bls) => if p.ok m bls args c && m.all fun q => Nat.blt q.1 1000 then (match e.sub m with
      | some e' => .ret (.bool e', ⟨c.h, c.nv, morePc m c.pc p.pc ++ c.pc⟩)
      | none => other args c) else other args c
def askOk (p : HPat) (e : E) (t : Tree (SV × Cx)) : Bool :=
  mergeT e [] p.pc t && (okA 1000 t && (e.under 1000 && ((p.pc.all fun x => x.1.under 1000) && p.hs.all fun b => !b.wr)))
section
variable {U : Nat → D → D} {r r' : Nat → D} {g : Gh} {L : Nat → Prop} {c : Cx} {w w' : World} {P : Program} {K : Value → World → Prop}
/-- What is handed over fits: the pattern's own walk. -/
theorem memo_core {cf : FuncId → List SV → Cx → Tree (SV × Cx)} (hcf : CallsOk U P cf) {f : FuncId} {p : HPat} {m : List (Nat × E)} {bls : List Nat} {args : List SV} {vs : Array Value} (hh : HeapDen U r g L c.h w) (hp : PcOk U r c.pc) (hd : SV.denL U r g L args vs.toList)
    (hok : p.ok m bls args c = true) (hf : Fills U r r' m) (hs : (cf f p.as p.c0).sat U (Post U (fun id => L (blN bls c.h.length id)) r' (g.via (blN bls c.h.length)) p.c0 w K) r') : CallGoal P f vs w K := by
  simp only [HPat.ok, Bool.and_eq_true] at hok
  obtain ⟨hlen, hap, has, hbl, hpc⟩ := hok
  have hlen := Nat.eq_of_beq_eq_true hlen
  let N := c.h.length
  let k := p.hs.length
  let bl := blN bls N
  let g' := g.via bl
  let L' : Nat → Prop := fun id => L (bl id)
  have hvia : Via bl g' L' g L := ⟨fun _ => Iff.rfl, fun _ _ => rfl, fun _ _ => rfl, fun _ _ => rfl⟩
  have blOld : ∀ {j : Nat}, j < k → bls[j]? = some (bl j) := fun {j} hj => by
    have : bls[j]? = some bls[j] := List.getElem?_eq_getElem (by omega)
    show _ = some (blN bls N j)
    unfold blN
    rw [this]
  have blNew : ∀ {j : Nat}, k ≤ j → bl j = N + (j - k) := fun {j} hj => by
    show blN bls N j = _
    unfold blN
    rw [List.getElem?_eq_none (by omega), hlen]
  have blk : ∀ {j : Nat} {b : SB}, p.hs[j]? = some b → ∃ s cs, c.h[bl j]? = some (some s) ∧ (b.wr = true → s.wr = true) ∧ SV.renL m bl b.cs = some cs ∧ SV.fitPre cs s.cs = true ∧ ∀ ks e, b.row = some (ks, e) → ∃ e', e.sub m = some e' ∧ s.row = some (ks, e') := fun {j b} hb => by
    have := okHs_get hbl hb
    rw [Nat.zero_add] at this
    exact okSB_ok this
  have blInj : ∀ {i j : Nat}, i < k → j < k → bl i = bl j → i = j := fun {i j} hi hj he => by
    have h1 := blOld hi
    have h2 := blOld hj
    rw [← he] at h2
    exact apartN_ok hap h1 h2
  have Lk : ∀ {id : Nat}, L' id → id < k := fun {id} hl => by
    have := hh.bnd _ hl
    rcases Nat.lt_or_ge id k with h | h
    · exact h
    · rw [blNew h] at this; have : N + (id - k) < N := this; omega
  have hc0 : ∀ {id : Nat} {b : SB}, p.c0.h[id]? = some (some b) → p.hs[id]? = some b := fun {id b} h => by
    simp only [HPat.c0, List.getElem?_map, Option.map_eq_some_iff, Option.some.injEq, exists_eq_right] at h
    exact h
  have hc0l : p.c0.h.length = k := by simp [HPat.c0, k]
  have heap0 : HeapDen U r' g' L' p.c0.h w := by
    refine ⟨fun id hl => by rw [hc0l]; exact Lk hl, fun id hl => hh.lt _ hl, fun id b hl hb => ?_, fun i j b b' hi hj hb hw hb' he => ?_, fun id b ks e hl hb hr => ?_, fun id b hb hw => ?_⟩
    · obtain ⟨s, cs, h1, h2, h3, h4, h5⟩ := blk (hc0 hb)
      obtain ⟨xs, t, fz, e1, e2, e3, e4, e5⟩ := hh.blk _ s hl h1
      refine ⟨xs, t, fz, e1, e2, fun hw => e3 (h2 hw), ?_, fun j x hx => ?_⟩
      · have := SV.fitPre_length h4; rw [SV.renL_length h3] at this; omega
      · obtain ⟨y, hy, hyr⟩ := SV.renL_get h3 hx
        obtain ⟨z, hz, hzf⟩ := SV.fitPre_get h4 hy
        obtain ⟨v, hv, hvd⟩ := e5 j z hz
        exact ⟨v, hv, (SV.ren_den hf hvia hyr).2 (SV.fit_den hzf hvd)⟩
    · obtain ⟨s, _, h1, h2, _⟩ := blk (hc0 hb)
      obtain ⟨s', _, h1', _⟩ := blk (hc0 hb')
      exact blInj (Lk hi) (Lk hj) (hh.inj _ _ s s' hi hj h1 (h2 hw) h1' he)
    · obtain ⟨s, cs, h1, h2, h3, h4, h5⟩ := blk (hc0 hb)
      obtain ⟨e', he', hr'⟩ := h5 ks e hr
      obtain ⟨xs, t, fz, q1, q2⟩ := hh.rows _ s ks e' hl h1 hr'
      exact ⟨xs, t, fz, q1, by rw [← E.sub_ev hf he']; exact q2⟩
    · obtain ⟨s, _, h1, h2, _⟩ := blk (hc0 hb)
      exact hh.live _ s h1 (h2 hw)
  have hd0 : SV.denL U r' g' L' p.as vs.toList := by
    split at has
    · rename_i as hr
      exact (SV.renL_den hf hvia hr).2 (SV.fitL_den has hd)
    · cases has
  exact hcf f p.as p.c0 L' r' g' w vs K heap0 (okPc_ok hf hp hpc) hd0 hs
/-- A QUESTION. -/
theorem ask_ok' {cf : FuncId → List SV → Cx → Tree (SV × Cx)} {other : List SV → Cx → Tree (SV × Cx)} (hcf : CallsOk U P cf) {f : FuncId} (p : HPat) (e : E) (hm : askOk p e (cf f p.as p.c0) = true) (ho : EntryOk U P f other) : EntryOk U P f (askRun p e other) := by
  intro args c L r g w vs K hh hp hd h
  unfold askRun at h
  split at h
  rename_i m bls _
  split at h
  case isFalse => exact ho args c L r g w vs K hh hp hd h
  rename_i hok
  split at h
  case h_2 => exact ho args c L r g w vs K hh hp hd h
  rename_i e' he'
  rw [Bool.and_eq_true] at hok
  obtain ⟨hok, hm1⟩ := hok
  have hok' := hok
  simp only [HPat.ok, Bool.and_eq_true] at hok'
  have hpc := hok'.2.2.2.2
  simp only [askOk, Bool.and_eq_true] at hm
  obtain ⟨h1, h2, h3, h4, h5⟩ := hm
  have hf0 := fillM_ok (U := U) (r := r) m
  obtain ⟨x, c1, r'', q1, q2, q3⟩ := mergeT_ok (U := U) (r := fillM U r m) h1 h2 (fun p hp => by cases hp) (fun p hp => by cases hp) (okPc_ok hf0 hp hpc) (fun x hx => List.all_eq_true.1 h4 x hx) h3
  have hf : Fills U r r'' m := fun n e hn => by
    have hlt : n < 1000 := by
      have := List.all_eq_true.1 hm1 _ (lkM_mem hn)
      rwa [Nat.blt_eq] at this
    rw [q2 n hlt]; exact hf0 n e hn
  refine memo_core hcf hh hp hd hok hf ((evA_sat h2 q1).2 _ ?_)
  intro g1 v w' he hd1
  have frm : Frm (fun _ => False) w w' := by
    have f := he.frm
    refine ⟨f.os, f.tape, f.output, f.size, fun z hz _ => f.block z hz ?_⟩
    rintro ⟨id, b, _, k2, k3, _⟩
    simp only [HPat.c0, List.getElem?_map, Option.map_eq_some_iff, Option.some.injEq, exists_eq_right] at k2
    have := List.all_eq_true.1 h5 b (List.mem_of_getElem? k2)
    rw [k3] at this; cases this
  refine h g v w' (ext_frame (c' := ⟨c.h, c.nv, morePc m c.pc p.pc ++ c.pc⟩) hh rfl (Nat.le_refl _) (fun x hx => (List.mem_append.1 hx).elim (fun h => morePc_ok hp hpc x h) (fun h => hp x h)) frm) ?_
  simp only [SV.den] at hd1 ⊢
  rw [hd1, q3, E.sub_ev hf0 he']
end

/-- Rows are no longer than a number. -/
def limGo (lim : Int) : Nat → List AK → List (E × Bool)
  | _, [] => []
  | i, .sc _ :: l => limGo lim (i + 1) l
  | i, .row _ :: l => (.o2 .ile (.o1 .llen (.v i)) (.i lim), true) :: limGo lim (i + 1) l
/-- The pattern of arguments, whose rows are not written. -/
def hpA (lim : Int) (as : List AArg) : HPat := ⟨argGoA 0 0 as, argBs 0 as, limGo lim 0 (as.flatMap AArg.leaves)⟩
/-- How long a word is, up to a bound. -/
def E.sz : Nat → E → Nat
  | 0, _ => 0
  | n + 1, .o1 _ x => E.sz n x
  | n + 1, .o2 _ x y => E.sz (E.sz n x) y
  | n + 1, .o3 _ x y z => E.sz (E.sz (E.sz n x) y) z
  | n + 1, .app _ x => E.sz n x
  | n + 1, _ => n
/-- A contract that looks at short facts alone. -/
def slimRun (n : Nat) (run : List SV → Cx → Tree (SV × Cx)) : List SV → Cx → Tree (SV × Cx) := fun args c => run args ⟨c.h, c.nv, c.pc.filter fun y => Nat.blt 0 (E.sz n y.1)⟩
theorem slim_ok {U : Nat → D → D} {P : Program} {f : FuncId} {n : Nat} {run : List SV → Cx → Tree (SV × Cx)} (he : EntryOk U P f run) : EntryOk U P f (slimRun n run) :=
  fun args c L r g w vs K hh hp hd h => he args ⟨c.h, c.nv, c.pc.filter fun y => Nat.blt 0 (E.sz n y.1)⟩ L r g w vs K hh (fun x hx => hp x (List.mem_filter.1 hx).1) hd
    (Tree.sat_mono (fun _ _ hx g' v w' e d => hx g' v w' ⟨e.nv, e.agr, e.len, e.ga, e.go, e.heap, e.pc, e.frm, e.wrs, e.fresh⟩ d) h)
mutual
/-- The lengths of slices that are handed over. -/
def lensOf : SV → List E
  | .slo _ _ len => [len]
  | .agg cs => lensOfL cs
  | _ => []
def lensOfL : List SV → List E
  | [] => []
  | x :: l => lensOf x ++ lensOfL l
end
/-- What is known of words, as short facts. -/
def wisePc (lim : Int) (pc : List (E × Bool)) : List E → List (E × Bool)
  | [] => []
  | e :: l => if sure (mk2 .ile e (.i lim)) pc then (mk2 .ile e (.i lim), true) :: wisePc lim pc l else wisePc lim pc l
theorem wisePc_ok {U : Nat → D → D} {r : Nat → D} {lim : Int} {pc : List (E × Bool)} (hp : PcOk U r pc) : ∀ l : List E, PcOk U r (wisePc lim pc l) := by
  intro l
  induction l with
  | nil => intro x h; cases h
  | cons e l ih =>
    unfold wisePc
    split
    · rename_i h
      intro x hx
      rcases List.mem_cons.1 hx with rfl | hx
      · exact sure_ok hp h
      · exact ih x hx
    · exact ih
/-- A contract behind which short facts are kept alone, and what follows of the lengths that were handed over. -/
def wiseRun (lim : Int) (n : Nat) (run : List SV → Cx → Tree (SV × Cx)) : List SV → Cx → Tree (SV × Cx) := fun args c =>
  (run args c).bind fun x => .ret (x.1, ⟨x.2.h, x.2.nv, wisePc lim x.2.pc (lensOfL args) ++ x.2.pc.filter fun y => Nat.blt 0 (E.sz n y.1)⟩)
theorem wise_ok {U : Nat → D → D} {P : Program} {f : FuncId} {lim : Int} {n : Nat} {run : List SV → Cx → Tree (SV × Cx)} (he : EntryOk U P f run) : EntryOk U P f (wiseRun lim n run) := by
  intro args c L r g w vs K hh hp hd h
  rw [wiseRun, Tree.sat_bind] at h
  exact he args c L r g w vs K hh hp hd (Tree.sat_mono (fun r' x hx g' v w' e d => hx g' v w' ⟨e.nv, e.agr, e.len, e.ga, e.go, e.heap,
    fun y hy => (List.mem_append.1 hy).elim (fun h => wisePc_ok e.pc _ y h) (fun h => e.pc y (List.mem_filter.1 h).1), e.frm, e.wrs, e.fresh⟩ d) h)
/-- Every way ends well. -/
def endsWell {α : Type} : Tree α → Bool
  | .ret _ => true
  | .ite _ t e => endsWell t && endsWell e
  | .chk _ t => endsWell t
  | _ => false

/-! ### A plain check in pieces -/

/-- All but the part at a path. -/
def butT : List Bool → Nat → Tree SV → Bool
  | [], _, _ => true
  | true :: p, m, .ite c t e => c.under m && (butT p m t && allTrue m e)
  | false :: p, m, .ite c t e => c.under m && (allTrue m t && butT p m e)
  | p, m, .chk (.o2 .fsame (.v i) e) t => Nat.ble m i && (e.under m && butT p (i + 1) t)
  | _, _, _ => false
/-- The part at a path, but that at a longer one. -/
def midT (q : List Bool) : List Bool → Nat → Tree SV → Bool
  | [], m, t => butT q m t
  | true :: p, m, .ite _ t _ => midT q p m t
  | false :: p, m, .ite _ _ e => midT q p m e
  | p, _, .chk (.o2 .fsame (.v i) _) t => midT q p (i + 1) t
  | _, _, _ => false
/-- The part at a path. -/
def atT : List Bool → Nat → Tree SV → Bool
  | [], m, t => allTrue m t
  | true :: p, m, .ite _ t _ => atT p m t
  | false :: p, m, .ite _ _ e => atT p m e
  | p, _, .chk (.o2 .fsame (.v i) _) t => atT p (i + 1) t
  | _, _, _ => false
theorem but_at : ∀ {t : Tree SV} {q : List Bool} {m : Nat}, butT q m t = true → atT q m t = true → allTrue m t = true := by
  intro t
  induction t with
  | ret a =>
    intro q m h1 h2
    cases q with
    | nil => exact h2
    | cons b q => cases b <;> simp [butT] at h1
  | ite c t e iht ihe =>
    intro q m h1 h2
    cases q with
    | nil => exact h2
    | cons b q =>
      cases b with
      | true =>
        simp only [butT, Bool.and_eq_true] at h1
        simp only [atT] at h2
        simp only [allTrue, Bool.and_eq_true]
        exact ⟨h1.1, iht h1.2.1 h2, h1.2.2⟩
      | false =>
        simp only [butT, Bool.and_eq_true] at h1
        simp only [atT] at h2
        simp only [allTrue, Bool.and_eq_true]
        exact ⟨h1.1, h1.2.1, ihe h1.2.2 h2⟩
  | chk c t ih =>
    intro q m h1 h2
    cases q with
    | nil => exact h2
    | cons b q =>
      cases b <;>
      · unfold butT at h1
        split at h1 <;> first | (cases h1; done) | skip
        all_goals first
          | (rename_i hq hc; cases hc; done)
          | skip
        all_goals
          rename_i i e t' heq hne
          cases heq
          simp only [Bool.and_eq_true] at h1
          simp only [atT] at h2
          simp only [allTrue, Bool.and_eq_true]
          exact ⟨h1.1, h1.2.1, ih h1.2.2 h2⟩
  | all i t _ =>
    intro q m h1 h2
    cases q with
    | nil => exact h2
    | cons b q => cases b <;> simp [butT] at h1
  | asm c t _ =>
    intro q m h1 h2
    cases q with
    | nil => exact h2
    | cons b q => cases b <;> simp [butT] at h1
  | bad =>
    intro q m h1 h2
    cases q with
    | nil => exact h2
    | cons b q => cases b <;> simp [butT] at h1

theorem at_join : ∀ {t : Tree SV} {p q : List Bool} {m : Nat}, midT q p m t = true → atT (p ++ q) m t = true → atT p m t = true := by
  intro t
  induction t with
  | ret a =>
    intro p q m h1 h2
    cases p with
    | nil => exact but_at h1 h2
    | cons b p => cases b <;> simp [midT] at h1
  | ite c t e iht ihe =>
    intro p q m h1 h2
    cases p with
    | nil => exact but_at h1 h2
    | cons b p =>
      cases b with
      | true => exact iht (p := p) (by simpa only [midT] using h1) (by simpa only [List.cons_append, atT] using h2)
      | false => exact ihe (p := p) (by simpa only [midT] using h1) (by simpa only [List.cons_append, atT] using h2)
  | chk c t ih =>
    intro p q m h1 h2
    cases p with
    | nil => exact but_at h1 h2
    | cons b p =>
      cases b <;>
      · unfold midT at h1
        split at h1 <;> first | (cases h1; done) | skip
        all_goals first
          | (rename_i hq hc; cases hc; done)
          | skip
        all_goals
          rename_i i e t' heq hne
          cases heq
          rw [List.cons_append] at h2
          simp only [atT] at h2 ⊢
          rw [← List.cons_append] at h2
          exact ih h1 h2
  | all i t _ =>
    intro p q m h1 h2
    cases p with
    | nil => exact but_at h1 h2
    | cons b p => cases b <;> simp [midT] at h1
  | asm c t _ =>
    intro p q m h1 h2
    cases p with
    | nil => exact but_at h1 h2
    | cons b p => cases b <;> simp [midT] at h1
  | bad =>
    intro p q m h1 h2
    cases p with
    | nil => exact but_at h1 h2
    | cons b p => cases b <;> simp [midT] at h1
theorem at_nil {t : Tree SV} {m : Nat} : atT [] m t = allTrue m t := by cases t <;> rfl
theorem lawA_of_true {U : Nat → D → D} {T : Tree SV} (h : allTrue 1000 T = true) : LawIsA U T := ⟨fun _ _ _ hK => allTrue_lets hK h⟩

end Go.Sx
