/-
  Sx, part Jb: rows of any length: made, and appended to.
-/
import Derived.Test.YtaflnmmnaiaceaaSxJa
namespace Go.Sx
open E (mk1 mk2 mkIte mk1_ev mk2_ev mkIte_ev)

/-- The kinds and words of plain cells. -/
def kindsOf : List SV → Option (List Sk × List E)
  | [] => some ([], [])
  | s :: l => match (match s with
      | .bool e => some (Sk.b, e)
      | .int k e => some (Sk.i k, e)
      | .flt k e => some (Sk.f k, e)
      | .str e => some (Sk.s, e)
      | _ => none), kindsOf l with
    | some (k, e), some (ks, es) => some (k :: ks, e :: es)
    | _, _ => none

theorem kindsOf_ok : ∀ {cs : List SV} {ks : List Sk} {es : List E}, kindsOf cs = some (ks, es) → ks.length = cs.length ∧ es.length = cs.length ∧ ∀ (j : Nat) (k : Sk), ks[j]? = some k → ∃ e, es[j]? = some e ∧ cs[j]? = some (skSV k e) := by
  intro cs
  induction cs with
  | nil => intro ks es h; simp [kindsOf] at h; obtain ⟨rfl, rfl⟩ := h; simp
  | cons s cs ih =>
    intro ks es h
    unfold kindsOf at h
    split at h
    · rename_i k e ks' es' h1 h2
      cases h
      obtain ⟨k1, k2, k3⟩ := ih h2
      refine ⟨by simp [k1], by simp [k2], fun j k' hk => ?_⟩
      cases j with
      | zero =>
        simp at hk
        subst hk
        refine ⟨e, by simp, ?_⟩
        split at h1 <;> first | (cases h1; rfl) | cases h1
      | succ j =>
        obtain ⟨e', q1, q2⟩ := k3 j k' (by simpa using hk)
        exact ⟨e', by simpa using q1, by simpa using q2⟩
    · cases h

def sameSks : List Sk → List Sk → Bool
  | [], [] => true
  | x :: l, y :: m => (match x, y with
    | .b, .b => true
    | .i k, .i k' => decide (k = k')
    | .f k, .f k' => decide (k = k')
    | .s, .s => true
    | _, _ => false) && sameSks l m
  | _, _ => false

theorem sameSks_eq : ∀ {l m : List Sk}, sameSks l m = true → l = m := by
  intro l
  induction l with
  | nil => intro m h; cases m <;> simp_all [sameSks]
  | cons x l ih =>
    intro m h
    cases m with
    | nil => simp [sameSks] at h
    | cons y m =>
      simp only [sameSks, Bool.and_eq_true] at h
      rw [ih h.2]
      congr 1
      have h1 := h.1
      cases x <;> cases y <;> simp at h1 <;> first | rfl | (subst h1; rfl)

section
variable {U : Nat → D → D} {L : Nat → Prop} {r : Nat → D} {g : Gh} {c : Cx} {w w' : World} {P : Program} {K : Value → World → Prop}

/-! ### 'make' -/

def makeSliceZ (P : Program) (c : Cx) (t : TypeId) (x y : SV) : Tree (SV × Cx) :=
  match P.underlying t, x, y with
  | some (.slice e), .int _ l, .int _ n =>
    match P.info? e with
    | some ie =>
      match (zeroT P e).map (·.cells) with
      | some z =>
        match (ofValue (.agg z)).cells? with
        | some zs =>
          match kindsOf zs with
          | some (ks, es) =>
            if l.same n && (sure (mk2 .ile (.i 0) l) c.pc && (sure (mk2 .ile l (.i 1048576)) c.pc && (decide (ie.bytes ≤ 1048576) && (Nat.beq ks.length ie.size && Nat.blt 0 ie.size)))) then
              .ret (.slo c.h.length ie.size l, { c with h := c.h ++ [some ⟨true, [], some (ks, .o2 .lrep l (elemE es))⟩] })
            else .bad
          | none => .bad
        | none => .bad
      | none => .bad
    | none => .bad
  | _, _, _ => .bad

theorem replicate_get {n i : Nat} {x d : D} (h : (List.replicate n x)[i]? = some d) : d = x := by
  rw [List.getElem?_replicate] at h
  split at h
  · exact (Option.some.inj h).symm
  · cases h

theorem makeSliceZ_ok {t : TypeId} {x y : SV} {vx vy : Value} (hh : HeapDen U r g L c.h w) (hp : PcOk U r c.pc) (hx : x.den U r g L vx) (hy : y.den U r g L vy) (h : (makeSliceZ P c t x y).sat U (Post U L r g c w K) r) :
    VOk P (Instr.makeSlice t vx vy) w K := by
  unfold makeSliceZ at h
  split at h
  · rename_i e k l k' n hu
    simp only [SV.den] at hx hy
    subst hx hy
    split at h
    · rename_i ie hi
      split at h
      · rename_i z hz
        split at h
        · rename_i zs hzs
          split at h
          · rename_i ks es hks
            split at h
            · rename_i hc
              simp only [Bool.and_eq_true, decide_eq_true_eq] at hc
              obtain ⟨hsame, h1, h2, hb, h3, h4⟩ := hc
              have e1 := E.same_eq hsame
              subst e1
              have h1 := sure_ok hp h1
              have h2 := sure_ok hp h2
              rw [mk2_ev] at h1 h2
              have h1 : (0 : Int) ≤ (l.ev U r).toI := of_decide_eq_true h1
              have h2 : (l.ev U r).toI ≤ 1048576 := of_decide_eq_true h2
              have h3 := Nat.eq_of_beq_eq_true h3
              have h4 : 0 < ie.size := by rw [Nat.blt_eq] at h4; exact h4
              generalize hm : (l.ev U r).toI = m at h1 h2
              have hzd : SV.denL U r g L zs z.toList := (cells_ok (U := U) (L := L) (r := r) (g := g) hzs (ofValue_den (.agg z))).1
              obtain ⟨q1, q2, q3⟩ := kindsOf_ok hks
              have hzl := SV.denL_length U r g L hzd
              simp only [Array.length_toList] at hzl
              have hs : szT P e = some ie.size := by unfold szT; rw [hi]; rfl
              have w1 : IntKind.i64.wrap m = m := by unfold IntKind.wrap; simp [IntKind.bits, IntKind.signed]; omega
              have hbn : (ie.bytes : Int) * m ≤ 1099511627776 := by
                have h1 : (ie.bytes : Int) * m ≤ 1048576 * m := Int.mul_le_mul_of_nonneg_right (by omega) (by omega)
                omega
              have hrun : (Instr.makeSlice t (.int k m) (.int k' m)).run P w = .ok (.slice (some ⟨w.heap.size, 0, none⟩) m.toNat m.toNat) (w.alloc (.cells ((Array.range (m.toNat * ie.size)).map (z[· % z.size]!)) e)) := by
                have ha : ∀ (q : IntKind) (m : Int) (w : World), (asInt (.int q m)).run P w = .ok m w := fun _ _ _ => rfl
                unfold Instr.makeSlice
                simp only [Sem.run_bind, run_und hu, Result.andThen_ok, ha, run_info hi, w1]
                rw [if_neg (by
                  simp only [Bool.or_eq_true, decide_eq_true_eq, not_or]
                  refine ⟨⟨⟨by omega, by omega⟩, by omega⟩, by omega⟩)]
                simp only [Sem.run_bind, run_askRoom, Result.andThen_ok, run_sizeOf_of hs]
                by_cases hz0 : m.toNat * ie.size = 0
                · rw [if_pos hz0]
                  have hr0 : ∀ f : Nat → Value, Array.map f (Array.range 0) = #[] := fun f => by apply Array.eq_empty_of_size_eq_zero; simp
                  simp [newRow, hz0, hr0]
                · rw [if_neg hz0]
                  cases hzt : zeroT P e with
                  | none => rw [hzt] at hz; cases hz
                  | some z0 =>
                    rw [hzt] at hz
                    simp only [Option.map_some, Option.some.injEq] at hz
                    simp only [Sem.run_bind, run_zero_of hzt, Result.andThen_ok, Sem.run_pure]
                    rw [hz]
                    simp [newRow]
              refine ⟨_, _, hrun, ?_⟩
              refine h _ _ _ (ext_alloc (cs := []) (xs := (Array.range (m.toNat * ie.size)).map (z[· % z.size]!)) hh hp e (by simp [SV.denL]) (by simp) true (some (ks, .o2 .lrep l (elemE es))) ?_) ?_
              · intro ks' e' he'
                cases he'
                intro i d hd
                have hd : (List.replicate (l.ev U r).toI.toNat ((elemE es).ev U r))[i]? = some d := hd
                have hi' : i < m.toNat := by
                  have := (List.getElem?_eq_some_iff.1 hd).1
                  simp at this; omega
                have := replicate_get hd
                subst this
                refine ⟨⟨_, elemE_ev es, by simp; omega⟩, fun f k hk => ?_⟩
                obtain ⟨ee, p1, p2⟩ := q3 f k hk
                obtain ⟨v, hv, hd'⟩ := SV.denL_get U r g L hzd p2
                have hf : f < ie.size := by have := (List.getElem?_eq_some_iff.1 hk).1; omega
                refine ⟨v, ?_, ?_⟩
                · rw [Nat.zero_add, h3]
                  have hlt : i * ie.size + f < m.toNat * ie.size := by
                    have := Nat.mul_le_mul_right ie.size (show i + 1 ≤ m.toNat by omega)
                    rw [Nat.add_mul] at this; omega
                  rw [Array.getElem?_map]
                  have hr : (Array.range (m.toNat * ie.size))[i * ie.size + f]? = some (i * ie.size + f) := by
                    rw [Array.getElem?_eq_getElem (by simpa using hlt)]; simp
                  rw [hr]
                  simp only [Option.map_some]
                  have hmod : (i * ie.size + f) % z.size = f := by
                    have : z.size = ie.size := by omega
                    rw [this, Nat.add_comm, Nat.add_mul_mod_self_right, Nat.mod_eq_of_lt hf]
                  rw [hmod]
                  have hv' : z[f]? = some v := by simpa using hv
                  rw [getElem!_def, hv']
                · rw [elemE_at es p1]; exact skSV_iff.1 hd'
              · simp only [SV.den]
                rw [hm]
                refine ⟨by omega, _, _, rfl, Nat.le_refl _, .inr ⟨.inr ⟨Nat.le_refl _, by simp⟩, by simp [Gh.put], ?_⟩⟩
                simp [Gh.put]
            · exact h.elim
          · exact h.elim
        · exact h.elim
      · exact h.elim
    · exact h.elim
  · exact h.elim

/-! ### Sources -/

/-- Elements out of cells. -/
def rowOfCells (ks : List Sk) (n : Nat) : Nat → List SV → Option (List E)
  | 0, _ => some []
  | l + 1, cs => match wordsOf ks (cs.take n), rowOfCells ks n l (cs.drop n) with
    | some es, some rest => some (elemE es :: rest)
    | _, _ => none

theorem rowOfCells_ok {ks : List Sk} {n : Nat} (hn : ks.length = n) {xs : Array Value} : ∀ {l : Nat} {cs : List SV} {els : List E} {o : Nat}, rowOfCells ks n l cs = some els → (∀ (j : Nat) (s : SV), cs[j]? = some s → ∃ v, xs[o + j]? = some v ∧ s.den U r g L v) →
    els.length = l ∧ RowDen ks (els.map fun e => e.ev U r) o xs := by
  intro l
  induction l with
  | zero => intro cs els o h _; cases h; exact ⟨rfl, fun i d hd => by simp at hd⟩
  | succ l ih =>
    intro cs els o h hd
    unfold rowOfCells at h
    split at h
    · rename_i es rest h1 h2
      cases h
      obtain ⟨q1, q2, q3⟩ := wordsOf_ok h1
      obtain ⟨k1, k2⟩ := ih (o := o + n) h2 (fun j s hs => by
        rw [List.getElem?_drop] at hs
        obtain ⟨v, hv, hd'⟩ := hd _ s hs
        exact ⟨v, by rw [← hv]; congr 1; omega, hd'⟩)
      refine ⟨by simp [k1], fun i d hi => ?_⟩
      cases i with
      | zero =>
        simp at hi
        subst hi
        refine ⟨⟨_, elemE_ev es, by simp [q1]⟩, fun f k hk => ?_⟩
        have hf : f < n := by have := (List.getElem?_eq_some_iff.1 hk).1; omega
        have hcs : f < (cs.take n).length := by rw [q2]; omega
        have hes : f < es.length := by omega
        have e0 := q3 f k _ _ hk (List.getElem?_eq_getElem hcs) (List.getElem?_eq_getElem hes)
        have hcs' : cs[f]? = some (cs.take n)[f] := by rw [← List.getElem?_eq_getElem hcs, List.getElem?_take, if_pos hf]
        obtain ⟨v, hv, hd'⟩ := hd f _ hcs'
        refine ⟨v, by rw [← hv]; congr 1; omega, ?_⟩
        rw [elemE_at es (List.getElem?_eq_getElem hes)]
        rw [e0] at hd'
        exact skSV_iff.1 hd'
      | succ i =>
        simp only [List.map_cons, List.getElem?_cons_succ] at hi
        obtain ⟨p1, p2⟩ := k2 i d hi
        refine ⟨p1, fun f k hk => ?_⟩
        obtain ⟨v, hv, hd'⟩ := p2 f k hk
        refine ⟨v, ?_, hd'⟩
        rw [← hv]; congr 1; rw [Nat.add_mul]; omega
    · cases h

/-- How many elements, and the row of them. -/
def rowSrc (h : SH) (ks : List Sk) (n : Nat) : SV → Option (E × E)
  | .slo id sz len =>
    match h[id]? with
    | some (some b) => (match b.row with
      | some (ks', a) => if sameSks ks ks' && (Nat.beq sz n && len.same (mk1 .llen a)) then some (len, a) else none
      | none => none)
    | _ => none
  | .sl id off sz (.i m) _ =>
    match h[id]? with
    | some (some b) => if sz = n ∧ off + m.toNat * n ≤ b.cs.length then (match rowOfCells ks n m.toNat (cut b.cs off (m.toNat * n)) with
        | some els => some (.i m.toNat, elemE els)
        | none => none) else none
    | _ => none
  | .con (.slice none 0 0) => some (.i 0, .o2 .lrep (.i 0) (.b false))
  | _ => none

theorem RowDen.cut {ks : List Sk} {ds : List D} {o n : Nat} {xs : Array Value} (h : RowDen ks ds o xs) (hn : ds.length * ks.length ≤ n) : RowDen ks ds 0 (xs.extract o (o + n)) := by
  intro i d hd
  obtain ⟨h1, h2⟩ := h i d hd
  refine ⟨h1, fun f k hk => ?_⟩
  obtain ⟨v, hv, hd'⟩ := h2 f k hk
  refine ⟨v, ?_, hd'⟩
  have hi := (List.getElem?_eq_some_iff.1 hd).1
  have hf := (List.getElem?_eq_some_iff.1 hk).1
  have h3 := Nat.mul_le_mul_right ks.length (show i + 1 ≤ ds.length by omega)
  rw [Nat.add_mul] at h3
  have hx := (Array.getElem?_eq_some_iff.1 hv).1
  rw [Array.getElem?_extract, Nat.zero_add, if_pos (by omega)]
  exact hv

theorem rowSrc_ok {ks : List Sk} {n : Nat} {s : SV} {vx : Value} {len e : E} (hks : ks.length = n) (hh : HeapDen U r g L c.h w) (h : rowSrc c.h ks n s = some (len, e)) (hx : s.den U r g L vx) :
    ∃ xs : Array Value, (len.ev U r).toI = ((e.ev U r).toL.length : Int) ∧ xs.size = (e.ev U r).toL.length * n ∧ RowDen ks (e.ev U r).toL 0 xs ∧ (∀ w', (Builtin.lenOf vx).run P w' = .ok (e.ev U r).toL.length w') ∧
      ∀ w', w'.heap = w.heap → (Builtin.firstCells n (e.ev U r).toL.length vx).run P w' = .ok xs w' := by
  unfold rowSrc at h
  split at h
  · rename_i id sz len'
    split at h
    · rename_i b hb
      split at h
      · rename_i ks' a' hr
        split at h
        · rename_i hc
          cases h
          simp only [Bool.and_eq_true] at hc
          have e1 := sameSks_eq hc.1
          have e2 := Nat.eq_of_beq_eq_true hc.2.1
          have e3 := E.same_eq hc.2.2
          subst e1 e2 e3
          simp only [SV.den, mk1_ev] at hx ⊢
          have hl : (O1.llen.ev (e.ev U r)).toI = ((e.ev U r).toL.length : Int) := rfl
          rw [hl] at hx ⊢
          obtain ⟨h0, base, cp, rfl, h3, h4⟩ := hx
          simp only [Int.toNat_natCast] at h3 h4 ⊢
          rcases h4 with rfl | ⟨hl', rfl, h5⟩
          · have hz : (e.ev U r).toL.length = 0 := by omega
            rw [hz]
            have : (e.ev U r).toL = [] := List.eq_nil_of_length_eq_zero hz
            refine ⟨#[], by first | rfl | trivial, by simp, by rw [this]; intro i d hd; simp at hd, fun _ => rfl, fun _ _ => ?_⟩
            cases base <;> simp [Builtin.firstCells, loadCells, loadCellsFrom]
          · obtain ⟨xs, t, fz, q1, q2, q3, q4, q5⟩ := hh.blk id b hl' hb
            obtain ⟨ys, t', fz', p1, p2⟩ := hh.rows id b _ _ hl' hb hr
            rw [q1] at p1
            cases p1
            have hmul := Nat.mul_le_mul_right sz h3
            refine ⟨xs.extract (g.o id) (g.o id + (e.ev U r).toL.length * sz), by first | rfl | trivial, by simp; omega, p2.cut (by rw [hks]; exact Nat.le_refl _), fun _ => rfl, fun w' hw' => ?_⟩
            have := run_loadCells_at (P := P) (w := w') (by rw [hw']; exact q1) (g.o id) ((e.ev U r).toL.length * sz) 0 #[] (by omega)
            simp only [Builtin.firstCells, loadCells]
            rw [this]; simp
        · cases h
      · cases h
    · cases h
  · rename_i id off sz m cap
    split at h
    · rename_i b hb
      split at h
      · rename_i hle
        obtain ⟨_, hle⟩ := hle
        split at h
        · rename_i els hels
          cases h
          simp only [SV.den] at hx
          obtain ⟨hl, h0, cp, rfl, h3, h4, h5⟩ := hx
          obtain ⟨xs, t, fz, q1, q2, q3, q4, q5⟩ := hh.blk id b hl hb
          have hm : (E.ev U r (.i m)).toI = m := rfl
          rw [hm] at h0 h3 ⊢
          obtain ⟨k1, k2⟩ := rowOfCells_ok (U := U) (r := r) (g := g) (L := L) (xs := xs) (o := off) hks hels (fun j s hs => by
            unfold Go.Sx.cut at hs
            rw [List.getElem?_take] at hs
            split at hs
            · rw [List.getElem?_drop] at hs
              exact q5 _ s hs
            · cases hs)
          have hel : ((elemE els).ev U r).toL = els.map fun e => e.ev U r := by rw [elemE_ev]; rfl
          rw [hel]
          have hlen : (els.map fun e => e.ev U r).length = m.toNat := by simp [k1]
          rw [hlen]
          refine ⟨xs.extract off (off + m.toNat * n), by show ((m.toNat : Nat) : Int) = _; rfl, by simp; omega, k2.cut (by rw [hlen, hks]; exact Nat.le_refl _), fun _ => rfl, fun w' hw' => ?_⟩
          have := run_loadCells_at (P := P) (w := w') (by rw [hw']; exact q1) off (m.toNat * n) 0 #[] (by omega)
          simp only [Builtin.firstCells, loadCells]
          rw [this]; simp
        · cases h
      · cases h
    · cases h
  · cases h
    simp only [SV.den] at hx
    subst hx
    exact ⟨#[], rfl, by simp [E.ev, O2.ev, D.toL, D.toI], fun i d hd => by simp [E.ev, O2.ev, D.toL, D.toI] at hd, fun _ => rfl, fun _ _ => rfl⟩
  · cases h

theorem RowDen.join {ks : List Sk} {dx dy : List D} {o n : Nat} {xs ys : Array Value} (hn : ks.length = n) (hx : RowDen ks dx o xs) (hy : RowDen ks dy 0 ys) {zs : Array Value} (h1 : ∀ j, j < dx.length * n → zs[o + j]? = xs[o + j]?)
    (h2 : ∀ j, j < dy.length * n → zs[o + (dx.length * n + j)]? = ys[j]?) : RowDen ks (dx ++ dy) o zs := by
  intro i d hd
  by_cases hi : i < dx.length
  · rw [List.getElem?_append_left hi] at hd
    obtain ⟨k1, k2⟩ := hx i d hd
    refine ⟨k1, fun f k hk => ?_⟩
    obtain ⟨v, hv, hd'⟩ := k2 f k hk
    refine ⟨v, ?_, hd'⟩
    have hf := (List.getElem?_eq_some_iff.1 hk).1
    have h3 := Nat.mul_le_mul_right n (show i + 1 ≤ dx.length by omega)
    rw [Nat.add_mul] at h3
    rw [h1 _ (by rw [hn]; omega)]; exact hv
  · rw [List.getElem?_append_right (by omega)] at hd
    obtain ⟨k1, k2⟩ := hy _ d hd
    refine ⟨k1, fun f k hk => ?_⟩
    obtain ⟨v, hv, hd'⟩ := k2 f k hk
    refine ⟨v, ?_, hd'⟩
    have hf := (List.getElem?_eq_some_iff.1 hk).1
    have hlt := (List.getElem?_eq_some_iff.1 hd).1
    have h3 := Nat.mul_le_mul_right n (show i - dx.length + 1 ≤ dy.length by omega)
    rw [Nat.add_mul] at h3
    have := h2 ((i - dx.length) * n + f) (by omega)
    rw [Nat.zero_add, hn] at hv
    rw [hn, ← hv, ← this]
    congr 1
    have h4 : i * n = dx.length * n + (i - dx.length) * n := by rw [← Nat.add_mul]; congr 1; omega
    omega

theorem Sk.den_one {k : Sk} {d : D} {v : Value} (h : k.den d v) : v.oneCell' = true := by
  cases k <;> simp only [Sk.den] at h
  · subst h; rfl
  · subst h; rfl
  · obtain ⟨b, rfl, _⟩ := h; rfl
  · subst h; rfl

theorem RowDen.one {ks : List Sk} {ds : List D} {n : Nat} {xs : Array Value} (hn : ks.length = n) (h : RowDen ks ds 0 xs) (hs : xs.size = ds.length * n) : ∀ v ∈ xs.toList, v.oneCell' = true := by
  intro v hv
  obtain ⟨j, hj, rfl⟩ := List.getElem_of_mem hv
  simp only [Array.length_toList] at hj
  have hn0 : 0 < n := by
    rcases Nat.eq_zero_or_pos n with h0 | h0
    · subst h0; rw [hs, Nat.mul_zero] at hj; omega
    · exact h0
  have hi : j / n < ds.length := by
    rw [hs] at hj
    exact Nat.div_lt_of_lt_mul (by rw [Nat.mul_comm]; exact hj)
  have hf : j % n < ks.length := by rw [hn]; exact Nat.mod_lt _ hn0
  obtain ⟨_, k2⟩ := h (j / n) _ (List.getElem?_eq_getElem hi)
  obtain ⟨v, hv', hd⟩ := k2 (j % n) _ (List.getElem?_eq_getElem hf)
  have e : 0 + (j / n * ks.length + j % n) = j := by rw [hn, Nat.zero_add, Nat.mul_comm]; exact Nat.div_add_mod j n
  rw [e] at hv'
  have : xs.toList[j] = v := by
    have h2 := Array.getElem?_eq_getElem hj
    rw [hv'] at h2
    simpa using (Option.some.inj h2).symm
  rw [this]
  exact Sk.den_one hd

/-! ### 'append' -/

/-- Two rows one behind the other. -/
def joinE (a b : E) : E :=
  match E.listE b with
  | some l => l.foldl (fun a e => .o2 .lpush a e) a
  | none => (match E.listE a with
    | some [] => b
    | _ => .o2 .lapp a b)

theorem joinE_ev (a b : E) : ((joinE a b).ev U r).toL = (a.ev U r).toL ++ (b.ev U r).toL := by
  unfold joinE
  split
  · rename_i l hl
    rw [foldl_push_ev, E.listE_ev U r hl]; rfl
  · split
    · rename_i hl; rw [E.listE_ev U r hl]; simp [D.toL]
    · rfl

/-- Where a slice that is appended to lies: may it be written; where its row begins. -/
def baseOf (h : SH) : SV → Option Nat
  | .slo id _ _ => match h[id]? with
    | some (some b) => if b.wr then some id else none
    | _ => none
  | .sl id _ _ _ _ => match h[id]? with
    | some (some b) => if b.wr then some id else none
    | _ => none
  | _ => none

def appendZ (P : Program) (c : Cx) (t0 t1 : TypeId) (x y : SV) : Tree (SV × Cx) :=
  match P.underlying t0, P.underlying t1 with
  | some (.slice e), some d1 =>
    match P.info? e with
    | some ie =>
      match ie.zero with
      | some z =>
        if notIntD d1 = true ∧ z.cells.size = ie.size ∧ ie.bytes ≤ 1048576 then
          match (ofValue (.agg z.cells)).cells? with
          | some zs =>
            match kindsOf zs with
            | some (ks, _) =>
              if Nat.beq ks.length ie.size then
                match rowSrc c.h ks ie.size x, rowSrc c.h ks ie.size y with
                | some (l, a), some (m, b) =>
                  if sure (mk2 .ile (mk2 .iadd l m) (.i 1048576)) c.pc then
                    match baseOf c.h x with
                    | some id => .ret (.slo c.h.length ie.size (mk1 .llen (joinE a b)), { c with h := c.h.set id none ++ [some ⟨true, [], some (ks, joinE a b)⟩] })
                    | none => match x with
                      | .con (.slice none 0 0) => if sure (mk2 .ilt (.i 0) m) c.pc then .ret (.slo c.h.length ie.size (mk1 .llen (joinE a b)), { c with h := c.h ++ [some ⟨true, [], some (ks, joinE a b)⟩] }) else .bad
                      | _ => .bad
                  else .bad
                | _, _ => .bad
              else .bad
            | none => .bad
          | none => .bad
        else .bad
      | none => .bad
    | none => .bad
  | _, _ => .bad

/-- A block that is known no more. -/
theorem Ext.drop {r' : Nat → D} {g' : Gh} {B : SB} {id : Nat} (ex : Ext U L r g c w r' g' { c with h := c.h ++ [some B] } w') (hid : id < c.h.length) : Ext U L r g c w r' g' { c with h := c.h.set id none ++ [some B] } w' := by
  have hLx : Lx L c.h (c.h.set id none ++ [some B]) = Lx L c.h (c.h ++ [some B]) := by
    funext k; unfold Lx; simp
  have hget : ∀ {k : Nat} {b' : SB}, (c.h.set id none ++ [some B])[k]? = some (some b') → (c.h ++ [some B])[k]? = some (some b') := by
    intro k b' hk
    by_cases hkl : k < c.h.length
    · rw [List.getElem?_append_left (by simpa using hkl)] at hk
      rw [List.getElem?_append_left hkl]
      by_cases hki : k = id
      · subst hki; rw [List.getElem?_set_self hkl] at hk; cases hk
      · rwa [List.getElem?_set_ne (Ne.symm hki)] at hk
    · rw [List.getElem?_append_right (by simpa using hkl)] at hk
      rw [List.getElem?_append_right (by omega)]
      simpa using hk
  refine ⟨ex.nv, ex.agr, by simp, fun k hk => ex.ga k (by simpa using hk), fun k hk => ex.go k (by simpa using hk), ?_, ex.pc, ex.frm, ?_, fun k h1 h2 => ex.fresh k h1 (by simpa using h2)⟩
  · have eh := ex.heap
    show HeapDen U r' _ (Lx L c.h (c.h.set id none ++ [some B])) (c.h.set id none ++ [some B]) _
    rw [hLx]
    exact ⟨fun k hk => by have := eh.bnd k hk; simpa using this, eh.lt, fun k b' hk hb' => eh.blk k b' hk (hget hb'), fun i j b1 b2 hi hj h1 hw1 h2 he => eh.inj i j b1 b2 hi hj (hget h1) hw1 (hget h2) he,
      fun k b' ks e hk hb' hr => eh.rows k b' ks e hk (hget hb') hr, fun k b' hb' hw' => eh.live k b' (hget hb') hw'⟩
  · intro k b' hk hb' hw1
    have hk : Lx L c.h (c.h.set id none ++ [some B]) k := hk
    rw [hLx] at hk
    exact ex.wrs k b' hk (hget hb') hw1

theorem append_run_zero {t0 t1 e ty : TypeId} {n l m cap : Nat} {ie : TypeInfo} {z : Value} {base : Option Addr} {vx : Value} {new : Array Value} (hs : AppSet P t0 t1 e n ie z)
    (hlen : ∀ w, (Builtin.lenOf vx).run P w = .ok m w) (hnew : ∀ w', w'.heap = w.heap → (Builtin.firstCells n m vx).run P w' = .ok new w') (hle : l + m ≤ cap) (hz : new.toList = []) :
    (Builtin.append_ #[t0, t1] ty #[.slice base l cap, vx]).run P w = .ok (.slice base (l + m) cap) w := by
  obtain ⟨d, hd1, hd2⟩ := hs.u1
  have hszT : szT P e = some n := by unfold szT; rw [hs.info]; simp [hs.size]
  have k2 := hnew w rfl
  unfold Builtin.append_
  have g0 : (#[t0, t1] : Array TypeId)[0]? = some t0 := rfl
  have g1 : (#[t0, t1] : Array TypeId)[1]? = some t1 := rfl
  have g2 : (#[Value.slice base l cap, vx] : Array Value)[0]? = some (.slice base l cap) := rfl
  have g3 : (#[Value.slice base l cap, vx] : Array Value)[1]? = some vx := rfl
  simp only [g0, g1, g2, g3, Sem.run_bind, run_und hs.u0, Result.andThen_ok, run_sizeOf_of hszT, run_und hd1, Sem.run_pure]
  simp only [Bool.false_eq_true, if_false, hlen, Result.andThen_ok, if_pos hle, Sem.run_bind, k2, Bool.not_false, if_true, hz]
  cases base <;> simp [storeCells]

/-- What is appended to: its base, and its row there. -/
theorem baseOf_ok {ks : List Sk} {n id : Nat} {x : SV} {vx : Value} {len e : E} (hks : ks.length = n) (hh : HeapDen U r g L c.h w) (h : rowSrc c.h ks n x = some (len, e)) (hb : baseOf c.h x = some id) (hx : x.den U r g L vx) :
    L id ∧ ∃ b, c.h[id]? = some (some b) ∧ b.wr = true ∧ ∃ base cap, vx = .slice base (e.ev U r).toL.length cap ∧ (e.ev U r).toL.length ≤ cap ∧
      (cap = 0 ∨ ∃ o xs t, base = some ⟨g.a id, o, none⟩ ∧ w.heap[g.a id]? = some (.cells xs t (0, 0)) ∧ xs.size = g.n id ∧ RowDen ks (e.ev U r).toL o xs ∧ o + cap * n ≤ xs.size) := by
  unfold baseOf at hb
  split at hb
  · rename_i id' sz len'
    split at hb
    · rename_i b hbb
      split at hb
      · rename_i hw
        cases hb
        have hl := hh.live _ _ hbb hw
        refine ⟨hl, b, hbb, hw, ?_⟩
        simp only [rowSrc, hbb] at h
        split at h
        · rename_i ks' a' hr
          split at h
          · rename_i hc
            cases h
            simp only [Bool.and_eq_true] at hc
            have e1 := sameSks_eq hc.1
            have e2 := Nat.eq_of_beq_eq_true hc.2.1
            have e3 := E.same_eq hc.2.2
            subst e1 e2 e3
            simp only [SV.den, mk1_ev] at hx
            have hln : (O1.llen.ev (e.ev U r)).toI = ((e.ev U r).toL.length : Int) := rfl
            rw [hln] at hx
            obtain ⟨h0, base, cp, rfl, h3, h4⟩ := hx
            simp only [Int.toNat_natCast] at h3 h4 ⊢
            refine ⟨base, cp, rfl, h3, ?_⟩
            rcases h4 with h4 | ⟨_, rfl, h5⟩
            · exact .inl h4
            · right
              obtain ⟨xs, t, fz, q1, q2, q3, q4, q5⟩ := hh.blk _ b hl hbb
              obtain ⟨ys, t', fz', p1, p2⟩ := hh.rows _ b _ _ hl hbb hr
              rw [q1] at p1
              cases p1
              rw [q3 hw] at q1
              exact ⟨g.o id, xs, t, rfl, q1, q2, p2, by omega⟩
          · cases h
        · cases h
      · cases hb
    · cases hb
  · rename_i id' off sz len' cap'
    split at hb
    · rename_i b hbb
      split at hb
      · rename_i hw
        cases hb
        unfold rowSrc at h
        split at h
        · rename_i h'; cases h'
        · rename_i id2 off2 sz2 m cap2 h'
          cases h'
          rw [hbb] at h
          dsimp only at h
          split at h
          · rename_i hle
            obtain ⟨hsz, hle⟩ := hle
            split at h
            · rename_i els hels
              cases h
              simp only [SV.den] at hx
              obtain ⟨hl, h0, cp, rfl, h3, h4, h5⟩ := hx
              refine ⟨hl, b, hbb, hw, ?_⟩
              obtain ⟨xs, t, fz, q1, q2, q3, q4, q5⟩ := hh.blk _ b hl hbb
              have hm : (E.ev U r (.i m)).toI = m := rfl
              rw [hm] at h0 h3 ⊢
              obtain ⟨k1, k2⟩ := rowOfCells_ok (U := U) (r := r) (g := g) (L := L) (xs := xs) (o := off) hks hels (fun j s hs => by
                unfold Go.Sx.cut at hs
                rw [List.getElem?_take] at hs
                split at hs
                · rw [List.getElem?_drop] at hs
                  exact q5 _ s hs
                · cases hs)
              have hel : ((elemE els).ev U r).toL = els.map fun e => e.ev U r := by rw [elemE_ev]; rfl
              rw [hel]
              have hlen : (els.map fun e => e.ev U r).length = m.toNat := by simp [k1]
              rw [hlen]
              rw [q3 hw] at q1
              exact ⟨_, cp, rfl, h3, .inr ⟨off, xs, t, rfl, q1, q2, k2, by rw [← hsz, q2]; exact h4⟩⟩
            · cases h
          · cases h
        · rename_i h'; cases h'
        · cases h
      · cases hb
    · cases hb
  · cases hb

set_option maxHeartbeats 1000000 in
theorem appendZ_ok {t0 t1 ty : TypeId} {x y : SV} {vx vy : Value} (hh : HeapDen U r g L c.h w) (hp : PcOk U r c.pc) (hx : x.den U r g L vx) (hy : y.den U r g L vy)
    (h : (appendZ P c t0 t1 x y).sat U (Post U L r g c w K) r) : VOk P (Builtin.append_ #[t0, t1] ty #[vx, vy]) w K := by
  unfold appendZ at h
  split at h
  · rename_i e d1 hu0 hu1
    split at h
    · rename_i ie hi
      split at h
      · rename_i z hz
        split at h
        · rename_i hc
          split at h
          · rename_i zs hzs
            split at h
            · rename_i ks es0 hks
              split at h
              · rename_i hkn
                have hkn := Nat.eq_of_beq_eq_true hkn
                split at h
                · rename_i l a m b hsx hsy
                  split at h
                  · rename_i hsure
                    have hs : AppSet P t0 t1 e ie.size ie z := ⟨hu0, ⟨d1, hu1, fun k hk => by rw [hk] at hc; exact absurd hc.1 (by simp [notIntD])⟩, hi, rfl, hz, hc.2.1, hc.2.2⟩
                    obtain ⟨xo, ho1, hso, hro, hlo, hfo⟩ := rowSrc_ok (P := P) hkn hh hsx hx
                    obtain ⟨xn, hn1, hsn, hrn, hln, hfn⟩ := rowSrc_ok (P := P) hkn hh hsy hy
                    have hsm := sure_ok hp hsure
                    rw [mk2_ev, mk2_ev] at hsm
                    have hsm : (l.ev U r).toI + (m.ev U r).toI ≤ 1048576 := of_decide_eq_true hsm
                    rw [ho1, hn1] at hsm
                    have hsm : (a.ev U r).toL.length + (b.ev U r).toL.length ≤ 1048576 := by omega
                    have hjl : ((joinE a b).ev U r).toL.length = (a.ev U r).toL.length + (b.ev U r).toL.length := by rw [joinE_ev, List.length_append]
                    have hlen : ((mk1 .llen (joinE a b)).ev U r).toI = (((a.ev U r).toL.length + (b.ev U r).toL.length : Nat) : Int) := by
                      rw [mk1_ev, ← hjl]; rfl
                    have hmul : ((a.ev U r).toL.length + (b.ev U r).toL.length) * ie.size = (a.ev U r).toL.length * ie.size + (b.ev U r).toL.length * ie.size := Nat.add_mul _ _ _
                    -- a new block
                    have grow : ∀ {base : Option Addr} {cap : Nat}, vx = .slice base (a.ev U r).toL.length cap → ¬ (a.ev U r).toL.length + (b.ev U r).toL.length ≤ cap → ∃ (cap' : Nat) (xs : Array Value) (w' : World), (Builtin.append_ #[t0, t1] ty #[vx, vy]).run P w = .ok (.slice (some ⟨w.heap.size, 0, none⟩) ((a.ev U r).toL.length + (b.ev U r).toL.length) cap') w' ∧
                        (a.ev U r).toL.length + (b.ev U r).toL.length ≤ cap' ∧ xs.size = cap' * ie.size ∧ Ext U L r g c w r (g.put c.h.length w.heap.size xs.size) { c with h := c.h ++ [some ⟨true, [], some (ks, joinE a b)⟩] } w' := by
                      intro base cap hv hgt
                      subst hv
                      obtain ⟨cap', rest, k1, k2, k3⟩ := append_run_grow (ty := ty) hs hln hfn hfo hgt hsm
                      have hsame : Same w ({ w with drawn := w.drawn + 1 } : World) := ⟨rfl, rfl, rfl, rfl⟩
                      have hcm : cap' * ie.size = ((a.ev U r).toL.length + (b.ev U r).toL.length) * ie.size + (cap' - ((a.ev U r).toL.length + (b.ev U r).toL.length)) * ie.size := by rw [← Nat.add_mul]; congr 1; omega
                      refine ⟨cap', xo ++ xn ++ rest, _, k3, k1, by simp [hso, hsn, k2]; omega, ?_⟩
                      refine (ext_alloc (cs := []) (xs := xo ++ xn ++ rest) (hh.same hsame) hp e (by simp [SV.denL]) (by simp) true (some (ks, joinE a b)) ?_).of_same hsame
                      intro ks' e' he'
                      cases he'
                      rw [joinE_ev]
                      refine RowDen.join hkn hro hrn (fun j hj => ?_) (fun j hj => ?_)
                      · rw [Nat.zero_add, Array.append_assoc, Array.getElem?_append_left (by omega)]
                      · rw [Nat.zero_add, Array.append_assoc, Array.getElem?_append_right (by omega), hso, Nat.add_sub_cancel_left, Array.getElem?_append_left (by omega)]
                    have den1 : ∀ {cap' : Nat} {g' : Gh} {L1 : Nat → Prop} {N a0 o0 : Nat}, (a.ev U r).toL.length + (b.ev U r).toL.length ≤ cap' → L1 N → g'.a N = a0 → g'.o N = o0 → o0 + cap' * ie.size ≤ g'.n N →
                        (SV.slo N ie.size (mk1 .llen (joinE a b))).den U r g' L1 (.slice (some ⟨a0, o0, none⟩) ((a.ev U r).toL.length + (b.ev U r).toL.length) cap') := by
                      intro cap' g' L1 N a0 o0 k1 k2 k3 k4 k5
                      simp only [SV.den]
                      rw [hlen]
                      simp only [Int.toNat_natCast]
                      exact ⟨by omega, _, _, rfl, k1, .inr ⟨k2, by rw [k3, k4], by rw [k4]; exact k5⟩⟩
                    split at h
                    · rename_i id hid
                      obtain ⟨hl, blk, hb, hwr, base, cap, hv, hcap, hbase⟩ := baseOf_ok hkn hh hsx hid hx
                      have hidl := hh.bnd id hl
                      by_cases hfit : (a.ev U r).toL.length + (b.ev U r).toL.length ≤ cap
                      · rcases hbase with rfl | ⟨o, xs, t, rfl, q1, q2, q3, q4⟩
                        · -- nothing to nothing
                          subst hv
                          have hxn : xn.toList = [] := List.eq_nil_of_length_eq_zero (by simp only [Array.length_toList]; rw [hsn, show (b.ev U r).toL.length = 0 by omega]; simp)
                          have hrun := append_run_zero (ty := ty) (base := base) (l := (a.ev U r).toL.length) (cap := 0) hs hln hfn hfit hxn
                          obtain ⟨xs, t, fz, e1, e2, e3, e4, e5⟩ := hh.blk id blk hl hb
                          rw [e3 hwr] at e1
                          refine ⟨_, w, hrun, ?_⟩
                          have hw : Wrote (g.a id) xs t w w := ⟨e1, fun _ _ => rfl, rfl, rfl, rfl, rfl⟩
                          have hz0 : ((joinE a b).ev U r).toL = [] := List.eq_nil_of_length_eq_zero (by rw [hjl]; omega)
                          refine h _ _ w (ext_move hh hp hl hb hwr hw e2 (by simp) (fun j s hs => by simp at hs) (some (ks, joinE a b)) 0 (by
                            intro ks' e' he'; cases he'; rw [hz0]; intro i d hd; simp at hd)) ?_
                          simp only [SV.den]
                          rw [hlen]
                          simp only [Int.toNat_natCast]
                          exact ⟨by omega, _, _, rfl, by omega, .inl rfl⟩
                        · subst hv
                          have hcm := Nat.mul_le_mul_right ie.size hfit
                          obtain ⟨w', hw, hr⟩ := append_run_fits (ty := ty) (b := g.a id) (o := o) (l := (a.ev U r).toL.length) (m := (b.ev U r).toL.length) (cap := cap) hs hln hfn hfit q1 hsn (by omega) (hrn.one hkn hsn)
                          refine ⟨_, w', hr, ?_⟩
                          refine h _ _ w' (ext_move hh hp hl hb hwr hw (by rw [putIn_size]; exact q2) (by simp) (fun j s hs => by simp at hs) (some (ks, joinE a b)) o ?_) (den1 hfit (.inr ⟨Nat.le_refl _, by simp⟩) (by simp [Gh.put]) (by simp [Gh.put]) (by simp [Gh.put]; omega))
                          intro ks' e' he'
                          cases he'
                          rw [joinE_ev]
                          refine RowDen.join hkn q3 hrn (fun j hj => ?_) (fun j hj => ?_)
                          · rw [putIn_get _ _ _ _ (by simp; omega), if_neg (by omega)]
                          · rw [putIn_get _ _ _ _ (by simp; omega), if_pos (by simp; omega)]
                            have : o + ((a.ev U r).toL.length * ie.size + j) - (o + (a.ev U r).toL.length * ie.size) = j := by omega
                            rw [this]; simp
                      · obtain ⟨cap', xs, w', k1, k2, k3, k4⟩ := grow hv hfit
                        refine ⟨_, w', k1, ?_⟩
                        exact h _ _ w' (k4.drop hidl) (den1 k2 (.inr ⟨Nat.le_refl _, by simp⟩) (by simp [Gh.put]) (by simp [Gh.put]) (by simp [Gh.put]; omega))
                    · split at h
                      · split at h
                        · rename_i hpos
                          have hpos := sure_ok hp hpos
                          rw [mk2_ev] at hpos
                          have hpos : (0 : Int) < (m.ev U r).toI := of_decide_eq_true hpos
                          have hv : vx = .slice none 0 0 := hx
                          have ha0 : (a.ev U r).toL.length = 0 := by
                            have := hlo w; rw [hv] at this
                            have h1 : (Builtin.lenOf (.slice none 0 0)).run P w = .ok 0 w := rfl
                            rw [h1] at this
                            injection this with h2 _
                            exact h2.symm
                          obtain ⟨cap', xs, w', k1, k2, k3, k4⟩ := grow (base := none) (cap := 0) (by rw [ha0]; exact hv) (by omega)
                          refine ⟨_, w', k1, ?_⟩
                          exact h _ _ w' k4 (den1 k2 (.inr ⟨Nat.le_refl _, by simp⟩) (by simp [Gh.put]) (by simp [Gh.put]) (by simp [Gh.put]; omega))
                        · exact h.elim
                      · exact h.elim
                  · exact h.elim
                · exact h.elim
              · exact h.elim
            · exact h.elim
          · exact h.elim
        · exact h.elim
      · exact h.elim
    · exact h.elim
  · exact h.elim
end
end Go.Sx
