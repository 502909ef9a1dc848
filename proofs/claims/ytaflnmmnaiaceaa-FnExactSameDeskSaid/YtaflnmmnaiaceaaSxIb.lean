/-
  Sx, part Ib: 'make' of a slice, 'copy', both at lengths that are told.
-/
import Derived.Test.YtaflnmmnaiaceaaSxI
namespace Go.Sx
open E (mk1 mk2 mkIte mk1_ev mk2_ev mkIte_ev)

section
variable {U : Nat → D → D} {L : Nat → Prop} {r : Nat → D} {g : Gh} {c : Cx} {w w' : World} {P : Program} {K : Value → World → Prop}

/-- 'make([]T, l, n)'. -/
def makeSliceX (P : Program) (c : Cx) (t : TypeId) (x y : SV) : Tree (SV × Cx) :=
  match P.underlying t, x, y with
  | some (.slice e), .int _ (.i l), .int _ (.i n) =>
    match P.info? e with
    | some ie =>
      if 0 ≤ l ∧ l ≤ n ∧ n ≤ 1048576 ∧ ie.bytes ≤ 1048576 then
        match (if n.toNat * ie.size = 0 then some #[] else (zeroT P e).map (·.cells)) with
        | some z =>
          match (if n.toNat * ie.size = 0 then some [] else (ofValue (.agg z)).cells?) with
          | some zs => .ret (.sl c.h.length 0 ie.size (.i l) (some (.i n)), { c with h := c.h ++ [some ⟨true, zerosS zs (n.toNat * ie.size), none⟩] })
          | none => .bad
        | none => .bad
      else .bad
    | none => .bad
  | _, _, _ => .bad

theorem makeSliceX_ok {t : TypeId} {x y : SV} {vx vy : Value} (hh : HeapDen U r g L c.h w) (hp : PcOk U r c.pc) (hx : x.den U r g L vx) (hy : y.den U r g L vy) (h : (makeSliceX P c t x y).sat U (Post U L r g c w K) r) :
    VOk P (Instr.makeSlice t vx vy) w K := by
  unfold makeSliceX at h
  split at h
  · rename_i e k l k' n hu
    simp only [SV.den] at hx hy
    subst hx hy
    rw [toI_i, toI_i]
    split at h
    · rename_i ie hi
      split at h
      · rename_i hc
        obtain ⟨h0, hln, hn, hb⟩ := hc
        split at h
        · rename_i z hz
          split at h
          · rename_i zs hzs
            have hzd : SV.denL U r g L zs z.toList := by
              split at hzs
              · rename_i h0; rw [if_pos h0] at hz; cases hzs; cases hz; simp [SV.denL]
              · exact (cells_ok (U := U) (L := L) (r := r) (g := g) hzs (ofValue_den (.agg z))).1
            have hyd := zerosS_den (U := U) (L := L) (r := r) (g := g) (n := n.toNat * ie.size) hzd
            have hs : szT P e = some ie.size := by unfold szT; rw [hi]; rfl
            have w1 : IntKind.i64.wrap l = l := by unfold IntKind.wrap; simp [IntKind.bits, IntKind.signed]; omega
            have w2 : IntKind.i64.wrap n = n := by unfold IntKind.wrap; simp [IntKind.bits, IntKind.signed]; omega
            have hbn : (ie.bytes : Int) * n ≤ 1099511627776 := by
              have h1 : (ie.bytes : Int) * n ≤ 1048576 * n := Int.mul_le_mul_of_nonneg_right (by omega) (by omega)
              omega
            have hrun : (Instr.makeSlice t (.int k l) (.int k' n)).run P w = .ok (.slice (some ⟨w.heap.size, 0, none⟩) l.toNat n.toNat) (w.alloc (.cells ((Array.range (n.toNat * ie.size)).map (z[· % z.size]!)) e)) := by
              have ha : ∀ (q : IntKind) (m : Int) (w : World), (asInt (.int q m)).run P w = .ok m w := fun _ _ _ => rfl
              unfold Instr.makeSlice
              simp only [Sem.run_bind, run_und hu, Result.andThen_ok, ha, run_info hi, w1, w2]
              rw [if_neg (by
                simp only [Bool.or_eq_true, decide_eq_true_eq, not_or]
                refine ⟨⟨⟨by omega, by omega⟩, by omega⟩, by omega⟩)]
              simp only [Sem.run_bind, run_askRoom, Result.andThen_ok, run_sizeOf_of hs]
              by_cases hz0 : n.toNat * ie.size = 0
              · rw [if_pos hz0] at hz; cases hz
                rw [if_pos hz0]
                simp [newRow]
              · rw [if_neg hz0] at hz
                rw [if_neg hz0]
                cases hzt : zeroT P e with
                | none => rw [hzt] at hz; cases hz
                | some z0 =>
                  rw [hzt] at hz
                  simp only [Option.map_some, Option.some.injEq] at hz
                  simp only [Sem.run_bind, run_zero_of hzt, Result.andThen_ok, Sem.run_pure]
                  rw [hz]
                  simp [newRow]
            refine ⟨_, _, hrun, ?_⟩
            have hlen : (zerosS zs (n.toNat * ie.size)).length = n.toNat * ie.size := by simp [zerosS]
            refine h _ _ _ (ext_alloc (xs := (Array.range (n.toNat * ie.size)).map (z[· % z.size]!)) hh hp e (by
              rw [hlen, List.take_of_length_le (by simp)]; exact hyd) (by rw [hlen]; simp) true) ?_
            simp only [SV.den]
            refine ⟨.inr ⟨Nat.le_refl _, by simp⟩, ?_, n.toNat, ?_, ?_, ?_, ?_⟩
            · rw [toI_i]; exact h0
            · show _ = Value.slice (some ⟨(g.put c.h.length w.heap.size _).a c.h.length, 0, none⟩) l.toNat n.toNat
              simp [Gh.put]
            · rw [toI_i]; omega
            · show 0 + n.toNat * ie.size ≤ (g.put c.h.length w.heap.size _).n c.h.length
              simp [Gh.put]
            · intro e he; cases he; rfl
          · exact h.elim
        · exact h.elim
      · exact h.elim
    · exact h.elim
  · exact h.elim

/-- How many elements a source has. -/
def lenS : SV → Option Nat
  | .sl _ _ _ (.i m) _ => some m.toNat
  | .con (.slice none 0 0) => some 0
  | .str (.s bs) => some bs.length
  | _ => none

theorem lenS_ok {x : SV} {vx : Value} {m : Nat} (h : lenS x = some m) (hx : x.den U r g L vx) (w : World) : (Builtin.lenOf vx).run P w = .ok m w := by
  unfold lenS at h
  split at h
  · rename_i id off sz mm cap
    cases h
    simp only [SV.den] at hx
    obtain ⟨_, _, cp, rfl, _⟩ := hx
    rfl
  · cases h
    simp only [SV.den] at hx
    subst hx; rfl
  · rename_i bs
    cases h
    simp only [SV.den] at hx
    subst hx
    show Result.ok (ByteArray.size ⟨bs.toArray⟩) _ = _; simp [ByteArray.size]
  · cases h

/-- The first elements' cells. -/
def takeS (h : SH) (n m : Nat) : SV → Option (List SV)
  | .sl id off _ (.i l) _ =>
    match h[id]? with
    | some (some b) => if m ≤ l.toNat ∧ off + m * n ≤ b.cs.length then some (cut b.cs off (m * n)) else none
    | _ => none
  | .con (.slice none 0 0) => if m = 0 then some [] else none
  | .str (.s bs) => if n = 1 then some ((bs.take m).map fun b => .int .u8 (.i b.toNat)) else none
  | _ => none

theorem takeS_ok {n m : Nat} {cs : List SV} {x : SV} {vx : Value} (hh : HeapDen U r g L c.h w) (h : takeS c.h n m x = some cs) (hx : x.den U r g L vx) :
    ∃ xs : Array Value, SV.denL U r g L cs xs.toList ∧ (Builtin.firstCells n m vx).run P w = .ok xs w := by
  unfold takeS at h
  split at h
  · rename_i id off sz l cap
    split at h
    · rename_i b hb
      split at h
      · rename_i hle
        cases h
        simp only [SV.den] at hx
        obtain ⟨hl, h0, cp, rfl, h3, h4, h5⟩ := hx
        obtain ⟨xs, t', fz, e1, e2, e3, e4, e5⟩ := hh.blk id b hl hb
        refine ⟨xs.extract off (off + m * n), ?_, ?_⟩
        · refine SV.denL_of U r g L (by unfold cut; simp; omega) fun i s v h1 h2 => ?_
          unfold cut at h1
          rw [List.getElem?_take] at h1
          split at h1
          · rename_i hi
            rw [List.getElem?_drop] at h1
            obtain ⟨v', hv', hd'⟩ := e5 _ _ h1
            have : v = v' := by
              simp only [Array.toList_extract, List.extract_eq_take_drop, List.getElem?_take, List.getElem?_drop] at h2
              rw [if_pos (by omega), Array.getElem?_toList, hv'] at h2
              exact (Option.some.inj h2).symm
            subst this; exact hd'
          · cases h1
        · have := run_loadCells_at (P := P) e1 off (m * n) 0 #[] (by omega)
          simp only [Builtin.firstCells, loadCells]
          rw [this]; simp
      · cases h
    · cases h
  · split at h
    · cases h
      simp only [SV.den] at hx
      subst hx
      exact ⟨#[], by simp [SV.denL], rfl⟩
    · cases h
  · rename_i bs
    split at h
    · rename_i hn
      cases h
      subst hn
      simp only [SV.den] at hx
      subst hx
      refine ⟨(bs.take m).toArray.map fun b => .int .u8 b.toNat, ?_, ?_⟩
      · refine SV.denL_of U r g L (by simp) fun i s v h1 h2 => ?_
        simp only [List.getElem?_map, Array.toList_map] at h1 h2
        cases hb : (bs.take m)[i]? with
        | none => rw [hb] at h1; cases h1
        | some b => rw [hb] at h1 h2; cases h1; cases h2; rfl
      · show Result.ok _ _ = _
        congr 1
        have e : (ByteArray.extract ⟨bs.toArray⟩ 0 m) = ⟨(bs.take m).toArray⟩ := by
          apply ByteArray.ext; rw [ByteArray.data_extract]; simp
        have e' : (E.ev U r (.s bs)).toS = ⟨bs.toArray⟩ := rfl
        rw [e', e]
    · cases h
  · cases h

/-- 'copy(x, y)'. -/
def copyX (P : Program) (c : Cx) (t : TypeId) (x y : SV) : Tree (SV × Cx) :=
  match P.underlying t, x with
  | some (.slice e), .sl id off _ (.i l) _ =>
    match szT P e, lenS y, c.h[id]? with
    | some n, some m, some (some b) =>
      match takeS c.h n (Nat.min m l.toNat) y with
      | some cs => if b.wr = true ∧ cs.all SV.one = true ∧ off + cs.length ≤ b.cs.length then .ret (.int .i64 (.i (Nat.min m l.toNat : Nat)), { c with h := c.h.set id (some ⟨true, putL b.cs off cs, none⟩) }) else .bad
      | none => .bad
    | _, _, _ => .bad
  | _, _ => .bad

theorem copyX_ok {t0 t1 ty : TypeId} {x y : SV} {vx vy : Value} (hh : HeapDen U r g L c.h w) (hp : PcOk U r c.pc) (hx : x.den U r g L vx) (hy : y.den U r g L vy) (h : (copyX P c t0 x y).sat U (Post U L r g c w K) r) :
    VOk P (Builtin.copy_ #[t0, t1] ty #[vx, vy]) w K := by
  unfold copyX at h
  split at h
  · rename_i e id off sz l cap hu
    simp only [SV.den] at hx
    obtain ⟨hl, h0, cp, rfl, h3, h4, h5⟩ := hx
    rw [toI_i] at *
    split at h
    · rename_i n m b hs hm hb
      split at h
      · rename_i cs hcs
        split at h
        · rename_i hc
          obtain ⟨hwr, hone, hle⟩ := hc
          obtain ⟨xs, t', fz, e1, e2, e3, e4, e5⟩ := hh.blk id b hl hb
          obtain ⟨ys, hd, hrun⟩ := takeS_ok (P := P) hh hcs hy
          have hlen := SV.denL_length U r g L hd
          rw [e3 hwr] at e1
          obtain ⟨w', hr, hw⟩ := run_storeCells_at (P := P) (b := g.a id) (o := off) ys.toList 0 xs w e1 (by rw [← hlen]; omega) (one_all hone hd)
          have g0 : (#[t0, t1] : Array TypeId)[0]? = some t0 := rfl
          have g1 : (#[Value.slice (some ⟨g.a id, off, none⟩) l.toNat cp, vy] : Array Value)[0]? = some (Value.slice (some ⟨g.a id, off, none⟩) l.toNat cp) := rfl
          have g2 : (#[Value.slice (some ⟨g.a id, off, none⟩) l.toNat cp, vy] : Array Value)[1]? = some vy := rfl
          refine ⟨goInt (Nat.min m l.toNat), w', ?_, ?_⟩
          · unfold Builtin.copy_
            simp only [g0, g1, g2, Sem.run_bind, run_und hu, Result.andThen_ok, lenS_ok (P := P) hm hy, run_sizeOf_of hs, hrun]
            rw [hr]
            rfl
          · have hpl := putL_length (xs := b.cs) (vs := cs) (o := off) hle
            refine h g _ w' (ext_store hh hp hl hb hwr hw (by rw [putIn_size]; exact e2) (by rw [putIn_size, hpl]; exact e4) fun j s hs => ?_) rfl
            rw [putL_get hle] at hs
            rw [putIn_get _ _ _ _ (by rw [← hlen]; omega), ← hlen]
            split at hs
            · rename_i hj; rw [if_pos (by omega)]; exact SV.denL_get U r g L hd hs
            · rename_i hj; rw [if_neg (by omega)]; exact e5 j s hs
        · exact h.elim
      · exact h.elim
    · exact h.elim
  · exact h.elim

/-! ### 'string(b)' -/

def textE : List SV → Option E
  | [] => some (.s [])
  | .int .u8 e :: l => (textE l).map fun y => mk2 .scat (mk1 .byte e) y
  | .con (.int .u8 n) :: l => (textE l).map fun y => mk2 .scat (mk1 .byte (.i n)) y
  | _ => none

theorem textE_ok : ∀ {cs : List SV} {e : E} {vs : List Value}, textE cs = some e → SV.denL U r g L cs vs → ∃ ns : List Int, vs = ns.map (Value.int .u8) ∧
    ∀ s : ByteArray, ns.foldl (fun b n => b.push (UInt8.ofNat n.toNat)) s = s ++ (e.ev U r).toS := by
  intro cs
  induction cs with
  | nil =>
    intro e vs h hd
    simp only [textE, Option.some.injEq] at h
    subst h
    cases vs with
    | nil => exact ⟨[], rfl, fun s => by simp [E.ev, D.toS]; exact (ByteArray.append_empty).symm⟩
    | cons a b => simp [SV.denL] at hd
  | cons x cs ih =>
    intro e vs h hd
    cases vs with
    | nil => simp [SV.denL] at hd
    | cons v vs =>
      simp only [SV.denL] at hd
      have step : ∀ (n : E), v = .int .u8 (n.ev U r).toI → ∀ y, textE cs = some y → e = mk2 .scat (mk1 .byte n) y → ∃ ns : List Int, v :: vs = ns.map (Value.int .u8) ∧
          ∀ s : ByteArray, ns.foldl (fun b n => b.push (UInt8.ofNat n.toNat)) s = s ++ (e.ev U r).toS := by
        intro n hv y hy he
        obtain ⟨ns, h1, h2⟩ := ih hy hd.2
        refine ⟨(n.ev U r).toI :: ns, by rw [hv, h1]; rfl, fun s => ?_⟩
        rw [List.foldl_cons, h2, he, mk2_ev, mk1_ev]
        simp only [O1.ev, O2.ev, D.toS_s]
        rw [← ByteArray.append_assoc]
        congr 1
        apply ByteArray.ext
        simp [ByteArray.data_append, ByteArray.data_push]
      cases x with
      | int k n =>
        cases k <;> simp only [textE] at h <;> first | cases h | skip
        simp only [Option.map_eq_some_iff] at h
        obtain ⟨y, hy, rfl⟩ := h
        exact step n (by simpa only [SV.den] using hd.1) y hy rfl
      | con u =>
        cases u with
        | int k n =>
          cases k <;> simp only [textE] at h <;> first | cases h | skip
          simp only [Option.map_eq_some_iff] at h
          obtain ⟨y, hy, rfl⟩ := h
          exact step (.i n) (by simpa only [SV.den, E.ev, D.toI] using hd.1) y hy rfl
        | _ => simp [textE] at h
      | _ => simp [textE] at h

def bytesX (P : Program) (c : Cx) (s t : TypeId) (x : SV) : Tree (SV × Cx) :=
  match P.underlying s, P.underlying t, x with
  | some (.slice e), some .string, .sl id off _ (.i n) _ =>
    match P.underlying e, c.h[id]? with
    | some (.int .u8), some (some b) =>
      if off + n.toNat ≤ b.cs.length then
        match textE (cut b.cs off n.toNat) with
        | some e => .ret (.str e, c)
        | none => .bad
      else .bad
    | _, _ => .bad
  | some (.slice e), some .string, .con (.slice none 0 0) =>
    match P.underlying e with
    | some (.int .u8) => .ret (.str (.s []), c)
    | _ => .bad
  | _, _, _ => .bad

theorem bytesX_ok {s t : TypeId} {x : SV} {vx : Value} (hh : HeapDen U r g L c.h w) (hp : PcOk U r c.pc) (hx : x.den U r g L vx) (h : (bytesX P c s t x).sat U (Post U L r g c w K) r) : VOk P (convert s t vx) w K := by
  unfold bytesX at h
  split at h
  · rename_i e id off sz n cap hs ht
    simp only [SV.den] at hx
    obtain ⟨hl, h0, cp, rfl, h3, h4, h5⟩ := hx
    rw [toI_i] at *
    split at h
    · rename_i b he hb
      split at h
      · rename_i hle
        split at h
        · rename_i y hy
          obtain ⟨xs, t', fz, e1, e2, e3, e4, e5⟩ := hh.blk id b hl hb
          have hcut : SV.denL U r g L (cut b.cs off n.toNat) (xs.extract off (off + n.toNat)).toList := by
            refine SV.denL_of U r g L (by unfold cut; simp; omega) fun i s v h1 h2 => ?_
            unfold cut at h1
            rw [List.getElem?_take] at h1
            split at h1
            · rename_i hi
              rw [List.getElem?_drop] at h1
              obtain ⟨v', hv', hd'⟩ := e5 _ _ h1
              have : v = v' := by
                simp only [Array.toList_extract, List.extract_eq_take_drop, List.getElem?_take, List.getElem?_drop] at h2
                rw [if_pos (by omega), Array.getElem?_toList, hv'] at h2
                exact (Option.some.inj h2).symm
              subst this; exact hd'
            · cases h1
          obtain ⟨ns, hns, hfold⟩ := textE_ok hy hcut
          have hload : (loadCells ⟨g.a id, off, none⟩ n.toNat).run P w = .ok (ns.map (Value.int .u8)).toArray w := by
            have := run_loadCells_at (P := P) e1 off n.toNat 0 #[] (by omega)
            have h9 : xs.extract off (off + n.toNat) = (ns.map (Value.int .u8)).toArray := by rw [← hns]
            unfold loadCells
            rw [this, ← h9]; simp
          refine ⟨_, w, by rw [run_convert_bytes_string w s t e _ _ _ hs he ht, run_bytesToString w _ _ _ ns hload], Post.same h hh hp (Same.refl w) ?_⟩
          simp only [SV.den]
          rw [hfold]
          exact congrArg Value.string ByteArray.empty_append
        · exact h.elim
      · exact h.elim
    · exact h.elim
  · rename_i e hs ht
    simp only [SV.den] at hx
    subst hx
    split at h
    · rename_i he
      refine ⟨.string .empty, w, by rw [run_convert_bytes_string w s t e _ _ _ hs he ht]; rfl, Post.same h hh hp (Same.refl w) ?_⟩
      simp only [SV.den]; rfl
    · exact h.elim
  · exact h.elim

def isSl : SV → Bool
  | .sl _ _ _ _ _ => true
  | .con (.slice _ _ _) => true
  | _ => false

def convXX (P : Program) (c : Cx) (s t : TypeId) (x : SV) : Tree (SV × Cx) := if isSl x then bytesX P c s t x else convX P c s t x

theorem convXX_ok {s t : TypeId} {x : SV} {vx : Value} (hh : HeapDen U r g L c.h w) (hp : PcOk U r c.pc) (hx : x.den U r g L vx) (h : (convXX P c s t x).sat U (Post U L r g c w K) r) : VOk P (convert s t vx) w K := by
  unfold convXX at h
  split at h
  · exact bytesX_ok hh hp hx h
  · exact convX_ok hh hp hx h
end
end Go.Sx
