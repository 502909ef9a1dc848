/-
  Sx, part I: 'append', 'len', 'cap'; then every operation that calls no function.
-/
import Derived.Test.YtaflnmmnaiaceaaSxH
namespace Go.Sx
open E (mk1 mk2 mkIte mk1_ev mk2_ev mkIte_ev)

section
variable {U : Nat → D → D} {L : Nat → Prop} {r : Nat → D} {g : Gh} {c : Cx} {w w' : World} {P : Program} {K : Value → World → Prop}

/-! ### 'append' -/

/-- A slice's block moved: what stood under one name stands under a new one. -/
theorem ext_move (hh : HeapDen U r g L c.h w) (hp : PcOk U r c.pc) {id : Nat} {b : SB} (hl : L id) (hb : c.h[id]? = some (some b)) (hwr : b.wr = true) {xs' : Array Value} {t : TypeId} {cs' : List SV}
    (hw : Wrote (g.a id) xs' t w w') (hsz : xs'.size = g.n id) (hle : cs'.length ≤ xs'.size) (hd : ∀ (j : Nat) (s : SV), cs'[j]? = some s → ∃ v, xs'[j]? = some v ∧ s.den U r g L v)
    (rw : Option (List Sk × E) := none) (o : Nat := 0) (hrw : RowHas U r rw o xs' := by exact RowHas.none) :
    Ext U L r g c w r (g.put c.h.length (g.a id) (g.n id) o) { c with h := c.h.set id none ++ [some ⟨true, cs', rw⟩] } w' where
  nv := Nat.le_refl _
  agr := fun _ => rfl
  len := by simp
  ga := fun k h => by
    have : k ≠ c.h.length := fun e => h ⟨by omega, by simp; omega⟩
    simp [Gh.put, this]
  go := fun k h => by
    have : k ≠ c.h.length := fun e => h ⟨by omega, by simp; omega⟩
    simp [Gh.put, this]
  heap := by
    have hid := hh.bnd id hl
    have gl : GLe g L (g.put c.h.length (g.a id) (g.n id) o) (Lx L c.h (c.h.set id none ++ [some ⟨true, cs', rw⟩])) :=
      ⟨fun k h => by have := hh.bnd k h; exact ⟨.inl h, by simp [Gh.put]; omega, by simp [Gh.put]; omega⟩, fun k h => by have := hh.bnd k h; simp [Gh.put]; omega⟩
    have alt : ∀ k, Lx L c.h (c.h.set id none ++ [some ⟨true, cs', rw⟩]) k → (L k ∧ k < c.h.length ∧ (g.put c.h.length (g.a id) (g.n id) o).a k = g.a k) ∨ k = c.h.length := by
      rintro k (h | h)
      · exact .inl ⟨h, hh.bnd k h, (gl.on k h).2.1⟩
      · right; simp at h; omega
    have new : (g.put c.h.length (g.a id) (g.n id) o).a c.h.length = g.a id := by simp [Gh.put]
    have old : ∀ {k : Nat} {b' : SB}, k < c.h.length → (c.h.set id none ++ [some (⟨true, cs', rw⟩ : SB)])[k]? = some (some b') → k ≠ id ∧ c.h[k]? = some (some b') := by
      intro k b' hk h
      rw [List.getElem?_append_left (by simpa using hk)] at h
      by_cases hki : k = id
      · subst hki; rw [List.getElem?_set_self hk] at h; cases h
      · rw [List.getElem?_set_ne (Ne.symm hki)] at h; exact ⟨hki, h⟩
    refine ⟨?_, ?_, ?_, ?_, ?_, ?_⟩
    · intro k h; rcases alt k h with ⟨_, h, _⟩ | h <;> simp <;> omega
    · intro k h
      rw [hw.size]
      rcases alt k h with ⟨h1, _, h2⟩ | h
      · rw [h2]; exact hh.lt k h1
      · subst h; rw [new]; exact hh.lt id hl
    · intro k b' h hb'
      rcases alt k h with ⟨h1, h2, h3⟩ | h
      · obtain ⟨hne, hb''⟩ := old h2 hb'
        obtain ⟨ys, t', fz, e1, e2, e3, e4, e5⟩ := hh.blk k b' h1 hb''
        have hna : g.a k ≠ g.a id := fun e => hne (hh.inj id k b b' hl h1 hb hwr hb'' e.symm).symm
        refine ⟨ys, t', fz, by rw [h3, hw.off _ hna]; exact e1, by rw [(gl.on k h1).2.2]; exact e2, e3, e4, fun j s hs => ?_⟩
        obtain ⟨v, hv, hd⟩ := e5 j s hs
        exact ⟨v, hv, SV.den_mono gl hd⟩
      · subst h
        have hb'' : b' = ⟨true, cs', rw⟩ := by
          have hb' : (c.h.set id none ++ [some (⟨true, cs', rw⟩ : SB)])[c.h.length]? = some (some b') := hb'
          rw [List.getElem?_append_right (by simp)] at hb'
          simpa using hb'.symm
        subst hb''
        refine ⟨xs', t, (0, 0), by rw [new]; exact hw.at_, by simp [Gh.put]; exact hsz, fun _ => rfl, hle, fun j s hs => ?_⟩
        obtain ⟨v, hv, hd'⟩ := hd j s hs
        exact ⟨v, hv, SV.den_mono gl hd'⟩
    · intro i j b1 b2 hi hj h1 hwr1 h2 he
      rcases alt i hi with ⟨i1, i2, i3⟩ | hi' <;> rcases alt j hj with ⟨j1, j2, j3⟩ | hj'
      · rw [i3, j3] at he
        exact hh.inj i j b1 b2 i1 j1 (old i2 h1).2 hwr1 (old j2 h2).2 he
      · subst hj'
        rw [i3, new] at he
        obtain ⟨hne, h1'⟩ := old i2 h1
        exact absurd (hh.inj i id b1 b i1 hl h1' hwr1 hb he) hne
      · subst hi'
        rw [j3, new] at he
        obtain ⟨hne, h2'⟩ := old j2 h2
        exact absurd (hh.inj id j b b2 hl j1 hb hwr h2' he).symm hne
      · omega
    · intro k b' ks e h hb' hr
      rcases alt k h with ⟨h1, h2, h3⟩ | h
      · obtain ⟨hne, hb''⟩ := old h2 hb'
        obtain ⟨ys, t', fz, e1, e2⟩ := hh.rows k b' ks e h1 hb'' hr
        have hna : g.a k ≠ g.a id := fun e => hne (hh.inj id k b b' hl h1 hb hwr hb'' e.symm).symm
        exact ⟨ys, t', fz, by rw [h3, hw.off _ hna]; exact e1, by rw [gl.off k h1]; exact e2⟩
      · subst h
        have hb'' : b' = ⟨true, cs', rw⟩ := by
          have hb' : (c.h.set id none ++ [some (⟨true, cs', rw⟩ : SB)])[c.h.length]? = some (some b') := hb'
          rw [List.getElem?_append_right (by simp)] at hb'
          simpa using hb'.symm
        subst hb''
        refine ⟨xs', t, (0, 0), by rw [new]; exact hw.at_, ?_⟩
        have := hrw ks e hr
        simpa [Gh.put] using this
    · intro k b' hb' hw'
      by_cases hlt : k < c.h.length
      · exact .inl (hh.live k b' (old hlt hb').2 hw')
      · have : k < (c.h.set id none ++ [some (⟨true, cs', rw⟩ : SB)]).length := (List.getElem?_eq_some_iff.1 hb').1
        exact .inr ⟨by omega, this⟩
  pc := hp
  frm := ⟨hw.os, hw.tape, hw.output, by rw [hw.size]; exact Nat.le_refl _, fun k _ hn => hw.off k fun e => hn ⟨id, b, hl, hb, hwr, e.symm⟩⟩
  wrs := fun k b' h hb' hw' => by
    right
    have hid := hh.bnd id hl
    rcases h with h | h
    · have hk := hh.bnd k h
      have hb'' : (c.h.set id none ++ [some (⟨true, cs', rw⟩ : SB)])[k]? = some (some b') := hb'
      rw [List.getElem?_append_left (by simpa using hk)] at hb''
      by_cases hki : k = id
      · subst hki; rw [List.getElem?_set_self hk] at hb''; cases hb''
      · rw [List.getElem?_set_ne (Ne.symm hki)] at hb''
        refine ⟨k, b', h, hb'', hw', ?_⟩
        have : k ≠ c.h.length := by omega
        simp [Gh.put, this]
    · have : k = c.h.length := by have := h.2; simp at this; have := h.1; omega
      subst this
      exact ⟨id, b, hl, hb, hwr, by simp [Gh.put]⟩
  fresh := fun k h1 h2 => by
    have : k = c.h.length := by have h2 : k < (c.h.set id none ++ [some (⟨true, cs', rw⟩ : SB)]).length := h2; simp at h2; omega
    subst this
    exact .inr ⟨id, b, hl, hb, hwr, by simp [Gh.put]⟩

/-- How many elements, and their cells. -/
def srcCells (h : SH) (n : Nat) : SV → Option (Nat × List SV)
  | .sl id off _ (.i m) _ =>
    match h[id]? with
    | some (some b) => if off + m.toNat * n ≤ b.cs.length then some (m.toNat, cut b.cs off (m.toNat * n)) else none
    | _ => none
  | .con (.slice none 0 0) => some (0, [])
  | .str (.s bs) => if n = 1 then some (bs.length, bs.map fun b => .int .u8 (.i b.toNat)) else none
  | _ => none

theorem srcCells_ok {n m : Nat} {cs : List SV} {x : SV} {vx : Value} (hh : HeapDen U r g L c.h w) (h : srcCells c.h n x = some (m, cs)) (hx : x.den U r g L vx) :
    ∃ xs : Array Value, SV.denL U r g L cs xs.toList ∧ xs.size = m * n ∧ (∀ w', (Builtin.lenOf vx).run P w' = .ok m w') ∧ ∀ w', w'.heap = w.heap → (Builtin.firstCells n m vx).run P w' = .ok xs w' := by
  unfold srcCells at h
  split at h
  · rename_i id off sz mm cap
    split at h
    · rename_i b hb
      split at h
      · rename_i hle
        cases h
        simp only [SV.den] at hx
        obtain ⟨hl, h0, cp, rfl, h3, h4, h5⟩ := hx
        simp only [toI_i] at *
        obtain ⟨xs, t', fz, e1, e2, e3, e4, e5⟩ := hh.blk id b hl hb
        refine ⟨xs.extract off (off + mm.toNat * n), ?_, by simp; omega, fun _ => rfl, fun w' hw' => ?_⟩
        · refine SV.denL_of U r g L (by unfold cut; simp; omega) fun i s v h1 h2 => ?_
          unfold cut at h1
          rw [List.getElem?_take] at h1
          split at h1
          · rename_i hi
            rw [List.getElem?_drop] at h1
            obtain ⟨v', hv', hd'⟩ := e5 _ _ h1
            have : v = v' := by
              simp only [Array.toList_extract, List.extract_eq_take_drop, List.getElem?_take, List.getElem?_drop] at h2
              rw [if_pos (by omega), Array.getElem?_toList, hv'] at h2
              exact (Option.some.inj h2).symm
            subst this; exact hd'
          · cases h1
        · have e1' : w'.heap[g.a id]? = some (.cells xs t' fz) := by rw [hw']; exact e1
          have := run_loadCells_at (P := P) e1' off (mm.toNat * n) 0 #[] (by omega)
          simp only [Builtin.firstCells, loadCells]
          rw [this]; simp
      · cases h
    · cases h
  · cases h
    simp only [SV.den] at hx
    subst hx
    exact ⟨#[], by simp [SV.denL], by simp, fun _ => rfl, fun _ _ => rfl⟩
  · rename_i bs
    split at h
    · rename_i hn
      cases h
      subst hn
      simp only [SV.den] at hx
      subst hx
      refine ⟨bs.toArray.map fun b => .int .u8 b.toNat, ?_, by simp, fun _ => ?_, fun _ _ => ?_⟩
      · refine SV.denL_of U r g L (by simp) fun i s v h1 h2 => ?_
        simp only [List.getElem?_map, Array.toList_map] at h1 h2
        cases hb : bs[i]? with
        | none => rw [hb] at h1; cases h1
        | some b => rw [hb] at h1 h2; cases h1; cases h2; rfl
      · show Result.ok (ByteArray.size ⟨bs.toArray⟩) _ = _; simp [ByteArray.size]
      · show Result.ok _ _ = _
        congr 1
        have e : (ByteArray.extract ⟨bs.toArray⟩ 0 bs.length) = ⟨bs.toArray⟩ := by
          apply ByteArray.ext; rw [ByteArray.data_extract]; simp
        have e' : (E.ev U r (.s bs)).toS = ⟨bs.toArray⟩ := rfl
        rw [e', e]
    · cases h
  · cases h

theorem growBy_le (n : Nat) : ∀ (k m : Nat), Builtin.growBy n k m ≤ max m (n + (n + 768) / 4) := by
  intro k
  induction k with
  | zero => intro m; simp [Builtin.growBy]; omega
  | succ k ih =>
    intro m
    unfold Builtin.growBy
    split
    · omega
    · have := ih (m + (m + 768) / 4); omega

theorem nextslicecap_le {n m : Nat} (h : m < n) : Builtin.nextslicecap n m ≤ 2 * n + 1000 := by
  unfold Builtin.nextslicecap
  split
  · omega
  · split
    · omega
    · have := growBy_le n 4 m; omega

theorem zeroCells_size (z : Array Value) (n : Nat) : (Builtin.zeroCells z n).size = n * z.size := by simp [Builtin.zeroCells]

/-- The setting of an append. -/
structure AppSet (P : Program) (t0 t1 e : TypeId) (n : Nat) (ie : TypeInfo) (z : Value) : Prop where
  u0 : P.underlying t0 = some (.slice e)
  u1 : ∃ d, P.underlying t1 = some d ∧ ∀ k, d ≠ .int k
  info : P.info? e = some ie
  size : ie.size = n
  zero : ie.zero = some z
  zsize : z.cells.size = n
  bytes : ie.bytes ≤ 1048576

theorem append_run_grow {t0 t1 e ty : TypeId} {n l m cap : Nat} {ie : TypeInfo} {z : Value} {base : Option Addr} {vx : Value} {old new : Array Value} (hs : AppSet P t0 t1 e n ie z)
    (hlen : ∀ w, (Builtin.lenOf vx).run P w = .ok m w) (hnew : ∀ w', w'.heap = w.heap → (Builtin.firstCells n m vx).run P w' = .ok new w')
    (hold : ∀ w', w'.heap = w.heap → (Builtin.firstCells n l (.slice base l cap)).run P w' = .ok old w') (hgt : ¬ l + m ≤ cap) (hsm : l + m ≤ 1048576) :
    ∃ newCap rest, l + m ≤ newCap ∧ rest.size = (newCap - (l + m)) * n ∧
      (Builtin.append_ #[t0, t1] ty #[.slice base l cap, vx]).run P w = .ok (.slice (some ⟨w.heap.size, 0, none⟩) (l + m) newCap) (({ w with drawn := w.drawn + 1 } : World).alloc (.cells (old ++ new ++ rest) e)) := by
  obtain ⟨d, hd1, hd2⟩ := hs.u1
  have hb1 : ¬ (((l + m : Nat) : Int) > IntKind.i64.max ∧ (false = true ∨ ie.bytes = 0)) := by
    have : IntKind.i64.max = 9223372036854775807 := by decide
    rw [this]; omega
  have hb2 : ¬ (Builtin.nextslicecap (l + m) cap * ie.bytes > 2 ^ 48) := by
    have h1 := nextslicecap_le (n := l + m) (m := cap) (by omega)
    have h2 : Builtin.nextslicecap (l + m) cap * ie.bytes ≤ (2 * (l + m) + 1000) * 1048576 := Nat.mul_le_mul h1 hs.bytes
    have h3 : (2 * (l + m) + 1000) * 1048576 ≤ (2 * 1048576 + 1000) * 1048576 := Nat.mul_le_mul (by omega) (Nat.le_refl _)
    have : (2 * 1048576 + 1000) * 1048576 ≤ 2 ^ 48 := by decide
    omega
  refine ⟨(Question.appendCap (l + m) cap e).cut (w.tape w.drawn (.appendCap (l + m) cap e)), Builtin.zeroCells z.cells ((Question.appendCap (l + m) cap e).cut (w.tape w.drawn (.appendCap (l + m) cap e)) - (l + m)), by simp only [Question.cut]; omega, by rw [zeroCells_size, hs.zsize], ?_⟩
  have hsz : szT P e = some n := by unfold szT; rw [hs.info]; simp [hs.size]
  have hzt : zeroT P e = some z := by unfold zeroT; rw [hs.info]; simp [hs.zero]
  have hf : (Question.appendCap (l + m) cap e).forced = false := rfl
  have k1 := hold ({ w with drawn := w.drawn + 1 } : World) rfl
  have k2 := hnew ({ w with drawn := w.drawn + 1 } : World) rfl
  unfold Builtin.append_
  have g0 : (#[t0, t1] : Array TypeId)[0]? = some t0 := rfl
  have g1 : (#[t0, t1] : Array TypeId)[1]? = some t1 := rfl
  have g2 : (#[Value.slice base l cap, vx] : Array Value)[0]? = some (.slice base l cap) := rfl
  have g3 : (#[Value.slice base l cap, vx] : Array Value)[1]? = some vx := rfl
  simp only [g0, g1, g2, g3, Sem.run_bind, run_und hs.u0, Result.andThen_ok, run_sizeOf_of hsz, run_und hd1, Sem.run_pure]
  simp only [Bool.false_eq_true, if_false, hlen, Result.andThen_ok, if_neg hgt, Sem.run_bind, run_info hs.info, false_or]
  rw [if_neg (by simpa using hb1)]
  simp only [Result.andThen_ok, Sem.run_bind, run_info hs.info]
  rw [if_neg hb2]
  simp only [Sem.run_pure, Result.andThen_ok, run_choose, hf, Bool.false_eq_true, if_false, Sem.run_bind, run_askRoom, run_info hs.info, k1, k2, run_zero_of hzt, newRow, run_newObj, Bool.not_false, if_true]
  rfl

theorem append_run_fits {t0 t1 e ty : TypeId} {n l m cap b o : Nat} {ie : TypeInfo} {z : Value} {vx : Value} {new : Array Value} {xs : Array Value} {t : TypeId} (hs : AppSet P t0 t1 e n ie z)
    (hlen : ∀ w, (Builtin.lenOf vx).run P w = .ok m w) (hnew : ∀ w', w'.heap = w.heap → (Builtin.firstCells n m vx).run P w' = .ok new w') (hle : l + m ≤ cap)
    (hb : w.heap[b]? = some (.cells xs t (0, 0))) (hsz : new.size = m * n) (hin : o + (l + m) * n ≤ xs.size) (h1 : ∀ v ∈ new.toList, v.oneCell' = true) :
    ∃ w', Wrote b (putIn xs (o + l * n) new.toList) t w w' ∧
      (Builtin.append_ #[t0, t1] ty #[.slice (some ⟨b, o, none⟩) l cap, vx]).run P w = .ok (.slice (some ⟨b, o, none⟩) (l + m) cap) w' := by
  obtain ⟨d, hd1, hd2⟩ := hs.u1
  have hszT : szT P e = some n := by unfold szT; rw [hs.info]; simp [hs.size]
  have hmul : (l + m) * n = l * n + m * n := Nat.add_mul _ _ _
  obtain ⟨w', hr, hw⟩ := run_storeCells_at (P := P) (b := b) (o := o + l * n) new.toList 0 xs w hb (by simp [hsz]; omega) h1
  refine ⟨w', hw, ?_⟩
  have k2 := hnew w rfl
  unfold Builtin.append_
  have g0 : (#[t0, t1] : Array TypeId)[0]? = some t0 := rfl
  have g1 : (#[t0, t1] : Array TypeId)[1]? = some t1 := rfl
  have g2 : (#[Value.slice (some ⟨b, o, none⟩) l cap, vx] : Array Value)[0]? = some (.slice (some ⟨b, o, none⟩) l cap) := rfl
  have g3 : (#[Value.slice (some ⟨b, o, none⟩) l cap, vx] : Array Value)[1]? = some vx := rfl
  simp only [g0, g1, g2, g3, Sem.run_bind, run_und hs.u0, Result.andThen_ok, run_sizeOf_of hszT, run_und hd1, Sem.run_pure]
  simp only [Bool.false_eq_true, if_false, hlen, Result.andThen_ok, if_pos hle, Sem.run_bind, Sem.run_pure, k2, add_none, Bool.not_false, if_true]
  rw [hr]
  rfl

theorem Ext.of_same {r' : Nat → D} {g' : Gh} {c' : Cx} {w1 w' : World} (hs : Same w w1) (e : Ext U L r g c w1 r' g' c' w') : Ext U L r g c w r' g' c' w' where
  nv := e.nv
  agr := e.agr
  len := e.len
  ga := e.ga
  go := e.go
  heap := e.heap
  pc := e.pc
  frm := ⟨e.frm.os.trans hs.os, e.frm.tape.trans hs.tape, e.frm.output.trans hs.output, by have := e.frm.size; rwa [hs.heap] at this, fun k hk hn => by
    have := e.frm.block k (by rw [hs.heap]; exact hk) hn; rwa [hs.heap] at this⟩
  wrs := fun id b h1 h2 h3 => by have := e.wrs id b h1 h2 h3; rwa [hs.heap] at this
  fresh := fun id h1 h2 => by have := e.fresh id h1 h2; rwa [hs.heap] at this

def growX (c : Cx) (n l : Nat) (cs : List SV) : Tree (SV × Cx) := .ret (.sl c.h.length 0 n (.i l) none, { c with h := c.h ++ [some ⟨true, cs, none⟩] })

def appendY (c : Cx) (n : Nat) (x : SV) (l m : Nat) (old new : List SV) : Tree (SV × Cx) :=
  match x with
  | .con (.slice none 0 0) => if m = 0 then .bad else growX c n (l + m) (old ++ new)
  | .sl id off sz (.i len) cap =>
    if sz = n ∧ len.toNat = l ∧ new.all SV.one = true then
      match cap with
      | some (.i cp) =>
        if l + m ≤ cp.toNat then
          match c.h[id]? with
          | some (some b) =>
            if b.wr = true ∧ off + (l + m) * n ≤ b.cs.length then .ret (.sl id off n (.i (l + m : Nat)) (some (.i cp.toNat)), { c with h := c.h.set id (some ⟨true, putL b.cs (off + l * n) new, none⟩) }) else .bad
          | _ => .bad
        else growX c n (l + m) (old ++ new)
      | none =>
        match c.h[id]? with
        | some (some b) => if b.wr = true ∧ off = 0 then .ret (.sl c.h.length 0 n (.i (l + m : Nat)) none, { c with h := c.h.set id none ++ [some ⟨true, old ++ new, none⟩] }) else .bad
        | _ => .bad
      | _ => .bad
    else .bad
  | _ => .bad

def notIntD : TypeDesc → Bool
  | .int _ => false
  | _ => true

def appendX (P : Program) (c : Cx) (t0 t1 : TypeId) (x y : SV) : Tree (SV × Cx) :=
  match P.underlying t0, P.underlying t1 with
  | some (.slice e), some d1 =>
    match P.info? e with
    | some ie =>
      match ie.zero with
      | some z =>
        if notIntD d1 = true ∧ z.cells.size = ie.size ∧ ie.bytes ≤ 1048576 then
          match srcCells c.h ie.size x, srcCells c.h ie.size y with
          | some (l, old), some (m, new) => if l + m ≤ 1048576 then appendY c ie.size x l m old new else .bad
          | _, _ => .bad
        else .bad
      | none => .bad
    | none => .bad
  | _, _ => .bad

theorem growX_ok {t0 t1 e ty : TypeId} {n l m cap : Nat} {ie : TypeInfo} {z : Value} {base : Option Addr} {vx : Value} {old new : List SV} {xo xn : Array Value} (hs : AppSet P t0 t1 e n ie z)
    (hh : HeapDen U r g L c.h w) (hp : PcOk U r c.pc) (hlen : ∀ w, (Builtin.lenOf vx).run P w = .ok m w) (hnew : ∀ w', w'.heap = w.heap → (Builtin.firstCells n m vx).run P w' = .ok xn w')
    (hold : ∀ w', w'.heap = w.heap → (Builtin.firstCells n l (.slice base l cap)).run P w' = .ok xo w') (hgt : ¬ l + m ≤ cap) (hsm : l + m ≤ 1048576)
    (ho : SV.denL U r g L old xo.toList) (hn : SV.denL U r g L new xn.toList) (hso : xo.size = l * n) (hsn : xn.size = m * n)
    (h : (growX c n (l + m) (old ++ new)).sat U (Post U L r g c w K) r) : VOk P (Builtin.append_ #[t0, t1] ty #[.slice base l cap, vx]) w K := by
  obtain ⟨cap', rest, k1, k2, k3⟩ := append_run_grow (ty := ty) hs hlen hnew hold hgt hsm
  refine ⟨_, _, k3, ?_⟩
  have hsame : Same w ({ w with drawn := w.drawn + 1 } : World) := ⟨rfl, rfl, rfl, rfl⟩
  have hlo := SV.denL_length U r g L ho
  have hln := SV.denL_length U r g L hn
  simp only [Array.length_toList] at hlo hln
  have hd : SV.denL U r g L (old ++ new) ((xo ++ xn ++ rest).toList.take (old ++ new).length) := by
    have : (xo ++ xn ++ rest).toList.take (old ++ new).length = xo.toList ++ xn.toList := by
      simp only [Array.toList_append, List.length_append, hlo, hln]
      rw [List.take_append_of_le_length (by simp), List.take_of_length_le (by simp)]
    rw [this]; exact SV.denL_append U r g L ho hn
  have e := ext_alloc (xs := xo ++ xn ++ rest) (hh.same hsame) hp e hd (by simp; omega) true
  refine h _ _ _ (e.of_same hsame) ?_
  simp only [SV.den]
  refine ⟨.inr ⟨Nat.le_refl _, by simp⟩, ?_, cap', ?_, ?_, ?_, by intro e he; cases he⟩
  · show (0 : Int) ≤ ((l + m : Nat) : Int); omega
  · show _ = Value.slice (some ⟨(g.put c.h.length w.heap.size _).a c.h.length, 0, none⟩) (((l + m : Nat) : Int)).toNat cap'
    rw [Int.toNat_natCast]; simp [Gh.put]
  · show (((l + m : Nat) : Int)).toNat ≤ cap'; omega
  · show 0 + cap' * n ≤ (g.put c.h.length w.heap.size (xo ++ xn ++ rest).size).n c.h.length
    have : cap' * n = l * n + m * n + (cap' - (l + m)) * n := by rw [← Nat.add_mul, ← Nat.add_mul]; congr 1; omega
    simp [Gh.put, hso, hsn, k2]; omega

theorem one_all {new : List SV} {xs : List Value} (ha : new.all SV.one = true) (hd : SV.denL U r g L new xs) : ∀ v ∈ xs, v.oneCell' = true := by
  intro v hv
  obtain ⟨i, hi, rfl⟩ := List.getElem_of_mem hv
  have hl := SV.denL_length U r g L hd
  obtain ⟨v, hv, hd'⟩ := SV.denL_get U r g L hd (i := i) (c := new[i]'(by omega)) (by simp)
  have : v = xs[i] := by rw [List.getElem?_eq_getElem hi] at hv; exact (Option.some.inj hv).symm
  subst this
  exact one_ok (List.all_eq_true.1 ha _ (List.getElem_mem _)) hd'

set_option maxHeartbeats 1000000 in
theorem appendX_ok {t0 t1 ty : TypeId} {x y : SV} {vx vy : Value} (hh : HeapDen U r g L c.h w) (hp : PcOk U r c.pc) (hx : x.den U r g L vx) (hy : y.den U r g L vy)
    (h : (appendX P c t0 t1 x y).sat U (Post U L r g c w K) r) : VOk P (Builtin.append_ #[t0, t1] ty #[vx, vy]) w K := by
  unfold appendX at h
  split at h
  · rename_i e d1 hu0 hu1
    split at h
    · rename_i ie hi
      split at h
      · rename_i z hz
        split at h
        · rename_i hc
          split at h
          · rename_i l old m new hsx hsy
            split at h
            · rename_i hsm
              have hs : AppSet P t0 t1 e ie.size ie z := ⟨hu0, ⟨d1, hu1, fun k hk => by rw [hk] at hc; exact absurd hc.1 (by simp [notIntD])⟩, hi, rfl, hz, hc.2.1, hc.2.2⟩
              obtain ⟨xo, ho, hso, hlo, hfo⟩ := srcCells_ok (P := P) hh hsx hx
              obtain ⟨xn, hn, hsn, hln, hfn⟩ := srcCells_ok (P := P) hh hsy hy
              unfold appendY at h
              split at h
              · simp only [SV.den] at hx
                subst hx
                have hl0 : l = 0 := by have := hlo w; cases this; rfl
                subst hl0
                split at h
                · exact h.elim
                · exact growX_ok hs hh hp hln hfn hfo (by omega) hsm ho hn hso hsn h
              · rename_i id off sz len cap
                split at h
                · rename_i hcc
                  obtain ⟨hsz, hll, hall⟩ := hcc
                  subst hsz
                  have hx' := hx
                  simp only [SV.den] at hx
                  obtain ⟨hl, h0, cp, rfl, h3, h4, h5⟩ := hx
                  simp only [toI_i] at h0 h3 hlo hfo ⊢
                  rw [hll] at h3 hlo hfo ⊢
                  split at h
                  · rename_i cpl
                    have hcp : cp = cpl.toNat := h5 _ rfl
                    split at h
                    · rename_i hfit
                      split at h
                      · rename_i b hb
                        split at h
                        · rename_i hbw
                          obtain ⟨xs, t', fz, e1, e2, e3, e4, e5⟩ := hh.blk id b hl hb
                          rw [e3 hbw.1] at e1
                          have hlen := SV.denL_length U r g L hn
                          simp only [Array.length_toList] at hlen
                          have hmul : (l + m) * ie.size = l * ie.size + m * ie.size := Nat.add_mul _ _ _
                          obtain ⟨w', hw, hr⟩ := append_run_fits (ty := ty) (b := g.a id) (o := off) (l := l) (m := m) (cap := cp) hs hln hfn (by omega) e1 hsn (by omega) (one_all hall hn)
                          refine ⟨_, w', hr, ?_⟩
                          have hpl := putL_length (xs := b.cs) (vs := new) (o := off + l * ie.size) (by omega)
                          refine h g _ w' (ext_store hh hp hl hb hbw.1 hw (by rw [putIn_size]; exact e2) (by rw [putIn_size, hpl]; exact e4) fun j s hs => ?_) ?_
                          · rw [putL_get (by omega)] at hs
                            rw [putIn_get _ _ _ _ (by simp; omega)]
                            simp only [Array.length_toList, ← hlen]
                            split at hs
                            · rename_i hj; rw [if_pos hj]; exact SV.denL_get U r g L hn hs
                            · rename_i hj; rw [if_neg hj]; exact e5 j s hs
                          · have hL : Lx L c.h (c.h.set id (some ⟨true, putL b.cs (off + l * ie.size) new, none⟩)) = L := by
                              funext k; apply propext; unfold Lx; simp
                              intro h1 h2; omega
                            show SV.den U r g (Lx L c.h (c.h.set id (some ⟨true, putL b.cs (off + l * ie.size) new, none⟩))) _ _
                            rw [hL]
                            simp only [SV.den]
                            refine ⟨hl, ?_, cp, ?_, ?_, h4, ?_⟩
                            · show (0 : Int) ≤ ((l + m : Nat) : Int); omega
                            · show _ = Value.slice _ (((l + m : Nat) : Int)).toNat _; rw [Int.toNat_natCast]
                            · show (((l + m : Nat) : Int)).toNat ≤ cp; omega
                            · intro e he; cases he; show cp = ((cpl.toNat : Nat) : Int).toNat; omega
                        · exact h.elim
                      · exact h.elim
                    · exact growX_ok hs hh hp hln hfn hfo (by omega) hsm ho hn hso hsn h
                  · split at h
                    · rename_i b hb
                      split at h
                      · rename_i hbw
                        obtain ⟨hbw, rfl⟩ := hbw
                        by_cases hfit : l + m ≤ cp
                        · obtain ⟨xs, t', fz, e1, e2, e3, e4, e5⟩ := hh.blk id b hl hb
                          rw [e3 hbw] at e1
                          have hlen := SV.denL_length U r g L hn
                          have hlen' := SV.denL_length U r g L ho
                          simp only [Array.length_toList] at hlen hlen'
                          have hmul : (l + m) * ie.size = l * ie.size + m * ie.size := Nat.add_mul _ _ _
                          have hcm : (l + m) * ie.size ≤ cp * ie.size := Nat.mul_le_mul_right _ hfit
                          obtain ⟨w', hw, hr⟩ := append_run_fits (ty := ty) (b := g.a id) (o := 0) (l := l) (m := m) (cap := cp) hs hln hfn hfit e1 hsn (by omega) (one_all hall hn)
                          refine ⟨_, w', hr, ?_⟩
                          refine h _ _ w' (ext_move hh hp hl hb hbw hw (by rw [putIn_size]; exact e2) (by rw [putIn_size]; simp; omega) fun j s hs => ?_) ?_
                          · rw [putIn_get _ _ _ _ (by simp; omega)]
                            simp only [Array.length_toList, Nat.zero_add]
                            by_cases hj : j < old.length
                            · rw [List.getElem?_append_left hj] at hs
                              rw [if_neg (by omega)]
                              obtain ⟨v, hv, hd⟩ := SV.denL_get U r g L ho hs
                              refine ⟨v, ?_, hd⟩
                              have hf := hfo w rfl
                              have hrun := run_loadCells_at (P := P) e1 0 (l * ie.size) 0 #[] (by omega)
                              simp only [Builtin.firstCells, loadCells] at hf
                              rw [hrun] at hf
                              cases hf
                              rw [Array.getElem?_toList] at hv
                              simp only [Array.empty_append, Array.getElem?_extract, Nat.zero_add] at hv
                              split at hv
                              · exact hv
                              · cases hv
                            · rw [List.getElem?_append_right (by omega)] at hs
                              obtain ⟨v, hv, hd⟩ := SV.denL_get U r g L hn hs
                              refine ⟨v, ?_, hd⟩
                              have hj2 : j - old.length < xn.toList.length := (List.getElem?_eq_some_iff.1 hv).1
                              simp only [Array.length_toList] at hj2
                              rw [if_pos (by omega)]
                              rw [show j - l * ie.size = j - old.length by omega]
                              exact hv
                          · simp only [SV.den]
                            refine ⟨.inr ⟨Nat.le_refl _, by simp⟩, ?_, cp, ?_, ?_, ?_, by intro e he; cases he⟩
                            · show (0 : Int) ≤ ((l + m : Nat) : Int); omega
                            · show _ = Value.slice (some ⟨(g.put c.h.length (g.a id) (g.n id)).a c.h.length, 0, none⟩) (((l + m : Nat) : Int)).toNat cp
                              rw [Int.toNat_natCast]; simp [Gh.put]
                            · show (((l + m : Nat) : Int)).toNat ≤ cp; omega
                            · show 0 + cp * ie.size ≤ (g.put c.h.length (g.a id) (g.n id)).n c.h.length
                              simp [Gh.put]; omega
                        · -- the old block is read no more
                          have hsame : Same w ({ w with drawn := w.drawn + 1 } : World) := ⟨rfl, rfl, rfl, rfl⟩
                          obtain ⟨cap', rest, k1, k2, k3⟩ := append_run_grow (ty := ty) hs hln hfn hfo hfit hsm
                          refine ⟨_, _, k3, ?_⟩
                          have hlen := SV.denL_length U r g L hn
                          have hlen' := SV.denL_length U r g L ho
                          simp only [Array.length_toList] at hlen hlen'
                          have hd : SV.denL U r g L (old ++ new) ((xo ++ xn ++ rest).toList.take (old ++ new).length) := by
                            have : (xo ++ xn ++ rest).toList.take (old ++ new).length = xo.toList ++ xn.toList := by
                              simp only [Array.toList_append, List.length_append, hlen, hlen']
                              rw [List.take_append_of_le_length (by simp), List.take_of_length_le (by simp)]
                            rw [this]; exact SV.denL_append U r g L ho hn
                          have ex := (ext_alloc (xs := xo ++ xn ++ rest) (hh.same hsame) hp e hd (by simp; omega) true).of_same hsame
                          have hid := hh.bnd id hl
                          have ex' : Ext U L r g c w r (g.put c.h.length w.heap.size (xo ++ xn ++ rest).size) { c with h := c.h.set id none ++ [some ⟨true, old ++ new, none⟩] } (({ w with drawn := w.drawn + 1 } : World).alloc (.cells (xo ++ xn ++ rest) e)) := by
                            have hLx : Lx L c.h (c.h.set id none ++ [some (⟨true, old ++ new, none⟩ : SB)]) = Lx L c.h (c.h ++ [some ⟨true, old ++ new, none⟩]) := by
                              funext k; unfold Lx; simp
                            have hget : ∀ {k : Nat} {b' : SB}, (c.h.set id none ++ [some (⟨true, old ++ new, none⟩ : SB)])[k]? = some (some b') → (c.h ++ [some (⟨true, old ++ new, none⟩ : SB)])[k]? = some (some b') := by
                              intro k b' hk
                              by_cases hkl : k < c.h.length
                              · rw [List.getElem?_append_left (by simpa using hkl)] at hk
                                rw [List.getElem?_append_left hkl]
                                by_cases hki : k = id
                                · subst hki; rw [List.getElem?_set_self hkl] at hk; cases hk
                                · rwa [List.getElem?_set_ne (Ne.symm hki)] at hk
                              · rw [List.getElem?_append_right (by simpa using hkl)] at hk
                                rw [List.getElem?_append_right (by omega)]
                                simpa using hk
                            refine ⟨ex.nv, ex.agr, by simp, fun k hk => ex.ga k (by simpa using hk), fun k hk => ex.go k (by simpa using hk), ?_, hp, ex.frm, ?_, fun k h1 h2 => ex.fresh k h1 (by simpa using h2)⟩
                            · have eh := ex.heap
                              show HeapDen U r _ (Lx L c.h (c.h.set id none ++ [some ⟨true, old ++ new, none⟩])) (c.h.set id none ++ [some ⟨true, old ++ new, none⟩]) _
                              rw [hLx]
                              exact ⟨fun k hk => by have := eh.bnd k hk; simpa using this, eh.lt, fun k b' hk hb' => eh.blk k b' hk (hget hb'), fun i j b1 b2 hi hj h1 hw1 h2 he => eh.inj i j b1 b2 hi hj (hget h1) hw1 (hget h2) he, fun k b' ks e hk hb' hr => eh.rows k b' ks e hk (hget hb') hr, fun k b' hb' hw' => eh.live k b' (hget hb') hw'⟩
                            · intro k b' hk hb' hw1
                              have hk : Lx L c.h (c.h.set id none ++ [some (⟨true, old ++ new, none⟩ : SB)]) k := hk
                              rw [hLx] at hk
                              exact ex.wrs k b' hk (hget hb') hw1
                          refine h _ _ _ ex' ?_
                          simp only [SV.den]
                          refine ⟨.inr ⟨Nat.le_refl _, by simp⟩, ?_, cap', ?_, ?_, ?_, by intro e he; cases he⟩
                          · show (0 : Int) ≤ ((l + m : Nat) : Int); omega
                          · show _ = Value.slice (some ⟨(g.put c.h.length w.heap.size _).a c.h.length, 0, none⟩) (((l + m : Nat) : Int)).toNat cap'
                            rw [Int.toNat_natCast]; simp [Gh.put]
                          · show (((l + m : Nat) : Int)).toNat ≤ cap'; omega
                          · show 0 + cap' * ie.size ≤ (g.put c.h.length w.heap.size (xo ++ xn ++ rest).size).n c.h.length
                            have : cap' * ie.size = l * ie.size + m * ie.size + (cap' - (l + m)) * ie.size := by rw [← Nat.add_mul, ← Nat.add_mul]; congr 1; omega
                            simp [Gh.put, hso, hsn, k2]; omega
                      · exact h.elim
                    · exact h.elim
                  · exact h.elim
                · exact h.elim
              · exact h.elim
            · exact h.elim
          · exact h.elim
        · exact h.elim
      · exact h.elim
    · exact h.elim
  · exact h.elim
end
end Go.Sx
