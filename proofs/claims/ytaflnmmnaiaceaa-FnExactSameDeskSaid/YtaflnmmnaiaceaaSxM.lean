/-
  Sx, part M: statements whose order is open, proved.
-/
import Derived.Test.YtaflnmmnaiaceaaSxL
namespace Go.Sx
open E (mk1 mk2 mkIte mk1_ev mk2_ev mkIte_ev)

/-- The walk of a head in the order of the text. -/
structure Head (U : Nat → D → D) (r : Nat → D) (P : Program) (cf : FuncId → List SV → Cx → Tree (SV × Cx)) (ops : Array Oper) (n : Nat) (lat : Nat → Option (Nat × SB)) (st : Nat → St) : Prop where
  rel : ∀ i o, i < n → ops.toList[i]? = some o → QRel U r P cf ops (st 0).c.h.length (lat i) (st i) o (st (i + 1))
  len : n ≤ ops.toList.length
  back : ∀ i, i < ops.toList.length → backOk ops.toList i = true
  slots : ownSlots (ops.toList.take n) 0 = true
  ok : ∀ i, i < n → headOk ops.toList ops (maskOf (dstList (ops.toList.take n))) i = true
  pc0 : PcOk U r (st 0).c.pc
  latInj : ∀ k k' id b b', k < n → k' < n → lat k = some (id, b) → lat k' = some (id, b') → k = k'

section
variable {U : Nat → D → D} {r : Nat → D} {P : Program} {cf : FuncId → List SV → Cx → Tree (SV × Cx)} {ops : Array Oper} {n : Nat} {lat : Nat → Option (Nat × SB)} {st : Nat → St}

theorem Head.op (H : Head U r P cf ops n lat st) {i : Nat} (hi : i < n) : ∃ o, ops.toList[i]? = some o := ⟨_, List.getElem?_eq_getElem (Nat.lt_of_lt_of_le hi H.len)⟩

theorem QRel.tmps {S S' : St} {o : Oper} {base : Nat} {late : Option (Nat × SB)} (q : QRel U r P cf ops base late S o S') : ∃ s, S'.tmps = putS S.tmps o.dst s := by
  rcases q.run with ⟨_, _, z, pc, sv, c', _, _, h, _⟩ | ⟨_, _, h, _⟩ | ⟨_, hd, h, _⟩
  · exact ⟨_, h⟩
  · exact ⟨_, h⟩
  · exact ⟨.any, by rw [h, hd]; rfl⟩

theorem QRel.heap {S S' : St} {o : Oper} {base : Nat} {late : Option (Nat × SB)} (q : QRel U r P cf ops base late S o S') : ∃ t, S'.c.h = S.c.h ++ t := by
  rcases q.run with ⟨_, _, z, pc, sv, c', _, _, _, h⟩ | ⟨_, _, _, h⟩ | ⟨_, _, _, h, _⟩
  · exact ⟨_, h⟩
  · exact ⟨[], by rw [h, List.append_nil]⟩
  · exact ⟨[], by rw [h, List.append_nil]⟩

theorem putS_n (tmps : Tm) (d : Option Tmp) (s : SV) : (putS tmps d s).n = tmps.n := by cases d <;> simp [putS, Tm.put_n]

theorem putS_ne {tmps : Tm} {d : Option Tmp} {s : SV} {t : Nat} (h : d ≠ some t) : (putS tmps d s).get t = tmps.get t := by
  cases d with
  | none => rfl
  | some d => exact Tm.get_put_ne _ _ fun e => h (by rw [e])

theorem Head.size (H : Head U r P cf ops n lat st) : ∀ i, i ≤ n → (st i).tmps.n = (st 0).tmps.n := by
  intro i
  induction i with
  | zero => intro _; rfl
  | succ i ih =>
    intro h
    obtain ⟨o, ho⟩ := H.op (i := i) (by omega)
    obtain ⟨s, hs⟩ := (H.rel i o (by omega) ho).tmps
    rw [hs, putS_n, ih (by omega)]

theorem Head.pre (H : Head U r P cf ops n lat st) {i : Nat} : ∀ j, i ≤ j → j ≤ n → ∃ t, (st j).c.h = (st i).c.h ++ t := by
  intro j
  induction j with
  | zero => intro h _; have : i = 0 := by omega
            subst this; exact ⟨[], by simp⟩
  | succ j ih =>
    intro h hj
    by_cases hij : i = j + 1
    · subst hij; exact ⟨[], by simp⟩
    · obtain ⟨t, ht⟩ := ih (by omega) (by omega)
      obtain ⟨o, ho⟩ := H.op (i := j) (by omega)
      obtain ⟨t', ht'⟩ := (H.rel j o (by omega) ho).heap
      exact ⟨t ++ t', by rw [ht', ht, List.append_assoc]⟩

theorem Head.nb (H : Head U r P cf ops n lat st) {i j : Nat} (h : i ≤ j) (hj : j ≤ n) : (st i).c.h.length ≤ (st j).c.h.length := by
  obtain ⟨t, ht⟩ := H.pre j h hj
  rw [ht]; simp

theorem Head.get (H : Head U r P cf ops n lat st) {i j id : Nat} (h : i ≤ j) (hj : j ≤ n) (hid : id < (st i).c.h.length) : (st j).c.h[id]? = (st i).c.h[id]? := by
  obtain ⟨t, ht⟩ := H.pre j h hj
  rw [ht, List.getElem?_append_left hid]

theorem Head.slot (H : Head U r P cf ops n lat st) {i t : Nat} : ∀ j, i ≤ j → j ≤ n → (∀ k o, i ≤ k → k < j → ops.toList[k]? = some o → o.dst ≠ some t) → (st j).tmps.get t = (st i).tmps.get t := by
  intro j
  induction j with
  | zero => intro h _ _; have : i = 0 := by omega
            subst this; rfl
  | succ j ih =>
    intro h hj hno
    by_cases hij : i = j + 1
    · subst hij; rfl
    · obtain ⟨o, ho⟩ := H.op (i := j) (by omega)
      obtain ⟨s, hs⟩ := (H.rel j o (by omega) ho).tmps
      rw [hs, putS_ne (hno j o (by omega) (by omega) ho)]
      exact ih (by omega) (by omega) fun k o h1 h2 => hno k o h1 (by omega)

theorem Head.pc (H : Head U r P cf ops n lat st) : ∀ i, i ≤ n → PcOk U r (st i).c.pc := by
  intro i hi
  cases i with
  | zero => exact H.pc0
  | succ i =>
    obtain ⟨o, ho⟩ := H.op (i := i) (by omega)
    exact (H.rel i o (by omega) ho).pc

theorem Head.nv (H : Head U r P cf ops n lat st) : ∀ i, i ≤ n → (st 0).c.nv ≤ (st i).c.nv := by
  intro i
  induction i with
  | zero => intro _; exact Nat.le_refl _
  | succ i ih =>
    intro hi
    obtain ⟨o, ho⟩ := H.op (i := i) (by omega)
    exact Nat.le_trans (ih (by omega)) (H.rel i o (by omega) ho).nv

theorem Head.own (H : Head U r P cf ops n lat st) {i j : Nat} {o p : Oper} {t : Tmp} (hi : i < n) (hj : j < n) (ho : ops.toList[i]? = some o) (hp : ops.toList[j]? = some p) (hd : p.dst = some t) (hne : j ≠ i) : o.dst ≠ some t := by
  intro hd'
  exact hne ((ownSlots_ok H.slots).2 j i p o t (by rw [List.getElem?_take, if_pos hj]; exact hp) (by rw [List.getElem?_take, if_pos hi]; exact ho) hd hd')

theorem Head.look (H : Head U r P cf ops n lat st) {i j : Nat} {o p : Oper} {t : Tmp} (hi : i < n) (hj : j < n) (ho : ops.toList[i]? = some o) (hp : ops.toList[j]? = some p) (hd : p.dst = some t) (hm : t ∈ o.looksAt ops) : j < i ∧ waitsOn o j = true := by
  have h := H.ok i hi
  unfold headOk at h
  rw [ho] at h
  have h : (maskOf (o.looksAt ops) &&& maskOf (dstList (ops.toList.take n))) &&& maskOf (waitSlots ops.toList o.after.toList i) = maskOf (o.looksAt ops) &&& maskOf (dstList (ops.toList.take n)) := by simpa using h
  have hmem : t ∈ dstList (ops.toList.take n) := by
    unfold dstList
    exact List.mem_filterMap.2 ⟨p, List.mem_of_getElem? (i := j) (by rw [List.getElem?_take, if_pos hj]; exact hp), hd⟩
  have h1 := congrArg (fun m => m.testBit t) h
  simp only [Nat.testBit_and, maskOf_test.2 hm, maskOf_test.2 hmem, Bool.true_and] at h1
  have h2 := maskOf_test.1 h1
  unfold waitSlots at h2
  obtain ⟨k, hk, hk'⟩ := List.mem_filterMap.1 h2
  split at hk'
  · rename_i hki
    cases hq : ops.toList[k]? with
    | none => rw [hq] at hk'; cases hk'
    | some q =>
      rw [hq] at hk'
      have hk' : q.dst = some t := hk'
      have : k = j := (ownSlots_ok H.slots).2 k j q p t (by rw [List.getElem?_take, if_pos (by omega)]; exact hq) (by rw [List.getElem?_take, if_pos hj]; exact hp) hk' hd
      subst this
      exact ⟨hki, maskOf_test.2 hk⟩
  · cases hk'

theorem waitsOn_listed {o : Oper} {j : Nat} {listed : Array Bool} (h : waitsOn o j = true) (hall : ∀ e ∈ o.after, Region.binds .any e = true → listed.getD e.on false = true) : listed.getD j false = true := by
  have hm := maskOf_test.1 h
  unfold waitList at hm
  obtain ⟨e, he, rfl⟩ := List.mem_map.1 hm
  obtain ⟨he, hb⟩ := List.mem_filter.1 he
  exact hall e (by simpa using he) hb

/-! ### What holds while the head is under way -/

/-- The places that are there, as far as the first 'm' operations go. -/
def Lv (L : Nat → Prop) (st : Nat → St) (n : Nat) (listed : Array Bool) (m : Nat) : Nat → Prop := fun id =>
  L id ∨ ∃ j, j < m ∧ j < n ∧ listed.getD j false = true ∧ (st j).c.h.length ≤ id ∧ id < (st (j + 1)).c.h.length

structure Inv (U : Nat → D → D) (r : Nat → D) (ops : Array Oper) (n : Nat) (lat : Nat → Option (Nat × SB)) (st : Nat → St) (L : Nat → Prop) (g0 : Gh) (w0 : World) (listed : Array Bool) (g : Gh) (a : Act) (w : World) : Prop where
  lsz : listed.size = ops.size
  tail : ∀ t, n ≤ t → t < ops.size → listed.getD t true = false
  defers : a.defers = []
  size : a.tmps.size = (st 0).tmps.n
  out : ∀ t, (st 0).tmps.n ≤ t → ((st 0).tmps.get t).den U r g L undef
  own : ∀ i o t, i < n → ops.toList[i]? = some o → o.dst = some t → listed.getD i false = true → ((st n).tmps.get t).den U r g (Lv L st n listed (i + 1)) (a.tmps.getD t undef)
  oth : ∀ t, (∀ i o, i < n → ops.toList[i]? = some o → o.dst ≠ some t) → ((st 0).tmps.get t).den U r g L (a.tmps.getD t undef)
  ga : ∀ id, ¬ ((st 0).c.h.length ≤ id ∧ id < (st n).c.h.length) → g.a id = g0.a id ∧ g.n id = g0.n id
  lt : ∀ id, Lv L st n listed n id → g.a id < w.heap.size
  blk0 : ∀ id b, L id → (st 0).c.h[id]? = some (some b) → ∃ xs t fz, w.heap[g.a id]? = some (.cells xs t fz) ∧ xs.size = g.n id ∧ (b.wr = true → fz = (0, 0)) ∧ b.cs.length ≤ xs.size ∧
    ∀ (j : Nat) (c : SV), b.cs[j]? = some c → ∃ v, xs[j]? = some v ∧ c.den U r g L v
  blkn : ∀ i id b, i < n → listed.getD i false = true → (st i).c.h.length ≤ id → id < (st (i + 1)).c.h.length → (st n).c.h[id]? = some (some b) →
    ∃ xs t fz, w.heap[g.a id]? = some (.cells xs t fz) ∧ xs.size = g.n id ∧ (b.wr = true → fz = (0, 0)) ∧ b.cs.length ≤ xs.size ∧
      ∀ (j : Nat) (c : SV), b.cs[j]? = some c → ∃ v, xs[j]? = some v ∧ c.den U r g (Lv L st n listed (i + 1)) v
  new : ∀ i id, i < n → listed.getD i false = true → (st i).c.h.length ≤ id → id < (st (i + 1)).c.h.length → w0.heap.size ≤ g.a id
  inj : ∀ id id' b b', Lv L st n listed n id → Lv L st n listed n id' → (st 0).c.h.length ≤ id → (st 0).c.h.length ≤ id' → (st n).c.h[id]? = some (some b) → b.wr = true → (st n).c.h[id']? = some (some b') → g.a id = g.a id' → id = id'
  frm : Frm (fun _ => False) w0 w
  go : ∀ id, ¬ ((st 0).c.h.length ≤ id ∧ id < (st n).c.h.length) → g.o id = g0.o id
  rows : ∀ id b ks e, Lv L st n listed n id → (st n).c.h[id]? = some (some b) → b.row = some (ks, e) → ∃ xs t fz, w.heap[g.a id]? = some (.cells xs t fz) ∧ RowDen ks (e.ev U r).toL (g.o id) xs
  late : ∀ k id b', k < n → listed.getD k false = true → lat k = some (id, b') → Lv L st n listed (k + 1) id ∧ ∃ xs t fz, w.heap[g.a id]? = some (.cells xs t fz) ∧ b'.cs.length ≤ xs.size ∧
    ∀ (j : Nat) (c : SV), b'.cs[j]? = some c → ∃ v, xs[j]? = some v ∧ c.den U r g (Lv L st n listed (k + 1)) v
  lt0 : ∀ id, L id → g.a id < w0.heap.size

variable {L : Nat → Prop} {g0 g : Gh} {w0 w : World} {listed : Array Bool} {a : Act}

theorem Lv_mono {m m' : Nat} (h : m ≤ m') {id : Nat} (hl : Lv L st n listed m id) : Lv L st n listed m' id := by
  rcases hl with hl | ⟨j, h1, h2⟩
  · exact .inl hl
  · exact .inr ⟨j, by omega, h2⟩

theorem Head.lv_lt (H : Head U r P cf ops n lat st) (hb0 : ∀ id, L id → id < (st 0).c.h.length) {m id : Nat} (hm : m ≤ n) (hl : Lv L st n listed m id) : id < (st m).c.h.length := by
  rcases hl with hl | ⟨j, h1, h2, h3, h4, h5⟩
  · exact Nat.lt_of_lt_of_le (hb0 id hl) (H.nb (Nat.zero_le m) hm)
  · exact Nat.lt_of_lt_of_le h5 (H.nb (by omega) hm)

theorem getD_set_self' {i : Nat} (h : i < listed.size) (d : Bool) : (listed.setIfInBounds i true).getD i d = true := by
  rw [Array.getD_eq_getD_getElem?, Array.getElem?_setIfInBounds_self_of_lt h]; rfl
theorem getD_set_ne' {i j : Nat} (h : i ≠ j) (d : Bool) : (listed.setIfInBounds i true).getD j d = listed.getD j d := by
  rw [Array.getD_eq_getD_getElem?, Array.getElem?_setIfInBounds_ne h, Array.getD_eq_getD_getElem?]

/-- What was there stays there when one more is listed. -/
theorem Lv_set {i m id : Nat} (hl : Lv L st n listed m id) (hi : i < listed.size) : Lv L st n (listed.setIfInBounds i true) m id := by
  rcases hl with hl | ⟨j, h1, h2, h3, h4⟩
  · exact .inl hl
  · refine .inr ⟨j, h1, h2, ?_, h4⟩
    by_cases hij : i = j
    · subst hij; exact getD_set_self' hi _
    · rw [getD_set_ne' hij]; exact h3

theorem lockH_length (h : SH) : (lockH h).length = h.length := by simp [lockH]

theorem lockH_get {h : SH} {id : Nat} {b : SB} (hb : (lockH h)[id]? = some (some b)) : b.wr = false ∧ ∃ b0, h[id]? = some (some b0) ∧ b.cs = b0.cs ∧ b.row = b0.row := by
  unfold lockH at hb
  rw [List.getElem?_map] at hb
  cases hx : h[id]? with
  | none => rw [hx] at hb; cases hb
  | some o =>
    rw [hx] at hb
    simp only [Option.map_some, Option.some.injEq] at hb
    cases o with
    | none => cases hb
    | some b0 => simp only [lockB, Option.some.injEq] at hb; subst hb; exact ⟨rfl, b0, rfl, rfl, rfl⟩

theorem lockH_noWr {h : SH} {k : Nat} : ¬ Wr g L (lockH h) k := by
  rintro ⟨id, b, _, hb, hw, _⟩
  rw [(lockH_get hb).1] at hw; cases hw

theorem put_getD_ne {d : Option Tmp} {v : Value} {t : Nat} (h : d ≠ some t) : (a.put d v).tmps.getD t undef = a.tmps.getD t undef := by
  cases d with
  | none => rfl
  | some d =>
    have : d ≠ t := fun e => h (by rw [e])
    simp only [Act.put]
    rw [Array.getD_eq_getD_getElem?, Array.getElem?_setIfInBounds_ne this, Array.getD_eq_getD_getElem?]

theorem put_defers (d : Option Tmp) (v : Value) : (a.put d v).defers = a.defers := by cases d <;> rfl
theorem put_size (d : Option Tmp) (v : Value) : (a.put d v).tmps.size = a.tmps.size := by cases d <;> simp [Act.put]

set_option maxHeartbeats 1000000 in
/-- One operation of the head, whichever comes up. -/
theorem Inv.step (hcf : CallsOk U P cf) (H : Head U r P cf ops n lat st) (hb0 : ∀ id, L id → id < (st 0).c.h.length) (inv : Inv U r ops n lat st L g0 w0 listed g a w) {i : Nat}
    (hi : i ∈ Region.ready .any ops listed) (hin : i < n) {Q : Exit → Act → World → Prop} :
    wpOp P ops Q i (fun a' w' => ∃ g', Inv U r ops n lat st L g0 w0 (listed.setIfInBounds i true) g' a' w') a w := by
  obtain ⟨hun, o, ho, hall⟩ := mem_ready.1 hi
  have ho' : ops.toList[i]? = some o := by simpa using ho
  have q := H.rel i o hin ho'
  have hil : i < listed.size := by
    rw [inv.lsz]
    exact (Array.getElem?_eq_some_iff.1 ho).1
  have hunf : listed.getD i false = false := by
    cases hx : listed.getD i false with
    | false => rfl
    | true =>
      rw [Array.getD_eq_getD_getElem?, Array.getElem?_eq_getElem hil] at hx hun
      simp at hx hun; rw [hun] at hx; cases hx
  have hsz : a.tmps.size = (st i).tmps.n := inv.size.trans (H.size i (by omega)).symm
  -- the slots that are looked at
  have hslot : ∀ t, t ∈ o.looksAt ops → ((st i).tmps.get t).den U r g (Lv L st n listed i) (a.tmps.getD t undef) := by
    intro t hm
    by_cases hown : ∃ j p, j < n ∧ ops.toList[j]? = some p ∧ p.dst = some t
    · obtain ⟨j, p, hj, hp, hd⟩ := hown
      obtain ⟨hji, hw⟩ := H.look hin hj ho' hp hd hm
      have hl := waitsOn_listed hw hall
      have h1 := inv.own j p t hj hp hd hl
      have hno : ∀ k o', j + 1 ≤ k → k < n → ops.toList[k]? = some o' → o'.dst ≠ some t := fun k o' hk hk' hok => H.own hk' hj hok hp hd (by omega)
      have e1 := H.slot (i := j + 1) (t := t) n (by omega) (Nat.le_refl _) fun k o' h1 h2 h3 => hno k o' h1 h2 h3
      have e2 := H.slot (i := j + 1) (t := t) i (by omega) (by omega) fun k o' h1 h2 h3 => hno k o' h1 (by omega) h3
      rw [e1] at h1
      rw [e2]
      exact SV.den_mono ⟨fun id h => ⟨Lv_mono (by omega) h, rfl, rfl⟩, fun _ _ => rfl⟩ h1
    · have h1 := inv.oth t fun k o' hk hok hd => hown ⟨k, o', hk, hok, hd⟩
      have e1 := H.slot (i := 0) (t := t) i (Nat.zero_le _) (by omega) fun k o' _ h2 h3 hd => hown ⟨k, o', by omega, h3, hd⟩
      rw [e1]
      exact SV.den_mono ⟨fun id h => ⟨.inl h, rfl, rfl⟩, fun _ _ => rfl⟩ h1
  obtain ⟨k1, k2⟩ := guardS_ok hslot
  have hwant : ∀ {b : Bool}, (guardS ops (st i).tmps o = .told b ∨ ∃ e, guardS ops (st i).tmps o = .asks e ∧ (e.ev U r).toB = b) → Region.wanted o (yielded ops a.tmps) = b := by
    rintro b (h | ⟨e, h, h'⟩)
    · exact k1 _ h
    · rw [k2 _ h, h']
  -- what is known of the places
  have nbi : (st i).c.h.length ≤ (st (i + 1)).c.h.length := H.nb (by omega) (by omega)
  have nb0 : (st 0).c.h.length ≤ (st i).c.h.length := H.nb (Nat.zero_le _) (by omega)
  have nbn : (st (i + 1)).c.h.length ≤ (st n).c.h.length := H.nb (by omega) (Nat.le_refl _)
  have notNew : ∀ {m id}, Lv L st n listed m id → ¬ ((st i).c.h.length ≤ id ∧ id < (st (i + 1)).c.h.length) := by
    rintro m id (h | ⟨j, h1, h2, h3, h4, h5⟩) ⟨h6, h7⟩
    · have := hb0 id h; omega
    · rcases Nat.lt_trichotomy j i with hj | hj | hj
      · have := H.nb (i := j + 1) (j := i) (by omega) (by omega); omega
      · subst hj; rw [hunf] at h3; cases h3
      · have := H.nb (i := i + 1) (j := j) (by omega) (by omega); omega
  have alt : ∀ {m id}, Lv L st n (listed.setIfInBounds i true) m id → Lv L st n listed m id ∨ (i < m ∧ (st i).c.h.length ≤ id ∧ id < (st (i + 1)).c.h.length) := by
    rintro m id (h | ⟨j, h1, h2, h3, h4, h5⟩)
    · exact .inl (.inl h)
    · by_cases hij : i = j
      · subst hij; exact .inr ⟨h1, h4, h5⟩
      · rw [getD_set_ne' hij] at h3; exact .inl (.inr ⟨j, h1, h2, h3, h4, h5⟩)
  -- the places, and what has become of them, behind a step that leaves all old blocks as they were
  have build : lat i = none → ∀ {g' : Gh} {v : Value} {w' : World} {s : SV}, (∀ id, ¬ ((st i).c.h.length ≤ id ∧ id < (st (i + 1)).c.h.length) → g'.a id = g.a id ∧ g'.n id = g.n id) →
      (∀ id, ¬ ((st i).c.h.length ≤ id ∧ id < (st (i + 1)).c.h.length) → g'.o id = g.o id) →
      (∀ k, k < w.heap.size → w'.heap[k]? = w.heap[k]?) → w.heap.size ≤ w'.heap.size → w'.os = w.os → w'.tape = w.tape → w'.output = w.output →
      (st (i + 1)).tmps = putS (st i).tmps o.dst s → s.den U r g' (Lv L st n (listed.setIfInBounds i true) (i + 1)) v →
      (∀ id, (st i).c.h.length ≤ id → id < (st (i + 1)).c.h.length → w.heap.size ≤ g'.a id ∧ g'.a id < w'.heap.size) →
      (∀ id b, (st i).c.h.length ≤ id → id < (st (i + 1)).c.h.length → (st (i + 1)).c.h[id]? = some (some b) →
        ∃ xs t fz, w'.heap[g'.a id]? = some (.cells xs t fz) ∧ xs.size = g'.n id ∧ (b.wr = true → fz = (0, 0)) ∧ b.cs.length ≤ xs.size ∧
          ∀ (j : Nat) (c : SV), b.cs[j]? = some c → ∃ v, xs[j]? = some v ∧ c.den U r g' (Lv L st n (listed.setIfInBounds i true) (i + 1)) v) →
      (∀ id id' b b', (st i).c.h.length ≤ id → id < (st (i + 1)).c.h.length → (st i).c.h.length ≤ id' → id' < (st (i + 1)).c.h.length → (st (i + 1)).c.h[id]? = some (some b) → b.wr = true → (st (i + 1)).c.h[id']? = some (some b') →
        g'.a id = g'.a id' → id = id') →
      (∀ id b ks e, (st i).c.h.length ≤ id → id < (st (i + 1)).c.h.length → (st (i + 1)).c.h[id]? = some (some b) → b.row = some (ks, e) →
        ∃ xs t fz, w'.heap[g'.a id]? = some (.cells xs t fz) ∧ RowDen ks (e.ev U r).toL (g'.o id) xs) →
      Inv U r ops n lat st L g0 w0 (listed.setIfInBounds i true) g' (a.put o.dst v) w' := by
    intro hlat g' v w' s hga hgo hblk hsize hos htape hout htm hsd hnew hcont hinj hrow
    have gl : ∀ {m}, GLe g (Lv L st n listed m) g' (Lv L st n (listed.setIfInBounds i true) m) := fun {m} => ⟨fun id h => ⟨Lv_set h hil, hga id (notNew h)⟩, fun id h => hgo id (notNew h)⟩
    have gl0 : GLe g L g' L := ⟨fun id h => ⟨h, hga id (notNew (m := 0) (.inl h))⟩, fun id h => hgo id (notNew (m := 0) (.inl h))⟩
    have geti : ∀ {id}, id < (st (i + 1)).c.h.length → (st n).c.h[id]? = (st (i + 1)).c.h[id]? := fun h => H.get (by omega) (Nat.le_refl _) h
    refine ⟨by simp [inv.lsz], ?_, by rw [put_defers]; exact inv.defers, by rw [put_size]; exact inv.size, fun t ht => SV.den_mono gl0 (inv.out t ht), ?_, ?_, ?_, ?_, ?_, ?_, ?_, ?_, ?_, ?_, ?_, ?_, fun id h => by rw [(hga id (notNew (m := 0) (.inl h))).1]; exact inv.lt0 id h⟩
    · intro t h1 h2; rw [getD_set_ne' (by omega)]; exact inv.tail t h1 h2
    · intro j p t hj hp hd hl
      have hno : ∀ k o', j + 1 ≤ k → k < n → ops.toList[k]? = some o' → o'.dst ≠ some t := fun k o' hk hk' hok => H.own hk' hj hok hp hd (by omega)
      have e1 := H.slot (i := j + 1) (t := t) n (by omega) (Nat.le_refl _) fun k o' h1 h2 h3 => hno k o' h1 h2 h3
      by_cases hij : i = j
      · subst hij
        have : p = o := Option.some.inj (hp.symm.trans ho')
        subst this
        rw [e1, htm, hd]
        by_cases hlt : t < (st i).tmps.n
        · have h2 : (a.put (some t) v).tmps.getD t undef = v := by
            simp only [Act.put]
            rw [Array.getD_eq_getD_getElem?, Array.getElem?_setIfInBounds_self_of_lt (by rw [hsz]; exact hlt)]; rfl
          rw [h2]
          simp only [putS]
          rw [Tm.get_put_self _ _ hlt]; exact hsd
        · -- a slot that the frame has not: nothing is put
          have hge : (st i).tmps.n ≤ t := Nat.not_lt.1 hlt
          simp only [putS]
          rw [Tm.get_put_out _ _ hlt]
          have hn0 : ∀ k o', k < i → ops.toList[k]? = some o' → o'.dst ≠ some t := fun k o' hk hok => H.own (by omega) hj hok hp hd (by omega)
          have e0 := H.slot (i := 0) (t := t) i (Nat.zero_le _) (by omega) fun k o' _ h2 h3 => hn0 k o' h2 h3
          rw [e0]
          have h2 : (a.put (some t) v).tmps.getD t undef = undef := by
            rw [Array.getD_eq_getD_getElem?, Array.getElem?_eq_none (by rw [put_size, hsz]; exact hge)]; rfl
          rw [h2]
          exact SV.den_mono ⟨fun id h => ⟨.inl h, hga id (notNew (m := 0) (.inl h))⟩, fun id h => hgo id (notNew (m := 0) (.inl h))⟩ (inv.out t (by rw [← H.size i (by omega)]; exact hge))
      · rw [getD_set_ne' hij] at hl
        have h1 := inv.own j p t hj hp hd hl
        rw [put_getD_ne (H.own hin hj ho' hp hd (fun e => hij e.symm))]
        exact SV.den_mono gl h1
    · intro t hno
      rw [put_getD_ne (hno i o hin ho')]
      exact SV.den_mono gl0 (inv.oth t hno)
    · intro id h
      obtain ⟨h1, h2⟩ := hga id (by omega)
      obtain ⟨h3, h4⟩ := inv.ga id h
      exact ⟨h1.trans h3, h2.trans h4⟩
    · intro id h
      rcases alt h with h | ⟨_, h1, h2⟩
      · rw [(hga id (notNew h)).1]; have := inv.lt id h; omega
      · exact (hnew id h1 h2).2
    · intro id b hl hb
      obtain ⟨xs, t, fz, e1, e2, e3, e4, e5⟩ := inv.blk0 id b hl hb
      obtain ⟨h1, h2⟩ := hga id (notNew (m := 0) (.inl hl))
      refine ⟨xs, t, fz, by rw [h1, hblk _ (inv.lt id (.inl hl))]; exact e1, by rw [h2]; exact e2, e3, e4, fun j s hs => ?_⟩
      obtain ⟨v, hv, hd⟩ := e5 j s hs
      exact ⟨v, hv, SV.den_mono gl0 hd⟩
    · intro j id b hj hl h1 h2 hb
      by_cases hij : i = j
      · subst hij
        rw [geti h2] at hb
        exact hcont id b h1 h2 hb
      · rw [getD_set_ne' hij] at hl
        obtain ⟨xs, t, fz, e1, e2, e3, e4, e5⟩ := inv.blkn j id b hj hl h1 h2 hb
        have hlv : Lv L st n listed n id := .inr ⟨j, hj, hj, hl, h1, h2⟩
        obtain ⟨k1, k2⟩ := hga id (notNew hlv)
        refine ⟨xs, t, fz, by rw [k1, hblk _ (inv.lt id hlv)]; exact e1, by rw [k2]; exact e2, e3, e4, fun k s hs => ?_⟩
        obtain ⟨v, hv, hd⟩ := e5 k s hs
        exact ⟨v, hv, SV.den_mono gl hd⟩
    · intro j id hj hl h1 h2
      by_cases hij : i = j
      · subst hij; have := (hnew id h1 h2).1; have := inv.frm.size; omega
      · rw [getD_set_ne' hij] at hl
        have hlv : Lv L st n listed n id := .inr ⟨j, hj, hj, hl, h1, h2⟩
        rw [(hga id (notNew hlv)).1]
        exact inv.new j id hj hl h1 h2
    · intro id id' b b' h h' h0 h0' hb hwr hb' he
      rcases alt h with h | ⟨_, h1, h2⟩ <;> rcases alt h' with h' | ⟨_, h1', h2'⟩
      · rw [(hga id (notNew h)).1, (hga id' (notNew h')).1] at he
        exact inv.inj id id' b b' h h' h0 h0' hb hwr hb' he
      · rw [(hga id (notNew h)).1] at he
        have := inv.lt id h; have := (hnew id' h1' h2').1; omega
      · rw [(hga id' (notNew h')).1] at he
        have := inv.lt id' h'; have := (hnew id h1 h2).1; omega
      · rw [geti h2] at hb
        rw [geti h2'] at hb'
        exact hinj id id' b b' h1 h2 h1' h2' hb hwr hb' he
    · have f := inv.frm
      exact ⟨hos.trans f.os, htape.trans f.tape, hout.trans f.output, Nat.le_trans f.size hsize, fun k hk hn => (hblk k (Nat.lt_of_lt_of_le hk f.size)).trans (f.block k hk hn)⟩
    · intro id h
      exact (hgo id (by omega)).trans (inv.go id h)
    · intro id b ks e h hb hr
      rcases alt h with h | ⟨_, h1, h2⟩
      · obtain ⟨xs, t, fz, e1, e2⟩ := inv.rows id b ks e h hb hr
        exact ⟨xs, t, fz, by rw [(hga id (notNew h)).1, hblk _ (inv.lt id h)]; exact e1, by rw [hgo id (notNew h)]; exact e2⟩
      · rw [geti h2] at hb
        exact hrow id b ks e h1 h2 hb hr
    · intro k id b' hk hl hlk
      by_cases hij : i = k
      · subst hij; rw [hlat] at hlk; cases hlk
      · rw [getD_set_ne' hij] at hl
        obtain ⟨h0, xs, t, fz, e1, e2, e3⟩ := inv.late k id b' hk hl hlk
        have hlv : Lv L st n listed n id := Lv_mono (by omega) h0
        refine ⟨Lv_set h0 hil, xs, t, fz, by rw [(hga id (notNew hlv)).1, hblk _ (inv.lt id hlv)]; exact e1, e2, fun j c hc => ?_⟩
        obtain ⟨v, hv, hd⟩ := e3 j c hc
        exact ⟨v, hv, SV.den_mono gl hd⟩
  unfold wpOp
  rw [ho]
  dsimp only
  have hh : HeapDen U r g (Lv L st n listed i) (lockH (st i).c.h) w := by
    refine ⟨fun id h => by rw [lockH_length]; exact H.lv_lt hb0 (by omega) h, fun id h => inv.lt id (Lv_mono (by omega) h), fun id b h hb => ?_, fun id id' b b' _ _ hb hwr _ _ => (by rw [(lockH_get hb).1] at hwr; cases hwr), fun id b ks e h hb hr => ?_, fun id b hb hwr => (by rw [(lockH_get hb).1] at hwr; cases hwr)⟩
    rotate_left
    · obtain ⟨hw, b0, hb0', hcs, hrw⟩ := lockH_get hb
      have hn : (st n).c.h[id]? = some (some b0) := by
        rw [H.get (i := i) (j := n) (by omega) (Nat.le_refl _) (H.lv_lt hb0 (by omega) h)]; exact hb0'
      exact inv.rows id b0 ks e (Lv_mono (by omega) h) hn (by rw [← hrw]; exact hr)
    obtain ⟨hw, b0, hb0', hcs, _⟩ := lockH_get hb
    rcases h with h | ⟨j, h1, h2, h3, h4, h5⟩
    · have hb0'' : (st 0).c.h[id]? = some (some b0) := by rw [← H.get (i := 0) (j := i) (Nat.zero_le _) (by omega) (hb0 id h)]; exact hb0'
      obtain ⟨xs, t, fz, e1, e2, e3, e4, e5⟩ := inv.blk0 id b0 h hb0''
      refine ⟨xs, t, fz, e1, e2, fun hx => (by rw [hw] at hx; cases hx), by rw [hcs]; exact e4, fun k s hs => ?_⟩
      rw [hcs] at hs
      obtain ⟨v, hv, hd⟩ := e5 k s hs
      exact ⟨v, hv, SV.den_mono ⟨fun id h => ⟨.inl h, rfl, rfl⟩, fun _ _ => rfl⟩ hd⟩
    · have hlt : id < (st i).c.h.length := by have := H.nb (i := j + 1) (j := i) (by omega) (by omega); omega
      have hb0'' : (st n).c.h[id]? = some (some b0) := by rw [H.get (i := i) (j := n) (by omega) (Nat.le_refl _) hlt]; exact hb0'
      obtain ⟨xs, t, fz, e1, e2, e3, e4, e5⟩ := inv.blkn j id b0 h2 h3 h4 h5 hb0''
      refine ⟨xs, t, fz, e1, e2, fun hx => (by rw [hw] at hx; cases hx), by rw [hcs]; exact e4, fun k s hs => ?_⟩
      rw [hcs] at hs
      obtain ⟨v, hv, hd⟩ := e5 k s hs
      exact ⟨v, hv, SV.den_mono ⟨fun id h => ⟨Lv_mono (by omega) h, rfl, rfl⟩, fun _ _ => rfl⟩ hd⟩
  have hev : ∀ x, (evM (o.looksAt ops) (st i).tmps x).den U r g (Lv L st n listed i) (a.eval x) := by
    intro x
    cases x with
    | tmp t =>
      unfold evM
      dsimp only
      split
      · rename_i hc; exact hslot t (maskOf_test.1 hc)
      · trivial
    | const v => exact ofValue_den v
    | global n => rfl
    | func f => exact ⟨#[], #[], rfl, by simp [SV.denL], by simp [SV.denL]⟩
  rcases q.run with ⟨hg, hlat, z, pc, sv, c', hpc, hleaf, htm, hch⟩ | ⟨hg, hlat, htm, hch⟩ | ⟨hgd, hdst, htm, hch, id0, b0, b1, p0, off0, pc, sv, c', hlat, hbase, hbk, hwr, hrow, hany, hwr1, hrow1, hlen1, hlk, hptr, hpc, hleaf, hcl, hcb⟩
  · rw [hwant hg]
    simp only [if_true]
    left
    refine wp_of_goal (opTree_ok hcf (c := ⟨lockH (st i).c.h, (st i).c.nv, pc⟩) hh hpc hev (sat_leaf hleaf ?_))
    intro g' v w' he hd
    have hll : (lockH (st i).c.h).length = (st i).c.h.length := lockH_length _
    have hlen : (st i).c.h.length ≤ c'.h.length := by have := he.len; rw [← hll]; exact this
    have hnb : (st (i + 1)).c.h.length = c'.h.length := by rw [hch, List.length_append, fog_length, List.length_drop]; omega
    have hget : ∀ {id b}, (st i).c.h.length ≤ id → (st (i + 1)).c.h[id]? = some (some b) → ∃ b0, c'.h[id]? = some (some b0) ∧ b0.wr = b.wr ∧ b.cs.length = b0.cs.length ∧ (∀ (j : Nat) (c : SV), b.cs[j]? = some c → c = .any ∨ b0.cs[j]? = some c) ∧ ∀ x, b.row = some x → b0.row = some x := by
      intro id b h hb
      rw [hch, List.getElem?_append_right h] at hb
      cases z with
      | false =>
        simp only [fog, cond_false] at hb
        rw [List.getElem?_drop, show (st i).c.h.length + (id - (st i).c.h.length) = id by omega] at hb
        exact ⟨b, hb, rfl, rfl, fun j c hc => .inr hc, fun x hx => hx⟩
      | true =>
        simp only [fog, cond_true] at hb
        rw [List.getElem?_map, List.getElem?_drop, show (st i).c.h.length + (id - (st i).c.h.length) = id by omega] at hb
        cases hx : c'.h[id]? with
        | none => rw [hx] at hb; cases hb
        | some ob =>
          rw [hx] at hb
          cases ob with
          | none => simp [fogB] at hb
          | some b0 =>
            simp only [Option.map_some, fogB, Option.some.injEq] at hb
            subst hb
            refine ⟨b0, rfl, rfl, by simp, fun j c hc => .inl ?_, fun x hx => by cases hx⟩
            rw [List.getElem?_map] at hc
            cases hy : b0.cs[j]? with
            | none => rw [hy] at hc; cases hc
            | some y => rw [hy] at hc; simpa using hc.symm
    have hlx : ∀ {id}, Lx (Lv L st n listed i) (lockH (st i).c.h) c'.h id → Lv L st n (listed.setIfInBounds i true) (i + 1) id := by
      rintro id (h | ⟨h1, h2⟩)
      · exact Lv_mono (by omega) (Lv_set h hil)
      · rw [hll] at h1; exact .inr ⟨i, by omega, hin, getD_set_self' hil _, h1, by omega⟩
    have gx : GLe g' (Lx (Lv L st n listed i) (lockH (st i).c.h) c'.h) g' (Lv L st n (listed.setIfInBounds i true) (i + 1)) := ⟨fun id h => ⟨hlx h, rfl, rfl⟩, fun _ _ => rfl⟩
    refine ⟨g', build hlat (s := sv) ?_ ?_ ?_ he.frm.size he.frm.os he.frm.tape he.frm.output htm (SV.den_mono gx hd) ?_ ?_ ?_ ?_⟩
    · intro id h
      exact he.ga id (by show ¬ ((lockH (st i).c.h).length ≤ id ∧ id < c'.h.length); rw [hll, ← hnb]; exact h)
    · intro id h
      exact he.go id (by show ¬ ((lockH (st i).c.h).length ≤ id ∧ id < c'.h.length); rw [hll, ← hnb]; exact h)
    · intro k hk; exact he.frm.block k hk lockH_noWr
    · intro id h1 h2
      refine ⟨?_, he.heap.lt id (.inr ⟨by rw [hll]; exact h1, by show id < c'.h.length; omega⟩)⟩
      rcases he.fresh id (by show (lockH (st i).c.h).length ≤ id; rw [hll]; exact h1) (by show id < c'.h.length; omega) with h3 | h3
      · exact h3
      · exact absurd h3 lockH_noWr
    · intro id b h1 h2 hb
      obtain ⟨b0, hb0', q1, q2, q3, _⟩ := hget h1 hb
      obtain ⟨xs, t, fz, e1, e2, e3, e4, e5⟩ := he.heap.blk id b0 (.inr ⟨by rw [hll]; exact h1, by show id < c'.h.length; omega⟩) hb0'
      refine ⟨xs, t, fz, e1, e2, fun hx => e3 (by rw [q1]; exact hx), by omega, fun k s hs => ?_⟩
      have hks : k < xs.size := by have := (List.getElem?_eq_some_iff.1 hs).1; omega
      rcases q3 k s hs with rfl | h0
      · exact ⟨xs[k], Array.getElem?_eq_getElem hks, trivial⟩
      · obtain ⟨v, hv, hd⟩ := e5 k s h0
        exact ⟨v, hv, SV.den_mono gx hd⟩
    · intro id id' b b' h1 h2 h1' h2' hb hwr hb' hee
      obtain ⟨b0, hb0', q1, _⟩ := hget h1 hb
      obtain ⟨b0', hb0'', _⟩ := hget h1' hb'
      exact he.heap.inj id id' b0 b0' (.inr ⟨by rw [hll]; exact h1, by show id < c'.h.length; omega⟩) (.inr ⟨by rw [hll]; exact h1', by show id' < c'.h.length; omega⟩) hb0' (by rw [q1]; exact hwr) hb0'' hee
    · intro id b ks e h1 h2 hb hr
      obtain ⟨b0, hb0', _, _, _, q4⟩ := hget h1 hb
      exact he.heap.rows id b0 ks e (.inr ⟨by rw [hll]; exact h1, by show id < c'.h.length; omega⟩) hb0' (q4 _ hr)
  · rw [hwant hg]
    simp only [Bool.false_eq_true, if_false]
    have hnb : (st (i + 1)).c.h.length = (st i).c.h.length := by rw [hch]
    refine ⟨g, build hlat (s := skipped) (fun _ _ => ⟨rfl, rfl⟩) (fun _ _ => rfl) (fun _ _ => rfl) (Nat.le_refl _) rfl rfl rfl htm rfl ?_ ?_ ?_ ?_⟩
    · intro id h1 h2; omega
    · intro id b h1 h2; omega
    · intro id id' b b' h1 h2; omega
    · intro id b ks e h1 h2; omega
  · -- a store into a place of this statement itself
    have hw1 : Region.wanted o (yielded ops a.tmps) = true := by unfold Region.wanted; rw [hgd]
    rw [hw1]
    simp only [if_true]
    left
    have hlv : Lv L st n listed i id0 := by
      have := hslot p0 hlk
      rw [hptr] at this
      exact this.1
    have hlvn : Lv L st n listed n id0 := Lv_mono (by omega) hlv
    have hid : id0 < (st i).c.h.length := H.lv_lt hb0 (by omega) hlv
    have hbn : (st n).c.h[id0]? = some (some b0) := by rw [H.get (i := i) (j := n) (by omega) (Nat.le_refl _) hid]; exact hbk
    have hnotL : ¬ L id0 := fun h => by have := hb0 id0 h; omega
    obtain ⟨j0, hj0, hj0n, hj0l, hj1, hj2⟩ : ∃ j, j < i ∧ j < n ∧ listed.getD j false = true ∧ (st j).c.h.length ≤ id0 ∧ id0 < (st (j + 1)).c.h.length := by
      rcases hlv with h | h
      · exact absurd h hnotL
      · exact h
    have hnew0 := inv.new j0 id0 hj0n hj0l hj1 hj2
    -- another place is elsewhere
    have apart : ∀ id b, Lv L st n listed n id → (st n).c.h[id]? = some (some b) → id ≠ id0 → g.a id ≠ g.a id0 := by
      intro id b h hb hne he
      by_cases hL : (st 0).c.h.length ≤ id
      · exact hne (inv.inj id0 id b0 b hlvn h hbase hL hbn hwr hb he.symm).symm
      · rcases h with h | ⟨j, _, h2, _, h4, _⟩
        · have := inv.lt0 id h; omega
        · have := H.nb (i := 0) (j := j) (Nat.zero_le _) (by omega); omega
    obtain ⟨xs0, t0, fz0, f1, f2, f3, f4, f5⟩ := inv.blkn j0 id0 b0 hj0n hj0l hj1 hj2 hbn
    have hoget : ∀ {id}, id ≠ id0 → (onlyH id0 b0 (st i).c.h)[id]? = (lockH (st i).c.h)[id]? := fun h => by unfold onlyH; rw [List.getElem?_set_ne (Ne.symm h)]
    have hoself : (onlyH id0 b0 (st i).c.h)[id0]? = some (some b0) := by unfold onlyH; rw [List.getElem?_set_self (by rw [lockH_length]; exact hid)]
    have holen : (onlyH id0 b0 (st i).c.h).length = (st i).c.h.length := by unfold onlyH; rw [List.length_set, lockH_length]
    have only_wr : ∀ {id b}, (onlyH id0 b0 (st i).c.h)[id]? = some (some b) → b.wr = true → id = id0 := by
      intro id b hb hx
      apply Classical.byContradiction
      intro hne
      rw [hoget hne] at hb
      rw [(lockH_get hb).1] at hx; cases hx
    have hho : HeapDen U r g (Lv L st n listed i) (onlyH id0 b0 (st i).c.h) w := by
      refine ⟨fun id h => by rw [holen]; exact H.lv_lt hb0 (by omega) h, fun id h => inv.lt id (Lv_mono (by omega) h), fun id b h hb => ?_, fun id id' b b' h h' hb hx hb' he => ?_, fun id b ks e h hb hr => ?_, fun id b hb hx => ?_⟩
      · by_cases hne : id = id0
        · subst hne
          rw [hoself] at hb
          cases hb
          refine ⟨xs0, t0, fz0, f1, f2, f3, f4, fun j c hc => ?_⟩
          have : c = .any := hany c (List.mem_of_getElem? hc)
          subst this
          have hlt : j < xs0.size := by have := (List.getElem?_eq_some_iff.1 hc).1; omega
          exact ⟨xs0[j], Array.getElem?_eq_getElem hlt, trivial⟩
        · rw [hoget hne] at hb
          exact hh.blk id b h hb
      · have e1 := only_wr hb hx
        subst e1
        apply Classical.byContradiction
        intro hne
        rw [hoget (Ne.symm hne)] at hb'
        obtain ⟨_, b2, hb2, _⟩ := lockH_get hb'
        have hb2' : (st n).c.h[id']? = some (some b2) := by rw [H.get (i := i) (j := n) (by omega) (Nat.le_refl _) (H.lv_lt hb0 (by omega) h')]; exact hb2
        exact apart id' b2 (Lv_mono (by omega) h') hb2' (Ne.symm hne) he.symm
      · by_cases hne : id = id0
        · subst hne; rw [hoself] at hb; cases hb; rw [hrow] at hr; cases hr
        · rw [hoget hne] at hb; exact hh.rows id b ks e h hb hr
      · rw [only_wr hb hx]; exact hlv
    refine wp_of_goal (opTree_ok hcf (c := ⟨onlyH id0 b0 (st i).c.h, (st i).c.nv, pc⟩) hho hpc hev (sat_leaf hleaf ?_))
    intro g' v w' he hd
    have hcl' : c'.h.length = (onlyH id0 b0 (st i).c.h).length := by rw [holen]; exact hcl
    have hga : ∀ id, g'.a id = g.a id ∧ g'.n id = g.n id := fun id => he.ga id (by show ¬ ((onlyH id0 b0 (st i).c.h).length ≤ id ∧ id < c'.h.length); omega)
    have hgo : ∀ id, g'.o id = g.o id := fun id => he.go id (by show ¬ ((onlyH id0 b0 (st i).c.h).length ≤ id ∧ id < c'.h.length); omega)
    have hLx : ∀ {id}, Lx (Lv L st n listed i) (onlyH id0 b0 (st i).c.h) c'.h id → Lv L st n listed i id := by
      rintro id (h | ⟨h1, h2⟩)
      · exact h
      · omega
    have gl : ∀ {m}, GLe g (Lv L st n listed m) g' (Lv L st n (listed.setIfInBounds i true) m) := fun {m} => ⟨fun id h => ⟨Lv_set h hil, hga id⟩, fun id _ => hgo id⟩
    have gl0 : GLe g L g' L := ⟨fun id h => ⟨h, hga id⟩, fun id _ => hgo id⟩
    have gx : GLe g' (Lx (Lv L st n listed i) (onlyH id0 b0 (st i).c.h) c'.h) g' (Lv L st n (listed.setIfInBounds i true) (i + 1)) := ⟨fun id h => ⟨Lv_mono (by omega) (Lv_set (hLx h) hil), rfl, rfl⟩, fun _ _ => rfl⟩
    have hnb : (st (i + 1)).c.h.length = (st i).c.h.length := by rw [hch]
    have old : ∀ {m id}, Lv L st n (listed.setIfInBounds i true) m id → Lv L st n listed m id := fun h => by
      rcases alt h with h | ⟨_, h1, h2⟩
      · exact h
      · omega
    have hblk : ∀ k, k < w.heap.size → k ≠ g.a id0 → w'.heap[k]? = w.heap[k]? := fun k hk hne => he.frm.block k hk (by
      rintro ⟨id, b, _, hb, hx, hk'⟩
      rw [only_wr hb hx] at hk'
      exact hne hk'.symm)
    rw [hdst]
    refine ⟨g', by simp [inv.lsz], fun t h1 h2 => by rw [getD_set_ne' (by omega)]; exact inv.tail t h1 h2, inv.defers, inv.size, fun t ht => SV.den_mono gl0 (inv.out t ht), fun j p t hj hp hpd hl => ?_, fun t hno => SV.den_mono gl0 (inv.oth t hno), fun id h => ?_, fun id h => ?_, fun id b hl hb => ?_, fun j id b hj hl h1 h2 hb => ?_, fun j id hj hl h1 h2 => ?_, fun id id' b b' h h' h0 h0' hb hx hb' hee => ?_, ?_, fun id h => (hgo id).trans (inv.go id h), fun id b ks e h hb hr => ?_, fun k id b' hk hl hlk => ?_, fun id h => by rw [(hga id).1]; exact inv.lt0 id h⟩
    · by_cases hij : i = j
      · subst hij
        rw [ho'] at hp; cases hp
        rw [hdst] at hpd; cases hpd
      · rw [getD_set_ne' hij] at hl
        exact SV.den_mono gl (inv.own j p t hj hp hpd hl)
    · obtain ⟨h1, h2⟩ := hga id
      obtain ⟨h3, h4⟩ := inv.ga id h
      exact ⟨h1.trans h3, h2.trans h4⟩
    · rw [(hga id).1]; have := inv.lt id (old h); have := he.frm.size; omega
    · obtain ⟨xs, t, fz, e1, e2, e3, e4, e5⟩ := inv.blk0 id b hl hb
      refine ⟨xs, t, fz, by rw [(hga id).1, hblk _ (inv.lt id (.inl hl)) (by have := inv.lt0 id hl; omega)]; exact e1, by rw [(hga id).2]; exact e2, e3, e4, fun j s hs => ?_⟩
      obtain ⟨v, hv, hd⟩ := e5 j s hs
      exact ⟨v, hv, SV.den_mono gl0 hd⟩
    · have hji : i ≠ j := fun e => by subst e; omega
      rw [getD_set_ne' hji] at hl
      have hlvj : Lv L st n listed n id := .inr ⟨j, hj, hj, hl, h1, h2⟩
      by_cases hne : id = id0
      · subst hne
        rw [hbn] at hb
        cases hb
        obtain ⟨xs, t, fz, e1, e2, e3, e4, e5⟩ := he.heap.blk id b1 (.inl hlv) hcb
        refine ⟨xs, t, fz, e1, e2, fun _ => e3 hwr1, by omega, fun k s hs => ?_⟩
        have : s = .any := hany s (List.mem_of_getElem? hs)
        subst this
        have hlt : k < xs.size := by have := (List.getElem?_eq_some_iff.1 hs).1; omega
        exact ⟨xs[k], Array.getElem?_eq_getElem hlt, trivial⟩
      · obtain ⟨xs, t, fz, e1, e2, e3, e4, e5⟩ := inv.blkn j id b hj hl h1 h2 hb
        refine ⟨xs, t, fz, by rw [(hga id).1, hblk _ (inv.lt id hlvj) (apart id b hlvj hb hne)]; exact e1, by rw [(hga id).2]; exact e2, e3, e4, fun k s hs => ?_⟩
        obtain ⟨v, hv, hd⟩ := e5 k s hs
        exact ⟨v, hv, SV.den_mono gl hd⟩
    · have hji : i ≠ j := fun e => by subst e; omega
      rw [getD_set_ne' hji] at hl
      rw [(hga id).1]; exact inv.new j id hj hl h1 h2
    · rw [(hga id).1, (hga id').1] at hee
      exact inv.inj id id' b b' (old h) (old h') h0 h0' hb hx hb' hee
    · have f := inv.frm
      have f' := he.frm
      exact ⟨f'.os.trans f.os, f'.tape.trans f.tape, f'.output.trans f.output, Nat.le_trans f.size f'.size, fun k hk hn => (hblk k (Nat.lt_of_lt_of_le hk f.size) (by omega)).trans (f.block k hk hn)⟩
    · by_cases hne : id = id0
      · subst hne; rw [hbn] at hb; cases hb; rw [hrow] at hr; cases hr
      · obtain ⟨xs, t, fz, e1, e2⟩ := inv.rows id b ks e (old h) hb hr
        exact ⟨xs, t, fz, by rw [(hga id).1, hblk _ (inv.lt id (old h)) (apart id b (old h) hb hne)]; exact e1, by rw [hgo id]; exact e2⟩
    · by_cases hij : i = k
      · subst hij
        rw [hlat] at hlk
        cases hlk
        obtain ⟨xs, t, fz, e1, e2, e3, e4, e5⟩ := he.heap.blk id0 b1 (.inl hlv) hcb
        refine ⟨Lv_mono (by omega) (Lv_set hlv hil), xs, t, fz, e1, e4, fun j s hs => ?_⟩
        obtain ⟨v, hv, hd⟩ := e5 j s hs
        exact ⟨v, hv, SV.den_mono gx hd⟩
      · rw [getD_set_ne' hij] at hl
        obtain ⟨h0, xs, t, fz, e1, e2, e3⟩ := inv.late k id b' hk hl hlk
        have hne : id ≠ id0 := fun e => by subst e; exact hij (H.latInj i k id b1 b' hin hk hlat hlk)
        have hlvk : Lv L st n listed n id := Lv_mono (by omega) h0
        obtain ⟨ok, hok⟩ := H.op hk
        obtain ⟨bk, hbkk⟩ : ∃ bk, (st n).c.h[id]? = some (some bk) := by
          rcases (H.rel k ok hk hok).run with ⟨_, hn, _⟩ | ⟨_, hn, _⟩ | ⟨_, _, _, _, id2, b2, b2', p2, off2, pc2, sv2, c2, hl2, _, hb2, _⟩
          · rw [hlk] at hn; cases hn
          · rw [hlk] at hn; cases hn
          · rw [hlk] at hl2; cases hl2
            exact ⟨b2, by rw [H.get (i := k) (j := n) (by omega) (Nat.le_refl _) (List.getElem?_eq_some_iff.1 hb2).1]; exact hb2⟩
        refine ⟨Lv_set h0 hil, xs, t, fz, by rw [(hga id).1, hblk _ (inv.lt id hlvk) (apart id bk hlvk hbkk hne)]; exact e1, e2, fun j c hc => ?_⟩
        obtain ⟨v, hv, hd⟩ := e3 j c hc
        exact ⟨v, hv, SV.den_mono gl hd⟩
end
end Go.Sx
