/-
  Sx, part N: a whole statement, of whatever order.
-/
import Derived.Test.YtaflnmmnaiaceaaSxM
namespace Go.Sx
open E (mk1 mk2 mkIte mk1_ev mk2_ev mkIte_ev)

section
variable {U : Nat → D → D} {r r' : Nat → D} {P : Program} {cf : FuncId → List SV → Cx → Tree (SV × Cx)} {ops : Array Oper} {n : Nat} {lat : Nat → Option (Nat × SB)} {st : Nat → St}
variable {L : Nat → Prop} {g0 g g' : Gh} {c : Cx} {w0 w w' : World} {listed : Array Bool} {a : Act} {Q : Exit → Act → World → Prop}

theorem SPost.shift {Qn : Act → World → Prop} {c' : Cx} {r'' : Nat → D} {S'' : St} (e : Ext U L r g c w r' g' c' w') (h : SPost U L r g c w Qn r'' S'') : SPost U (Lx L c.h c'.h) r' g' c' w' Qn r'' S'' := by
  intro g2 a2 w2 e2 s2
  refine h g2 a2 w2 (e.trans e2) ?_
  rw [← Lx_trans e.len e2.len]; exact s2

theorem getD_lt_of {j : Nat} (h : j < listed.size) : listed.getD j true = listed.getD j false := by
  rw [Array.getD_eq_getD_getElem?, Array.getD_eq_getD_getElem?, Array.getElem?_eq_getElem h]; rfl

/-! ### The row in order -/

theorem tail_run (hcf : CallsOk U P cf) (hback : ∀ i, i < ops.toList.length → backOk ops.toList i = true) : ∀ (m p : Nat) (listed : Array Bool) (L : Nat → Prop) (r : Nat → D) (g : Gh) (S : St) (a : Act) (w : World),
    p + m = ops.size → listed.size = ops.size → (∀ j, j < p → listed.getD j false = true) → (∀ j, p ≤ j → j < ops.size → listed.getD j true = false) → (∀ k, p ≤ k → k < ops.size → lastOf ops.toList k = true) →
    HeapDen U r g L S.c.h w → PcOk U r S.c.pc → Slots U r g L S.tmps a →
    (runOps P cf ops (ops.toList.drop p) S).sat U (SPost U L r g S.c w (Q .normal)) r → wpAny P .any ops Q m listed a w := by
  intro m
  induction m with
  | zero =>
    intro p listed L r g S a w hpm hls hin hout hlast hh hp hs hsat
    have hdrop : ops.toList.drop p = [] := List.drop_eq_nil_of_le (by simp; omega)
    rw [hdrop] at hsat
    refine ⟨?_, hsat g a w (Ext.refl hh hp) (by rw [Lx_self]; exact hs)⟩
    cases hr : Region.ready .any ops listed with
    | nil => rfl
    | cons i l =>
      exfalso
      obtain ⟨h1, o, ho, _⟩ := mem_ready.1 (show i ∈ Region.ready .any ops listed by rw [hr]; simp)
      have hi : i < ops.size := (Array.getElem?_eq_some_iff.1 ho).1
      have h2 := hin i (by omega)
      rw [getD_lt_of (by omega)] at h1
      rw [h1] at h2; cases h2
  | succ m ih =>
    intro p listed L r g S a w hpm hls hin hout hlast hh hp hs hsat
    have hpl : p < ops.size := by omega
    have hop : ops[p]? = some ops[p] := Array.getElem?_eq_getElem hpl
    have hol : ops.toList[p]? = some ops[p] := by rw [Array.getElem?_toList]; exact hop
    have hready : p ∈ Region.ready .any ops listed := by
      refine mem_ready.2 ⟨hout p (Nat.le_refl _) hpl, ops[p], hop, fun e he hb => ?_⟩
      exact hin _ (backOk_lt hol (hback p (by simp only [Array.length_toList]; exact hpl)) he hb)
    refine ⟨fun h0 => by rw [h0] at hready; (cases hready), fun i hi => ?_⟩
    have hip : i = p := by
      obtain ⟨h1, o, ho, hall⟩ := mem_ready.1 hi
      have hil : i < ops.size := (Array.getElem?_eq_some_iff.1 ho).1
      rcases Nat.lt_trichotomy i p with h | h | h
      · have h2 := hin i h; rw [getD_lt_of (by omega)] at h1; rw [h1] at h2; cases h2
      · exact h
      · have h2 := hlast i (by omega) hil
        have hol' : ops.toList[i]? = some o := by simpa using ho
        have h3 := lastOf_waits hol' h2 h
        have h4 := waitsOn_listed h3 hall
        have h5 := hout p (Nat.le_refl _) hpl
        rw [getD_lt_of (by omega), h4] at h5; cases h5
    subst hip
    have hdrop : ops.toList.drop i = ops[i] :: ops.toList.drop (i + 1) := by
      rw [List.drop_eq_getElem_cons (by simpa using hpl)]; simp
    rw [hdrop, runOps, Tree.sat_bind] at hsat
    have hstep := stepX_ok (Q := Q) (K := fun a' w' => wpAny P .any ops Q m (listed.setIfInBounds i true) a' w') hcf hh hp hs (Tree.sat_mono ?_ hsat)
    · unfold wpOp
      rw [hop]
      dsimp only
      split
      · rename_i hw; rw [if_pos hw] at hstep; exact .inl hstep
      · rename_i hw; rw [if_neg hw] at hstep; exact hstep
    · intro r' S' hrest g' a' w' he hs'
      refine ih (i + 1) _ (Lx L S.c.h S'.c.h) r' g' S' a' w' (by omega) (by simp [hls]) ?_ ?_ (fun k h1 h2 => hlast k (by omega) h2) he.heap he.pc hs' (Tree.sat_mono ?_ hrest)
      · intro j hj
        by_cases hij : i = j
        · subst hij; exact getD_set_self' (by omega) _
        · rw [getD_set_ne' hij]; exact hin j (by omega)
      · intro j h1 h2; rw [getD_set_ne' (by omega)]; exact hout j (by omega) h2
      · intro r'' S'' hpost; exact hpost.shift he

/-! ### The head -/

def unlisted (listed : Array Bool) (n : Nat) : Nat := ((List.range n).filter fun j => !listed.getD j false).length

theorem unlisted_zero (h : unlisted listed n = 0) : ∀ j, j < n → listed.getD j false = true := by
  intro j hj
  unfold unlisted at h
  have h0 := List.eq_nil_of_length_eq_zero h
  cases hx : listed.getD j false with
  | true => rfl
  | false =>
    have : j ∈ (List.range n).filter fun j => !listed.getD j false := List.mem_filter.2 ⟨List.mem_range.2 hj, by rw [hx]; rfl⟩
    rw [h0] at this; cases this

theorem unlisted_set {i : Nat} (hi : i < n) (hu : listed.getD i false = false) (hl : i < listed.size) : unlisted (listed.setIfInBounds i true) n + 1 = unlisted listed n := by
  unfold unlisted
  have key : ∀ (l : List Nat), l.Nodup → i ∈ l → (l.filter fun j => !(listed.setIfInBounds i true).getD j false).length + 1 = (l.filter fun j => !listed.getD j false).length := by
    intro l
    induction l with
    | nil => intro _ h; cases h
    | cons x l ih =>
      intro hnd hm
      rw [List.nodup_cons] at hnd
      by_cases hx : x = i
      · subst hx
        have e1 : (!(listed.setIfInBounds x true).getD x false) = false := by rw [getD_set_self' hl]; rfl
        have e2 : (!listed.getD x false) = true := by rw [hu]; rfl
        rw [List.filter_cons, List.filter_cons, e1, e2]
        simp only [Bool.false_eq_true, if_false, if_true, List.length_cons]
        congr 2
        refine List.filter_congr fun y hy => ?_
        rw [getD_set_ne' (fun e => hnd.1 (by rw [e]; exact hy))]
      · have hm' : i ∈ l := by
          rcases List.mem_cons.1 hm with h | h
          · exact absurd h.symm hx
          · exact h
        rw [List.filter_cons, List.filter_cons, getD_set_ne' (fun e => hx e.symm)]
        have := ih hnd.2 hm'
        split
        · simp only [List.length_cons]; omega
        · exact this
  exact key _ List.nodup_range (List.mem_range.2 hi)

theorem head_run (hcf : CallsOk U P cf) (H : Head U r P cf ops n lat st) (hb0 : ∀ id, L id → id < (st 0).c.h.length) (hlast : ∀ k, n ≤ k → k < ops.size → lastOf ops.toList k = true) {m : Nat}
    (tail : ∀ listed g a w, (∀ j, j < n → listed.getD j false = true) → Inv U r ops n lat st L g0 w0 listed g a w → wpAny P .any ops Q m listed a w) :
    ∀ (k : Nat) (listed : Array Bool) (g : Gh) (a : Act) (w : World), Inv U r ops n lat st L g0 w0 listed g a w → unlisted listed n = k → wpAny P .any ops Q (k + m) listed a w := by
  intro k
  induction k with
  | zero =>
    intro listed g a w inv hk
    rw [Nat.zero_add]
    exact tail listed g a w (unlisted_zero hk) inv
  | succ k ih =>
    intro listed g a w inv hk
    rw [show k + 1 + m = (k + m) + 1 by omega]
    -- some operation of the head is not listed; the first such one is ready
    have hex : ∃ j, j < n ∧ listed.getD j false = false ∧ ∀ i, i < j → listed.getD i false = true := by
      have hne : ∃ j, j < n ∧ listed.getD j false = false := by
        apply Classical.byContradiction
        intro hno
        have : unlisted listed n = 0 := by
          unfold unlisted
          rw [List.length_eq_zero_iff, List.filter_eq_nil_iff]
          intro j hj hx
          refine hno ⟨j, List.mem_range.1 hj, by simpa using hx⟩
        omega
      obtain ⟨j, hj, hx⟩ := hne
      induction j using Nat.strongRecOn with
      | _ j ihj =>
        by_cases hall : ∀ i, i < j → listed.getD i false = true
        · exact ⟨j, hj, hx, hall⟩
        · simp only [Classical.not_forall] at hall
          obtain ⟨i, hi, hi'⟩ := hall
          exact ihj i hi (by omega) (by simpa using hi')
    obtain ⟨j, hj, hjx, hjb⟩ := hex
    have hjl : j < ops.size := by have := H.len; simp at this; omega
    have hready : j ∈ Region.ready .any ops listed := by
      have hop : ops[j]? = some ops[j] := Array.getElem?_eq_getElem hjl
      have hol : ops.toList[j]? = some ops[j] := by rw [Array.getElem?_toList]; exact hop
      refine mem_ready.2 ⟨by rw [getD_lt_of (by rw [inv.lsz]; exact hjl)]; exact hjx, ops[j], hop, fun e he hb => ?_⟩
      exact hjb _ (backOk_lt hol (H.back j (by simp only [Array.length_toList]; exact hjl)) he hb)
    refine ⟨fun h0 => by rw [h0] at hready; (cases hready), fun i hi => ?_⟩
    have hin : i < n := by
      rcases Nat.lt_or_ge i n with h | h
      · exact h
      · exfalso
        obtain ⟨h1, o, ho, hall⟩ := mem_ready.1 hi
        have hil : i < ops.size := (Array.getElem?_eq_some_iff.1 ho).1
        have h2 := hlast i h hil
        have hol' : ops.toList[i]? = some o := by simpa using ho
        have h3 := lastOf_waits (j := j) hol' h2 (by omega)
        have h4 := waitsOn_listed h3 hall
        rw [hjx] at h4; cases h4
    refine wpOp_mono ?_ (inv.step hcf H hb0 hi hin)
    rintro a' w' ⟨g', inv'⟩
    refine ih _ g' a' w' inv' ?_
    obtain ⟨h1, o, ho, _⟩ := mem_ready.1 hi
    have hil : i < listed.size := by rw [inv.lsz]; exact (Array.getElem?_eq_some_iff.1 ho).1
    have := unlisted_set (listed := listed) hin (by rw [← getD_lt_of hil]; exact h1) hil
    omega

/-- What the head leaves, whatever the order was. -/
theorem Inv.done (H : Head U r P cf ops n lat st) (hh : HeapDen U r g0 L (st 0).c.h w0) (inv : Inv U r ops n lat st L g0 w0 listed g a w) (hall : ∀ j, j < n → listed.getD j false = true) :
    Ext U L r g0 (st 0).c w0 r g (st n).c w ∧ Slots U r g (Lx L (st 0).c.h (st n).c.h) (st n).tmps a := by
  have cover : ∀ m, m ≤ n → ∀ id, (st 0).c.h.length ≤ id → id < (st m).c.h.length → ∃ j, j < m ∧ (st j).c.h.length ≤ id ∧ id < (st (j + 1)).c.h.length := by
    intro m
    induction m with
    | zero => intro _ id h1 h2; omega
    | succ m ih =>
      intro hm id h1 h2
      by_cases h : id < (st m).c.h.length
      · obtain ⟨j, h3, h4⟩ := ih (by omega) id h1 h; exact ⟨j, by omega, h4⟩
      · exact ⟨m, by omega, by omega, h2⟩
  have lvx : ∀ id, Lx L (st 0).c.h (st n).c.h id → Lv L st n listed n id := by
    rintro id (h | ⟨h1, h2⟩)
    · exact .inl h
    · obtain ⟨j, h3, h4, h5⟩ := cover n (Nat.le_refl _) id h1 h2
      exact .inr ⟨j, h3, h3, hall j h3, h4, h5⟩
  have xlv : ∀ m, m ≤ n → ∀ id, Lv L st n listed m id → Lx L (st 0).c.h (st n).c.h id := by
    rintro m hm id (h | ⟨j, h1, h2, h3, h4, h5⟩)
    · exact .inl h
    · right
      have := H.nb (i := 0) (j := j) (Nat.zero_le _) (by omega)
      have := H.nb (i := j + 1) (j := n) (by omega) (Nat.le_refl _)
      omega
  have glx : ∀ m, m ≤ n → GLe g (Lv L st n listed m) g (Lx L (st 0).c.h (st n).c.h) := fun m hm => ⟨fun id h => ⟨xlv m hm id h, rfl, rfl⟩, fun _ _ => rfl⟩
  have gl0 : GLe g L g (Lx L (st 0).c.h (st n).c.h) := ⟨fun id h => ⟨.inl h, rfl, rfl⟩, fun _ _ => rfl⟩
  have nb := H.nb (i := 0) (j := n) (Nat.zero_le _) (Nat.le_refl _)
  have ga0 : ∀ id, L id → g.a id = g0.a id := fun id h => (inv.ga id (by have := hh.bnd id h; omega)).1
  have split : ∀ id, Lx L (st 0).c.h (st n).c.h id → (L id ∧ id < (st 0).c.h.length) ∨ ((st 0).c.h.length ≤ id ∧ id < (st n).c.h.length ∧ w0.heap.size ≤ g.a id) := by
    rintro id (h | ⟨h1, h2⟩)
    · exact .inl ⟨h, hh.bnd id h⟩
    · right
      obtain ⟨j, h3, h4, h5⟩ := cover n (Nat.le_refl _) id h1 h2
      exact ⟨h1, h2, inv.new j id h3 (hall j h3) h4 h5⟩
  have get0 : ∀ {id}, id < (st 0).c.h.length → (st n).c.h[id]? = (st 0).c.h[id]? := fun h => H.get (Nat.zero_le _) (Nat.le_refl _) h
  refine ⟨⟨H.nv n (Nat.le_refl _), fun _ => rfl, nb, inv.ga, inv.go, ?_, H.pc n (Nat.le_refl _), ?_, ?_, ?_⟩, ?_⟩
  · refine ⟨?_, fun id h => inv.lt id (lvx id h), ?_, ?_, fun id b ks e h hb hr => inv.rows id b ks e (lvx id h) hb hr, fun id b hb hwr => ?_⟩
    · intro id h
      rcases split id h with ⟨_, h2⟩ | ⟨_, h2, _⟩
      · omega
      · exact h2
    · intro id b h hb
      rcases split id h with ⟨h1, h2⟩ | ⟨h1, h2, _⟩
      · rw [get0 h2] at hb
        obtain ⟨xs, t, fz, e1, e2, e3, e4, e5⟩ := inv.blk0 id b h1 hb
        exact ⟨xs, t, fz, e1, e2, e3, e4, fun j s hs => (by obtain ⟨v, hv, hd⟩ := e5 j s hs; exact ⟨v, hv, SV.den_mono gl0 hd⟩)⟩
      · obtain ⟨j, h3, h4, h5⟩ := cover n (Nat.le_refl _) id h1 h2
        obtain ⟨xs, t, fz, e1, e2, e3, e4, e5⟩ := inv.blkn j id b h3 (hall j h3) h4 h5 hb
        exact ⟨xs, t, fz, e1, e2, e3, e4, fun k s hs => (by obtain ⟨v, hv, hd⟩ := e5 k s hs; exact ⟨v, hv, SV.den_mono (glx (j + 1) (by omega)) hd⟩)⟩
    · intro i j b b' hi hj hb hwr hb' he
      rcases split i hi with ⟨h1, h2⟩ | ⟨h1, h2, h3⟩ <;> rcases split j hj with ⟨k1, k2⟩ | ⟨k1, k2, k3⟩
      · rw [get0 h2] at hb
        rw [get0 k2] at hb'
        rw [ga0 i h1, ga0 j k1] at he
        exact hh.inj i j b b' h1 k1 hb hwr hb' he
      · rw [ga0 i h1] at he; have := hh.lt i h1; omega
      · rw [ga0 j k1] at he; have := hh.lt j k1; omega
      · exact inv.inj i j b b' (lvx i hi) (lvx j hj) h1 k1 hb hwr hb' he
    · by_cases hlt : id < (st 0).c.h.length
      · rw [get0 hlt] at hb; exact .inl (hh.live id b hb hwr)
      · exact .inr ⟨by omega, (List.getElem?_eq_some_iff.1 hb).1⟩
  · have f := inv.frm
    exact ⟨f.os, f.tape, f.output, f.size, fun k hk _ => f.block k hk (fun h => h)⟩
  · intro id b h hb hwr
    rcases split id h with ⟨h1, h2⟩ | ⟨h1, h2, h3⟩
    · right
      rw [get0 h2] at hb
      exact ⟨id, b, h1, hb, hwr, (ga0 id h1).symm⟩
    · exact .inl h3
  · intro id h1 h2
    rcases split id (.inr ⟨h1, h2⟩) with ⟨h3, h4⟩ | ⟨_, _, h3⟩
    · omega
    · exact .inl h3
  · refine ⟨inv.defers, by rw [inv.size, H.size n (Nat.le_refl _)], fun t => ?_⟩
    by_cases hown : ∃ j p, j < n ∧ ops.toList[j]? = some p ∧ p.dst = some t
    · obtain ⟨j, p, hj, hp, hd⟩ := hown
      exact SV.den_mono (glx (j + 1) (by omega)) (inv.own j p t hj hp hd (hall j hj))
    · have h1 := inv.oth t fun k o' hk hok hd => hown ⟨k, o', hk, hok, hd⟩
      rw [H.slot (i := 0) (t := t) n (Nat.zero_le _) (Nat.le_refl _) fun k o' _ h2 h3 hd => hown ⟨k, o', h2, h3, hd⟩]
      exact SV.den_mono gl0 h1

/-! ### A statement -/

def drawX (P : Program) (cf : FuncId → List SV → Cx → Tree (SV × Cx)) (ops : Array Oper) (S : St) : Tree St :=
  let l := ops.toList
  let n := headLen l
  if regionOk l ops n = true then (runQ P cf ops (l.take n) S).bind (runOps P cf ops (l.drop n)) else .bad

theorem drawX_ok (hm : P.follows .mixedOrders = true) (hcf : CallsOk U P cf) {id : Nat} {S : St} (hh : HeapDen U r g L S.c.h w) (hp : PcOk U r S.c.pc) (hs : Slots U r g L S.tmps a)
    (h : (drawX P cf ops S).sat U (SPost U L r g S.c w (Q .normal)) r) : (Code.region id ops true).wp P Q a w := by
  unfold drawX at h
  dsimp only at h
  split at h
  · rename_i hok
    simp only [regionOk, Bool.and_eq_true, List.all_eq_true, List.mem_range] at hok
    rw [Tree.sat_bind] at h
    obtain ⟨st, h1, h2, h3⟩ := runQ_states (base := S.c.h.length) hp h
    have hn : headLen ops.toList ≤ ops.toList.length := headGo_le _ _
    have hlen : (ops.toList.take (headLen ops.toList)).length = headLen ops.toList := by rw [List.length_take]; exact Nat.min_eq_left hn
    rw [hlen] at h3
    subst h1
    have hlast : ∀ k, headLen ops.toList ≤ k → k < ops.size → lastOf ops.toList k = true := fun k k1 k2 => headGo_last _ _ k k1 (by simpa using k2)
    have H : Head U r P cf ops (headLen ops.toList) (fun _ => none) st :=
      ⟨fun i o hi ho => h2 i o (by rw [List.getElem?_take, if_pos hi]; exact ho), hn, hok.1, hok.2.1, hok.2.2, hp, fun k k' id b b' _ _ h => by cases h⟩
    let w1 : World := { w with drawn := w.drawn + 1 }
    have hsame : Same w w1 := ⟨rfl, rfl, rfl, rfl⟩
    have hh1 : HeapDen U r g L (st 0).c.h w1 := hh.same hsame
    have inv0 : Inv U r ops (headLen ops.toList) (fun _ => none) st L g w1 (Array.replicate ops.size false) g a w1 := by
      have hrep : ∀ t, (Array.replicate ops.size false).getD t false = false := fun t => by
        rw [Array.getD_eq_getD_getElem?, Array.getElem?_replicate]; split <;> rfl
      refine ⟨by simp, ?_, hs.defers, hs.size, fun t ht => ?_, ?_, fun t _ => hs.at_ t, fun _ _ => ⟨rfl, rfl⟩, ?_, hh1.blk, ?_, ?_, ?_, Frm.refl _ _, fun _ _ => rfl, ?_, fun k id b' _ _ h => (by cases h), hh1.lt⟩
      · intro t _ ht; rw [Array.getD_eq_getD_getElem?, Array.getElem?_replicate, if_pos ht]; rfl
      · have := hs.at_ t
        rw [Array.getD_eq_getD_getElem?, Array.getElem?_eq_none (by rw [hs.size]; exact ht)] at this; exact this
      · intro i o t _ _ _ hl; rw [hrep] at hl; cases hl
      · rintro id (hl | ⟨j, _, _, hl, _⟩)
        · exact hh1.lt id hl
        · rw [hrep] at hl; cases hl
      · intro i id b _ hl; rw [hrep] at hl; cases hl
      · intro i id _ hl; rw [hrep] at hl; cases hl
      · rintro id id' b b' (hl | ⟨j, _, _, hl, _⟩) _ h0
        · have := hh1.bnd id hl; omega
        · rw [hrep] at hl; cases hl
      · rintro id b ks e (hl | ⟨j, _, _, hl, _⟩) hb hr
        · rw [H.get (i := 0) (j := headLen ops.toList) (Nat.zero_le _) (Nat.le_refl _) (hh1.bnd id hl)] at hb
          exact hh1.rows id b ks e hl hb hr
        · rw [hrep] at hl; cases hl
    refine wp_region_any hm ?_
    have hsize : headLen ops.toList + (ops.size - headLen ops.toList) = ops.size := by
      have : headLen ops.toList ≤ ops.size := by simpa using hn
      omega
    have hun : unlisted (Array.replicate ops.size false) (headLen ops.toList) = headLen ops.toList := by
      unfold unlisted
      rw [List.filter_eq_self.2, List.length_range]
      intro j _
      rw [Array.getD_eq_getD_getElem?, Array.getElem?_replicate]; split <;> rfl
    have key := head_run (Q := Q) (m := ops.size - headLen ops.toList) hcf H hh1.bnd hlast ?_ _ _ g a w1 inv0 hun
    · rw [hsize] at key; exact key
    · intro listed g' a' w' hall inv
      obtain ⟨e, hs'⟩ := inv.done H hh1 hall
      refine tail_run hcf hok.1 _ (headLen ops.toList) listed (Lx L (st 0).c.h (st (headLen ops.toList)).c.h) r g' (st (headLen ops.toList)) a' w' hsize inv.lsz hall inv.tail hlast e.heap e.pc hs' (Tree.sat_mono ?_ h3)
      intro r'' S'' hpost
      exact hpost.shift (e.of_same hsame)
  · exact h.elim

/-! ### Late stores -/

/-- The places with what late stores have left. -/
def fillH : List (Option (Nat × SB)) → SH → SH
  | [], h => h
  | some (id, b) :: l, h => fillH l (h.set id (some b))
  | none :: l, h => fillH l h

def lateIds : List (Option (Nat × SB)) → List Nat
  | [] => []
  | some (id, _) :: l => id :: lateIds l
  | none :: l => lateIds l
def allApart : List Nat → Bool
  | [] => true
  | a :: l => l.all (fun x => !Nat.beq x a) && allApart l

theorem lateIds_mem : ∀ {ls : List (Option (Nat × SB))} {k id : Nat} {b : SB}, ls.getD k none = some (id, b) → id ∈ lateIds ls := by
  intro ls
  induction ls with
  | nil => intro k id b h; simp at h
  | cons x l ih =>
    intro k id b h
    cases k with
    | zero =>
      have h : x = some (id, b) := by simpa using h
      subst h; simp [lateIds]
    | succ k =>
      have := ih (k := k) (id := id) (b := b) (by simpa using h)
      cases x with
      | none => exact this
      | some y => obtain ⟨i, c⟩ := y; exact List.mem_cons_of_mem _ this

theorem lateIds_inj : ∀ {ls : List (Option (Nat × SB))}, allApart (lateIds ls) = true → ∀ {k k' id : Nat} {b b' : SB}, ls.getD k none = some (id, b) → ls.getD k' none = some (id, b') → k = k' := by
  intro ls
  induction ls with
  | nil => intro _ k k' id b b' h; simp at h
  | cons x l ih =>
    intro ha k k' id b b' h h'
    have tl : allApart (lateIds l) = true := by
      cases x with
      | none => exact ha
      | some y => obtain ⟨i, c⟩ := y; simp only [lateIds, allApart, Bool.and_eq_true] at ha; exact ha.2
    have hd : ∀ {k id : Nat} {b c : SB}, x = some (id, c) → l.getD k none = some (id, b) → False := by
      intro k id b c hx hl
      subst hx
      simp only [lateIds, allApart, Bool.and_eq_true, List.all_eq_true] at ha
      have := ha.1 id (lateIds_mem hl)
      simp at this
    cases k with
    | zero =>
      cases k' with
      | zero => rfl
      | succ k' => exact (hd (by simpa using h) (by simpa using h')).elim
    | succ k =>
      cases k' with
      | zero => exact (hd (by simpa using h') (by simpa using h)).elim
      | succ k' => exact congrArg Nat.succ (ih tl (k := k) (k' := k') (id := id) (b := b) (b' := b') (by simpa using h) (by simpa using h'))

theorem fillH_length : ∀ {ls : List (Option (Nat × SB))} {h : SH}, (fillH ls h).length = h.length := by
  intro ls
  induction ls with
  | nil => intro h; rfl
  | cons x l ih =>
    intro h
    cases x with
    | none => exact ih
    | some y => obtain ⟨i, b⟩ := y; simp only [fillH]; rw [ih, List.length_set]

theorem fillH_get : ∀ {ls : List (Option (Nat × SB))} {h : SH} {id : Nat}, (fillH ls h)[id]? = h[id]? ∨ ∃ k b, k < ls.length ∧ ls.getD k none = some (id, b) ∧ (fillH ls h)[id]? = some (some b) := by
  intro ls
  induction ls with
  | nil => intro h id; exact .inl rfl
  | cons x l ih =>
    intro h id
    cases x with
    | none =>
      rcases ih (h := h) (id := id) with h1 | ⟨k, b, h1, h2, h3⟩
      · exact .inl h1
      · exact .inr ⟨k + 1, b, by simp; omega, by simpa using h2, h3⟩
    | some y =>
      obtain ⟨i, b0⟩ := y
      simp only [fillH]
      rcases ih (h := h.set i (some b0)) (id := id) with h1 | ⟨k, b, h1, h2, h3⟩
      · by_cases hi : i = id
        · subst hi
          by_cases hlt : i < h.length
          · rw [List.getElem?_set_self hlt] at h1
            exact .inr ⟨0, b0, by simp, by simp, h1⟩
          · left
            rw [h1, List.getElem?_eq_none (by rw [List.length_set]; omega), List.getElem?_eq_none (by omega)]
        · rw [List.getElem?_set_ne hi] at h1; exact .inl h1
      · exact .inr ⟨k + 1, b, by simp; omega, by simpa using h2, h3⟩

theorem Inv.doneL (H : Head U r P cf ops n lat st) (hh : HeapDen U r g0 L (st 0).c.h w0) (inv : Inv U r ops n lat st L g0 w0 listed g a w) (hall : ∀ j, j < n → listed.getD j false = true) {ls : List (Option (Nat × SB))} (hls : ∀ k, lat k = ls.getD k none) (hln : ls.length = n) :
    Ext U L r g0 (st 0).c w0 r g ⟨fillH ls (st n).c.h, (st n).c.nv, (st n).c.pc⟩ w ∧ Slots U r g (Lx L (st 0).c.h (fillH ls (st n).c.h)) (st n).tmps a := by
  obtain ⟨e, hs⟩ := inv.done H hh hall
  have hLx : Lx L (st 0).c.h (fillH ls (st n).c.h) = Lx L (st 0).c.h (st n).c.h := by
    funext id; unfold Lx; rw [fillH_length]
  -- a place that a late store has filled
  have isLate : ∀ {k id : Nat} {b' : SB}, k < ls.length → ls.getD k none = some (id, b') → ∃ b, (st n).c.h[id]? = some (some b) ∧ b.wr = true ∧ b'.wr = true ∧ b'.row = none := by
    intro k id b' hk hl
    have hkn : k < n := by omega
    obtain ⟨o, ho⟩ := H.op hkn
    have hl' : lat k = some (id, b') := by rw [hls]; exact hl
    rcases (H.rel k o hkn ho).run with ⟨_, hn, _⟩ | ⟨_, hn, _⟩ | ⟨_, _, _, _, id2, b2, b2', p2, off2, pc2, sv2, c2, hl2, _, hb2, hw2, _, _, hw2', hr2', _⟩
    · rw [hl'] at hn; cases hn
    · rw [hl'] at hn; cases hn
    · rw [hl'] at hl2; cases hl2
      exact ⟨b2, by rw [H.get (i := k) (j := n) (by omega) (Nat.le_refl _) (List.getElem?_eq_some_iff.1 hb2).1]; exact hb2, hw2, hw2', hr2'⟩
  have under : ∀ {id : Nat} {b : SB}, (fillH ls (st n).c.h)[id]? = some (some b) → ∃ b0, (st n).c.h[id]? = some (some b0) ∧ (b.wr = true → b0.wr = true) := by
    intro id b hb
    rcases fillH_get (ls := ls) (h := (st n).c.h) (id := id) with h1 | ⟨k, b', h1, h2, h3⟩
    · rw [h1] at hb; exact ⟨b, hb, fun h => h⟩
    · obtain ⟨b0, q1, q2, _⟩ := isLate h1 h2
      exact ⟨b0, q1, fun _ => q2⟩
  have lvx : ∀ {m id}, m ≤ n → Lv L st n listed m id → Lx L (st 0).c.h (st n).c.h id := by
    rintro m id hm (h | ⟨j, h1, h2, h3, h4, h5⟩)
    · exact .inl h
    · right
      have := H.nb (i := 0) (j := j) (Nat.zero_le _) (by omega)
      have := H.nb (i := j + 1) (j := n) (by omega) (Nat.le_refl _)
      omega
  refine ⟨⟨e.nv, e.agr, by show (st 0).c.h.length ≤ (fillH ls (st n).c.h).length; rw [fillH_length]; exact e.len, ?_, ?_, ?_, e.pc, e.frm, ?_, ?_⟩, by rw [hLx]; exact hs⟩
  · intro id h; exact e.ga id (by have h : ¬ ((st 0).c.h.length ≤ id ∧ id < (fillH ls (st n).c.h).length) := h; rw [fillH_length] at h; exact h)
  · intro id h; exact e.go id (by have h : ¬ ((st 0).c.h.length ≤ id ∧ id < (fillH ls (st n).c.h).length) := h; rw [fillH_length] at h; exact h)
  · show HeapDen U r g (Lx L (st 0).c.h (fillH ls (st n).c.h)) (fillH ls (st n).c.h) w
    rw [hLx]
    refine ⟨fun id h => by rw [fillH_length]; exact e.heap.bnd id h, e.heap.lt, fun id b h hb => ?_, fun i j b b' hi hj hb hw hb' he => ?_, fun id b ks x h hb hr => ?_, fun id b hb hw => ?_⟩
    · rcases fillH_get (ls := ls) (h := (st n).c.h) (id := id) with h1 | ⟨k, b', h1, h2, h3⟩
      · rw [h1] at hb; exact e.heap.blk id b h hb
      · rw [h3] at hb
        cases hb
        obtain ⟨b0, q1, q2, q3, q4⟩ := isLate h1 h2
        obtain ⟨xs, t, fz, e1, e2, e3, e4, e5⟩ := e.heap.blk id b0 h q1
        obtain ⟨k0, xs', t', fz', f1, f2, f3⟩ := inv.late k id b (by omega) (hall k (by omega)) (by rw [hls]; exact h2)
        rw [e1] at f1
        cases f1
        refine ⟨xs, t, fz, e1, e2, fun _ => e3 q2, f2, fun j c hc => ?_⟩
        obtain ⟨v, hv, hd⟩ := f3 j c hc
        exact ⟨v, hv, SV.den_mono ⟨fun id h => ⟨lvx (by omega) h, rfl, rfl⟩, fun _ _ => rfl⟩ hd⟩
    · obtain ⟨b0, q1, q2⟩ := under hb
      obtain ⟨b0', q1', _⟩ := under hb'
      exact e.heap.inj i j b0 b0' hi hj q1 (q2 hw) q1' he
    · rcases fillH_get (ls := ls) (h := (st n).c.h) (id := id) with h1 | ⟨k, b', h1, h2, h3⟩
      · rw [h1] at hb; exact e.heap.rows id b ks x h hb hr
      · rw [h3] at hb
        cases hb
        obtain ⟨b0, q1, q2, q3, q4⟩ := isLate h1 h2
        rw [q4] at hr; cases hr
    · obtain ⟨b0, q1, q2⟩ := under hb
      exact e.heap.live id b0 q1 (q2 hw)
  · intro id b h hb hw
    have h : Lx L (st 0).c.h (fillH ls (st n).c.h) id := h
    rw [hLx] at h
    obtain ⟨b0, q1, q2⟩ := under hb
    exact e.wrs id b0 h q1 (q2 hw)
  · intro id h1 h2
    exact e.fresh id h1 (by have h2 : id < (fillH ls (st n).c.h).length := h2; rw [fillH_length] at h2; exact h2)

/-- A statement of open order in which places of its own are filled. -/
def drawX3 (P : Program) (cf : FuncId → List SV → Cx → Tree (SV × Cx)) (ops : Array Oper) (S : St) : Tree St :=
  let l := ops.toList
  let n := headLen l
  if regionOk l ops n = true then (runL P cf ops S.c.h.length (l.take n) (l.take n) S).bind fun x =>
    if allApart (lateIds x.2) = true then runOps P cf ops (l.drop n) ⟨x.1.tmps, ⟨fillH x.2 x.1.c.h, x.1.c.nv, x.1.c.pc⟩⟩ else .bad
  else .bad

theorem drawX3_ok (hm : P.follows .mixedOrders = true) (hcf : CallsOk U P cf) {id : Nat} {S : St} (hh : HeapDen U r g L S.c.h w) (hp : PcOk U r S.c.pc) (hs : Slots U r g L S.tmps a)
    (h : (drawX3 P cf ops S).sat U (SPost U L r g S.c w (Q .normal)) r) : (Code.region id ops true).wp P Q a w := by
  unfold drawX3 at h
  dsimp only at h
  split at h
  · rename_i hok
    simp only [regionOk, Bool.and_eq_true, List.all_eq_true, List.mem_range] at hok
    rw [Tree.sat_bind] at h
    obtain ⟨st, ls, h1, h2, hln, h3⟩ := runL_states hp h
    split at h3
    rotate_left
    · exact h3.elim
    rename_i hap
    have hn : headLen ops.toList ≤ ops.toList.length := headGo_le _ _
    have hlen : (ops.toList.take (headLen ops.toList)).length = headLen ops.toList := by rw [List.length_take]; exact Nat.min_eq_left hn
    rw [hlen] at h3 hln
    dsimp only at h3 hap
    subst h1
    have hlast : ∀ k, headLen ops.toList ≤ k → k < ops.size → lastOf ops.toList k = true := fun k k1 k2 => headGo_last _ _ k k1 (by simpa using k2)
    have H : Head U r P cf ops (headLen ops.toList) (fun k => ls.getD k none) st :=
      ⟨fun i o hi ho => h2 i o (by rw [List.getElem?_take, if_pos hi]; exact ho), hn, hok.1, hok.2.1, hok.2.2, hp, fun k k' id b b' _ _ h h' => lateIds_inj hap h h'⟩
    let w1 : World := { w with drawn := w.drawn + 1 }
    have hsame : Same w w1 := ⟨rfl, rfl, rfl, rfl⟩
    have hh1 : HeapDen U r g L (st 0).c.h w1 := hh.same hsame
    have inv0 : Inv U r ops (headLen ops.toList) (fun k => ls.getD k none) st L g w1 (Array.replicate ops.size false) g a w1 := by
      have hrep : ∀ t, (Array.replicate ops.size false).getD t false = false := fun t => by
        rw [Array.getD_eq_getD_getElem?, Array.getElem?_replicate]; split <;> rfl
      refine ⟨by simp, ?_, hs.defers, hs.size, fun t ht => ?_, ?_, fun t _ => hs.at_ t, fun _ _ => ⟨rfl, rfl⟩, ?_, hh1.blk, ?_, ?_, ?_, Frm.refl _ _, fun _ _ => rfl, ?_, fun k id b' _ hl _ => (by rw [hrep] at hl; cases hl), hh1.lt⟩
      · intro t _ ht; rw [Array.getD_eq_getD_getElem?, Array.getElem?_replicate, if_pos ht]; rfl
      · have := hs.at_ t
        rw [Array.getD_eq_getD_getElem?, Array.getElem?_eq_none (by rw [hs.size]; exact ht)] at this; exact this
      · intro i o t _ _ _ hl; rw [hrep] at hl; cases hl
      · rintro id (hl | ⟨j, _, _, hl, _⟩)
        · exact hh1.lt id hl
        · rw [hrep] at hl; cases hl
      · intro i id b _ hl; rw [hrep] at hl; cases hl
      · intro i id _ hl; rw [hrep] at hl; cases hl
      · rintro id id' b b' (hl | ⟨j, _, _, hl, _⟩) _ h0
        · have := hh1.bnd id hl; omega
        · rw [hrep] at hl; cases hl
      · rintro id b ks e (hl | ⟨j, _, _, hl, _⟩) hb hr
        · rw [H.get (i := 0) (j := headLen ops.toList) (Nat.zero_le _) (Nat.le_refl _) (hh1.bnd id hl)] at hb
          exact hh1.rows id b ks e hl hb hr
        · rw [hrep] at hl; cases hl
    refine wp_region_any hm ?_
    have hsize : headLen ops.toList + (ops.size - headLen ops.toList) = ops.size := by
      have : headLen ops.toList ≤ ops.size := by simpa using hn
      omega
    have hun : unlisted (Array.replicate ops.size false) (headLen ops.toList) = headLen ops.toList := by
      unfold unlisted
      rw [List.filter_eq_self.2, List.length_range]
      intro j _
      rw [Array.getD_eq_getD_getElem?, Array.getElem?_replicate]; split <;> rfl
    have key := head_run (Q := Q) (m := ops.size - headLen ops.toList) hcf H hh1.bnd hlast ?_ _ _ g a w1 inv0 hun
    · rw [hsize] at key; exact key
    · intro listed g' a' w' hall inv
      obtain ⟨e, hs'⟩ := inv.doneL H hh1 hall (fun _ => rfl) hln
      refine tail_run hcf hok.1 _ (headLen ops.toList) listed (Lx L (st 0).c.h (fillH ls (st (headLen ops.toList)).c.h)) r g' ⟨(st (headLen ops.toList)).tmps, ⟨fillH ls (st (headLen ops.toList)).c.h, (st (headLen ops.toList)).c.nv, (st (headLen ops.toList)).c.pc⟩⟩ a' w' hsize inv.lsz hall inv.tail hlast e.heap e.pc hs' (Tree.sat_mono ?_ h3)
      intro r'' S'' hpost
      exact hpost.shift (e.of_same hsame)
  · exact h.elim

theorem runOps_ok (hcf : CallsOk U P cf) {ops : Array Oper} : ∀ (k : Nat) (l : List Nat) (S : St) (L : Nat → Prop) (r : Nat → D) (g : Gh) (a : Act) (w : World), l = (List.range ops.size).drop k → k ≤ ops.size →
    HeapDen U r g L S.c.h w → PcOk U r S.c.pc → Slots U r g L S.tmps a → (runOps P cf ops (ops.toList.drop k) S).sat U (SPost U L r g S.c w (Q .normal)) r → wpOps P ops Q l a w := by
  intro k l
  induction l generalizing k with
  | nil =>
    intro S L r g a w hl hk hh hp hs h
    have : ops.size ≤ k := by
      have := congrArg List.length hl; simp at this; omega
    rw [List.drop_eq_nil_of_le (by simpa using this)] at h
    exact h g a w (Ext.refl hh hp) (by rw [Lx_self]; exact hs)
  | cons i l ih =>
    intro S L r g a w hl hk hh hp hs h
    have hlt : k < ops.size := by
      have := congrArg List.length hl; simp at this; omega
    rw [List.drop_eq_getElem_cons (by simpa using hlt)] at hl
    simp only [List.getElem_range, List.cons.injEq] at hl
    obtain ⟨rfl, hl⟩ := hl
    have hop : ops[i]? = some ops[i] := Array.getElem?_eq_getElem hlt
    have hdrop : ops.toList.drop i = ops[i] :: ops.toList.drop (i + 1) := by
      rw [List.drop_eq_getElem_cons (by simpa using hlt)]; simp
    rw [hdrop, runOps, Tree.sat_bind] at h
    have hstep := stepX_ok (Q := Q) (K := wpOps P ops Q l) hcf hh hp hs (Tree.sat_mono ?_ h)
    · rw [wpOps_cons]
      unfold wpOp
      rw [hop]
      dsimp only
      split
      · rename_i hw; rw [if_pos hw] at hstep; exact .inl hstep
      · rename_i hw; rw [if_neg hw] at hstep; exact hstep
    · intro r' S' hrest g' a' w' he hs'
      exact ih (i + 1) S' (Lx L S.c.h S'.c.h) r' g' a' w' hl (by omega) he.heap he.pc hs' (Tree.sat_mono (fun r'' S'' hpost => hpost.shift he) hrest)

end
end Go.Sx
