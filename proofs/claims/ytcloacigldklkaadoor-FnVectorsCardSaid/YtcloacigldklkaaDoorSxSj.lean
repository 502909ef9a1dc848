/-
  Sx, part Sj: small whole numbers with their bounds; a law's value read off along its names; eight hex digits put together.
-/
import Derived.Test.YtcloacigldklkaaDoorSxPv
namespace Go.Sx
open Ieee

/-- A float is a whole number of a bounded size. -/
def VB (x : Fl) (n : Int) (M : Nat) : Prop := VI .f32 x n ∧ n.natAbs ≤ M
section
variable {x y : Fl} {u v : Int} {M N : Nat}
theorem vb_add (hx : VB x u M) (hy : VB y v N) (h : M + N < 16777216) : VB (Fl.add .f32 x y) (u + v) (M + N) := by
  have h1 := hx.2; have h2 := hy.2
  exact ⟨vi_add hx.1 hy.1 (small32.2 (by omega)), by omega⟩
theorem vb_sub (hx : VB x u M) (hy : VB y v N) (h : M + N < 16777216) : VB (Fl.sub .f32 x y) (u - v) (M + N) := by
  have h1 := hx.2; have h2 := hy.2
  exact ⟨vi_sub hx.1 hy.1 (small32.2 (by omega)), by omega⟩
theorem vb_mul (hx : VB x u M) (hy : VB y v N) (h : M * N < 16777216) : VB (Fl.mul .f32 x y) (u * v) (M * N) := by
  have h1 : (u * v).natAbs ≤ M * N := by rw [Int.natAbs_mul]; exact Nat.mul_le_mul hx.2 hy.2
  exact ⟨vi_mul hx.1 hy.1 (small32.2 (by omega)), h1⟩
theorem vb_eq (hx : VB x u M) (hy : VB y v N) (h : u = v) : Fl.eq .f32 x y = true := by
  rw [vi_eq hx.1 hy.1]; exact decide_eq_true h
theorem vb_one : VB (some 1065353216) 1 1 := ⟨vi_one32, by decide⟩
theorem vb_two : VB (some 1073741824) 2 2 := ⟨vi_two32, by decide⟩
theorem vb_zero : VB (some 0) 0 0 := ⟨vi_zero32, by decide⟩
theorem vb_neg1 : VB (some 3212836864) (-1) 1 := ⟨vi_lit (by decide +kernel), by decide⟩
end

/-! ### A law's value -/
/-- What a tree asks, its names as equations. -/
def evP (U : Nat → D → D) : Tree SV → (Nat → D) → Prop
  | .ret (.bool e), r => (e.ev U r).toB = true
  | .ite c t f, r => if (c.ev U r).toB then evP U t r else evP U f r
  | .chk (.o2 .fsame (.v i) d) t, r => r i = d.ev U r → evP U t r
  | _, _ => False
section
variable {U : Nat → D → D}
theorem evP_c {i : Nat} {d : E} {t : Tree SV} {r : Nat → D} (h : r i = d.ev U r → evP U t r) : evP U (.chk (.o2 .fsame (.v i) d) t) r := h
theorem evP_t {c : E} {t f : Tree SV} {r : Nat → D} (hc : (c.ev U r).toB = true) (h : evP U t r) : evP U (.ite c t f) r := by
  show if (c.ev U r).toB then _ else _
  rw [if_pos hc]; exact h
theorem evP_f {c : E} {t f : Tree SV} {r : Nat → D} (hc : (c.ev U r).toB = false) (h : evP U f r) : evP U (.ite c t f) r := by
  show if (c.ev U r).toB then _ else _
  rw [if_neg (by rw [hc]; exact Bool.false_ne_true)]; exact h
theorem okB_chk {m : Nat} {c : E} {t : Tree SV} (h : okB m (.chk c t) = true) : ∃ i d, c = .o2 .fsame (.v i) d ∧ m ≤ i ∧ d.under m = true ∧ okB (i + 1) t = true := by
  unfold okB at h
  split at h
  · cases ‹Tree.chk c t = _›
  · cases ‹Tree.chk c t = _›
  · rename_i i d t' heq
    cases heq
    simp only [Bool.and_eq_true] at h
    exact ⟨i, d, rfl, Nat.le_of_ble_eq_true h.1, h.2.1, h.2.2⟩
  · cases ‹Tree.chk c t = _›
  · cases h
theorem evP_ok : ∀ {t : Tree SV} {m : Nat} {r : Nat → D}, okB m t = true → (∀ r', (∀ n, n < m → r' n = r n) → evP U t r') → evB U t r = true := by
  intro t
  induction t with
  | ret x =>
    intro m r h hp
    have h1 := hp r fun _ _ => rfl
    unfold okB at h
    split at h
    · rename_i heq; cases heq; exact h1
    · cases ‹Tree.ret x = _›
    · cases ‹Tree.ret x = _›
    · cases ‹Tree.ret x = _›
    · cases h
  | ite c t e iht ihe =>
    intro m r h hp
    simp only [okB, Bool.and_eq_true] at h
    simp only [evB]
    cases hc : (c.ev U r).toB with
    | true =>
      rw [if_pos rfl]
      refine iht h.2.1 fun r' hr => ?_
      have h1 := hp r' hr
      simp only [evP] at h1
      rwa [if_pos (by rw [E.ev_under U hr h.1]; exact hc)] at h1
    | false =>
      rw [if_neg Bool.false_ne_true]
      refine ihe h.2.2 fun r' hr => ?_
      have h1 := hp r' hr
      simp only [evP] at h1
      rwa [if_neg (by rw [E.ev_under U hr h.1, hc]; exact Bool.false_ne_true)] at h1
  | chk c t ih =>
    intro m r h hp
    obtain ⟨i, e, rfl, hm, hu, h⟩ := okB_chk h
    refine ih h fun r' hr => ?_
    have hlow : ∀ n, n < m → r' n = r n := fun n hn => by rw [hr n (by omega), upd_low (by omega)]
    refine hp r' hlow ?_
    rw [hr i (by omega), E.ev_under U hlow hu]
    unfold Tree.upd
    rw [if_pos rfl]
  | all i t _ => intro k r h; cases h
  | asm c t _ => intro k r h; cases h
  | bad => intro k r _ hp; exact (hp r fun _ _ => rfl).elim
end

/-! ### Drawn whole numbers -/
namespace Pv
/-- A name, a literal or a drawn number that is whole and of a bounded size. -/
def smE (m : Nat) (N : List Nat) : E → Bool
  | .v n => N.any (Nat.beq n)
  | .f (some w) => decide (w < 2 ^ FloatKind.f32.format.width) && (!isNanW .f32 w && (decide (rungOf .f32 w < FloatKind.f32.format.infRung) && (worth .f32 w == (worth .f32 w / ((2 ^ unitN .f32 : Nat) : Int)) * ((2 ^ unitN .f32 : Nat) : Int) && Nat.ble (worth .f32 w / ((2 ^ unitN .f32 : Nat) : Int)).natAbs m)))
  | .o1 (.i2f .f32) x => (match rngE x with
    | (some l, some u) => decide (-(m : Int) ≤ l) && decide (u ≤ (m : Int))
    | _ => false)
  | _ => false
def smF (m : Nat) : List Nat → Tree (SV × Cx) → Bool
  | N, .ret (.agg l, _) => (match fltsE l with
    | some es => es.all (smE m N)
    | none => false)
  | N, .ite _ t f => smF m N t && smF m N f
  | N, .chk (.o2 .fsame (.v i) d) t => if smE m N d then smF m (i :: N) t else smF m (N.filter fun j => !Nat.beq j i) t
  | _, _ => false
section
variable {U : Nat → D → D} {m : Nat}
theorem smE_ok (hm : m < 16777216) {N : List Nat} {r : Nat → D} (hN : ∀ i ∈ N, ∃ n, VB (r i).toF n m) {e : E} (h : smE m N e = true) : ∃ n, VB (e.ev U r).toF n m := by
  unfold smE at h
  split at h
  · rename_i n
    obtain ⟨j, hj, hb⟩ := List.any_eq_true.1 h
    rw [Nat.eq_of_beq_eq_true hb]
    exact hN j hj
  · rename_i w
    simp only [Bool.and_eq_true] at h
    obtain ⟨h1, h2, h3, h4, h5⟩ := h
    exact ⟨_, vi_lit (n := worth .f32 w / ((2 ^ unitN .f32 : Nat) : Int)) (by simp only [Bool.and_eq_true]; exact ⟨h1, h2, h3, h4⟩), Nat.le_of_ble_eq_true h5⟩
  · rename_i x
    split at h
    · rename_i l u hr
      simp only [Bool.and_eq_true, decide_eq_true_eq] at h
      have h1 := (rngE_ok (U := U) (r := r) x).1 l (by rw [hr])
      have h2 := (rngE_ok (U := U) (r := r) x).2 u (by rw [hr])
      have hle : (x.ev U r).toI.natAbs ≤ m := by omega
      exact ⟨(x.ev U r).toI, vi_i2f (small32.2 (by omega)), hle⟩
    · cases h
  · cases h
theorem smF_ok (hm : m < 16777216) : ∀ {t : Tree (SV × Cx)} {N : List Nat} {r : Nat → D}, smF m N t = true → (∀ i ∈ N, ∃ n, VB (r i).toF n m) → ∀ x ∈ evF U t r, ∃ n, VB x n m := by
  intro t
  induction t with
  | ret x =>
    intro N r h hN y hy
    unfold smF at h
    split at h
    · rename_i l c heq
      cases heq
      simp only [evF] at hy
      cases hes : fltsE l with
      | none => rw [hes] at h; cases h
      | some es =>
        rw [hes] at h hy
        obtain ⟨e, he, rfl⟩ := List.mem_map.1 hy
        exact smE_ok hm hN (List.all_eq_true.1 h e he)
    · cases ‹Tree.ret x = _›
    · cases ‹Tree.ret x = _›
    · cases h
  | ite c t f iht ihf =>
    intro N r h hN y hy
    simp only [smF, Bool.and_eq_true] at h
    simp only [evF] at hy
    split at hy
    · exact iht h.1 hN y hy
    · exact ihf h.2 hN y hy
  | chk c t ih =>
    intro N r h hN y hy
    unfold smF at h
    split at h
    · cases ‹Tree.chk c t = _›
    · cases ‹Tree.chk c t = _›
    · rename_i i d t' heq
      cases heq
      split at h
      · rename_i hd
        refine ih h (fun j hj => ?_) y hy
        by_cases hji : j = i
        · subst hji
          unfold Tree.upd
          rw [if_pos rfl]
          exact smE_ok hm hN hd
        · have := hN j (by rcases List.mem_cons.1 hj with h | h
                           · exact absurd h hji
                           · exact h)
          unfold Tree.upd
          rwa [if_neg hji]
      · refine ih h (fun j hj => ?_) y hy
        rw [List.mem_filter] at hj
        have hji : j ≠ i := by
          rintro rfl
          have := hj.2
          rw [Nat.beq_refl] at this
          cases this
        unfold Tree.upd
        rw [if_neg hji]
        exact hN j hj.1
    · cases h
  | all i t _ => intro N r h; cases h
  | asm c t _ => intro N r h; cases h
  | bad => intro N r h; cases h
/-- The words of such a function are whole numbers. -/
theorem sm_word (hm : m < 16777216) {p : HPat} {N0 : List Nat} {cnt n k : Nat} {t : Tree (SV × Cx)} (hU : ∀ d, U n d = vecVal U t d) (hk : vecOk p N0 cnt k t = true) (h0 : N0 = []) (hs : smF m [] t = true) (r : Nat → D) (ws : List E) {j : Nat} (hj : j < k) : ∃ a, VB ((valW n ws j).ev U r).toF a m := by
  subst h0
  simp only [vecOk, Bool.and_eq_true] at hk
  have hv : ((valW n ws j).ev U r).toF = ((evF U t (rOf (ws.map (E.ev U r)))).map D.f |>.getD j (.b false)).toF := by
    show (D.at_ (D.snd (U n ((elemE ws).ev U r))) j).toF = _
    rw [hU, elemE_ev]; rfl
  obtain ⟨es, c1, r'', q1, q2, q3, q4, q5⟩ := evF_sat (U := U) (r := rOf (ws.map (E.ev U r))) hk.1 (fun i hi => by cases hi)
  have hlen : (evF U t (rOf (ws.map (E.ev U r)))).length = k := by rw [← q3, List.length_map, q4]
  rw [hv, List.getD_eq_getElem?_getD, List.getElem?_map, List.getElem?_eq_getElem (by omega)]
  exact smF_ok hm hs (fun i hi => by cases hi) _ (List.getElem_mem _)
theorem wf_word {p : HPat} {N0 : List Nat} {cnt n k : Nat} {t : Tree (SV × Cx)} (hU : ∀ d, U n d = vecVal U t d) (hk : vecOk p N0 cnt k t = true) (h0 : N0 = []) (r : Nat → D) (ws : List E) {j : Nat} (hj : j < k) : wfF ((valW n ws j).ev U r).toF = true := by
  subst h0
  simp only [vecOk, Bool.and_eq_true] at hk
  have hv : ((valW n ws j).ev U r).toF = ((evF U t (rOf (ws.map (E.ev U r)))).map D.f |>.getD j (.b false)).toF := by
    show (D.at_ (D.snd (U n ((elemE ws).ev U r))) j).toF = _
    rw [hU, elemE_ev]; rfl
  obtain ⟨es, c1, r'', q1, q2, q3, q4, q5⟩ := evF_sat (U := U) (r := rOf (ws.map (E.ev U r))) hk.1 (fun i hi => by cases hi)
  have hlen : (evF U t (rOf (ws.map (E.ev U r)))).length = k := by rw [← q3, List.length_map, q4]
  rw [hv, List.getD_eq_getElem?_getD, List.getElem?_map, List.getElem?_eq_getElem (by omega)]
  exact q5 _ (List.getElem_mem _)
end
end Pv

/-! ### Hex digits -/
theorem nib (n : Int) (k : Nat) (h0 : 0 ≤ n) (h1 : n < 4294967296) : IntKind.i64.wrap (BitVec.ofInt IntKind.i64.bits (n.fdiv (2 ^ k)) &&& BitVec.ofInt IntKind.i64.bits 15).toNat = n / 2 ^ k % 16 := by
  have hd : n.fdiv (2 ^ k) = n / 2 ^ k := Int.fdiv_eq_ediv_of_nonneg _ (Int.le_of_lt (Int.pow_pos (by decide)))
  rw [hd]
  have q0 : 0 ≤ n / 2 ^ k := Int.ediv_nonneg h0 (Int.le_of_lt (Int.pow_pos (by decide)))
  have q1 : n / 2 ^ k ≤ n := Int.ediv_le_self _ h0
  generalize n / 2 ^ k = q at q0 q1
  obtain ⟨a, rfl⟩ := Int.eq_ofNat_of_zero_le q0
  have hb : IntKind.i64.bits = 64 := by decide
  have e1 : (BitVec.ofInt IntKind.i64.bits (a : Int)).toNat = a := by rw [BitVec.toNat_ofInt, hb]; omega
  have e2 : (BitVec.ofInt IntKind.i64.bits 15).toNat = 15 := by decide
  rw [BitVec.toNat_and, e1, e2]
  have e3 : a &&& 15 = a % 16 := by
    have := Nat.and_two_pow_sub_one_eq_mod a 4
    simpa using this
  rw [e3]
  have hw := wrap_in (k := .i64) (x := ((a % 16 : Nat) : Int)) (by have : loOf .i64 = -9223372036854775808 := by decide
                                                                   omega) (by have : hiOf .i64 = 9223372036854775807 := by decide
                                                                              omega)
  rw [hw]
  omega
theorem nibs (n : Int) (h0 : 0 ≤ n) (h1 : n < 4294967296) : ((((((n / 2 ^ 28 % 16 * 16 + n / 2 ^ 24 % 16) * 16 + n / 2 ^ 20 % 16) * 16 + n / 2 ^ 16 % 16) * 16 + n / 2 ^ 12 % 16) * 16 + n / 2 ^ 8 % 16) * 16 + n / 2 ^ 4 % 16) * 16 + n / 2 ^ 0 % 16 = n := by
  omega
end Go.Sx
