/-
  Sx, part Mk: loops that mark a row of floats with numbers, and loops that ask whether the marks are held.
-/
import Derived.Test.YtagchccdnpofaaaSxPt
namespace Go.Sx
open E (mk1 mk2 mkIte mk1_ev mk2_ev mkIte_ev)

/-- The marks of an element of three floats. -/
def nrD (k : Int) : D := .f (some (FloatKind.f32.nearest k))
def markEl (k : Int) (j : Nat) : D := .l [nrD (k + 3 * j), nrD (k + 3 * j + 1), nrD (k + 3 * j + 2)]
/-- The row of marks: of how many, from which number on. -/
def markD (d : D) : D := .l ((List.range d.snd.toI.toNat).map (markEl d.fst.toI))
abbrev K3 : List Sk := [.f .f32, .f .f32, .f .f32]
def markE (N : Nat) (k row : E) : E := .o3 .lsub (.o2 .lapp (.app N (.o2 .pair k (mk1 .llen row))) (.o2 .lrep (mk1 .llen row) (.b false))) (.i 0) (mk1 .llen row)
def intE : E → Bool
  | .i _ => true
  | .o2 .iadd _ _ => true
  | .o2 .isub _ _ => true
  | .o2 .imul _ _ => true
  | .o1 .llen _ => true
  | _ => false
/-- The number behind all marks. -/
def behindE (k row : E) : E := if intE k then .o2 .iadd k (.o2 .imul (.i 3) (mk1 .llen row)) else .o3 .ite (.o2 .ieq (mk1 .llen row) (.i 0)) k (.o2 .iadd k (.o2 .imul (.i 3) (mk1 .llen row)))

def markT : Tree LRes :=
  (.ite (.o2 .ilt (.v 2) (.o1 .llen (.v 0))) (.chk (.o2 .fsame (.v 1000) (.o1 (.i2f .f32) (.v 1))) (.chk (.o2 .fsame (.v 1001) (.o1 (.i2f .f32) (.o2 .iadd (.v 1) (.i 1)))) (.chk (.o2 .fsame (.v 1002) (.o1 (.i2f .f32) (.o2 .iadd (.v 1) (.i 2)))) (.ret (.next [(.o3 .upd (.v 0) (.v 2) (.o2 .lpush (.o2 .lpush (.o2 .lpush (.o2 .lrep (.i 0) (.b false)) (.v 1000)) (.v 1001)) (.v 1002))), (.o2 .iadd (.v 1) (.i 3)), (.o2 .iadd (.v 2) (.i 1))]))))) (.ret (.done 0 [(.v 0), (.v 1)])))
def heldT : Tree LRes :=
  (.ite (.o2 .ilt (.v 2) (.o1 .llen (.v 0))) (.chk (.o2 .fsame (.v 1000) (.o2 .sel (.o2 .sel (.v 0) (.v 2)) (.i 0))) (.chk (.o2 .fsame (.v 1001) (.o1 (.i2f .f32) (.v 1))) (.ite (.o2 (.feq .f32) (.v 1000) (.v 1001)) (.chk (.o2 .fsame (.v 1002) (.o2 .sel (.o2 .sel (.v 0) (.v 2)) (.i 1))) (.chk (.o2 .fsame (.v 1003) (.o1 (.i2f .f32) (.o2 .iadd (.v 1) (.i 1)))) (.ite (.o2 (.feq .f32) (.v 1002) (.v 1003)) (.chk (.o2 .fsame (.v 1004) (.o2 .sel (.o2 .sel (.v 0) (.v 2)) (.i 2))) (.chk (.o2 .fsame (.v 1005) (.o1 (.i2f .f32) (.o2 .iadd (.v 1) (.i 2)))) (.ite (.o2 (.feq .f32) (.v 1004) (.v 1005)) (.ret (.next [(.v 0), (.o2 .iadd (.v 1) (.i 3)), (.o2 .iadd (.v 2) (.i 1))])) (.ret (.done 1 [(.v 0), (.i (-1))]))))) (.ret (.done 1 [(.v 0), (.i (-1))]))))) (.ret (.done 1 [(.v 0), (.i (-1))]))))) (.ret (.done 0 [(.v 0), (.v 1)])))
def markInv : List E := [.o2 .ile (.i 0) (.v 2), .o2 .ile (.o1 .llen (.v 0)) (.i 1048576), .o2 .ile (.i 0) (.v 1), .o2 .ile (.v 1) (.i 4194304)]
def markA (n : Nat) : LoopT := ⟨⟨n, 1, [(0, .slo 0 3), (1, .one (.i .i64)), (5, .one (.i .i64))], [⟨true, [], some K3⟩]⟩, markInv, [(.exit 0, ⟨n, 1, [(0, .slo 0 3), (1, .one (.i .i64))], [⟨true, [], some K3⟩]⟩)]⟩
def heldA (n : Nat) : LoopT := ⟨⟨n, 1, [(0, .slo 0 3), (1, .one (.i .i64)), (5, .one (.i .i64))], [⟨true, [], some K3⟩]⟩, markInv,
  [(.exit 0, ⟨n, 1, [(0, .slo 0 3), (1, .one (.i .i64))], [⟨true, [], some K3⟩]⟩), (.ret, ⟨n, 1, [(0, .slo 0 3), (4, .one (.i .i64))], [⟨true, [], some K3⟩]⟩)]⟩
def markRun (n N : Nat) : LRun := ⟨markA n, fun _ => .i 0, fun _ es => [markE N (nmOf es 1) (nmOf es 0), behindE (nmOf es 1) (nmOf es 0)], [.o2 .ieq (.v 2) (.i 0), .o2 .ile (.v 1) (.i 1048576)], none, fun _ _ => []⟩
def isMark (N : Nat) (k : E) : E → Bool
  | .o3 .lsub (.o2 .lapp (.app M (.o2 .pair k' l)) (.o2 .lrep l1 (.b false))) (.i 0) l2 => Nat.beq M N && (k'.same k && (l.same l1 && l.same l2))
  | _ => false
/-- What a loop of this kind leaves in general: its own word. -/
def heldOuts : List (List OutW) := [[.same 0, .val 1], [.same 0, .lit (.i (-1))]]
def heldRun (n N W : Nat) : LRun := ⟨heldA n, fun es => if isMark N (nmOf es 1) (nmOf es 0) then .i 0 else tagW W es, fun k es => if isMark N (nmOf es 1) (nmOf es 0) then [nmOf es 0, behindE (nmOf es 1) (nmOf es 0)] else resW W heldOuts es k es, [.o2 .ieq (.v 2) (.i 0), .o2 .ile (.v 1) (.i 1048576)], none, fun _ _ => []⟩

section
variable {U : Nat → D → D} {r : Nat → D}

theorem markE_ev {N : Nat} (hN : ∀ d, U N d = markD d) (k row : E) : (markE N k row).ev U r = .l ((List.range (row.ev U r).toL.length).map (markEl (k.ev U r).toI)) := by
  have hl : (mk1 .llen row).ev U r = .i ((row.ev U r).toL.length : Nat) := by rw [mk1_ev]; rfl
  unfold markE
  simp only [E.ev, O3.ev, O2.ev, hl, hN]
  simp only [markD, D.toL, D.toI, D.fst, D.snd, Int.toNat_zero, List.drop_zero, Nat.sub_zero, Int.toNat_natCast]
  congr 1
  exact List.take_left' (by simp)
theorem isMark_ev {N : Nat} (hN : ∀ d, U N d = markD d) {k row : E} (h : isMark N k row = true) : ∃ n : Int, 0 ≤ n ∧ row.ev U r = .l ((List.range n.toNat).map (markEl (k.ev U r).toI)) := by
  unfold isMark at h
  split at h
  · rename_i M k' l l1 l2
    simp only [Bool.and_eq_true] at h
    obtain ⟨h1, h2, h3, h4⟩ := h
    have h1 := Nat.eq_of_beq_eq_true h1
    have h2 := E.same_eq h2
    have h3 := E.same_eq h3
    have h4 := E.same_eq h4
    subst h1 h2 h3 h4
    refine ⟨((l.ev U r).toI.toNat : Nat), by omega, ?_⟩
    simp only [E.ev, O3.ev, O2.ev, hN]
    simp only [markD, D.toL, D.toI, D.fst, D.snd, Int.toNat_zero, List.drop_zero, Nat.sub_zero, Int.toNat_natCast]
    congr 1
    exact List.take_left' (by simp)
  · cases h
theorem nr_eq (n : Int) : Fl.eq .f32 (nrD n).toF (nrD n).toF = true := by
  have : Wf .f32 (some (FloatKind.f32.nearest n)) := ⟨_, nearest_wd _ _, nearest_cn _ _⟩
  exact feq_self this

theorem mark_hold {a d1 d2 : D} (h1 : 0 ≤ d2.toI) (h2 : a.toL.length ≤ 1048576) (h3 : 0 ≤ d1.toI) (h4 : d1.toI ≤ 4194304) : HoldI U markInv [a, d1, d2] := by
  intro e he
  simp only [markInv, List.mem_cons, List.not_mem_nil, or_false] at he
  rcases he with rfl | rfl | rfl | rfl
  · exact decide_eq_true h1
  · refine decide_eq_true ?_
    show ((a.toL.length : Nat) : Int) ≤ 1048576
    omega
  · exact decide_eq_true h3
  · exact decide_eq_true h4
theorem mark_inv {r : Nat → D} {e0 e1 e2 : E} (hI : HoldI U markInv ([e0, e1, e2].map (E.ev U r))) : 0 ≤ (e2.ev U r).toI ∧ (e0.ev U r).toL.length ≤ 1048576 ∧ 0 ≤ (e1.ev U r).toI ∧ (e1.ev U r).toI ≤ 4194304 := by
  have i0 := hI (.o2 .ile (.i 0) (.v 2)) (by simp [markInv])
  have i1 := hI (.o2 .ile (.o1 .llen (.v 0)) (.i 1048576)) (by simp [markInv])
  have i2 := hI (.o2 .ile (.i 0) (.v 1)) (by simp [markInv])
  have i3 := hI (.o2 .ile (.v 1) (.i 4194304)) (by simp [markInv])
  have i0 : (0 : Int) ≤ (e2.ev U r).toI := of_decide_eq_true i0
  have i1 : (((e0.ev U r).toL.length : Nat) : Int) ≤ 1048576 := of_decide_eq_true i1
  have i2 : (0 : Int) ≤ (e1.ev U r).toI := of_decide_eq_true i2
  have i3 : (e1.ev U r).toI ≤ 4194304 := of_decide_eq_true i3
  exact ⟨i0, by omega, i2, i3⟩

theorem intE_ev {e : E} (h : intE e = true) : e.ev U r = .i (e.ev U r).toI := by
  unfold intE at h
  split at h <;> first | rfl | cases h
theorem behind_eqv {k row : E} {d : D} (h : d.toI = (k.ev U r).toI + 3 * (row.ev U r).toL.length) (hd : (d = .i d.toI ∧ 0 < (row.ev U r).toL.length) ∨ (d = k.ev U r ∧ (row.ev U r).toL.length = 0)) : D.eqv d ((behindE k row).ev U r) := by
  have hl : (mk1 .llen row).ev U r = .i ((row.ev U r).toL.length : Nat) := by rw [mk1_ev]; rfl
  have hsum : (E.o2 .iadd k (.o2 .imul (.i 3) (mk1 .llen row))).ev U r = .i d.toI := by
    simp only [E.ev, O2.ev, hl, D.toI_i]
    rw [h]
  have hs := fun (hx : d = .i d.toI) => hsum.trans hx.symm
  unfold behindE
  split
  · rename_i hk
    rcases hd with ⟨hd, _⟩ | ⟨hd, h0⟩
    · rw [hs hd]; exact D.eqv.refl _
    · have : d = .i d.toI := by rw [hd]; exact intE_ev hk
      rw [hs this]; exact D.eqv.refl _
  · have hite : (E.o3 .ite (.o2 .ieq (mk1 .llen row) (.i 0)) k (.o2 .iadd k (.o2 .imul (.i 3) (mk1 .llen row)))).ev U r = if ((row.ev U r).toL.length : Int) = 0 then k.ev U r else (E.o2 .iadd k (.o2 .imul (.i 3) (mk1 .llen row))).ev U r := by
      simp only [E.ev, O3.ev, O2.ev, hl, D.toI_i, D.toB_b]
      by_cases h0 : ((row.ev U r).toL.length : Int) = 0 <;> simp [h0]
    rw [hite]
    by_cases h0 : ((row.ev U r).toL.length : Int) = 0
    · rw [if_pos h0]
      rcases hd with ⟨_, h1⟩ | ⟨hd, _⟩
      · omega
      · rw [hd]; exact D.eqv.refl _
    · rw [if_neg h0]
      rcases hd with ⟨hd, _⟩ | ⟨hd, h1⟩
      · rw [hs hd]; exact D.eqv.refl _
      · omega

/-- A LOOP THAT MARKS A ROW. -/
theorem mark_told {n N : Nat} {T : Tree LRes} (hT : T = markT) (hN : ∀ d, U N d = markD d) : Told U T (markRun n N) := by
  subst hT
  have key : ∀ (m : Nat) (k0 : Int) (a d1 d2 : D), 0 ≤ d2.toI → a.toL.length ≤ 1048576 → 0 ≤ k0 → k0 ≤ 1048576 → d1.toI = k0 + 3 * d2.toI → (∀ j : Nat, (j : Int) < d2.toI → j < a.toL.length → a.toL[j]? = some (markEl k0 j)) → d2.toI ≤ a.toL.length → a.toL.length - d2.toI.toNat ≤ m →
      ∃ a' d', LoopTo U markInv markT [a, d1, d2] 0 [a', d'] ∧ a'.toL = (List.range a.toL.length).map (markEl k0) ∧ d'.toI = k0 + 3 * a.toL.length ∧ ((d' = .i d'.toI ∧ d2.toI < a.toL.length) ∨ (d' = d1 ∧ d2.toI = a.toL.length)) := by
    intro m
    have fin : ∀ {k0 : Int} {a d1 d2 : D}, 0 ≤ d2.toI → a.toL.length ≤ 1048576 → 0 ≤ k0 → k0 ≤ 1048576 → d1.toI = k0 + 3 * d2.toI → (∀ j : Nat, (j : Int) < d2.toI → j < a.toL.length → a.toL[j]? = some (markEl k0 j)) → d2.toI ≤ a.toL.length → ¬ d2.toI < (a.toL.length : Int) →
        LoopTo U markInv markT [a, d1, d2] 0 [a, d1] ∧ a.toL = (List.range a.toL.length).map (markEl k0) := by
      intro k0 a d1 d2 h1 h2 h3 h4 h5 h6 h7 hge
      refine ⟨?_, ?_⟩
      · have hev : evA U markT (rOf [a, d1, d2]) = some (.done 0 [.v 0, .v 1], rOf [a, d1, d2]) := by
          show (if decide (d2.toI < (a.toL.length : Int)) = true then _ else _) = _
          rw [if_neg (by simpa using hge)]; rfl
        exact .done (mark_hold h1 h2 (by omega) (by omega)) hev
      · apply List.ext_getElem?
        intro j
        by_cases hj : j < a.toL.length
        · rw [h6 j (by omega) hj, List.getElem?_map, List.getElem?_range hj]; rfl
        · rw [List.getElem?_eq_none (by omega), List.getElem?_eq_none (by simp; omega)]
    induction m with
    | zero =>
      intro k0 a d1 d2 h1 h2 h3 h4 h5 h6 h7 h8
      obtain ⟨q1, q2⟩ := fin h1 h2 h3 h4 h5 h6 h7 (by omega)
      exact ⟨a, d1, q1, q2, by omega, .inr ⟨rfl, by omega⟩⟩
    | succ m ih =>
      intro k0 a d1 d2 h1 h2 h3 h4 h5 h6 h7 h8
      by_cases hlt : d2.toI < (a.toL.length : Int)
      · have hi : d2.toI.toNat < a.toL.length := by omega
        let r1 := Tree.upd (Tree.upd (Tree.upd (rOf [a, d1, d2]) 1000 (nrD d1.toI)) 1001 (nrD (d1.toI + 1))) 1002 (nrD (d1.toI + 2))
        have hev : evA U markT (rOf [a, d1, d2]) = some (.next [(.o3 .upd (.v 0) (.v 2) (.o2 .lpush (.o2 .lpush (.o2 .lpush (.o2 .lrep (.i 0) (.b false)) (.v 1000)) (.v 1001)) (.v 1002))), (.o2 .iadd (.v 1) (.i 3)), (.o2 .iadd (.v 2) (.i 1))], r1) := by
          show (if decide (d2.toI < (a.toL.length : Int)) = true then _ else _) = _
          rw [if_pos (by simpa using hlt)]
          rfl
        have hnext : ([(.o3 .upd (.v 0) (.v 2) (.o2 .lpush (.o2 .lpush (.o2 .lpush (.o2 .lrep (.i 0) (.b false)) (.v 1000)) (.v 1001)) (.v 1002))), (.o2 .iadd (.v 1) (.i 3)), (.o2 .iadd (.v 2) (.i 1))] : List E).map (E.ev U r1) =
            [.l (a.toL.set d2.toI.toNat (.l [nrD d1.toI, nrD (d1.toI + 1), nrD (d1.toI + 2)])), .i (d1.toI + 3), .i (d2.toI + 1)] := rfl
        have hel : D.l [nrD d1.toI, nrD (d1.toI + 1), nrD (d1.toI + 2)] = markEl k0 d2.toI.toNat := by
          unfold markEl
          have : d1.toI = k0 + 3 * (d2.toI.toNat : Int) := by omega
          rw [this]
        obtain ⟨a', d', q1, q2, q3, q4⟩ := ih k0 (.l (a.toL.set d2.toI.toNat (markEl k0 d2.toI.toNat))) (.i (d1.toI + 3)) (.i (d2.toI + 1)) (by show 0 ≤ d2.toI + 1; omega) (by rw [D.toL_l, List.length_set]; exact h2) h3 h4
          (by show d1.toI + 3 = k0 + 3 * (d2.toI + 1); omega) (fun j hj hj2 => by
            have hj : (j : Int) < d2.toI + 1 := hj
            rw [D.toL_l, List.length_set] at hj2
            rw [D.toL_l]
            by_cases hji : j = d2.toI.toNat
            · subst hji; rw [List.getElem?_set_self hi]
            · rw [List.getElem?_set_ne (Ne.symm hji)]; exact h6 j (by omega) hj2) (by rw [D.toL_l, List.length_set]; show d2.toI + 1 ≤ _; omega) (by rw [D.toL_l, List.length_set]; show a.toL.length - (d2.toI + 1).toNat ≤ m; omega)
        rw [D.toL_l, List.length_set] at q2 q3
        refine ⟨a', d', .next (mark_hold h1 h2 (by omega) (by omega)) hev (by rw [hnext, hel]; exact q1), q2, q3, ?_⟩
        rcases q4 with ⟨q4, _⟩ | ⟨q4, _⟩
        · exact .inl ⟨q4, hlt⟩
        · exact .inl ⟨by rw [q4]; rfl, hlt⟩
      · obtain ⟨q1, q2⟩ := fin h1 h2 h3 h4 h5 h6 h7 hlt
        exact ⟨a, d1, q1, q2, by omega, .inr ⟨rfl, by omega⟩⟩
  intro r es hlen hI hE hS
  have hcnt : (markA n).t.cnt = 3 := by rfl
  have hlen : es.length = 3 := hlen.trans hcnt
  match es, hlen with
  | [e0, e1, e2], _ =>
    obtain ⟨i0, i1, i2, i3⟩ := mark_inv hI
    have i4 := hE (.o2 .ieq (.v 2) (.i 0)) (by simp [markRun])
    have i5 := hE (.o2 .ile (.v 1) (.i 1048576)) (by simp [markRun])
    have i5 : (e1.ev U r).toI ≤ 1048576 := of_decide_eq_true i5
    have i4 : (e2.ev U r).toI = 0 := beq_iff_eq.1 i4
    obtain ⟨a', d', q1, q2, q3, q4⟩ := key (e0.ev U r).toL.length (e1.ev U r).toI (e0.ev U r) (e1.ev U r) (e2.ev U r) i0 i1 i2 (by omega) (by omega) (fun j hj => by omega) (by omega) (by omega)
    refine ⟨0, [a', d'], q1, rfl, (fun _ hx => by cases hx), fun e to hto j => ?_⟩
    have hto : some (Ex.exit 0, _) = some (e, to) := hto
    cases hto
    match j with
    | 0 =>
      refine ⟨?_, fun h => absurd h (by show ¬ 1 ≤ 0; omega)⟩
      show a'.toL = ((markE N e1 e0).ev U r).toL
      rw [markE_ev hN, q2]; rfl
    | 1 =>
      refine .of_eqv (behind_eqv q3 ?_)
      show (d' = .i d'.toI ∧ 0 < (e0.ev U r).toL.length) ∨ (d' = e1.ev U r ∧ (e0.ev U r).toL.length = 0)
      rcases q4 with ⟨q4, q5⟩ | ⟨q4, q5⟩
      · exact .inl ⟨q4, by omega⟩
      · exact .inr ⟨q4, by omega⟩
    | j + 2 => exact .of_eq rfl
theorem held_ends : ∀ (m : Nat) (k0 : Int) (a d1 d2 : D), 0 ≤ d2.toI → a.toL.length ≤ 1048576 → 0 ≤ k0 → k0 ≤ 1048576 → d1.toI = k0 + 3 * d2.toI → d2.toI ≤ a.toL.length → a.toL.length - d2.toI.toNat ≤ m → ∃ k os, LoopTo U markInv heldT [a, d1, d2] k os := by
  intro m
  have fin : ∀ {k0 : Int} {a d1 d2 : D}, 0 ≤ d2.toI → a.toL.length ≤ 1048576 → 0 ≤ k0 → k0 ≤ 1048576 → d1.toI = k0 + 3 * d2.toI → d2.toI ≤ a.toL.length → ¬ d2.toI < (a.toL.length : Int) → ∃ k os, LoopTo U markInv heldT [a, d1, d2] k os := by
    intro k0 a d1 d2 h1 h2 h3 h4 h5 h7 hge
    have hev : evA U heldT (rOf [a, d1, d2]) = some (.done 0 [.v 0, .v 1], rOf [a, d1, d2]) := by
      show (if decide (d2.toI < (a.toL.length : Int)) = true then _ else _) = _
      rw [if_neg (by simpa using hge)]; rfl
    exact ⟨0, _, .done (mark_hold h1 h2 (by omega) (by omega)) hev⟩
  induction m with
  | zero => intro k0 a d1 d2 h1 h2 h3 h4 h5 h7 h8; exact fin h1 h2 h3 h4 h5 h7 (by omega)
  | succ m ih =>
    intro k0 a d1 d2 h1 h2 h3 h4 h5 h7 h8
    by_cases hlt : d2.toI < (a.toL.length : Int)
    · have hh := mark_hold (U := U) (a := a) (d1 := d1) (d2 := d2) h1 h2 (by omega) (by omega)
      by_cases t0 : Fl.eq .f32 ((a.at_ d2.toI.toNat).at_ 0).toF (nrD d1.toI).toF = true
      · by_cases t1 : Fl.eq .f32 ((a.at_ d2.toI.toNat).at_ 1).toF (nrD (d1.toI + 1)).toF = true
        · by_cases t2 : Fl.eq .f32 ((a.at_ d2.toI.toNat).at_ 2).toF (nrD (d1.toI + 2)).toF = true
          · let r1 := Tree.upd (Tree.upd (Tree.upd (Tree.upd (Tree.upd (Tree.upd (rOf [a, d1, d2]) 1000 ((a.at_ d2.toI.toNat).at_ 0)) 1001 (nrD d1.toI)) 1002 ((a.at_ d2.toI.toNat).at_ 1)) 1003 (nrD (d1.toI + 1))) 1004 ((a.at_ d2.toI.toNat).at_ 2)) 1005 (nrD (d1.toI + 2))
            have hev : evA U heldT (rOf [a, d1, d2]) = some (.next [.v 0, .o2 .iadd (.v 1) (.i 3), .o2 .iadd (.v 2) (.i 1)], r1) := by
              show (if decide (d2.toI < (a.toL.length : Int)) = true then _ else _) = _
              rw [if_pos (by simpa using hlt)]
              show (if Fl.eq .f32 ((a.at_ d2.toI.toNat).at_ 0).toF (nrD d1.toI).toF = true then _ else _) = _
              rw [if_pos t0]
              show (if Fl.eq .f32 ((a.at_ d2.toI.toNat).at_ 1).toF (nrD (d1.toI + 1)).toF = true then _ else _) = _
              rw [if_pos t1]
              show (if Fl.eq .f32 ((a.at_ d2.toI.toNat).at_ 2).toF (nrD (d1.toI + 2)).toF = true then _ else _) = _
              rw [if_pos t2]
              rfl
            obtain ⟨k, os, q⟩ := ih k0 a (.i (d1.toI + 3)) (.i (d2.toI + 1)) (by show 0 ≤ d2.toI + 1; omega) h2 h3 h4 (by show d1.toI + 3 = k0 + 3 * (d2.toI + 1); omega) (by show d2.toI + 1 ≤ _; omega) (by show a.toL.length - (d2.toI + 1).toNat ≤ m; omega)
            exact ⟨k, os, .next hh hev q⟩
          · have hev : ∃ r', evA U heldT (rOf [a, d1, d2]) = some (.done 1 [.v 0, .i (-1)], r') := by
              show ∃ r', (if decide (d2.toI < (a.toL.length : Int)) = true then _ else _) = some (_, r')
              rw [if_pos (by simpa using hlt)]
              show ∃ r', (if Fl.eq .f32 ((a.at_ d2.toI.toNat).at_ 0).toF (nrD d1.toI).toF = true then _ else _) = some (_, r')
              rw [if_pos t0]
              show ∃ r', (if Fl.eq .f32 ((a.at_ d2.toI.toNat).at_ 1).toF (nrD (d1.toI + 1)).toF = true then _ else _) = some (_, r')
              rw [if_pos t1]
              show ∃ r', (if Fl.eq .f32 ((a.at_ d2.toI.toNat).at_ 2).toF (nrD (d1.toI + 2)).toF = true then _ else _) = some (_, r')
              rw [if_neg t2]
              exact ⟨_, rfl⟩
            obtain ⟨r', hev⟩ := hev
            exact ⟨1, _, .done hh hev⟩
        · have hev : ∃ r', evA U heldT (rOf [a, d1, d2]) = some (.done 1 [.v 0, .i (-1)], r') := by
            show ∃ r', (if decide (d2.toI < (a.toL.length : Int)) = true then _ else _) = some (_, r')
            rw [if_pos (by simpa using hlt)]
            show ∃ r', (if Fl.eq .f32 ((a.at_ d2.toI.toNat).at_ 0).toF (nrD d1.toI).toF = true then _ else _) = some (_, r')
            rw [if_pos t0]
            show ∃ r', (if Fl.eq .f32 ((a.at_ d2.toI.toNat).at_ 1).toF (nrD (d1.toI + 1)).toF = true then _ else _) = some (_, r')
            rw [if_neg t1]
            exact ⟨_, rfl⟩
          obtain ⟨r', hev⟩ := hev
          exact ⟨1, _, .done hh hev⟩
      · have hev : ∃ r', evA U heldT (rOf [a, d1, d2]) = some (.done 1 [.v 0, .i (-1)], r') := by
          show ∃ r', (if decide (d2.toI < (a.toL.length : Int)) = true then _ else _) = some (_, r')
          rw [if_pos (by simpa using hlt)]
          show ∃ r', (if Fl.eq .f32 ((a.at_ d2.toI.toNat).at_ 0).toF (nrD d1.toI).toF = true then _ else _) = some (_, r')
          rw [if_neg t0]
          exact ⟨_, rfl⟩
        obtain ⟨r', hev⟩ := hev
        exact ⟨1, _, .done hh hev⟩
    · exact fin h1 h2 h3 h4 h5 h7 hlt

theorem held_okA : okA 1000 heldT = true := by rfl
theorem held_keeps : keepsT [0] heldOuts heldT = true := by rfl

/-- A LOOP THAT ASKS FOR THE MARKS: of a row that holds them it goes out by the first way. -/
theorem held_told {n N W : Nat} {T : Tree LRes} (hT : T = heldT) (hN : ∀ d, U N d = markD d) (hU : ∀ d, U W d = loopVal U markInv heldT d) : Told U T (heldRun n N W) := by
  intro r es hlen hI hE hS
  cases hm : isMark N (nmOf es 1) (nmOf es 0) with
  | false =>
    subst hT
    have hcnt : (heldA n).t.cnt = 3 := by rfl
    have hlen : es.length = 3 := hlen.trans hcnt
    match es, hlen with
    | [e0, e1, e2], _ =>
      obtain ⟨i0, i1, i2, i3⟩ := mark_inv hI
      have i4 := hE (.o2 .ieq (.v 2) (.i 0)) (by simp [heldRun])
      have i5 := hE (.o2 .ile (.v 1) (.i 1048576)) (by simp [heldRun])
      have i5 : (e1.ev U r).toI ≤ 1048576 := of_decide_eq_true i5
      have i4 : (e2.ev U r).toI = 0 := beq_iff_eq.1 i4
      obtain ⟨k, os, hto⟩ := held_ends (U := U) (e0.ev U r).toL.length (e1.ev U r).toI (e0.ev U r) (e1.ev U r) (e2.ev U r) i0 i1 i2 (by omega) (by omega) (by omega) (by omega)
      have hto : LoopTo U markInv heldT ([e0, e1, e2].map (E.ev U r)) k os := hto
      obtain ⟨h1, h2⟩ := word_ev hU hto
      have hm : isMark N e1 e0 = false := hm
      refine ⟨k, os, hto, ?_, (fun _ hx => by cases hx), fun e to _ j => .of_eqv ?_⟩
      · show ((if isMark N e1 e0 then E.i 0 else tagW W [e0, e1, e2]).ev U r).toI = k
        rw [hm]; exact h1
      have hres : (heldRun n N W).res k [e0, e1, e2] = resW W heldOuts [e0, e1, e2] k [e0, e1, e2] := by
        show (if isMark N e1 e0 then [e0, behindE e1 e0] else resW W heldOuts [e0, e1, e2] k [e0, e1, e2]) = _
        rw [hm]; rfl
      rw [hres]
      obtain ⟨l, q1, q2, q3⟩ := keeps_loop (C := [0]) (outs := heldOuts) (fun c hc => by rw [List.mem_singleton.1 hc]; omega) held_okA held_keeps hto
      rw [resW_get W heldOuts [e0, e1, e2] k [e0, e1, e2] q1 j]
      cases hx : l[j]? with
      | none =>
        rw [rOf_none (by rw [← q2]; exact List.getElem?_eq_none_iff.1 hx)]
        exact D.eqv.refl _
      | some o =>
        have h4 := q3 j o hx
        cases o with
        | same c => dsimp only at h4 ⊢; rw [h4.2, evs_rOf]; exact D.eqv.refl _
        | lit e => dsimp only at h4 ⊢; rw [h4 r]; exact D.eqv.refl _
        | val i =>
          dsimp only
          rw [h2 i]
          have : i = j := by
            have hown : heldOuts.all (ownVals 0) = true := rfl
            rw [List.all_eq_true] at hown
            have := ownVals_get (hown l (List.mem_of_getElem? q1)) hx
            omega
          rw [this]; exact D.eqv.refl _
  | true =>
    subst hT
    have key : ∀ (m : Nat) (k0 : Int) (a d1 d2 : D), 0 ≤ d2.toI → a.toL.length ≤ 1048576 → 0 ≤ k0 → k0 ≤ 1048576 → d1.toI = k0 + 3 * d2.toI → (∀ j : Nat, j < a.toL.length → a.toL[j]? = some (markEl k0 j)) → d2.toI ≤ a.toL.length → a.toL.length - d2.toI.toNat ≤ m →
        ∃ d', LoopTo U markInv heldT [a, d1, d2] 0 [a, d'] ∧ d'.toI = k0 + 3 * a.toL.length ∧ ((d' = .i d'.toI ∧ d2.toI < a.toL.length) ∨ (d' = d1 ∧ d2.toI = a.toL.length)) := by
      intro m
      have fin : ∀ {k0 : Int} {a d1 d2 : D}, 0 ≤ d2.toI → a.toL.length ≤ 1048576 → 0 ≤ k0 → k0 ≤ 1048576 → d1.toI = k0 + 3 * d2.toI → d2.toI ≤ a.toL.length → ¬ d2.toI < (a.toL.length : Int) → LoopTo U markInv heldT [a, d1, d2] 0 [a, d1] := by
        intro k0 a d1 d2 h1 h2 h3 h4 h5 h7 hge
        have hev : evA U heldT (rOf [a, d1, d2]) = some (.done 0 [.v 0, .v 1], rOf [a, d1, d2]) := by
          show (if decide (d2.toI < (a.toL.length : Int)) = true then _ else _) = _
          rw [if_neg (by simpa using hge)]; rfl
        exact .done (mark_hold h1 h2 (by omega) (by omega)) hev
      induction m with
      | zero =>
        intro k0 a d1 d2 h1 h2 h3 h4 h5 h6 h7 h8
        exact ⟨d1, fin h1 h2 h3 h4 h5 h7 (by omega), by omega, .inr ⟨rfl, by omega⟩⟩
      | succ m ih =>
        intro k0 a d1 d2 h1 h2 h3 h4 h5 h6 h7 h8
        by_cases hlt : d2.toI < (a.toL.length : Int)
        · have hi : d2.toI.toNat < a.toL.length := by omega
          have hel : a.at_ d2.toI.toNat = .l [nrD d1.toI, nrD (d1.toI + 1), nrD (d1.toI + 2)] := by
            show a.toL.getD d2.toI.toNat _ = _
            rw [List.getD_eq_getElem?_getD, h6 _ hi]
            have : d1.toI = k0 + 3 * (d2.toI.toNat : Int) := by omega
            rw [this]; rfl
          let r1 := Tree.upd (Tree.upd (Tree.upd (Tree.upd (Tree.upd (Tree.upd (rOf [a, d1, d2]) 1000 ((a.at_ d2.toI.toNat).at_ 0)) 1001 (nrD d1.toI)) 1002 ((a.at_ d2.toI.toNat).at_ 1)) 1003 (nrD (d1.toI + 1))) 1004 ((a.at_ d2.toI.toNat).at_ 2)) 1005 (nrD (d1.toI + 2))
          have hev : evA U heldT (rOf [a, d1, d2]) = some (.next [.v 0, .o2 .iadd (.v 1) (.i 3), .o2 .iadd (.v 2) (.i 1)], r1) := by
            have t0 : Fl.eq .f32 ((a.at_ d2.toI.toNat).at_ 0).toF (nrD d1.toI).toF = true := by rw [hel]; exact nr_eq _
            have t1 : Fl.eq .f32 ((a.at_ d2.toI.toNat).at_ 1).toF (nrD (d1.toI + 1)).toF = true := by rw [hel]; exact nr_eq _
            have t2 : Fl.eq .f32 ((a.at_ d2.toI.toNat).at_ 2).toF (nrD (d1.toI + 2)).toF = true := by rw [hel]; exact nr_eq _
            show (if decide (d2.toI < (a.toL.length : Int)) = true then _ else _) = _
            rw [if_pos (by simpa using hlt)]
            show (if Fl.eq .f32 ((a.at_ d2.toI.toNat).at_ 0).toF (nrD d1.toI).toF = true then _ else _) = _
            rw [if_pos t0]
            show (if Fl.eq .f32 ((a.at_ d2.toI.toNat).at_ 1).toF (nrD (d1.toI + 1)).toF = true then _ else _) = _
            rw [if_pos t1]
            show (if Fl.eq .f32 ((a.at_ d2.toI.toNat).at_ 2).toF (nrD (d1.toI + 2)).toF = true then _ else _) = _
            rw [if_pos t2]
            rfl
          obtain ⟨d', q1, q3, q4⟩ := ih k0 a (.i (d1.toI + 3)) (.i (d2.toI + 1)) (by show 0 ≤ d2.toI + 1; omega) h2 h3 h4 (by show d1.toI + 3 = k0 + 3 * (d2.toI + 1); omega) h6 (by show d2.toI + 1 ≤ _; omega) (by show a.toL.length - (d2.toI + 1).toNat ≤ m; omega)
          refine ⟨d', .next (mark_hold h1 h2 (by omega) (by omega)) hev q1, q3, ?_⟩
          rcases q4 with ⟨q4, _⟩ | ⟨q4, _⟩
          · exact .inl ⟨q4, hlt⟩
          · exact .inl ⟨by rw [q4]; rfl, hlt⟩
        · exact ⟨d1, fin h1 h2 h3 h4 h5 h7 hlt, by omega, .inr ⟨rfl, by omega⟩⟩
    have hcnt : (heldA n).t.cnt = 3 := by rfl
    have hlen : es.length = 3 := hlen.trans hcnt
    match es, hlen with
    | [e0, e1, e2], _ =>
      obtain ⟨i0, i1, i2, i3⟩ := mark_inv hI
      have i4 := hE (.o2 .ieq (.v 2) (.i 0)) (by simp [heldRun])
      have i5 := hE (.o2 .ile (.v 1) (.i 1048576)) (by simp [heldRun])
      have i5 : (e1.ev U r).toI ≤ 1048576 := of_decide_eq_true i5
      have i4 : (e2.ev U r).toI = 0 := beq_iff_eq.1 i4
      have hm : isMark N e1 e0 = true := hm
      obtain ⟨z, hz0, hz⟩ := isMark_ev (U := U) (r := r) hN hm
      have hall : ∀ j : Nat, j < (e0.ev U r).toL.length → (e0.ev U r).toL[j]? = some (markEl (e1.ev U r).toI j) := by
        intro j hj
        rw [hz, D.toL_l] at hj ⊢
        rw [List.length_map, List.length_range] at hj
        rw [List.getElem?_map, List.getElem?_range hj]; rfl
      obtain ⟨d', q1, q3, q4⟩ := key (e0.ev U r).toL.length (e1.ev U r).toI (e0.ev U r) (e1.ev U r) (e2.ev U r) i0 i1 i2 (by omega) (by omega) hall (by omega) (by omega)
      refine ⟨0, [e0.ev U r, d'], q1, ?_, (fun _ hx => by cases hx), fun e to hto j => ?_⟩
      · show ((if isMark N e1 e0 then E.i 0 else tagW W [e0, e1, e2]).ev U r).toI = 0
        rw [hm]; rfl
      have hto : some (Ex.exit 0, _) = some (e, to) := hto
      cases hto
      have hres : (heldRun n N W).res 0 [e0, e1, e2] = [e0, behindE e1 e0] := by
        show (if isMark N e1 e0 then [e0, behindE e1 e0] else resW W heldOuts [e0, e1, e2] 0 [e0, e1, e2]) = _
        rw [hm]; rfl
      rw [hres]
      match j with
      | 0 => exact .of_eq rfl
      | 1 =>
        refine .of_eqv (behind_eqv q3 ?_)
        show (d' = .i d'.toI ∧ 0 < (e0.ev U r).toL.length) ∨ (d' = e1.ev U r ∧ (e0.ev U r).toL.length = 0)
        rcases q4 with ⟨q4, q5⟩ | ⟨q4, q5⟩
        · exact .inl ⟨q4, by omega⟩
        · exact .inr ⟨q4, by omega⟩
      | j + 2 => exact .of_eq rfl
end
end Go.Sx
