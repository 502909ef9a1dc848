/-
  Sx, part Ln: loops that keep a row's length: what they leave bears it in its form.
-/
import Derived.Test.YtagchccdnpofaaaSxPt
namespace Go.Sx
open E (mk1 mk2 mkIte mk1_ev mk2_ev mkIte_ev)

/-- A row that is as long as another. -/
def lenE (row x : E) : E := .o3 .lsub (.o2 .lapp x (.o2 .lrep (mk1 .llen row) (.b false))) (.i 0) (mk1 .llen row)
theorem lenE_ev {U : Nat → D → D} {r : Nat → D} {row x : E} (h : (x.ev U r).toL.length = (row.ev U r).toL.length) : ((lenE row x).ev U r).toL = (x.ev U r).toL := by
  have hl : (mk1 .llen row).ev U r = .i ((row.ev U r).toL.length : Nat) := by rw [mk1_ev]; rfl
  unfold lenE
  simp only [E.ev, O3.ev, O2.ev, hl]
  simp only [D.toL, D.toI, Int.toNat_zero, List.drop_zero, Nat.sub_zero, Int.toNat_natCast]
  exact List.take_left' h

/-- Every way of a round keeps the length of row 'b'; the first way out leaves it at 'j'. -/
def keepLen (b j : Nat) : Nat → Tree LRes → Bool
  | _, .ret (.next es) => (mk1 .llen (nmOf es b)).same (.o1 .llen (.v b))
  | _, .ret (.done 0 es) => (mk1 .llen (nmOf es j)).same (.o1 .llen (.v b))
  | _, .ret (.done _ _) => true
  | _, .ret .stuck => true
  | m, .ite _ t e => keepLen b j m t && keepLen b j m e
  | m, .chk (.o2 .fsame (.v i) _) t => Nat.blt b i && keepLen b j m t
  | _, _ => false
section
variable {U : Nat → D → D}
theorem keepLen_ok {b j : Nat} : ∀ {t : Tree LRes} {m : Nat} {r : Nat → D} {x : LRes} {r' : Nat → D}, keepLen b j m t = true → evA U t r = some (x, r') →
    (match x with
      | .next es => ((nmOf es b).ev U r').toL.length = (r b).toL.length
      | .done 0 es => ((nmOf es j).ev U r').toL.length = (r b).toL.length
      | _ => True) := by
  have one : ∀ {e : E} {r r' : Nat → D}, (mk1 .llen e).same (.o1 .llen (.v b)) = true → r' b = r b → (e.ev U r').toL.length = (r b).toL.length := by
    intro e r r' h hb
    have h1 : (mk1 .llen e).ev U r' = (E.o1 .llen (.v b)).ev U r' := by rw [E.same_eq h]
    rw [mk1_ev] at h1
    have h2 : D.i ((e.ev U r').toL.length : Nat) = D.i ((r' b).toL.length : Nat) := h1
    injection h2 with h3
    rw [← hb]; omega
  intro t
  induction t with
  | ret x =>
    intro m r x' r' h he
    simp only [evA, Option.some.injEq, Prod.mk.injEq] at he
    obtain ⟨rfl, rfl⟩ := he
    cases x with
    | next es => exact one h rfl
    | done k es =>
      cases k with
      | zero => exact one h rfl
      | succ k => trivial
    | stuck => trivial
  | ite c t e iht ihe =>
    intro m r x r' h he
    simp only [keepLen, Bool.and_eq_true] at h
    simp only [evA] at he
    split at he
    · exact iht h.1 he
    · exact ihe h.2 he
  | chk c t ih =>
    intro m r x r' h he
    unfold keepLen at h
    split at h
    · cases ‹Tree.chk c t = _›
    · cases ‹Tree.chk c t = _›
    · cases ‹Tree.chk c t = _›
    · cases ‹Tree.chk c t = _›
    · cases ‹Tree.chk c t = _›
    · rename_i i e t' heq
      cases heq
      rw [Bool.and_eq_true, Nat.blt_eq] at h
      simp only [evA] at he
      have h1 := ih h.2 he
      have hb : Tree.upd r i (e.ev U r) b = r b := by unfold Tree.upd; rw [if_neg (by omega)]
      rw [hb] at h1
      exact h1
    · cases h
  | all i t _ => intro m r x r' h _; simp [keepLen] at h
  | asm c t _ => intro m r x r' h _; simp [keepLen] at h
  | bad => intro m r x r' h _; simp [keepLen] at h

theorem keepLen_loop {inv : List E} {T : Tree LRes} {b j : Nat} (hk : keepLen b j 0 T = true) {ds : List D} {k : Nat} {os : List D} (h : LoopTo U inv T ds k os) : k = 0 → (rOf os j).toL.length = (rOf ds b).toL.length := by
  induction h with
  | @done ds k es r' hI he =>
    intro hk0
    subst hk0
    have := keepLen_ok hk he
    rw [evs_rOf]; exact this
  | @next ds es r' k os hI he _ ih =>
    intro hk0
    have := keepLen_ok hk he
    dsimp only at this
    rw [ih hk0, evs_rOf]; exact this

/-- What such a loop leaves by its first way, told with the length. -/
def lenRun (R : LRun) (b j : Nat) : LRun := { R with res := fun k es => if k = 0 then (R.res 0 es).set j (lenE (nmOf es b) (nmOf (R.res 0 es) j)) else R.res k es }
theorem len_told {R : LRun} {T : Tree LRes} {b j : Nat} (ht : Told U T R) (hk : keepLen b j 0 T = true) (hj : (R.loop.outs.all fun o => Nat.blt j o.2.blks.length) = true) : Told U T (lenRun R b j) := by
  intro r es h1 h2 h3 h4
  obtain ⟨k, os, q1, q2, q3, q4⟩ := ht r es h1 h2 h3 h4
  refine ⟨k, os, q1, q2, q3, fun e to hto i => ?_⟩
  have h5 := q4 e to hto i
  show EqAt to.blks.length i (rOf os i) ((nmOf (if k = 0 then (R.res 0 es).set j (lenE (nmOf es b) (nmOf (R.res 0 es) j)) else R.res k es) i).ev U r)
  by_cases hk0 : k = 0
  · subst hk0
    rw [if_pos rfl]
    by_cases hij : i = j
    · subst hij
      have hjl : i < to.blks.length := by
        rw [List.all_eq_true] at hj
        have := hj (e, to) (List.mem_of_getElem? hto)
        rwa [Nat.blt_eq] at this
      have hlen := keepLen_loop hk q1 rfl
      rw [evs_rOf] at hlen
      refine ⟨?_, fun h => by omega⟩
      by_cases hlt : i < (R.res 0 es).length
      · have hnm : nmOf ((R.res 0 es).set i (lenE (nmOf es b) (nmOf (R.res 0 es) i))) i = lenE (nmOf es b) (nmOf (R.res 0 es) i) := by
          unfold nmOf
          rw [List.getD_eq_getElem?_getD, List.getElem?_set_self hlt]; rfl
        rw [hnm, lenE_ev (by rw [← h5.1]; exact hlen)]
        exact h5.1
      · rw [List.set_eq_of_length_le (by omega)]; exact h5.1
    · have hnm : nmOf ((R.res 0 es).set j (lenE (nmOf es b) (nmOf (R.res 0 es) j))) i = nmOf (R.res 0 es) i := by
        unfold nmOf
        rw [List.getD_eq_getElem?_getD, List.getElem?_set_ne (Ne.symm hij), List.getD_eq_getElem?_getD]
      rw [hnm]; exact h5
  · rw [if_neg hk0]; exact h5
end
end Go.Sx
