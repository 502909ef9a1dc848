/-
  Sx, part Pv: a function that answers with some float32 together and changes nothing, taken as words of what is handed over.
-/
import Derived.Test.YtcloacigldklkaaDoorSxPy
import Derived.Test.YtcloacigldklkaaDoorSxSi
namespace Go.Sx.Pv
open E (mk1 mk2 mkIte mk1_ev mk2_ev mkIte_ev)

def fltsE : List SV → Option (List E)
  | [] => some []
  | .flt .f32 e :: l => (fltsE l).map (e :: ·)
  | _ => none
theorem fltsE_eq : ∀ {l : List SV} {es : List E}, fltsE l = some es → l = es.map fun e => .flt .f32 e := by
  intro l
  induction l with
  | nil => intro es h; cases h; rfl
  | cons a l ih =>
    intro es h
    unfold fltsE at h
    split at h
    · cases ‹_ :: _ = []›
    · rename_i e l' heq
      cases heq
      obtain ⟨es', h1, rfl⟩ := Option.map_eq_some_iff.1 h
      rw [ih h1]; rfl
    · cases h
/-- What a tree answers. -/
def evF (U : Nat → D → D) : Tree (SV × Cx) → (Nat → D) → List Fl
  | .ret (.agg l, _), r => (match fltsE l with
    | some es => es.map fun e => (e.ev U r).toF
    | none => [])
  | .ite c t f, r => if (c.ev U r).toB then evF U t r else evF U f r
  | .chk (.o2 .fsame (.v i) d) t, r => evF U t (Tree.upd r i (d.ev U r))
  | _, _ => []
def okF (k : Nat) : Nat → List Nat → Tree (SV × Cx) → Bool
  | m, N, .ret (.agg l, _) => (match fltsE l with
    | some es => Nat.beq es.length k && es.all fun e => e.under m && fwE N e
    | none => false)
  | m, N, .ite c t f => c.under m && (okF k m N t && okF k m N f)
  | m, N, .chk (.o2 .fsame (.v i) d) t => Nat.ble m i && (d.under m && okF k (i + 1) (if fwE N d then i :: N else N) t)
  | _, _, _ => false
section
variable {U U' : Nat → D → D} {k : Nat}
theorem okF_chk {m : Nat} {N : List Nat} {c : E} {t : Tree (SV × Cx)} (h : okF k m N (.chk c t) = true) : ∃ i d, c = .o2 .fsame (.v i) d ∧ m ≤ i ∧ d.under m = true ∧ okF k (i + 1) (if fwE N d then i :: N else N) t = true := by
  unfold okF at h
  split at h
  · cases ‹Tree.chk c t = _›
  · cases ‹Tree.chk c t = _›
  · rename_i i d t' heq
    cases heq
    simp only [Bool.and_eq_true] at h
    exact ⟨i, d, rfl, Nat.le_of_ble_eq_true h.1, h.2.1, h.2.2⟩
  · cases h
theorem okF_ret {m : Nat} {N : List Nat} {x : SV × Cx} (h : okF k m N (.ret x) = true) : ∃ (es : List E) (c : Cx), x = (.agg (es.map fun e => .flt .f32 e), c) ∧ es.length = k ∧ ∀ e ∈ es, e.under m = true ∧ fwE N e = true := by
  unfold okF at h
  split at h
  · rename_i l c heq
    cases heq
    split at h
    · rename_i es hes
      rw [Bool.and_eq_true] at h
      refine ⟨es, c, by rw [← fltsE_eq hes], Nat.eq_of_beq_eq_true h.1, fun e he => ?_⟩
      have := List.all_eq_true.1 h.2 e he
      rwa [Bool.and_eq_true] at this
    · cases h
  · cases ‹Tree.ret x = _›
  · cases ‹Tree.ret x = _›
  · cases h
theorem fltsE_map (es : List E) : fltsE (es.map fun e => .flt .f32 e) = some es := by
  induction es with
  | nil => rfl
  | cons e es ih => show (fltsE (es.map _)).map (e :: ·) = _; rw [ih]; rfl
theorem evF_sat : ∀ {t : Tree (SV × Cx)} {m : Nat} {N : List Nat} {r : Nat → D}, okF k m N t = true → (∀ i ∈ N, i < m ∧ wfF (r i).toF = true) →
    ∃ (es : List E) (c1 : Cx) (r'' : Nat → D), (∀ n, n < m → r'' n = r n) ∧ (∀ Q : (Nat → D) → SV × Cx → Prop, Q r'' (.agg (es.map fun e => .flt .f32 e), c1) → t.sat U Q r'') ∧ (es.map fun e => (e.ev U r'').toF) = evF U t r ∧ es.length = k ∧ ∀ x ∈ evF U t r, wfF x = true := by
  intro t
  induction t with
  | ret x =>
    intro m N r h hN
    obtain ⟨es, c, rfl, hk, h2⟩ := okF_ret h
    have hv : evF U (.ret (.agg (es.map fun e => .flt .f32 e), c)) r = es.map fun e => (e.ev U r).toF := by simp only [evF, fltsE_map]
    refine ⟨es, c, r, fun _ _ => rfl, fun _ hq => hq, hv.symm, hk, fun x hx => ?_⟩
    rw [hv] at hx
    obtain ⟨e, he, rfl⟩ := List.mem_map.1 hx
    exact fwE_ok (fun i hi => (hN i hi).2) (h2 e he).2
  | ite c t f iht ihf =>
    intro m N r h hN
    simp only [okF, Bool.and_eq_true] at h
    cases hb : (c.ev U r).toB with
    | true =>
      obtain ⟨e, c1, r'', q1, q2, q3, q4, q5⟩ := iht h.2.1 hN
      have hv : evF U (.ite c t f) r = evF U t r := by simp only [evF, hb, if_true]
      refine ⟨e, c1, r'', q1, fun Q hQ => ?_, by rw [hv]; exact q3, q4, by rw [hv]; exact q5⟩
      simp only [Tree.sat]
      rw [if_pos (by rw [E.ev_under U q1 h.1]; exact hb)]
      exact q2 Q hQ
    | false =>
      obtain ⟨e, c1, r'', q1, q2, q3, q4, q5⟩ := ihf h.2.2 hN
      have hv : evF U (.ite c t f) r = evF U f r := by simp only [evF, hb]; rfl
      refine ⟨e, c1, r'', q1, fun Q hQ => ?_, by rw [hv]; exact q3, q4, by rw [hv]; exact q5⟩
      simp only [Tree.sat]
      rw [if_neg (by rw [E.ev_under U q1 h.1, hb]; exact Bool.false_ne_true)]
      exact q2 Q hQ
  | chk c t ih =>
    intro m N r h hN
    obtain ⟨i, d, rfl, hm, hd, h⟩ := okF_chk h
    obtain ⟨e, c1, r'', q1, q2, q3, q4, q5⟩ := ih (r := Tree.upd r i (d.ev U r)) h (fun j hj => by
      have old : ∀ j ∈ N, j < i + 1 ∧ wfF (Tree.upd r i (d.ev U r) j).toF = true := fun j hj => by
        obtain ⟨h1, h2⟩ := hN j hj
        rw [upd_low (by omega)]
        exact ⟨by omega, h2⟩
      split at hj
      · rename_i hw
        rcases List.mem_cons.1 hj with rfl | hj
        · refine ⟨by omega, ?_⟩
          unfold Tree.upd
          rw [if_pos rfl]
          exact fwE_ok (fun i hi => (hN i hi).2) hw
        · exact old j hj
      · exact old j hj)
    have hlow : ∀ n, n < m → r'' n = r n := fun n hn => by rw [q1 n (by omega)]; exact upd_low (by omega)
    refine ⟨e, c1, r'', hlow, fun Q hQ => ?_, q3, q4, q5⟩
    simp only [Tree.sat]
    refine ⟨?_, q2 Q hQ⟩
    have : r'' i = d.ev U r := by rw [q1 i (by omega)]; unfold Tree.upd; rw [if_pos rfl]
    simp only [E.ev, O2.ev, D.toB_b, this, E.ev_under U hlow hd, beq_self_eq_true]
  | all i t _ => intro m N r h; cases h
  | asm c t _ => intro m N r h; cases h
  | bad => intro m N r h; cases h

/-- The words' value. -/
def vecVal (U : Nat → D → D) (t : Tree (SV × Cx)) (d : D) : D := .p (.i 0) (.l ((evF U t (rOf d.toL)).map D.f))
/-- A function as words. -/
def vecRun (p : HPat) (N0 : List Nat) (cnt n k : Nat) (other : List SV → Cx → Tree (SV × Cx)) (args : List SV) (c : Cx) : Tree (SV × Cx) :=
  match p.seek args c.h with
  | (m, bls) => if p.ok m bls args c && ((m.all fun q => Nat.blt q.1 cnt) && N0.all (fltAt m args)) then (match subAll m ((List.range cnt).map E.v) with
      | some ws => .ret (.agg ((List.range k).map fun j => .flt .f32 (valW n ws j)), ⟨c.h, c.nv, morePc m c.pc p.pc ++ c.pc⟩)
      | none => other args c) else other args c
def vecOk (p : HPat) (N0 : List Nat) (cnt k : Nat) (t : Tree (SV × Cx)) : Bool := okF k 1000 N0 t && (Nat.ble cnt 1000 && ((N0.all fun i => Nat.blt i cnt) && p.hs.all fun b => !b.wr))
end
section
variable {U : Nat → D → D} {P : Program}
theorem vec_ok {cf : FuncId → List SV → Cx → Tree (SV × Cx)} {other : List SV → Cx → Tree (SV × Cx)} (hcf : CallsOk U P cf) {f : FuncId} (p : HPat) (N0 : List Nat) (cnt n k : Nat) {t : Tree (SV × Cx)} (ht : cf f p.as p.c0 = t) (hU : ∀ d, U n d = vecVal U t d) (hm : vecOk p N0 cnt k t = true) (ho : EntryOk U P f other) : EntryOk U P f (vecRun p N0 cnt n k other) := by
  intro args c L r g w vs K hh hp hd h
  unfold vecRun at h
  split at h
  rename_i m bls _
  split at h
  case isFalse => exact ho args c L r g w vs K hh hp hd h
  rename_i hok
  split at h
  case h_2 => exact ho args c L r g w vs K hh hp hd h
  rename_i ws hws
  rw [Bool.and_eq_true] at hok
  obtain ⟨hok, hm1⟩ := hok
  rw [Bool.and_eq_true] at hm1
  obtain ⟨hm1, hN0⟩ := hm1
  have hok' := hok
  simp only [HPat.ok, Bool.and_eq_true] at hok'
  have hpc := hok'.2.2.2.2
  simp only [vecOk, Bool.and_eq_true] at hm
  obtain ⟨h1, h2, h4, h5⟩ := hm
  have hcnt := Nat.le_of_ble_eq_true h2
  have hf0 := fillM_ok (U := U) (r := r) m
  have e1 := subAll_ev hf0 hws
  rw [List.map_map] at e1
  -- the word's own valuation
  have hat : ∀ i, i < cnt → rOf (ws.map (E.ev U r)) i = fillM U r m i := fun i hi => by
    rw [e1]
    unfold rOf
    rw [List.getD_eq_getElem?_getD, List.getElem?_map, List.getElem?_range hi]
    rfl
  obtain ⟨es, c1, r'', q1, q2, q3, q4, q5⟩ := evF_sat (U := U) (r := rOf (ws.map (E.ev U r))) h1 (fun i hi => by
    have hi1 : i < cnt := by have := List.all_eq_true.1 h4 i hi; rwa [Nat.blt_eq] at this
    refine ⟨by omega, ?_⟩
    rw [hat i hi1]
    have h6 := List.all_eq_true.1 hN0 i hi
    unfold fltAt at h6
    split at h6
    · rename_i x hx
      rw [hf0 i x hx]
      obtain ⟨s, hs, hs'⟩ := List.any_eq_true.1 h6
      split at hs'
      · rename_i e'
        rw [← E.same_eq hs']
        obtain ⟨q, hq⟩ := List.getElem?_of_mem hs
        obtain ⟨v, _, hv⟩ := SV.denL_get U r g L hd hq
        simp only [SV.den] at hv
        obtain ⟨b, _, hb, hc⟩ := hv
        rw [← hc]
        exact wf_cn hb
      · cases hs'
    · cases h6)
  have hf : Fills U r r'' m := fun j x hj => by
    have hlt : j < cnt := by
      have := List.all_eq_true.1 hm1 _ (lkM_mem hj)
      rwa [Nat.blt_eq] at this
    rw [q1 j (by omega), hat j hlt]; exact hf0 j x hj
  refine memo_core hcf hh hp hd hok hf ?_
  rw [ht]
  refine q2 _ ?_
  intro g1 v w' he hd1
  have frm : Frm (fun _ => False) w w' := by
    have f := he.frm
    refine ⟨f.os, f.tape, f.output, f.size, fun z hz _ => f.block z hz ?_⟩
    rintro ⟨id, b, _, k2, k3, _⟩
    simp only [HPat.c0, List.getElem?_map, Option.map_eq_some_iff, Option.some.injEq, exists_eq_right] at k2
    have := List.all_eq_true.1 h5 b (List.mem_of_getElem? k2)
    rw [k3] at this; cases this
  refine h g v w' (ext_frame (c' := ⟨c.h, c.nv, morePc m c.pc p.pc ++ c.pc⟩) hh rfl (Nat.le_refl _) (fun x hx => (List.mem_append.1 hx).elim (fun h => morePc_ok hp hpc x h) (fun h => hp x h)) frm) ?_
  have hv : ∀ j : Nat, ((valW n ws j).ev U r).toF = ((evF U t (rOf (ws.map (E.ev U r)))).map D.f |>.getD j (.b false)).toF := fun j => by
    show (D.at_ (D.snd (U n ((elemE ws).ev U r))) j).toF = _
    rw [hU, elemE_ev]
    rfl
  simp only [SV.den] at hd1 ⊢
  obtain ⟨xs, rfl, hd1⟩ := hd1
  refine ⟨xs, rfl, ?_⟩
  have hlen := SV.denL_length U _ _ _ hd1
  rw [List.length_map] at hlen
  refine SV.denL_of U _ _ _ (by rw [List.length_map, List.length_range]; omega) fun j s v h1 h2 => ?_
  rw [List.getElem?_map, Option.map_eq_some_iff] at h1
  obtain ⟨j', hj, rfl⟩ := h1
  have hj' : j < k ∧ j' = j := by
    have hlt : j < (List.range k).length := (List.getElem?_eq_some_iff.1 hj).1
    rw [List.length_range] at hlt
    rw [List.getElem?_range hlt] at hj
    exact ⟨hlt, (Option.some.inj hj).symm⟩
  obtain ⟨hjk, rfl⟩ := hj'
  obtain ⟨e, he⟩ : ∃ e, es[j']? = some e := ⟨_, List.getElem?_eq_getElem (by omega)⟩
  obtain ⟨v', hv', hden⟩ := SV.denL_get U _ _ _ hd1 (i := j') (c := .flt .f32 e) (by rw [List.getElem?_map, he]; rfl)
  have hvv : v = v' := by rw [h2] at hv'; exact Option.some.inj hv'
  subst hvv
  simp only [SV.den] at hden ⊢
  rw [hv]
  rw [← q3, List.map_map, List.getD_eq_getElem?_getD, List.getElem?_map, he]
  exact hden
end
end Go.Sx.Pv
