/-
  Sx, part Py: a function that answers with a float32 and changes nothing, taken as one word of what is handed over.
-/
import Derived.Test.YtcloacigldklkaaDoorSxPs
namespace Go.Sx
open E (mk1 mk2 mkIte mk1_ev mk2_ev mkIte_ev)

/-- Is a float one of the kind? -/
def wfF (x : Fl) : Bool := match x with
  | none => true
  | some b => decide (b < 2 ^ 32) && !isNanW .f32 b
theorem wfF_wf {x : Fl} (h : wfF x = true) : Wf .f32 x := by
  cases x with
  | none => exact ⟨2143289344, by decide, cn_of_nan (by decide +kernel)⟩
  | some b =>
    simp only [wfF, Bool.and_eq_true, decide_eq_true_eq, Bool.not_eq_true'] at h
    exact ⟨b, h.1, cn_of_not h.2⟩
theorem Wf.wfF {x : Fl} (h : Wf .f32 x) : wfF x = true := by
  cases x with
  | none => rfl
  | some b =>
    obtain ⟨h1, h2⟩ := h.some_lt
    simp only [Sx.wfF, Bool.and_eq_true, decide_eq_true_eq, Bool.not_eq_true']
    exact ⟨h1, h2⟩
theorem wf_cn {b : Nat} (h : b < 2 ^ 32) : wfF (cn .f32 b) = true := Wf.wfF ⟨b, h, rfl⟩
theorem wf_fop {op : BinOp} {x y : Fl} : wfF (Fl.op op .f32 x y) = true := by
  cases h : Fl.op op .f32 x y with
  | none => rfl
  | some w =>
    cases x with
    | none => cases h
    | some x =>
      cases y with
      | none => cases h
      | some y =>
        have h : fop op .f32 x y = some w := h
        simp only [wfF, Bool.and_eq_true, decide_eq_true_eq, Bool.not_eq_true']
        exact ⟨fop_lt h, fop_not_nan h⟩

/-- Is a word a float32? -/
def fwE (N : List Nat) : E → Bool
  | .v i => N.contains i
  | .f x => wfF x
  | .o2 o _ _ => match o with
    | .fadd .f32 | .fsub .f32 | .fmul .f32 | .fdiv .f32 => true
    | _ => false
  | .o1 o x => match o with
    | .i2f .f32 => true
    | .ofBits .f32 => (match x with
      | .o1 (.wrap .u32) _ => true
      | .i n => decide (n < 4294967296)
      | _ => false)
    | _ => false
  | _ => false
theorem fwE_ok {U : Nat → D → D} {r : Nat → D} {N : List Nat} (hN : ∀ i ∈ N, wfF (r i).toF = true) {e : E} (h : fwE N e = true) : wfF (e.ev U r).toF = true := by
  unfold fwE at h
  split at h
  · exact hN _ (by simpa using h)
  · exact h
  · split at h
    · exact wf_fop (op := .add)
    · exact wf_fop (op := .sub)
    · exact wf_fop (op := .mul)
    · exact wf_fop (op := .quo)
    · cases h
  · rename_i o x
    split at h
    · have h1 := nearest_wd .f32 (x.ev U r).toI
      have h2 := nearest_cn .f32 (x.ev U r).toI
      show wfF (some (FloatKind.f32.nearest (x.ev U r).toI)) = true
      rw [← h2]
      exact wf_cn h1
    · split at h
      · rename_i x
        refine wf_cn ?_
        have h1 := wrap_range .u32 (x.ev U r).toI
        have h2 : hiOf .u32 = 4294967295 := by decide
        have h3 : ((E.o1 (.wrap .u32) x).ev U r).toI = IntKind.u32.wrap (x.ev U r).toI := rfl
        rw [h3]
        omega
      · rename_i n
        have h := of_decide_eq_true h
        refine wf_cn ?_
        show n.toNat < _
        omega
      · cases h
    · cases h
  · cases h

/-- What a tree answers. -/
def evF (U : Nat → D → D) : Tree (SV × Cx) → (Nat → D) → Fl
  | .ret (.flt .f32 e, _), r => (e.ev U r).toF
  | .ite c t f, r => if (c.ev U r).toB then evF U t r else evF U f r
  | .chk (.o2 .fsame (.v i) d) t, r => evF U t (Tree.upd r i (d.ev U r))
  | _, _ => none
def okF : Nat → List Nat → Tree (SV × Cx) → Bool
  | m, N, .ret (.flt .f32 e, _) => e.under m && fwE N e
  | m, N, .ite c t f => c.under m && (okF m N t && okF m N f)
  | m, N, .chk (.o2 .fsame (.v i) d) t => Nat.ble m i && (d.under m && okF (i + 1) (if fwE N d then i :: N else N) t)
  | _, _, _ => false
/-- No words in a tree. -/
def bareF : Tree (SV × Cx) → Bool
  | .ret (.flt .f32 e, _) => e.lowW 0
  | .ite c t f => c.lowW 0 && (bareF t && bareF f)
  | .chk (.o2 .fsame (.v _) d) t => d.lowW 0 && bareF t
  | _ => true

section
variable {U U' : Nat → D → D}
theorem okF_chk {m : Nat} {N : List Nat} {c : E} {t : Tree (SV × Cx)} (h : okF m N (.chk c t) = true) : ∃ i d, c = .o2 .fsame (.v i) d ∧ m ≤ i ∧ d.under m = true ∧ okF (i + 1) (if fwE N d then i :: N else N) t = true := by
  unfold okF at h
  split at h
  · cases ‹Tree.chk c t = _›
  · cases ‹Tree.chk c t = _›
  · rename_i i d t' heq
    cases heq
    simp only [Bool.and_eq_true] at h
    exact ⟨i, d, rfl, Nat.le_of_ble_eq_true h.1, h.2.1, h.2.2⟩
  · cases h
theorem okF_ret {m : Nat} {N : List Nat} {x : SV × Cx} (h : okF m N (.ret x) = true) : ∃ e c, x = (.flt .f32 e, c) ∧ e.under m = true ∧ fwE N e = true := by
  unfold okF at h
  split at h
  · rename_i e c heq
    cases heq
    rw [Bool.and_eq_true] at h
    exact ⟨e, c, rfl, h.1, h.2⟩
  · cases ‹Tree.ret x = _›
  · cases ‹Tree.ret x = _›
  · cases h
theorem evF_sat : ∀ {t : Tree (SV × Cx)} {m : Nat} {N : List Nat} {r : Nat → D}, okF m N t = true → (∀ i ∈ N, i < m ∧ wfF (r i).toF = true) →
    ∃ e c1 r'', (∀ n, n < m → r'' n = r n) ∧ (∀ Q : (Nat → D) → SV × Cx → Prop, Q r'' (.flt .f32 e, c1) → t.sat U Q r'') ∧ (e.ev U r'').toF = evF U t r ∧ wfF (evF U t r) = true := by
  intro t
  induction t with
  | ret x =>
    intro m N r h hN
    obtain ⟨e, c, rfl, _, h2⟩ := okF_ret h
    exact ⟨e, c, r, fun _ _ => rfl, fun _ hq => hq, rfl, fwE_ok (fun i hi => (hN i hi).2) h2⟩
  | ite c t f iht ihf =>
    intro m N r h hN
    simp only [okF, Bool.and_eq_true] at h
    cases hb : (c.ev U r).toB with
    | true =>
      obtain ⟨e, c1, r'', q1, q2, q3, q4⟩ := iht h.2.1 hN
      have hv : evF U (.ite c t f) r = evF U t r := by simp only [evF, hb, if_true]
      refine ⟨e, c1, r'', q1, fun Q hQ => ?_, by rw [hv]; exact q3, by rw [hv]; exact q4⟩
      simp only [Tree.sat]
      rw [if_pos (by rw [E.ev_under U q1 h.1]; exact hb)]
      exact q2 Q hQ
    | false =>
      obtain ⟨e, c1, r'', q1, q2, q3, q4⟩ := ihf h.2.2 hN
      have hv : evF U (.ite c t f) r = evF U f r := by simp only [evF, hb]; rfl
      refine ⟨e, c1, r'', q1, fun Q hQ => ?_, by rw [hv]; exact q3, by rw [hv]; exact q4⟩
      simp only [Tree.sat]
      rw [if_neg (by rw [E.ev_under U q1 h.1, hb]; exact Bool.false_ne_true)]
      exact q2 Q hQ
  | chk c t ih =>
    intro m N r h hN
    obtain ⟨i, d, rfl, hm, hd, h⟩ := okF_chk h
    obtain ⟨e, c1, r'', q1, q2, q3, q4⟩ := ih (r := Tree.upd r i (d.ev U r)) h (fun j hj => by
      have old : ∀ j ∈ N, j < i + 1 ∧ wfF (Tree.upd r i (d.ev U r) j).toF = true := fun j hj => by
        obtain ⟨h1, h2⟩ := hN j hj
        rw [upd_low (by omega)]
        exact ⟨by omega, h2⟩
      split at hj
      · rename_i hw
        rcases List.mem_cons.1 hj with rfl | hj
        · refine ⟨by omega, ?_⟩
          unfold Tree.upd
          rw [if_pos rfl]
          exact fwE_ok (fun i hi => (hN i hi).2) hw
        · exact old j hj
      · exact old j hj)
    have hlow : ∀ n, n < m → r'' n = r n := fun n hn => by rw [q1 n (by omega)]; exact upd_low (by omega)
    refine ⟨e, c1, r'', hlow, fun Q hQ => ?_, q3, q4⟩
    simp only [Tree.sat]
    refine ⟨?_, q2 Q hQ⟩
    have : r'' i = d.ev U r := by rw [q1 i (by omega)]; unfold Tree.upd; rw [if_pos rfl]
    simp only [E.ev, O2.ev, D.toB_b, this, E.ev_under U hlow hd, beq_self_eq_true]
  | all i t _ => intro m N r h; cases h
  | asm c t _ => intro m N r h; cases h
  | bad => intro m N r h; cases h
theorem evF_bare : ∀ {t : Tree (SV × Cx)} {r : Nat → D}, bareF t = true → evF U t r = evF U' t r := by
  have low : ∀ {r : Nat → D} {e : E}, e.lowW 0 = true → e.ev U r = e.ev U' r := fun h => E.ev_lowW (N := 0) (fun _ h => absurd h (Nat.not_lt_zero _)) h
  intro t
  induction t with
  | ret x =>
    intro r h
    unfold bareF at h
    split at h
    · rename_i heq
      cases heq
      simp only [evF, low h]
    · cases ‹Tree.ret x = _›
    · cases ‹Tree.ret x = _›
    · rename_i h1 _ _
      have no : ∀ U0 : Nat → D → D, evF U0 (.ret x) r = none := fun U0 => by
        unfold evF
        split
        · rename_i heq; cases heq; exact (h1 _ _ rfl).elim
        · cases ‹Tree.ret x = _›
        · cases ‹Tree.ret x = _›
        · rfl
      rw [no, no]
  | ite c t f iht ihf =>
    intro r h
    simp only [bareF, Bool.and_eq_true] at h
    simp only [evF, low h.1, iht h.2.1, ihf h.2.2]
  | chk c t ih =>
    intro r h
    unfold bareF at h
    split at h
    · cases ‹Tree.chk c t = _›
    · cases ‹Tree.chk c t = _›
    · rename_i heq
      cases heq
      rw [Bool.and_eq_true] at h
      simp only [evF, low h.1, ih h.2]
    · rename_i h1
      have no : ∀ U0 : Nat → D → D, evF U0 (.chk c t) r = none := fun U0 => by
        unfold evF
        split
        · cases ‹Tree.chk c t = _›
        · cases ‹Tree.chk c t = _›
        · rename_i heq; cases heq; exact (h1 _ _ _ rfl).elim
        · rfl
      rw [no, no]
  | all i t _ => intro r h; rfl
  | asm c t _ => intro r h; rfl
  | bad => intro r h; rfl

/-- The word's value. -/
def fltVal (U : Nat → D → D) (t : Tree (SV × Cx)) (d : D) : D := .p (.i 0) (.l [.f (evF U t (rOf d.toL))])
/-- Does a variable stand for a float32 that is handed over? -/
def fltAt (m : List (Nat × E)) (args : List SV) (i : Nat) : Bool := match lkM i m with
  | some e => args.any fun s => match s with
    | .flt .f32 e' => e'.same e
    | _ => false
  | none => false
/-- A function as a word; the variables 'N0' are floats that are handed over. -/
def fltRun (p : HPat) (N0 : List Nat) (cnt n : Nat) (other : List SV → Cx → Tree (SV × Cx)) (args : List SV) (c : Cx) : Tree (SV × Cx) :=
  match p.seek args c.h with
  | (m, bls) => if p.ok m bls args c && ((m.all fun q => Nat.blt q.1 cnt) && N0.all (fltAt m args)) then (match subAll m ((List.range cnt).map E.v) with
      | some ws => .ret (.flt .f32 (valW n ws 0), ⟨c.h, c.nv, morePc m c.pc p.pc ++ c.pc⟩)
      | none => other args c) else other args c
def fltOk (p : HPat) (N0 : List Nat) (cnt : Nat) (t : Tree (SV × Cx)) : Bool := okF 1000 N0 t && (Nat.ble cnt 1000 && ((N0.all fun i => Nat.blt i cnt) && p.hs.all fun b => !b.wr))
end

section
variable {U : Nat → D → D} {P : Program}
theorem flt_ok {cf : FuncId → List SV → Cx → Tree (SV × Cx)} {other : List SV → Cx → Tree (SV × Cx)} (hcf : CallsOk U P cf) {f : FuncId} (p : HPat) (N0 : List Nat) (cnt n : Nat) {t : Tree (SV × Cx)} (ht : cf f p.as p.c0 = t) (hU : ∀ d, U n d = fltVal U t d) (hm : fltOk p N0 cnt t = true) (ho : EntryOk U P f other) : EntryOk U P f (fltRun p N0 cnt n other) := by
  intro args c L r g w vs K hh hp hd h
  unfold fltRun at h
  split at h
  rename_i m bls _
  split at h
  case isFalse => exact ho args c L r g w vs K hh hp hd h
  rename_i hok
  split at h
  case h_2 => exact ho args c L r g w vs K hh hp hd h
  rename_i ws hws
  rw [Bool.and_eq_true] at hok
  obtain ⟨hok, hm1⟩ := hok
  rw [Bool.and_eq_true] at hm1
  obtain ⟨hm1, hN0⟩ := hm1
  have hok' := hok
  simp only [HPat.ok, Bool.and_eq_true] at hok'
  have hpc := hok'.2.2.2.2
  simp only [fltOk, Bool.and_eq_true] at hm
  obtain ⟨h1, h2, h4, h5⟩ := hm
  have hcnt := Nat.le_of_ble_eq_true h2
  have hf0 := fillM_ok (U := U) (r := r) m
  have e1 := subAll_ev hf0 hws
  rw [List.map_map] at e1
  -- the word's own valuation
  have hat : ∀ i, i < cnt → rOf (ws.map (E.ev U r)) i = fillM U r m i := fun i hi => by
    rw [e1]
    unfold rOf
    rw [List.getD_eq_getElem?_getD, List.getElem?_map, List.getElem?_range hi]
    rfl
  obtain ⟨e, c1, r'', q1, q2, q3, q4⟩ := evF_sat (U := U) (r := rOf (ws.map (E.ev U r))) h1 (fun i hi => by
    have hi1 : i < cnt := by have := List.all_eq_true.1 h4 i hi; rwa [Nat.blt_eq] at this
    refine ⟨by omega, ?_⟩
    rw [hat i hi1]
    have h6 := List.all_eq_true.1 hN0 i hi
    unfold fltAt at h6
    split at h6
    · rename_i x hx
      rw [hf0 i x hx]
      obtain ⟨s, hs, hs'⟩ := List.any_eq_true.1 h6
      split at hs'
      · rename_i e'
        rw [← E.same_eq hs']
        obtain ⟨q, hq⟩ := List.getElem?_of_mem hs
        obtain ⟨v, _, hv⟩ := SV.denL_get U r g L hd hq
        simp only [SV.den] at hv
        obtain ⟨b, _, hb, hc⟩ := hv
        rw [← hc]
        exact wf_cn hb
      · cases hs'
    · cases h6)
  have hf : Fills U r r'' m := fun j x hj => by
    have hlt : j < cnt := by
      have := List.all_eq_true.1 hm1 _ (lkM_mem hj)
      rwa [Nat.blt_eq] at this
    rw [q1 j (by omega), hat j hlt]; exact hf0 j x hj
  refine memo_core hcf hh hp hd hok hf ?_
  rw [ht]
  refine q2 _ ?_
  intro g1 v w' he hd1
  have frm : Frm (fun _ => False) w w' := by
    have f := he.frm
    refine ⟨f.os, f.tape, f.output, f.size, fun z hz _ => f.block z hz ?_⟩
    rintro ⟨id, b, _, k2, k3, _⟩
    simp only [HPat.c0, List.getElem?_map, Option.map_eq_some_iff, Option.some.injEq, exists_eq_right] at k2
    have := List.all_eq_true.1 h5 b (List.mem_of_getElem? k2)
    rw [k3] at this; cases this
  refine h g v w' (ext_frame (c' := ⟨c.h, c.nv, morePc m c.pc p.pc ++ c.pc⟩) hh rfl (Nat.le_refl _) (fun x hx => (List.mem_append.1 hx).elim (fun h => morePc_ok hp hpc x h) (fun h => hp x h)) frm) ?_
  have hv : (valW n ws 0).ev U r = .f (evF U t (rOf (ws.map (E.ev U r)))) := by
    show D.at_ (D.snd (U n ((elemE ws).ev U r))) 0 = _
    rw [hU, elemE_ev]
    rfl
  simp only [SV.den] at hd1 ⊢
  rw [hv]
  rw [q3] at hd1
  exact hd1
/-- What such a word is worth. -/
theorem flt_wf {p : HPat} {cnt n : Nat} {t : Tree (SV × Cx)} (hU : ∀ d, U n d = fltVal U t d) (hm : fltOk p [] cnt t = true) (r : Nat → D) (x : E) : wfF ((E.o2 .sel (.o1 .snd (.app n x)) (.i 0)).ev U r).toF = true := by
  simp only [fltOk, Bool.and_eq_true] at hm
  obtain ⟨_, _, _, _, _, _, q4⟩ := evF_sat (U := U) (r := rOf (x.ev U r).toL) hm.1 (fun i hi => by cases hi)
  have hv : (E.o2 .sel (.o1 .snd (.app n x)) (.i 0)).ev U r = .f (evF U t (rOf (x.ev U r).toL)) := by
    show D.at_ (D.snd (U n (x.ev U r))) 0 = _
    rw [hU]
    rfl
  rw [hv]
  exact q4
end

/-! ### Laws by their values -/

/-- What a tree answers, its worlds left out. -/
def evFs (U : Nat → D → D) : Tree SV → (Nat → D) → Fl
  | .ret (.flt .f32 e), r => (e.ev U r).toF
  | .ite c t f, r => if (c.ev U r).toB then evFs U t r else evFs U f r
  | .chk (.o2 .fsame (.v i) d) t, r => evFs U t (Tree.upd r i (d.ev U r))
  | _, _ => none
theorem evF_res {U : Nat → D → D} : ∀ {t : Tree (SV × Cx)} {m : Nat} {N : List Nat} {r : Nat → D}, okF m N t = true → evF U t r = evFs U (resT t) r := by
  intro t
  induction t with
  | ret x =>
    intro m N r h
    obtain ⟨e, c, rfl, _, _⟩ := okF_ret h
    rfl
  | ite c t f iht ihf =>
    intro m N r h
    simp only [okF, Bool.and_eq_true] at h
    show (if (c.ev U r).toB then evF U t r else evF U f r) = if (c.ev U r).toB then evFs U (resT t) r else evFs U (resT f) r
    rw [iht h.2.1, ihf h.2.2]
  | chk c t ih =>
    intro m N r h
    obtain ⟨i, d, rfl, _, _, h⟩ := okF_chk h
    exact ih h
  | all i t _ => intro m N r h; cases h
  | asm c t _ => intro m N r h; cases h
  | bad => intro m N r h; cases h

/-- The truth that a tree answers. -/
def evB (U : Nat → D → D) : Tree SV → (Nat → D) → Bool
  | .ret (.bool e), r => (e.ev U r).toB
  | .ite c t f, r => if (c.ev U r).toB then evB U t r else evB U f r
  | .chk (.o2 .fsame (.v i) d) t, r => evB U t (Tree.upd r i (d.ev U r))
  | _, _ => false
def okB : Nat → Tree SV → Bool
  | _, .ret (.bool _) => true
  | m, .ite c t e => c.under m && (okB m t && okB m e)
  | m, .chk (.o2 .fsame (.v i) e) t => Nat.ble m i && (e.under m && okB (i + 1) t)
  | _, .bad => true
  | _, _ => false
section
variable {U : Nat → D → D} {w : World} {Q : Value → World → Prop}
theorem evB_lets (hQ : ∀ w', Frm (fun _ => False) w w' → Q (.bool true) w') : ∀ {t : Tree SV} {m : Nat} {r : Nat → D}, okB m t = true → evB U t r = true → Lets U Q w m r t := by
  intro t
  induction t with
  | ret x =>
    intro m r h he g' L' v w' hf hd
    unfold okB at h
    split at h
    · rename_i heq
      cases heq
      simp only [SV.den] at hd
      rw [show (E.ev U r _).toB = true from he] at hd
      rw [hd]
      exact hQ w' hf
    · cases ‹Tree.ret x = _›
    · cases ‹Tree.ret x = _›
    · cases ‹Tree.ret x = _›
    · cases h
  | ite c t e iht ihe =>
    intro m r h he
    simp only [okB, Bool.and_eq_true] at h
    simp only [evB] at he
    refine ⟨h.1, fun hc => ?_, fun hc => ?_⟩
    · rw [if_pos hc] at he; exact iht h.2.1 he
    · rw [if_neg (by rw [hc]; exact Bool.false_ne_true)] at he; exact ihe h.2.2 he
  | chk c t ih =>
    intro m r h he
    unfold okB at h
    split at h
    · cases ‹Tree.chk c t = _›
    · cases ‹Tree.chk c t = _›
    · rename_i i e t' heq
      cases heq
      simp only [Bool.and_eq_true] at h
      exact ⟨i, e, rfl, Nat.le_of_ble_eq_true h.1, h.2.1, ih h.2.2 he⟩
    · cases ‹Tree.chk c t = _›
    · cases h
  | all i t _ => intro m r h; cases h
  | asm c t _ => intro m r h; cases h
  | bad => intro m r _ he; cases he
theorem law_of_ev {T : Tree SV} (h : okB 1000 T = true) (he : ∀ r, evB U T r = true) : LawIsA U T := ⟨fun r _ _ hK => evB_lets hK h (he r)⟩
end
end Go.Sx
