/-
  Sx, part Pr: loops that compare two rows; loops that copy one.
-/
import Derived.Test.YtaflnmmnaiaceaaSxPq
namespace Go.Sx
open E (mk1 mk2 mkIte mk1_ev mk2_ev mkIte_ev)

/-! ### Rows compared -/

def eqLeaf (_ : List (Nat × E)) (x : LRes) : Bool :=
  match x with
  | .done k _ => Nat.beq k 0
  | .next _ => true
  | .stuck => false

/-- Where variable 'b' is 'a', the loop goes out by its first way. -/
def eqOk (cnt a b : Nat) (inv : List E) (T : Tree LRes) : Bool := sim1 eqLeaf [] (numbered 0 ((List.range cnt).map fun j => .v (if j = b then a else j))) (inv.map fun e => (e, true)) T

def eqRun (A : LoopT) (n a b : Nat) (outs : List (List OutW)) : LRun := ⟨A, fun es => if (nmOf es a).same (nmOf es b) then .i 0 else tagW n es, fun k es => resW n outs es k es, []⟩

section
variable {U : Nat → D → D} {inv : List E} {T : Tree LRes}

theorem eq_zero {cnt a b : Nat} {C : List Nat} {outs : List (List OutW)} (hC : ∀ c ∈ C, c < 1000) (ha : a ∈ C) (hb : b ∈ C) (hok : okA 1000 T = true) (hk : keepsT C outs T = true) (he : eqOk cnt a b inv T = true) {ds : List D} {k : Nat} {os : List D}
    (h : LoopTo U inv T ds k os) (hab : rOf ds a = rOf ds b) : k = 0 := by
  have step : ∀ {ds : List D}, HoldI U inv ds → rOf ds a = rOf ds b → ∃ x r', evA U T (rOf ds) = some (x, r') ∧ eqLeaf [] x = true := by
    intro ds hI hab
    have hf : Fills U (rOf ds) (rOf ds) (numbered 0 ((List.range cnt).map fun j => .v (if j = b then a else j))) := by
      intro n e hn
      obtain ⟨j, rfl, hj⟩ := lkM_back hn
      rw [Nat.zero_add]
      rw [List.getElem?_map] at hj
      cases hr : (List.range cnt)[j]? with
      | none => rw [hr] at hj; cases hj
      | some j' =>
        rw [hr] at hj
        have hlt := (List.getElem?_eq_some_iff.1 hr).1
        have : j' = j := by rw [List.getElem?_range (by simpa using hlt)] at hr; exact (Option.some.inj hr).symm
        subst this
        simp only [Option.map_some, Option.some.injEq] at hj
        subst hj
        show rOf ds j' = rOf ds (if j' = b then a else j')
        split
        · rename_i hjb; subst hjb; exact hab.symm
        · rfl
    obtain ⟨x, r', m', k1, _, k3⟩ := sim1_ok (nms := []) (fun p hp => by cases hp) hf (fun x hx => by obtain ⟨e, he, rfl⟩ := List.mem_map.1 hx; exact hI e he) he
    exact ⟨x, r', k1, k3⟩
  induction h with
  | done hI hev =>
    obtain ⟨x, r', k1, k2⟩ := step hI hab
    rw [hev] at k1
    cases k1
    exact Nat.eq_of_beq_eq_true k2
  | next hI hev _ ih =>
    have hn := keepsT_ok hC (Nat.le_refl _) hok hk hev
    refine ih ?_
    rw [evs_rOf, evs_rOf, hn a ha, hn b hb]
    exact hab

theorem eq_told {A : LoopT} {n a b : Nat} {outs : List (List OutW)} {C : List Nat} {mu : E} (hU : ∀ d, U n d = loopVal U A.inv T d) (hends : endsOk A.t.cnt A.inv mu T = true) (hok : okA 1000 T = true) (hC : C.all (fun c => Nat.blt c 1000) = true)
    (hk : keepsT C outs T = true) (hown : outs.all (ownVals 0) = true) (hab : (C.any (fun c => Nat.beq c a) && C.any fun c => Nat.beq c b) = true) (he : eqOk A.t.cnt a b A.inv T = true) : Told U T (eqRun A n a b outs) := by
  intro r es hlen hI hE hS
  obtain ⟨k, os, h1, h2, h3⟩ := word_told hU hends hok hC hk hown r es hlen hI hE hS
  refine ⟨k, os, h1, ?_, h3⟩
  show ((if (nmOf es a).same (nmOf es b) then E.i 0 else tagW n es).ev U r).toI = k
  split
  · rename_i hs
    have hC' : ∀ c ∈ C, c < 1000 := fun c hc => by
      rw [List.all_eq_true] at hC
      have := hC c hc
      rwa [Nat.blt_eq] at this
    rw [Bool.and_eq_true, List.any_eq_true, List.any_eq_true] at hab
    obtain ⟨⟨x, hx1, hx2⟩, ⟨y, hy1, hy2⟩⟩ := hab
    have e1 := Nat.eq_of_beq_eq_true hx2
    have e2 := Nat.eq_of_beq_eq_true hy2
    subst e1 e2
    have := eq_zero hC' hx1 hy1 hok hk he h1 (by rw [evs_rOf, evs_rOf, E.same_eq hs])
    rw [this]; rfl
  · exact h2

/-! ### A row copied -/

def fldE (f : Nat) : E := .o2 .sel (.o2 .sel (.v 0) (.v 2)) (.i f)

/-- The fields of the element at hand, floats under names. -/
def cpT : Nat → Nat → List Sk → (List E → Tree LRes) → Tree LRes
  | _, _, [], K => K []
  | f, nm, .f _ :: ks, K => .chk (.o2 .fsame (.v nm) (fldE f)) (cpT (f + 1) (nm + 1) ks fun ws => K (.v nm :: ws))
  | f, nm, _ :: ks, K => cpT (f + 1) nm ks fun ws => K (fldE f :: ws)

def copyT (ks : List Sk) : Tree LRes :=
  .ite (.o2 .ilt (.v 2) (.o1 .llen (.v 0))) (cpT 0 1000 ks fun ws => .ret (.next [.v 0, .o3 .upd (.v 1) (.v 2) (elemE ws), .o2 .iadd (.v 2) (.i 1)])) (.ret (.done 0 [.v 0, .v 1]))

def copyA (n : Nat) (ks : List Sk) : LoopT :=
  ⟨⟨n, 2, [(0, .slo 0 ks.length), (3, .slo 1 ks.length), (4, .one (.i .i64))], [⟨false, [], some ks⟩, ⟨true, [], some ks⟩]⟩,
    [.o2 .ile (.i 0) (.v 2), .o2 .ile (.o1 .llen (.v 0)) (.i 1048576), .o2 .ieq (.o1 .llen (.v 1)) (.o1 .llen (.v 0))],
    [(.exit 0, ⟨n, 2, [(3, .slo 1 ks.length)], [⟨false, [], some ks⟩, ⟨true, [], some ks⟩]⟩)]⟩

def copyRun (n : Nat) (ks : List Sk) : LRun := ⟨copyA n ks, fun _ => .i 0, fun _ es => [nmOf es 0, nmOf es 0], [.o2 .ieq (.v 2) (.i 0)]⟩

theorem cpT_ev : ∀ (ks : List Sk) (f nm : Nat) (r : Nat → D) (K : List E → Tree LRes), 1000 ≤ nm → ∃ ws r', evA U (cpT f nm ks K) r = evA U (K ws) r' ∧ (∀ n, n < nm → r' n = r n) ∧
    ws.map (E.ev U r') = (List.range ks.length).map fun j => ((r 0).at_ (r 2).toI.toNat).at_ (f + j) := by
  intro ks
  induction ks with
  | nil => intro f nm r K _; exact ⟨[], r, rfl, fun _ _ => rfl, rfl⟩
  | cons k ks ih =>
    intro f nm r K hnm
    have rng : ∀ g : Nat → D, (List.range (ks.length + 1)).map g = g 0 :: (List.range ks.length).map fun j => g (j + 1) := fun g => by
      rw [List.range_succ_eq_map]; simp
    have plain : cpT f nm (k :: ks) K = cpT (f + 1) nm ks (fun ws => K (fldE f :: ws)) → ∃ ws r', evA U (cpT f nm (k :: ks) K) r = evA U (K ws) r' ∧ (∀ n, n < nm → r' n = r n) ∧
        ws.map (E.ev U r') = (List.range (k :: ks).length).map fun j => ((r 0).at_ (r 2).toI.toNat).at_ (f + j) := by
      intro hc
      obtain ⟨ws, r', h1, h2, h3⟩ := ih (f + 1) nm r (fun ws => K (fldE f :: ws)) hnm
      refine ⟨fldE f :: ws, r', by rw [hc]; exact h1, h2, ?_⟩
      rw [List.length_cons, rng, List.map_cons, h3]
      congr 1
      · show ((r' 0).at_ (r' 2).toI.toNat).at_ ((f : Int)).toNat = _
        rw [h2 0 (by omega), h2 2 (by omega), Int.toNat_natCast]; rfl
      · apply List.map_congr_left; intro j _; congr 1; omega
    cases k with
    | f q =>
      obtain ⟨ws, r', h1, h2, h3⟩ := ih (f + 1) (nm + 1) (Tree.upd r nm ((fldE f).ev U r)) (fun ws => K (.v nm :: ws)) (by omega)
      have low : ∀ n, n < nm → r' n = r n := fun n hn => by
        rw [h2 n (by omega)]; unfold Tree.upd; rw [if_neg (by omega)]
      refine ⟨.v nm :: ws, r', h1, low, ?_⟩
      rw [List.length_cons, rng, List.map_cons, h3]
      have e0 : Tree.upd r nm ((fldE f).ev U r) 0 = r 0 := by unfold Tree.upd; rw [if_neg (by omega)]
      have e2 : Tree.upd r nm ((fldE f).ev U r) 2 = r 2 := by unfold Tree.upd; rw [if_neg (by omega)]
      rw [e0, e2]
      congr 1
      · show r' nm = _
        rw [h2 nm (by omega)]
        unfold Tree.upd
        rw [if_pos rfl]
        show ((r 0).at_ (r 2).toI.toNat).at_ ((f : Int)).toNat = _
        rw [Int.toNat_natCast]; rfl
      · apply List.map_congr_left; intro j _; congr 1; omega
    | b => exact plain rfl
    | i q => exact plain rfl
    | s => exact plain rfl

theorem whole {ks : List Sk} {d : D} (h : ∃ fs, d = .l fs ∧ fs.length = ks.length) : D.l ((List.range ks.length).map fun j => d.at_ (0 + j)) = d := by
  obtain ⟨fs, rfl, hl⟩ := h
  congr 1
  apply List.ext_getElem
  · simp [hl]
  · intro i h1 h2
    simp only [List.getElem_map, List.getElem_range, Nat.zero_add]
    unfold D.at_
    rw [D.toL_l, List.getD_eq_getElem?_getD, List.getElem?_eq_getElem h2]; rfl

/-- A LOOP THAT COPIES A ROW. -/
theorem copy_told {n : Nat} {ks : List Sk} (hT : T = copyT ks) : Told U T (copyRun n ks) := by
  subst hT
  have key : ∀ (m : Nat) (a o d2 : D), 0 ≤ d2.toI → a.toL.length ≤ 1048576 → o.toL.length = a.toL.length → (∀ d ∈ a.toL, ∃ fs, d = .l fs ∧ fs.length = ks.length) → (∀ j : Nat, (j : Int) < d2.toI → o.toL[j]? = a.toL[j]?) → a.toL.length - d2.toI.toNat ≤ m →
      ∃ o', LoopTo U (copyA n ks).inv (copyT ks) [a, o, d2] 0 [a, o'] ∧ o'.toL = a.toL := by
    have hold : ∀ {a o d2 : D}, 0 ≤ d2.toI → a.toL.length ≤ 1048576 → o.toL.length = a.toL.length → HoldI U (copyA n ks).inv [a, o, d2] := by
      intro a o d2 h1 h2 h3 e he
      simp only [copyA, List.mem_cons, List.not_mem_nil, or_false] at he
      rcases he with rfl | rfl | rfl
      · exact decide_eq_true h1
      · refine decide_eq_true ?_
        show ((a.toL.length : Nat) : Int) ≤ 1048576
        omega
      · refine beq_iff_eq.2 ?_
        show ((o.toL.length : Nat) : Int) = ((a.toL.length : Nat) : Int)
        omega
    intro m
    induction m with
    | zero =>
      intro a o d2 h1 h2 h3 h4 h5 h6
      have hge : ¬ d2.toI < (a.toL.length : Int) := by omega
      refine ⟨o, ?_, ?_⟩
      · have hev : evA U (copyT ks) (rOf [a, o, d2]) = some (.done 0 [.v 0, .v 1], rOf [a, o, d2]) := by
          show (if decide (d2.toI < (a.toL.length : Int)) = true then _ else _) = _
          rw [if_neg (by simpa using hge)]; rfl
        exact .done (hold h1 h2 h3) hev
      · apply List.ext_getElem?
        intro j
        by_cases hj : (j : Int) < d2.toI
        · exact h5 j hj
        · rw [List.getElem?_eq_none (by omega), List.getElem?_eq_none (by omega)]
    | succ m ih =>
      intro a o d2 h1 h2 h3 h4 h5 h6
      by_cases hlt : d2.toI < (a.toL.length : Int)
      · obtain ⟨ws, r', k1, k2, k3⟩ := cpT_ev (U := U) ks 0 1000 (rOf [a, o, d2]) (fun ws => .ret (.next [.v 0, .o3 .upd (.v 1) (.v 2) (elemE ws), .o2 .iadd (.v 2) (.i 1)])) (Nat.le_refl _)
        have hev : evA U (copyT ks) (rOf [a, o, d2]) = some (.next [.v 0, .o3 .upd (.v 1) (.v 2) (elemE ws), .o2 .iadd (.v 2) (.i 1)], r') := by
          show (if decide (d2.toI < (a.toL.length : Int)) = true then _ else _) = _
          rw [if_pos (by simpa using hlt)]
          exact k1
        have hi : d2.toI.toNat < a.toL.length := by omega
        have hel : (elemE ws).ev U r' = a.toL[d2.toI.toNat] := by
          rw [elemE_ev, k3]
          have e0 : (rOf [a, o, d2] 0).at_ (rOf [a, o, d2] 2).toI.toNat = a.toL[d2.toI.toNat] := by
            show a.toL.getD d2.toI.toNat _ = _
            rw [List.getD_eq_getElem?_getD, List.getElem?_eq_getElem hi]; rfl
          rw [e0]
          exact whole (h4 _ (List.getElem_mem hi))
        have hnext : ([E.v 0, .o3 .upd (.v 1) (.v 2) (elemE ws), .o2 .iadd (.v 2) (.i 1)] : List E).map (E.ev U r') = [a, .l (o.toL.set d2.toI.toNat a.toL[d2.toI.toNat]), .i (d2.toI + 1)] := by
          simp only [List.map_cons, List.map_nil, E.ev, O3.ev, O2.ev, hel, k2 0 (by omega), k2 1 (by omega), k2 2 (by omega), D.toI_i]
          rfl
        obtain ⟨o', q1, q2⟩ := ih a (.l (o.toL.set d2.toI.toNat a.toL[d2.toI.toNat])) (.i (d2.toI + 1)) (by show 0 ≤ d2.toI + 1; omega) h2 (by simp [D.toL_l, h3]) h4 (fun j hj => by
          have hj : (j : Int) < d2.toI + 1 := hj
          rw [D.toL_l]
          by_cases hji : j = d2.toI.toNat
          · subst hji
            rw [List.getElem?_set_self (by omega), List.getElem?_eq_getElem hi]
          · rw [List.getElem?_set_ne (Ne.symm hji)]
            exact h5 j (by omega)) (by show a.toL.length - (d2.toI + 1).toNat ≤ m; omega)
        refine ⟨o', .next (hold h1 h2 h3) hev ?_, q2⟩
        rw [hnext]; exact q1
      · refine ⟨o, ?_, ?_⟩
        · have hev : evA U (copyT ks) (rOf [a, o, d2]) = some (.done 0 [.v 0, .v 1], rOf [a, o, d2]) := by
            show (if decide (d2.toI < (a.toL.length : Int)) = true then _ else _) = _
            rw [if_neg (by simpa using hlt)]; rfl
          exact .done (hold h1 h2 h3) hev
        · apply List.ext_getElem?
          intro j
          by_cases hj : (j : Int) < d2.toI
          · exact h5 j hj
          · rw [List.getElem?_eq_none (by omega), List.getElem?_eq_none (by omega)]
  intro r es hlen hI hE hS
  have hcnt : (copyA n ks).t.cnt = 3 := by rfl
  have hlen : es.length = 3 := hlen.trans hcnt
  match es, hlen with
  | [e0, e1, e2], _ =>
    have i0 := hI (.o2 .ile (.i 0) (.v 2)) (by simp [copyRun, copyA])
    have i1 := hI (.o2 .ile (.o1 .llen (.v 0)) (.i 1048576)) (by simp [copyRun, copyA])
    have i2 := hI (.o2 .ieq (.o1 .llen (.v 1)) (.o1 .llen (.v 0))) (by simp [copyRun, copyA])
    have i3 := hE (.o2 .ieq (.v 2) (.i 0)) (by simp [copyRun])
    have i1 : (((e0.ev U r).toL.length : Nat) : Int) ≤ 1048576 := of_decide_eq_true i1
    have i2 : (((e1.ev U r).toL.length : Nat) : Int) = (((e0.ev U r).toL.length : Nat) : Int) := beq_iff_eq.1 i2
    have i3 : (e2.ev U r).toI = 0 := beq_iff_eq.1 i3
    have hs : ∀ d ∈ (e0.ev U r).toL, ∃ fs, d = .l fs ∧ fs.length = ks.length := by
      refine hS 0 ⟨false, [], some ks⟩ ks rfl rfl ?_
      show (_ || _ || _) = true
      simp [copyRun, copyA, apartN, isSlo]
      exact .inl ⟨⟨rfl, rfl⟩, rfl⟩
    obtain ⟨o', q1, q2⟩ := key (e0.ev U r).toL.length (e0.ev U r) (e1.ev U r) (e2.ev U r) (by omega) (by omega) (by omega) hs (fun j hj => by omega) (by omega)
    refine ⟨0, _, q1, rfl, fun e to hto j => ?_⟩
    have hto : some (Ex.exit 0, _) = some (e, to) := hto
    cases hto
    match j with
    | 0 => exact .of_eq rfl
    | 1 => exact ⟨q2, fun h => absurd h (by show ¬ 2 ≤ 1; omega)⟩
    | j + 2 => exact .of_eq rfl
end

/-! ### Words over words -/

/-- Only words below a number are asked. -/
def E.lowW (N : Nat) : E → Bool
  | .app n x => Nat.blt n N && x.lowW N
  | .o1 _ x => x.lowW N
  | .o2 _ x y => x.lowW N && y.lowW N
  | .o3 _ x y z => x.lowW N && (y.lowW N && z.lowW N)
  | _ => true

def belowT (N : Nat) : Tree LRes → Bool
  | .ret (.next es) => es.all fun e => e.lowW N
  | .ret (.done _ es) => es.all fun e => e.lowW N
  | .ret .stuck => true
  | .ite c t e => c.lowW N && (belowT N t && belowT N e)
  | .chk c t => c.lowW N && belowT N t
  | .all _ t => belowT N t
  | .asm _ t => belowT N t
  | .bad => true

section
variable {U U' : Nat → D → D} {N : Nat}

theorem E.ev_lowW (hU : ∀ n, n < N → U n = U' n) {r : Nat → D} {e : E} (h : e.lowW N = true) : e.ev U r = e.ev U' r := by
  induction e with
  | app n x ih =>
    simp only [E.lowW, Bool.and_eq_true] at h
    have hn : n < N := by rw [← Nat.blt_eq]; exact h.1
    simp only [E.ev, ih h.2, hU n hn]
  | o1 o x ih => simp only [E.lowW] at h; simp only [E.ev, ih h]
  | o2 o x y ihx ihy => simp only [E.lowW, Bool.and_eq_true] at h; simp only [E.ev, ihx h.1, ihy h.2]
  | o3 o x y z ihx ihy ihz => simp only [E.lowW, Bool.and_eq_true] at h; simp only [E.ev, ihx h.1, ihy h.2.1, ihz h.2.2]
  | _ => rfl

theorem evA_below (hU : ∀ n, n < N → U n = U' n) : ∀ {t : Tree LRes} {r : Nat → D}, belowT N t = true → evA U t r = evA U' t r ∧ ∀ x r', evA U t r = some (x, r') → (match x with
    | .next es => es.map (E.ev U r') = es.map (E.ev U' r')
    | .done _ es => es.map (E.ev U r') = es.map (E.ev U' r')
    | .stuck => True) := by
  intro t
  induction t with
  | ret x =>
    intro r h
    refine ⟨rfl, fun y r' hy => ?_⟩
    simp only [evA, Option.some.injEq, Prod.mk.injEq] at hy
    obtain ⟨rfl, rfl⟩ := hy
    cases x with
    | stuck => trivial
    | next es =>
      simp only [belowT, List.all_eq_true] at h
      exact List.map_congr_left fun e he => E.ev_lowW hU (h e he)
    | done k es =>
      simp only [belowT, List.all_eq_true] at h
      exact List.map_congr_left fun e he => E.ev_lowW hU (h e he)
  | ite c t e iht ihe =>
    intro r h
    simp only [belowT, Bool.and_eq_true] at h
    simp only [evA]
    rw [← E.ev_lowW hU h.1]
    split
    · exact iht h.2.1
    · exact ihe h.2.2
  | chk c t ih =>
    intro r h
    simp only [belowT, Bool.and_eq_true] at h
    simp only [evA]
    split
    · rename_i i e
      have hc := h.1
      simp only [E.lowW, Bool.true_and] at hc
      rw [← E.ev_lowW hU hc]
      exact ih h.2
    · exact ⟨rfl, fun x r' hx => by cases hx⟩
  | all i t ih => intro r _; exact ⟨rfl, fun x r' hx => by cases hx⟩
  | asm c t ih => intro r _; exact ⟨rfl, fun x r' hx => by cases hx⟩
  | bad => intro r _; exact ⟨rfl, fun x r' hx => by cases hx⟩

theorem LoopTo.lowW {inv : List E} {T : Tree LRes} (hU : ∀ n, n < N → U n = U' n) (hi : (inv.all fun e => e.lowW N) = true) (hT : belowT N T = true) {ds : List D} {k : Nat} {os : List D} (h : LoopTo U inv T ds k os) : LoopTo U' inv T ds k os := by
  have hold : ∀ {ds : List D}, HoldI U inv ds → HoldI U' inv ds := fun {ds} hI e he => by
    rw [List.all_eq_true] at hi
    rw [← E.ev_lowW hU (hi e he)]; exact hI e he
  induction h with
  | done hI he =>
    obtain ⟨h1, h2⟩ := evA_below hU hT (r := rOf _)
    have := h2 _ _ he
    dsimp only at this
    rw [this]
    exact .done (hold hI) (by rw [← h1]; exact he)
  | next hI he _ ih =>
    obtain ⟨h1, h2⟩ := evA_below hU hT (r := rOf _)
    have := h2 _ _ he
    dsimp only at this
    rw [this] at ih
    exact .next (hold hI) (by rw [← h1]; exact he) ih

theorem loopVal_below {inv : List E} {T : Tree LRes} (hU : ∀ n, n < N → U n = U' n) (hi : (inv.all fun e => e.lowW N) = true) (hT : belowT N T = true) (d : D) : loopVal U inv T d = loopVal U' inv T d := by
  by_cases h : ∃ x : Nat × List D, LoopTo U inv T d.toL x.1 x.2
  · obtain ⟨⟨k, os⟩, hx⟩ := h
    have h1 := loopVal_eq hx
    have h2 := loopVal_eq (hx.lowW hU hi hT)
    have e1 : loopVal U inv T d = loopVal U inv T (.l d.toL) := rfl
    have e2 : loopVal U' inv T d = loopVal U' inv T (.l d.toL) := rfl
    rw [e1, e2, h1, h2]
  · have h' : ¬ ∃ x : Nat × List D, LoopTo U' inv T d.toL x.1 x.2 := fun ⟨x, hx⟩ => h ⟨x, hx.lowW (fun n hn => (hU n hn).symm) hi hT⟩
    unfold loopVal
    rw [dif_neg h, dif_neg h']

/-! ### A loop of the program -/

/-- The body of the loop that is told. -/
def bodyOf (code : Code) (k : Nat) : Code := ((loopsOf code)[k]?).getD .skip

theorem loops_one {U : Nat → D → D} {P : Program} {lo : Loops} {code : Code} (hlen : (loopsOf code).length = 1) (h : ∀ R, lo.at_ (bodyOf code 0) = some R → LRunOk U P (bodyOf code 0) R) : LoopsOk U P lo code := by
  intro b hb R hR
  have : b = bodyOf code 0 := by
    match hl : loopsOf code, hlen with
    | [x], _ =>
      rw [hl] at hb
      simp at hb
      rw [hb]; unfold bodyOf; rw [hl]; rfl
  subst this
  exact h R hR

theorem loops_none {U : Nat → D → D} {P : Program} {code : Code} : LoopsOk U P (fun _ => none) code := by
  intro b _ R hR
  unfold Loops.at_ at hR
  split at hR <;> cases hR

/-- One told loop in a function. -/
def oneLoop (key : Nat) (R : LRun) : Loops := fun n => bif Nat.beq n key then some R else none

theorem oneLoop_at {key : Nat} {R R' : LRun} {b : Code} (h : (oneLoop key R).at_ b = some R') : R' = R := by
  unfold Loops.at_ oneLoop at h
  split at h
  · rename_i n _
    cases hb : Nat.beq n key with
    | true => rw [hb] at h; simpa using h.symm
    | false => rw [hb] at h; cases h
  · cases h

/-- A FUNCTION WITH ONE TOLD LOOP. -/
theorem loopFn_entry {U : Nat → D → D} {P : Program} {f : FuncId} {fn : Func} {body : Code} {ct : Contracts} {key n : Nat} {R : LRun} (hm : P.follows .mixedOrders = true) (hn : NamesOk P) (hct : ContractsOk U P ct) (hf : P.funcs[f]? = some fn) (hb : fn.body = some body)
    (hlen : (loopsOf body).length = 1) (hwf : R.loop.wf = true) (hok : okA 1000 (mapT R.loop.leaf (execL P ct (fun _ => none) n (bodyOf body 0) R.loop.s0)) = true)
    (ht : Told U (mapT R.loop.leaf (execL P ct (fun _ => none) n (bodyOf body 0) R.loop.s0)) R) : EntryOk U P f (textL P ct (oneLoop key R) n fn body) :=
  textL_entry hm hn hct hf hb (loops_one hlen fun R' hR' => by
    rw [oneLoop_at hR']
    exact lrun_ok (execL_ok hm hn hct n _ loops_none) hwf hok ht)
end
end Go.Sx
