/-
  Sx, part Tv: as part Tx, for elements of some numbers, any mark between, and texts of any one length.
-/
import Derived.Test.YtamagfkmmoonlaaDoorSxTx
namespace Go.Sx.Tv
open E (mk1 mk2 mkIte mk1_ev mk2_ev mkIte_ev lenE lenE_ev)
open Go.RowKit (Below)

/-! ### The text of an element -/

/-- The text of an element whose numbers stand under the names from 1000 on, which are asked for their bits alone. -/
def onlyB (m : Nat) : E → Bool
  | .app 1 (.v k) => Nat.ble 1000 k && Nat.blt k (1000 + m)
  | .v _ => false
  | .o1 _ x => onlyB m x
  | .o2 _ x y => onlyB m x && onlyB m y
  | .o3 _ x y z => onlyB m x && (onlyB m y && onlyB m z)
  | .app _ x => onlyB m x
  | _ => true
section
variable {U : Nat → D → D}
theorem onlyB_ev {m : Nat} (hU : FloatWord U) {r r' : Nat → D} (hr : ∀ k, 1000 ≤ k → k < 1000 + m → (r k).toF = (r' k).toF) : ∀ {h : E}, onlyB m h = true → h.ev U r = h.ev U r' := by
  intro h
  induction h with
  | v n => intro ho; simp [onlyB] at ho
  | o1 o x ih => intro ho; simp only [onlyB] at ho; simp only [E.ev, ih ho]
  | o2 o x y ihx ihy => intro ho; simp only [onlyB, Bool.and_eq_true] at ho; simp only [E.ev, ihx ho.1, ihy ho.2]
  | o3 o x y z ihx ihy ihz => intro ho; simp only [onlyB, Bool.and_eq_true] at ho; simp only [E.ev, ihx ho.1, ihy ho.2.1, ihz ho.2.2]
  | app n x ih =>
    intro ho
    by_cases hh : ∃ k, n = 1 ∧ x = .v k
    · obtain ⟨k, rfl, rfl⟩ := hh
      simp only [onlyB, Bool.and_eq_true] at ho
      have h1 := Nat.le_of_ble_eq_true ho.1
      have h2 : k < 1000 + m := by have := ho.2; rwa [Nat.blt_eq] at this
      exact hU _ _ (hr k h1 h2)
    · have hx : onlyB m x = true := by
        rw [onlyB] at ho
        · exact ho
        · intro k h1 h2; exact hh ⟨k, h1, h2⟩
      show U _ _ = U _ _
      rw [ih hx]
  | _ => intro _; rfl

/-- The text of an element. -/
def elS (U : Nat → D → D) (h : E) (d : D) : ByteArray := (h.ev U (fun n => d.at_ (n - 1000))).toS
theorem elS_at {m : Nat} (hU : FloatWord U) {h : E} (ho : onlyB m h = true) {r : Nat → D} {d : D} (hr : ∀ j, j < m → (r (1000 + j)).toF = (d.at_ j).toF) : (h.ev U r).toS = elS U h d := by
  unfold elS
  rw [onlyB_ev hU (r' := fun n => d.at_ (n - 1000)) (fun k h1 h2 => by
    have := hr (k - 1000) (by omega)
    rwa [show 1000 + (k - 1000) = k by omega] at this) ho]

/-- The numbers of the element at hand, under names. -/
def nmT (iv : Nat) : Nat → Nat → Tree LRes → Tree LRes
  | _, 0, K => K
  | j, m + 1, K => .chk (.o2 .fsame (.v (1000 + j)) (.o2 .sel (.o2 .sel (.v 0) (.v iv)) (.i j))) (nmT iv (j + 1) m K)
theorem nmT_ev {iv : Nat} (hiv : iv < 1000) : ∀ (m j : Nat) (r : Nat → D) (K : Tree LRes), ∃ r', evA U (nmT iv j m K) r = evA U K r' ∧ (∀ n, n < 1000 + j → r' n = r n) ∧ ∀ q, j ≤ q → q < j + m → r' (1000 + q) = ((r 0).toL.getD (r iv).toI.toNat (.b false)).at_ q := by
  intro m
  induction m with
  | zero => intro j r K; exact ⟨r, rfl, fun _ _ => rfl, fun q h1 h2 => by omega⟩
  | succ m ih =>
    intro j r K
    obtain ⟨r', h1, h2, h3⟩ := ih (j + 1) (Tree.upd r (1000 + j) ((E.o2 .sel (.o2 .sel (.v 0) (.v iv)) (.i j)).ev U r)) K
    have low : ∀ n, n < 1000 + j → Tree.upd r (1000 + j) ((E.o2 .sel (.o2 .sel (.v 0) (.v iv)) (.i j)).ev U r) n = r n := fun n hn => upd_low hn
    refine ⟨r', h1, fun n hn => by rw [h2 n (by omega)]; exact low n hn, fun q q1 q2 => ?_⟩
    rcases Nat.lt_or_ge j q with hlt | hge
    · rw [h3 q (by omega) (by omega), low 0 (by omega), low iv (by omega)]
    · have : q = j := by omega
      subst this
      rw [h2 (1000 + q) (by omega)]
      unfold Tree.upd
      rw [if_pos rfl]
      show ((r 0).toL.getD (r iv).toI.toNat (.b false)).at_ ((q : Int)).toNat = _
      rw [Int.toNat_natCast]

/-! ### Two loops -/

def partsT (m : Nat) (h : E) : Tree LRes :=
  .ite (.o2 .ilt (.v 3) (.v 2)) (nmT 3 0 m (.ret (.next [.v 0, .o2 .lpush (.v 1) (elemE [h]), .v 2, .o2 .iadd (.v 3) (.i 1)]))) (.ret (.done 0 [.v 0, .v 1]))
def textT (m : Nat) (sep : UInt8) (h : E) : Tree LRes :=
  .ite (.o2 .ilt (.v 2) (.o1 .llen (.v 0))) (nmT 2 0 m (.ret (.next [.v 0, .o2 .scat (.v 1) (.o2 .scat (.s [sep]) h), .o2 .iadd (.v 2) (.i 1)]))) (.ret (.done 0 [.v 0, .v 1]))
def textInv (s : Nat) : List E := [.o2 .ile (.i 1) (.v 2), .o2 .ile (.v 2) (.o1 .llen (.v 0)), .o2 .ile (.o1 .llen (.v 0)) (.i 1048576), .o2 .ieq (.o2 .iadd (.o1 .slen (.v 1)) (.i 1)) (.o2 .imul (.i ((s : Int) + 1)) (.v 2))]

/-- The parts. -/
def partL (U : Nat → D → D) (h : E) (l : List D) : List D := l.map fun d => .l [.s (elS U h d)]
/-- The texts behind the first, each with a mark before it. -/
def tailS (U : Nat → D → D) (sep : UInt8) (h : E) : List D → ByteArray
  | [] => .empty
  | d :: l => ⟨#[sep]⟩ ++ elS U h d ++ tailS U sep h l

theorem parts_run {mm : Nat} (hU : FloatWord U) {h : E} (ho : onlyB mm h = true) (ht : isTxt h = true) : ∀ (m : Nat) (a p n i : D), 0 ≤ i.toI → i.toI ≤ n.toI → n.toI = (a.toL.length : Int) → n.toI ≤ 1048576 → (p.toL.length : Int) = i.toI → (n.toI - i.toI).toNat ≤ m →
    ∃ o, LoopTo U partsInv (partsT mm h) [a, p, n, i] 0 [a, o] ∧ o.toL = p.toL ++ partL U h (a.toL.drop i.toI.toNat) := by
  have hold : ∀ {a p n i : D}, 0 ≤ i.toI → i.toI ≤ n.toI → n.toI = (a.toL.length : Int) → n.toI ≤ 1048576 → (p.toL.length : Int) = i.toI → HoldI U partsInv [a, p, n, i] := by
    intro a p n i h1 h2 h3 h4 h5 e he
    simp only [partsInv, List.mem_cons, List.not_mem_nil, or_false] at he
    rcases he with rfl | rfl | rfl | rfl | rfl
    · exact decide_eq_true h1
    · exact decide_eq_true h2
    · exact beq_iff_eq.2 h3
    · exact decide_eq_true h4
    · exact beq_iff_eq.2 h5
  intro m
  induction m with
  | zero =>
    intro a p n i h1 h2 h3 h4 h5 h6
    have hge : ¬ i.toI < n.toI := by omega
    refine ⟨p, ?_, ?_⟩
    · have hev : evA U (partsT mm h) (rOf [a, p, n, i]) = some (.done 0 [.v 0, .v 1], rOf [a, p, n, i]) := by
        show (if decide (i.toI < n.toI) = true then _ else _) = _
        rw [if_neg (by simpa using hge)]; rfl
      exact .done (hold h1 h2 h3 h4 h5) hev
    · rw [List.drop_eq_nil_of_le (by omega)]; simp [partL]
  | succ m ih =>
    intro a p n i h1 h2 h3 h4 h5 h6
    by_cases hlt : i.toI < n.toI
    · have hi : i.toI.toNat < a.toL.length := by omega
      obtain ⟨d, hd⟩ : ∃ d, a.toL[i.toI.toNat]? = some d := ⟨_, List.getElem?_eq_getElem hi⟩
      obtain ⟨r', e1, low', e3⟩ := nmT_ev (U := U) (iv := 3) (by omega) mm 0 (rOf [a, p, n, i]) (.ret (.next [.v 0, .o2 .lpush (.v 1) (elemE [h]), .v 2, .o2 .iadd (.v 3) (.i 1)]))
      have hev : evA U (partsT mm h) (rOf [a, p, n, i]) = some (.next [.v 0, .o2 .lpush (.v 1) (elemE [h]), .v 2, .o2 .iadd (.v 3) (.i 1)], r') := by
        show (if decide (i.toI < n.toI) = true then _ else _) = _
        rw [if_pos (by simpa using hlt)]; exact e1
      have low : ∀ q, q < 1000 → r' q = rOf [a, p, n, i] q := fun q hq => low' q (by omega)
      have hel : (h.ev U r').toS = elS U h d := by
        refine elS_at hU ho fun j hj => ?_
        rw [e3 j (by omega) (by omega)]
        show ((a.toL.getD i.toI.toNat (.b false)).at_ j).toF = _
        rw [List.getD_eq_getElem?_getD, hd]
        rfl
      have hnext : ([E.v 0, .o2 .lpush (.v 1) (elemE [h]), .v 2, .o2 .iadd (.v 3) (.i 1)] : List E).map (E.ev U r') = [a, .l (p.toL ++ [.l [h.ev U r']]), n, .i (i.toI + 1)] := by
        simp only [List.map_cons, List.map_nil, E.ev, O2.ev, elemE_ev, low 0 (by omega), low 1 (by omega), low 2 (by omega), low 3 (by omega), D.toI_i]
        rfl
      obtain ⟨o, q1, q2⟩ := ih a (.l (p.toL ++ [.l [h.ev U r']])) n (.i (i.toI + 1)) (by show 0 ≤ i.toI + 1; omega) (by show i.toI + 1 ≤ n.toI; omega) h3 h4 (by rw [D.toL_l, List.length_append]; show ((_ + 1 : Nat) : Int) = i.toI + 1; omega) (by show (n.toI - (i.toI + 1)).toNat ≤ m; omega)
      refine ⟨o, .next (hold h1 h2 h3 h4 h5) hev (by rw [hnext]; exact q1), ?_⟩
      rw [q2, D.toL_l, drop_at hd, isTxt_ev ht, hel]
      show _ ++ partL U h (a.toL.drop (i.toI + 1).toNat) = _
      rw [show (i.toI + 1).toNat = i.toI.toNat + 1 by omega]
      simp [partL]
    · refine ⟨p, ?_, ?_⟩
      · have hev : evA U (partsT mm h) (rOf [a, p, n, i]) = some (.done 0 [.v 0, .v 1], rOf [a, p, n, i]) := by
          show (if decide (i.toI < n.toI) = true then _ else _) = _
          rw [if_neg (by simpa using hlt)]; rfl
        exact .done (hold h1 h2 h3 h4 h5) hev
      · rw [List.drop_eq_nil_of_le (by omega)]; simp [partL]

theorem text_run {mm s : Nat} {sep : UInt8} (hU : FloatWord U) {h : E} (ho : onlyB mm h = true) (h8 : lenE h = some s) : ∀ (m : Nat) (a p i : D), 1 ≤ i.toI → i.toI ≤ (a.toL.length : Int) → (a.toL.length : Int) ≤ 1048576 → (p.toS.size : Int) + 1 = ((s : Int) + 1) * i.toI → ((a.toL.length : Int) - i.toI).toNat ≤ m →
    ∃ o, LoopTo U (textInv s) (textT mm sep h) [a, p, i] 0 [a, o] ∧ ((i.toI = (a.toL.length : Int) ∧ o = p) ∨ (i.toI ≠ (a.toL.length : Int) ∧ ∃ x, o = .s x)) ∧ o.toS = p.toS ++ tailS U sep h (a.toL.drop i.toI.toNat) := by
  have hold : ∀ {a p i : D}, 1 ≤ i.toI → i.toI ≤ (a.toL.length : Int) → (a.toL.length : Int) ≤ 1048576 → (p.toS.size : Int) + 1 = ((s : Int) + 1) * i.toI → HoldI U (textInv s) [a, p, i] := by
    intro a p i h1 h2 h3 h4 e he
    simp only [textInv, List.mem_cons, List.not_mem_nil, or_false] at he
    rcases he with rfl | rfl | rfl | rfl
    · exact decide_eq_true h1
    · exact decide_eq_true h2
    · exact decide_eq_true h3
    · exact beq_iff_eq.2 h4
  intro m
  induction m with
  | zero =>
    intro a p i h1 h2 h3 h4 h5
    have hge : ¬ i.toI < (a.toL.length : Int) := by omega
    refine ⟨p, ?_, .inl ⟨by omega, rfl⟩, ?_⟩
    · have hev : evA U (textT mm sep h) (rOf [a, p, i]) = some (.done 0 [.v 0, .v 1], rOf [a, p, i]) := by
        show (if decide (i.toI < (a.toL.length : Int)) = true then _ else _) = _
        rw [if_neg (by simpa using hge)]; rfl
      exact .done (hold h1 h2 h3 h4) hev
    · rw [List.drop_eq_nil_of_le (by omega)]; exact ByteArray.append_empty.symm
  | succ m ih =>
    intro a p i h1 h2 h3 h4 h5
    by_cases hlt : i.toI < (a.toL.length : Int)
    · have hi : i.toI.toNat < a.toL.length := by omega
      obtain ⟨d, hd⟩ : ∃ d, a.toL[i.toI.toNat]? = some d := ⟨_, List.getElem?_eq_getElem hi⟩
      obtain ⟨r', e1, low', e3⟩ := nmT_ev (U := U) (iv := 2) (by omega) mm 0 (rOf [a, p, i]) (.ret (.next [.v 0, .o2 .scat (.v 1) (.o2 .scat (.s [sep]) h), .o2 .iadd (.v 2) (.i 1)]))
      have hev : evA U (textT mm sep h) (rOf [a, p, i]) = some (.next [.v 0, .o2 .scat (.v 1) (.o2 .scat (.s [sep]) h), .o2 .iadd (.v 2) (.i 1)], r') := by
        show (if decide (i.toI < (a.toL.length : Int)) = true then _ else _) = _
        rw [if_pos (by simpa using hlt)]; exact e1
      have low : ∀ q, q < 1000 → r' q = rOf [a, p, i] q := fun q hq => low' q (by omega)
      have hel : (h.ev U r').toS = elS U h d := by
        refine elS_at hU ho fun j hj => ?_
        rw [e3 j (by omega) (by omega)]
        show ((a.toL.getD i.toI.toNat (.b false)).at_ j).toF = _
        rw [List.getD_eq_getElem?_getD, hd]
        rfl
      have hsz : (elS U h d).size = s := by rw [← hel]; exact lenE_ev U r' h8
      have hcat : ((E.o2 .scat (.v 1) (.o2 .scat (.s [sep]) h)).ev U r') = .s (p.toS ++ (⟨#[sep]⟩ ++ elS U h d)) := by
        show D.s ((r' 1).toS ++ (_ ++ (h.ev U r').toS)) = _
        rw [low 1 (by omega), hel]; rfl
      have hnext : ([E.v 0, .o2 .scat (.v 1) (.o2 .scat (.s [sep]) h), .o2 .iadd (.v 2) (.i 1)] : List E).map (E.ev U r') = [a, .s (p.toS ++ (⟨#[sep]⟩ ++ elS U h d)), .i (i.toI + 1)] := by
        simp only [List.map_cons, List.map_nil, hcat]
        simp only [E.ev, O2.ev, low 0 (by omega), low 2 (by omega), D.toI_i]
        rfl
      have hsize : (p.toS ++ (⟨#[sep]⟩ ++ elS U h d)).size = p.toS.size + (s + 1) := by
        rw [ByteArray.size_append, ByteArray.size_append, hsz]
        show p.toS.size + (1 + s) = _
        omega
      obtain ⟨o, q1, q2, q3⟩ := ih a (.s (p.toS ++ (⟨#[sep]⟩ ++ elS U h d))) (.i (i.toI + 1)) (by show 1 ≤ i.toI + 1; omega) (by show i.toI + 1 ≤ _; omega) h3 (by show (((p.toS ++ (⟨#[sep]⟩ ++ elS U h d)).size : Nat) : Int) + 1 = ((s : Int) + 1) * (i.toI + 1); rw [hsize, Int.mul_add]; omega) (by show ((a.toL.length : Int) - (i.toI + 1)).toNat ≤ m; omega)
      refine ⟨o, .next (hold h1 h2 h3 h4) hev (by rw [hnext]; exact q1), ?_, ?_⟩
      · rcases q2 with ⟨_, rfl⟩ | ⟨_, q2⟩
        · exact .inr ⟨by omega, _, rfl⟩
        · exact .inr ⟨by omega, q2⟩
      · rw [q3, drop_at hd, D.toS_s]
        show _ ++ tailS U sep h (a.toL.drop (i.toI + 1).toNat) = _
        rw [show (i.toI + 1).toNat = i.toI.toNat + 1 by omega]
        show _ = _ ++ (⟨#[sep]⟩ ++ elS U h d ++ tailS U sep h (a.toL.drop (i.toI.toNat + 1)))
        simp only [ByteArray.append_assoc]
    · refine ⟨p, ?_, .inl ⟨by omega, rfl⟩, ?_⟩
      · have hev : evA U (textT mm sep h) (rOf [a, p, i]) = some (.done 0 [.v 0, .v 1], rOf [a, p, i]) := by
          show (if decide (i.toI < (a.toL.length : Int)) = true then _ else _) = _
          rw [if_neg (by simpa using hlt)]; rfl
        exact .done (hold h1 h2 h3 h4) hev
      · rw [List.drop_eq_nil_of_le (by omega)]; exact ByteArray.append_empty.symm

/-! ### Told -/

def partsRun (A : LoopT) (pn : Nat) : LRun := ⟨A, fun _ => .i 0, fun _ es => [nmOf es 0, .app pn (nmOf es 0)], [.o2 .ieq (.v 3) (.i 0)], none, fun _ es => [(.o2 .ieq (.o1 .llen (.app pn (nmOf es 0))) (.o1 .llen (nmOf es 0)), true)]⟩
theorem parts_told {A : LoopT} {pn mm : Nat} {h : E} {T : Tree LRes} (hU : FloatWord U) (hP : ∀ d, U pn d = .l (partL U h d.toL)) (ho : onlyB mm h = true) (ht : isTxt h = true) (hT : T = partsT mm h) (hinv : A.inv = partsInv) (hcnt : A.t.cnt = 4)
    (houts : (A.outs.all fun x => Nat.beq x.2.blks.length 2) = true) : Told U T (partsRun A pn) := by
  subst hT
  intro r es hlen hI hE _
  have hlen : es.length = 4 := hlen.trans hcnt
  match es, hlen with
  | [e0, e1, e2, e3], _ =>
    have hI : HoldI U partsInv ([e0, e1, e2, e3].map (E.ev U r)) := hinv ▸ hI
    have i1 : (e3.ev U r).toI ≤ (e2.ev U r).toI := of_decide_eq_true (hI (.o2 .ile (.v 3) (.v 2)) (by simp [partsInv]))
    have i2 : (e2.ev U r).toI = ((e0.ev U r).toL.length : Int) := beq_iff_eq.1 (hI (.o2 .ieq (.v 2) (.o1 .llen (.v 0))) (by simp [partsInv]))
    have i3 : (e2.ev U r).toI ≤ 1048576 := of_decide_eq_true (hI (.o2 .ile (.v 2) (.i 1048576)) (by simp [partsInv]))
    have i4 : ((e1.ev U r).toL.length : Int) = (e3.ev U r).toI := beq_iff_eq.1 (hI (.o2 .ieq (.o1 .llen (.v 1)) (.v 3)) (by simp [partsInv]))
    have i5 : (e3.ev U r).toI = 0 := beq_iff_eq.1 (hE (.o2 .ieq (.v 3) (.i 0)) (by simp [partsRun]))
    obtain ⟨o, q1, q2⟩ := parts_run hU ho ht _ (e0.ev U r) (e1.ev U r) (e2.ev U r) (e3.ev U r) (by omega) i1 i2 i3 i4 (Nat.le_refl _)
    have hp : (e1.ev U r).toL = [] := List.eq_nil_of_length_eq_zero (by omega)
    rw [hp, i5] at q2
    have q2 : o.toL = partL U h (e0.ev U r).toL := q2
    refine ⟨0, _, (show LoopTo U A.inv _ _ _ _ from hinv.symm ▸ q1), rfl, ?_, fun e to hto j => ?_⟩
    · intro x hx
      rw [List.mem_singleton.1 hx]
      show ((((U pn (e0.ev U r)).toL.length : Nat) : Int) == (((e0.ev U r).toL.length : Nat) : Int)) = true
      rw [hP, D.toL_l, partL, List.length_map, beq_self_eq_true]
    · have hb : to.blks.length = 2 := Nat.eq_of_beq_eq_true (List.all_eq_true.1 houts _ (List.mem_of_getElem? hto))
      rw [hb]
      match j with
      | 0 => exact .of_eq rfl
      | 1 => exact ⟨by show o.toL = (U pn (e0.ev U r)).toL; rw [hP, q2]; rfl, fun h => absurd h (by omega)⟩
      | j + 2 => exact .of_eq rfl

def textRun (A : LoopT) (tn : Nat) : LRun := ⟨A, fun _ => .i 0, fun _ es => [nmOf es 0, if isTxt (nmOf es 1) then .o2 .scat (nmOf es 1) (.app tn (nmOf es 0)) else .o3 .ite (.o2 .ieq (nmOf es 2) (.o1 .llen (nmOf es 0))) (nmOf es 1) (.o2 .scat (nmOf es 1) (.app tn (nmOf es 0)))], [.o2 .ieq (.v 2) (.i 1)], none, fun _ _ => []⟩
theorem text_told {A : LoopT} {tn mm s : Nat} {sep : UInt8} {h : E} {T : Tree LRes} (hU : FloatWord U) (hP : ∀ d, U tn d = .s (tailS U sep h (d.toL.drop 1))) (ho : onlyB mm h = true) (h8 : lenE h = some s) (hT : T = textT mm sep h) (hinv : A.inv = textInv s) (hcnt : A.t.cnt = 3) : Told U T (textRun A tn) := by
  subst hT
  intro r es hlen hI hE _
  have hlen : es.length = 3 := hlen.trans hcnt
  match es, hlen with
  | [e0, e1, e2], _ =>
    have hI : HoldI U (textInv s) ([e0, e1, e2].map (E.ev U r)) := hinv ▸ hI
    have i0 : 1 ≤ (e2.ev U r).toI := of_decide_eq_true (hI (.o2 .ile (.i 1) (.v 2)) (by simp [textInv]))
    have i1 : (e2.ev U r).toI ≤ ((e0.ev U r).toL.length : Int) := of_decide_eq_true (hI (.o2 .ile (.v 2) (.o1 .llen (.v 0))) (by simp [textInv]))
    have i2 : ((e0.ev U r).toL.length : Int) ≤ 1048576 := of_decide_eq_true (hI (.o2 .ile (.o1 .llen (.v 0)) (.i 1048576)) (by simp [textInv]))
    have i3 : ((e1.ev U r).toS.size : Int) + 1 = ((s : Int) + 1) * (e2.ev U r).toI := beq_iff_eq.1 (hI (.o2 .ieq (.o2 .iadd (.o1 .slen (.v 1)) (.i 1)) (.o2 .imul (.i ((s : Int) + 1)) (.v 2))) (by simp [textInv]))
    have i5 : (e2.ev U r).toI = 1 := beq_iff_eq.1 (hE (.o2 .ieq (.v 2) (.i 1)) (by simp [textRun]))
    obtain ⟨o, q1, q2, q3⟩ := text_run hU ho h8 _ (e0.ev U r) (e1.ev U r) (e2.ev U r) i0 i1 i2 i3 (Nat.le_refl _)
    rw [i5] at q3
    have q3 : o.toS = (e1.ev U r).toS ++ (U tn (e0.ev U r)).toS := by rw [hP]; exact q3
    refine ⟨0, _, (show LoopTo U A.inv _ _ _ _ from hinv.symm ▸ q1), rfl, (fun _ hx => by cases hx), fun e to hto j => ?_⟩
    match j with
    | 0 => exact .of_eq rfl
    | 1 =>
      have cat : (E.o2 .scat e1 (.app tn e0)).ev U r = .s ((e1.ev U r).toS ++ (U tn (e0.ev U r)).toS) := rfl
      have htx : ∀ {x : ByteArray}, o = .s x → o = (E.o2 .scat e1 (.app tn e0)).ev U r := fun hx => by
        rw [cat, ← q3, hx]; rfl
      refine .of_eq ?_
      show o = ((if isTxt e1 then E.o2 .scat e1 (.app tn e0) else .o3 .ite (.o2 .ieq e2 (.o1 .llen e0)) e1 (.o2 .scat e1 (.app tn e0)))).ev U r
      split
      · rename_i hi
        rcases q2 with ⟨_, rfl⟩ | ⟨_, x, hx⟩
        · exact htx (isTxt_ev hi r)
        · exact htx hx
      · show o = if ((e2.ev U r).toI == (((e0.ev U r).toL.length : Nat) : Int)) = true then e1.ev U r else (E.o2 .scat e1 (.app tn e0)).ev U r
        rcases q2 with ⟨hq, rfl⟩ | ⟨hq, x, hx⟩
        · rw [if_pos (beq_iff_eq.2 hq)]
        · rw [if_neg (by simpa using hq)]; exact htx hx
    | j + 2 => exact .of_eq rfl
end

/-! ### Joined -/

def joinD (U : Nat → D → D) (sep : UInt8) (h : E) (l : List D) : ByteArray := ⟨(Lib.join (l.map fun d => (elS U h d).data.toList) [sep]).toArray⟩
section
variable {U : Nat → D → D}
theorem tail_join {sep : UInt8} {h : E} : ∀ l : List D, (tailS U sep h l).data.toList = Lib.joinTail [sep] (l.map fun d => (elS U h d).data.toList) := by
  intro l
  induction l with
  | nil => rfl
  | cons d l ih =>
    show ((⟨#[sep]⟩ ++ elS U h d ++ tailS U sep h l).data).toList = _
    rw [ByteArray.data_append, Array.toList_append, ByteArray.data_append, Array.toList_append, ih]
    simp [Lib.joinTail]
theorem first_join {sep : UInt8} {h : E} {l : List D} {d : D} {o : ByteArray} (h0 : l[0]? = some d) (ho : o = elS U h d) : o ++ tailS U sep h (l.drop 1) = joinD U sep h l := by
  subst ho
  cases l with
  | nil => cases h0
  | cons x l =>
    cases h0
    apply ByteArray.ext
    apply Array.ext'
    show ((elS U h d ++ tailS U sep h l).data).toList = (Lib.join ((elS U h d).data.toList :: l.map fun d => (elS U h d).data.toList) [sep]).toArray.toList
    rw [ByteArray.data_append, Array.toList_append, tail_join, Lib.join_cons]
theorem join_size {s : Nat} (sep : UInt8) {h : E} (h8 : lenE h = some s) (l : List D) : (Lib.join (l.map fun d => (elS U h d).data.toList) [sep]).length ≤ (s + 1) * l.length := by
  have hsz : ∀ d : D, (elS U h d).data.toList.length = s := fun d => by
    have : (elS U h d).size = s := lenE_ev U _ h8
    rw [Array.length_toList]; exact this
  have tail : ∀ l : List D, (Lib.joinTail [sep] (l.map fun d => (elS U h d).data.toList)).length = (s + 1) * l.length := by
    intro l
    induction l with
    | nil => rfl
    | cons d l ih =>
      show (([sep] ++ (elS U h d).data.toList) ++ Lib.joinTail [sep] (l.map fun d => (elS U h d).data.toList)).length = _
      rw [List.length_append, List.length_append, ih, hsz, show (d :: l).length = l.length + 1 from rfl, Nat.mul_add]
      simp; omega
  cases l with
  | nil => simp [Lib.join, List.intercalate]
  | cons d l =>
    show (Lib.join ((elS U h d).data.toList :: l.map fun d => (elS U h d).data.toList) [sep]).length ≤ _
    rw [Lib.join_cons, List.length_append, tail, hsz, show (d :: l).length = l.length + 1 from rfl, Nat.mul_add]
    omega

theorem joinE'_ev {jn s : Nat} {sep : UInt8} {h : E} {a : E} {r : Nat → D} (hJn : ∀ d, U jn d = .s (joinD U sep h d.toL)) (h8 : lenE h = some s) (hs : s ≤ 100) (hl : (((a.ev U r).toL.length : Nat) : Int) ≤ 65536) : ((joinE' jn a).ev U r).toS = joinD U sep h (a.ev U r).toL := by
  show ((U jn (a.ev U r)).toS.extract 0 9437184) = _
  rw [hJn]
  refine extract_all ?_
  have h1 := join_size (U := U) sep h8 (a.ev U r).toL
  have h2 : (s + 1) * (a.ev U r).toL.length ≤ 101 * 65536 := Nat.mul_le_mul (by omega) (by omega)
  show (joinD U sep h (a.ev U r).toL).data.size ≤ _
  unfold joinD
  simp only [List.size_toArray]
  omega

/-- The library's join of such a row. -/
def joinRow (pn jn : Nat) (sep : UInt8) (other : List SV → Cx → Tree (SV × Cx)) (args : List SV) (c : Cx) : Tree (SV × Cx) :=
  match args with
  | [.slo id _ len, .str (.s [x])] => (match c.h[id]? with
    | some (some b) => (match b.row with
      | some (ks, .app n a) => if decide (x = sep) && (Nat.beq n pn && (sameSks ks [.s] && (len.same (mk1 .llen (.app n a)) && (sure (.o2 .ile (.i 1) (.o1 .llen a)) c.pc && sure (.o2 .ile (.o1 .llen a) (.i 65536)) c.pc)))) then .ret (.str (joinE' jn a), c) else other args c
      | _ => other args c)
    | _ => other args c)
  | _ => other args c
end
section
variable {U : Nat → D → D} {L : Nat → Prop} {r : Nat → D} {g : Gh} {c : Cx} {w w' : World} {P : Program} {K : Value → World → Prop}
theorem joinRow_entry {pn jn s : Nat} {sep : UInt8} {h : E} {other : List SV → Cx → Tree (SV × Cx)} {f : FuncId} {fn : Func} {body : Code} (hn : NamesOk P) (hf : P.funcs[f]? = some fn) (hb : fn.body = some body) (hJ : JoinSays P f) (hoth : EntryOk U P f other)
    (hP : ∀ d, U pn d = .l (partL U h d.toL)) (hJn : ∀ d, U jn d = .s (joinD U sep h d.toL)) (h8 : lenE h = some s) (hs100 : s ≤ 100) : EntryOk U P f (joinRow pn jn sep other) := by
  intro args c L r g w vs K hh hp hd hs
  unfold joinRow at hs
  split at hs
  case h_2 => exact hoth _ c L r g w vs K hh hp hd hs
  rename_i id sz len x
  split at hs
  case h_2 => exact hoth _ c L r g w vs K hh hp hd hs
  rename_i b hbk
  split at hs
  case h_2 => exact hoth _ c L r g w vs K hh hp hd hs
  rename_i ks n a hrow
  split at hs
  case isFalse => exact hoth _ c L r g w vs K hh hp hd hs
  rename_i hc
  simp only [Bool.and_eq_true] at hc
  obtain ⟨hx, hn1, hks, hlen, hl1, hl2⟩ := hc
  have hx := (of_decide_eq_true hx).symm
  subst hx
  have hn1 := Nat.eq_of_beq_eq_true hn1
  subst hn1
  have hks := sameSks_eq hks
  subst hks
  have hl1 : (1 : Int) ≤ (((a.ev U r).toL.length : Nat) : Int) := of_decide_eq_true (sure_ok hp hl1)
  have hl2 : (((a.ev U r).toL.length : Nat) : Int) ≤ 65536 := of_decide_eq_true (sure_ok hp hl2)
  obtain ⟨v1, v2, hvs⟩ : ∃ v1 v2, vs = #[v1, v2] := by
    have hl := SV.denL_length U r g L hd
    simp only [List.length_cons, List.length_nil, Array.length_toList] at hl
    match vs, hl with
    | ⟨[a, b]⟩, _ => exact ⟨a, b, rfl⟩
  subst hvs
  simp only [SV.denL, SV.den, and_true] at hd
  obtain ⟨⟨_, base, cp, rfl, hcp, hbase⟩, rfl⟩ := hd
  have hlv : (len.ev U r).toI = (((a.ev U r).toL.length : Nat) : Int) := by
    rw [E.same_eq hlen, mk1_ev]
    show (((U n (a.ev U r)).toL.length : Nat) : Int) = _
    rw [hP, D.toL_l, partL, List.length_map]
  rw [hlv, Int.toNat_natCast] at hcp ⊢
  rcases hbase with rfl | ⟨hl, rfl, _⟩
  · omega
  obtain ⟨xs, t, fz, e1, e2⟩ := hh.rows id b [.s] (.app n a) hl hbk hrow
  have hR : ((E.app n a).ev U r).toL = partL U h (a.ev U r).toL := by
    show (U n (a.ev U r)).toL = _
    rw [hP]; rfl
  rw [hR] at e2
  have hJ' := hJ (g.a id) (g.o id) cp ((a.ev U r).toL.map (elS U h)) ⟨#[sep]⟩ w (fun j x hx => by
    rw [cell_of e1]
    rw [List.getElem?_map, Option.map_eq_some_iff] at hx
    obtain ⟨d, hd, rfl⟩ := hx
    obtain ⟨_, q⟩ := e2 j (.l [.s (elS U h d)]) (by unfold partL; rw [List.getElem?_map, hd]; rfl)
    obtain ⟨v, hv, hden⟩ := q 0 .s rfl
    have hden : v = .string (elS U h d) := hden
    rw [hden] at hv
    simpa using hv) (hh.lt id hl) (by rw [List.length_map]; omega) (by rw [List.length_map]; exact hcp) (by
    have h1 := join_size (U := U) sep h8 (a.ev U r).toL
    have h2 : (s + 1) * (a.ev U r).toL.length ≤ 101 * 65536 := Nat.mul_le_mul (by omega) (by omega)
    rw [List.map_map]
    show (Lib.join ((a.ev U r).toL.map fun d => (elS U h d).data.toList) [sep]).length ≤ _
    omega)
  rw [List.length_map] at hJ'
  refine callGoal_of hn hf hb (hJ'.mono fun e w' ⟨he, hB⟩ => ⟨_, he, ?_⟩)
  refine hs g _ w' (ext_frame hh rfl (Nat.le_refl _) hp ⟨hB.os, hB.tape, hB.output, hB.size, fun k hk _ => hB.block k hk⟩) ?_
  simp only [SV.den]
  rw [joinE'_ev hJn h8 hs100 hl2]
  congr 1
  unfold joinD
  rw [List.map_map]
  rfl

end
end Go.Sx.Tv
