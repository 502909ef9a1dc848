/-
  Sx, part Tw: as part Tv, for texts that only have a longest length; the first element's text let into the joined one; small whole numbers in decimals; joins of some texts of bounded length.
-/
import Derived.Test.YtamagfkmmoonlaaDoorSxTv
namespace Go.Sx.Tw
open E (mk1 mk2 mkIte mk1_ev mk2_ev mkIte_ev)
open Go.RowKit (Below)

/-! ### Steps -/

def NextTo (U : Nat → D → D) (T : Tree LRes) (ds ds' : List D) : Prop := ∃ es r', evA U T (rOf ds) = some (.next es, r') ∧ es.map (E.ev U r') = ds'
def DoneTo (U : Nat → D → D) (T : Tree LRes) (ds : List D) (k : Nat) (os : List D) : Prop := ∃ es r', evA U T (rOf ds) = some (.done k es, r') ∧ es.map (E.ev U r') = os
section
variable {U : Nat → D → D} {T : Tree LRes} {inv : List E} {ds ds' os : List D} {k : Nat}
theorem loop_step (h : HoldI U inv ds) (hn : NextTo U T ds ds') (hl : LoopTo U inv T ds' k os) : LoopTo U inv T ds k os := by
  obtain ⟨es, r', h1, rfl⟩ := hn
  exact .next h h1 hl
theorem loop_stop (h : HoldI U inv ds) (hd : DoneTo U T ds k os) : LoopTo U inv T ds k os := by
  obtain ⟨es, r', h1, rfl⟩ := hd
  exact .done h h1
end

/-! ### Parts, and texts that grow from nothing -/

def partL (el : D → ByteArray) (l : List D) : List D := l.map fun d => .l [.s (el d)]
def tailS (sep : UInt8) (el : D → ByteArray) : List D → ByteArray
  | [] => .empty
  | d :: l => ⟨#[sep]⟩ ++ el d ++ tailS sep el l
def joinD (sep : UInt8) (el : D → ByteArray) (l : List D) : ByteArray := ⟨(Lib.join (l.map fun d => (el d).data.toList) [sep]).toArray⟩
section
variable {U : Nat → D → D} {T : Tree LRes} {inv : List E} {el : D → ByteArray} {sep : UInt8}
theorem tail_join : ∀ l : List D, (tailS sep el l).data.toList = Lib.joinTail [sep] (l.map fun d => (el d).data.toList) := by
  intro l
  induction l with
  | nil => rfl
  | cons d l ih =>
    show ((⟨#[sep]⟩ ++ el d ++ tailS sep el l).data).toList = _
    rw [ByteArray.data_append, Array.toList_append, ByteArray.data_append, Array.toList_append, ih]
    simp [Lib.joinTail]
theorem first_join {l : List D} {d : D} {o : ByteArray} (h0 : l[0]? = some d) (ho : o = el d) : o ++ tailS sep el (l.drop 1) = joinD sep el l := by
  subst ho
  cases l with
  | nil => cases h0
  | cons x l =>
    cases h0
    apply ByteArray.ext
    apply Array.ext'
    show ((el d ++ tailS sep el l).data).toList = (Lib.join ((el d).data.toList :: l.map fun d => (el d).data.toList) [sep]).toArray.toList
    rw [ByteArray.data_append, Array.toList_append, tail_join, Lib.join_cons]
theorem join_size {s : Nat} (hs : ∀ d, (el d).size ≤ s) (l : List D) : (Lib.join (l.map fun d => (el d).data.toList) [sep]).length ≤ (s + 1) * l.length := by
  have hsz : ∀ d : D, (el d).data.toList.length ≤ s := fun d => by rw [Array.length_toList]; exact hs d
  have tail : ∀ l : List D, (Lib.joinTail [sep] (l.map fun d => (el d).data.toList)).length ≤ (s + 1) * l.length := by
    intro l
    induction l with
    | nil => exact Nat.le_refl _
    | cons d l ih =>
      show (([sep] ++ (el d).data.toList) ++ Lib.joinTail [sep] (l.map fun d => (el d).data.toList)).length ≤ _
      rw [List.length_append, List.length_append, show (d :: l).length = l.length + 1 from rfl, Nat.mul_add]
      have := hsz d
      simp only [List.length_singleton]
      omega
  cases l with
  | nil => simp [Lib.join, List.intercalate]
  | cons d l =>
    show (Lib.join ((el d).data.toList :: l.map fun d => (el d).data.toList) [sep]).length ≤ _
    rw [Lib.join_cons, List.length_append, show (d :: l).length = l.length + 1 from rfl, Nat.mul_add]
    have := tail l
    have := hsz d
    omega
theorem joinE'_ev {jn s : Nat} {a : E} {r : Nat → D} (hJn : ∀ d, U jn d = .s (joinD sep el d.toL)) (hs : ∀ d, (el d).size ≤ s) (hs100 : s ≤ 100) (hl : (((a.ev U r).toL.length : Nat) : Int) ≤ 65536) : ((joinE' jn a).ev U r).toS = joinD sep el (a.ev U r).toL := by
  show ((U jn (a.ev U r)).toS.extract 0 9437184) = _
  rw [hJn]
  refine extract_all ?_
  have h1 := join_size (sep := sep) hs (a.ev U r).toL
  have h2 : (s + 1) * (a.ev U r).toL.length ≤ 101 * 65536 := Nat.mul_le_mul (by omega) (by omega)
  show (joinD sep el (a.ev U r).toL).data.size ≤ _
  unfold joinD
  simp only [List.size_toArray]
  omega

theorem parts_run {mk : D → D → D → List D} {out : D → List D} {l : List D}
    (hh : ∀ q p i : D, 0 ≤ i.toI → i.toI ≤ (l.length : Int) → (p.toL.length : Int) = i.toI → HoldI U inv (mk q p i))
    (hs : ∀ (q p i d : D), 0 ≤ i.toI → i.toI < (l.length : Int) → l[i.toI.toNat]? = some d → NextTo U T (mk q p i) (mk (.b false) (.l (p.toL ++ [.l [.s (el d)]])) (.i (i.toI + 1))))
    (hd : ∀ q p i : D, i.toI = (l.length : Int) → DoneTo U T (mk q p i) 0 (out p)) :
    ∀ (m : Nat) (q p i : D), 0 ≤ i.toI → i.toI ≤ (l.length : Int) → (p.toL.length : Int) = i.toI → ((l.length : Int) - i.toI).toNat ≤ m → ∃ o, LoopTo U inv T (mk q p i) 0 (out o) ∧ o.toL = p.toL ++ partL el (l.drop i.toI.toNat) := by
  have stop : ∀ q p i : D, 0 ≤ i.toI → (p.toL.length : Int) = i.toI → i.toI = (l.length : Int) → ∃ o, LoopTo U inv T (mk q p i) 0 (out o) ∧ o.toL = p.toL ++ partL el (l.drop i.toI.toNat) := fun q p i h1 h2 h3 =>
    ⟨p, loop_stop (hh q p i h1 (by omega) h2) (hd q p i h3), by rw [List.drop_eq_nil_of_le (by omega)]; simp [partL]⟩
  intro m
  induction m with
  | zero => intro q p i h1 h2 h3 h4; exact stop q p i h1 h3 (by omega)
  | succ m ih =>
    intro q p i h1 h2 h3 h4
    by_cases hlt : i.toI < (l.length : Int)
    · obtain ⟨d, hdd⟩ : ∃ d, l[i.toI.toNat]? = some d := ⟨_, List.getElem?_eq_getElem (by omega)⟩
      obtain ⟨o, q1, q2⟩ := ih (.b false) (.l (p.toL ++ [.l [.s (el d)]])) (.i (i.toI + 1)) (by show 0 ≤ i.toI + 1; omega) (by show i.toI + 1 ≤ _; omega) (by rw [D.toL_l, List.length_append]; show ((_ + 1 : Nat) : Int) = i.toI + 1; omega) (by show ((l.length : Int) - (i.toI + 1)).toNat ≤ m; omega)
      refine ⟨o, loop_step (hh q p i h1 h2 h3) (hs q p i d h1 hlt hdd) q1, ?_⟩
      rw [q2, D.toL_l, drop_at hdd]
      show _ ++ partL el (l.drop (i.toI + 1).toNat) = _
      rw [show (i.toI + 1).toNat = i.toI.toNat + 1 by omega]
      simp [partL]
    · exact stop q p i h1 h3 (by omega)

/-- A text that grows out of nothing, with a mark before each element but the first. -/
theorem text0_run {mk : D → D → List D} {out : D → List D} {l : List D} {s : Nat} (hsz : ∀ d, (el d).size ≤ s)
    (hh : ∀ p i : D, 0 ≤ i.toI → i.toI ≤ (l.length : Int) → (p.toS.size : Int) ≤ ((s : Int) + 1) * i.toI → HoldI U inv (mk p i))
    (h0 : ∀ (p i d : D), i.toI = 0 → l[0]? = some d → NextTo U T (mk p i) (mk (.s (p.toS ++ el d)) (.i 1)))
    (hs : ∀ (p i d : D), 0 < i.toI → i.toI < (l.length : Int) → l[i.toI.toNat]? = some d → NextTo U T (mk p i) (mk (.s (p.toS ++ (⟨#[sep]⟩ ++ el d))) (.i (i.toI + 1))))
    (hd : ∀ p i : D, i.toI = (l.length : Int) → DoneTo U T (mk p i) 0 (out p)) (p i : D) (hi : i.toI = 0) (hp : p.toS = .empty) (hl : 1 ≤ l.length) : LoopTo U inv T (mk p i) 0 (out (.s (joinD sep el l))) := by
  have go : ∀ (m : Nat) (x : ByteArray) (i : D), 1 ≤ i.toI → i.toI ≤ (l.length : Int) → (x.size : Int) ≤ ((s : Int) + 1) * i.toI → ((l.length : Int) - i.toI).toNat ≤ m → LoopTo U inv T (mk (.s x) i) 0 (out (.s (x ++ tailS sep el (l.drop i.toI.toNat)))) := by
    have stop : ∀ (x : ByteArray) (i : D), 1 ≤ i.toI → (x.size : Int) ≤ ((s : Int) + 1) * i.toI → i.toI = (l.length : Int) → LoopTo U inv T (mk (.s x) i) 0 (out (.s (x ++ tailS sep el (l.drop i.toI.toNat)))) := fun x i h1 h2 h3 => by
      rw [List.drop_eq_nil_of_le (by omega)]
      show LoopTo U inv T (mk (.s x) i) 0 (out (.s (x ++ ByteArray.empty)))
      rw [ByteArray.append_empty]
      exact loop_stop (hh _ i (by omega) (by omega) h2) (hd _ i h3)
    intro m
    induction m with
    | zero => intro x i h1 h2 h3 h4; exact stop x i h1 h3 (by omega)
    | succ m ih =>
      intro x i h1 h2 h3 h4
      by_cases hlt : i.toI < (l.length : Int)
      · obtain ⟨d, hdd⟩ : ∃ d, l[i.toI.toNat]? = some d := ⟨_, List.getElem?_eq_getElem (by omega)⟩
        have q := ih (x ++ (⟨#[sep]⟩ ++ el d)) (.i (i.toI + 1)) (by show 1 ≤ i.toI + 1; omega) (by show i.toI + 1 ≤ _; omega) (by
          rw [ByteArray.size_append, ByteArray.size_append]
          show ((x.size + (1 + (el d).size) : Nat) : Int) ≤ ((s : Int) + 1) * (i.toI + 1)
          have := hsz d
          rw [Int.mul_add]; omega) (by show ((l.length : Int) - (i.toI + 1)).toNat ≤ m; omega)
        refine loop_step (hh _ i (by omega) h2 h3) (hs _ i d (by omega) hlt hdd) ?_
        rw [drop_at hdd]
        have e : x ++ tailS sep el (d :: l.drop (i.toI.toNat + 1)) = (x ++ (⟨#[sep]⟩ ++ el d)) ++ tailS sep el (l.drop ((.i (i.toI + 1) : D).toI.toNat)) := by
          show _ = _ ++ tailS sep el (l.drop (i.toI + 1).toNat)
          rw [show (i.toI + 1).toNat = i.toI.toNat + 1 by omega]
          show x ++ (⟨#[sep]⟩ ++ el d ++ tailS sep el (l.drop (i.toI.toNat + 1))) = _
          simp only [ByteArray.append_assoc]
        rw [e]
        exact q
      · exact stop x i h1 h3 (by omega)
  obtain ⟨d, hdd⟩ : ∃ d, l[0]? = some d := ⟨_, List.getElem?_eq_getElem (by omega)⟩
  refine loop_step (hh p i (by omega) (by omega) (by rw [hp, hi]; show (0 : Int) ≤ _; omega)) (h0 p i d hi hdd) ?_
  have q := go l.length (p.toS ++ el d) (.i 1) (by show (1 : Int) ≤ 1; omega) (by show (1 : Int) ≤ _; omega) (by
    rw [hp, ByteArray.empty_append]
    show (((el d).size : Nat) : Int) ≤ ((s : Int) + 1) * 1
    have := hsz d
    omega) (by show ((l.length : Int) - 1).toNat ≤ _; omega)
  have e : (p.toS ++ el d) ++ tailS sep el (l.drop ((.i 1 : D).toI.toNat)) = joinD sep el l := by
    rw [hp, ByteArray.empty_append]
    exact first_join hdd rfl
  rw [← e]
  exact q
end

/-! ### The library's join of such a row -/

section
variable {U : Nat → D → D} {L : Nat → Prop} {r : Nat → D} {g : Gh} {c : Cx} {w w' : World} {P : Program} {K : Value → World → Prop}
theorem joinRow_entry {pn jn s : Nat} {sep : UInt8} {el : D → ByteArray} {other : List SV → Cx → Tree (SV × Cx)} {f : FuncId} {fn : Func} {body : Code} (hn : NamesOk P) (hf : P.funcs[f]? = some fn) (hb : fn.body = some body) (hJ : JoinSays P f) (hoth : EntryOk U P f other)
    (hP : ∀ d, U pn d = .l (partL el d.toL)) (hJn : ∀ d, U jn d = .s (joinD sep el d.toL)) (hsz : ∀ d, (el d).size ≤ s) (hs100 : s ≤ 100) : EntryOk U P f (Tv.joinRow pn jn sep other) := by
  intro args c L r g w vs K hh hp hd hs
  unfold Tv.joinRow at hs
  split at hs
  case h_2 => exact hoth _ c L r g w vs K hh hp hd hs
  rename_i id sz len x
  split at hs
  case h_2 => exact hoth _ c L r g w vs K hh hp hd hs
  rename_i b hbk
  split at hs
  case h_2 => exact hoth _ c L r g w vs K hh hp hd hs
  rename_i ks n a hrow
  split at hs
  case isFalse => exact hoth _ c L r g w vs K hh hp hd hs
  rename_i hc
  simp only [Bool.and_eq_true] at hc
  obtain ⟨hx, hn1, hks, hlen, hl1, hl2⟩ := hc
  have hx := (of_decide_eq_true hx).symm
  subst hx
  have hn1 := Nat.eq_of_beq_eq_true hn1
  subst hn1
  have hks := sameSks_eq hks
  subst hks
  have hl1 : (1 : Int) ≤ (((a.ev U r).toL.length : Nat) : Int) := of_decide_eq_true (sure_ok hp hl1)
  have hl2 : (((a.ev U r).toL.length : Nat) : Int) ≤ 65536 := of_decide_eq_true (sure_ok hp hl2)
  obtain ⟨v1, v2, hvs⟩ : ∃ v1 v2, vs = #[v1, v2] := by
    have hl := SV.denL_length U r g L hd
    simp only [List.length_cons, List.length_nil, Array.length_toList] at hl
    match vs, hl with
    | ⟨[a, b]⟩, _ => exact ⟨a, b, rfl⟩
  subst hvs
  simp only [SV.denL, SV.den, and_true] at hd
  obtain ⟨⟨_, base, cp, rfl, hcp, hbase⟩, rfl⟩ := hd
  have hlv : (len.ev U r).toI = (((a.ev U r).toL.length : Nat) : Int) := by
    rw [E.same_eq hlen, mk1_ev]
    show (((U n (a.ev U r)).toL.length : Nat) : Int) = _
    rw [hP, D.toL_l, partL, List.length_map]
  rw [hlv, Int.toNat_natCast] at hcp ⊢
  rcases hbase with rfl | ⟨hl, rfl, _⟩
  · omega
  obtain ⟨xs, t, fz, e1, e2⟩ := hh.rows id b [.s] (.app n a) hl hbk hrow
  have hR : ((E.app n a).ev U r).toL = partL el (a.ev U r).toL := by
    show (U n (a.ev U r)).toL = _
    rw [hP]; rfl
  rw [hR] at e2
  have hJ' := hJ (g.a id) (g.o id) cp ((a.ev U r).toL.map el) ⟨#[sep]⟩ w (fun j x hx => by
    rw [cell_of e1]
    rw [List.getElem?_map, Option.map_eq_some_iff] at hx
    obtain ⟨d, hd, rfl⟩ := hx
    obtain ⟨_, q⟩ := e2 j (.l [.s (el d)]) (by unfold partL; rw [List.getElem?_map, hd]; rfl)
    obtain ⟨v, hv, hden⟩ := q 0 .s rfl
    have hden : v = .string (el d) := hden
    rw [hden] at hv
    simpa using hv) (hh.lt id hl) (by rw [List.length_map]; omega) (by rw [List.length_map]; exact hcp) (by
    have h1 := join_size (sep := sep) hsz (a.ev U r).toL
    have h2 : (s + 1) * (a.ev U r).toL.length ≤ 101 * 65536 := Nat.mul_le_mul (by omega) (by omega)
    rw [List.map_map]
    show (Lib.join ((a.ev U r).toL.map fun d => (el d).data.toList) [sep]).length ≤ _
    omega)
  rw [List.length_map] at hJ'
  refine callGoal_of hn hf hb (hJ'.mono fun e w' ⟨he, hB⟩ => ⟨_, he, ?_⟩)
  refine hs g _ w' (ext_frame hh rfl (Nat.le_refl _) hp ⟨hB.os, hB.tape, hB.output, hB.size, fun k hk _ => hB.block k hk⟩) ?_
  simp only [SV.den]
  rw [joinE'_ev hJn hsz hs100 hl2]
  congr 1
  unfold joinD
  rw [List.map_map]
  rfl
end

/-! ### The longest that a text can be -/

def lenB : E → Option Nat
  | .s l => some l.length
  | .o1 .byte _ => some 1
  | .o2 .scat x y => match lenB x, lenB y with
    | some l, some m => some (l + m)
    | _, _ => none
  | .o3 .ssub _ (.i lo) (.i hi) => if 0 ≤ lo ∧ 0 ≤ hi then some (hi.toNat - lo.toNat) else none
  | .o3 .ite _ x y => match lenB x, lenB y with
    | some l, some m => some (max l m)
    | _, _ => none
  | _ => none
theorem lenB_ev {U : Nat → D → D} (r : Nat → D) : ∀ {e : E} {n : Nat}, lenB e = some n → (e.ev U r).toS.size ≤ n := by
  intro e
  induction e with
  | s x =>
    intro n h
    simp only [lenB, Option.some.injEq] at h
    subst h
    exact Nat.le_of_eq (E.lenE_ev U r (e := .s x) rfl)
  | o1 o x _ =>
    intro n h
    cases o <;> simp [lenB] at h
    subst h
    exact Nat.le_of_eq (E.lenE_ev U r (e := .o1 .byte x) rfl)
  | o2 o x y ihx ihy =>
    intro n h
    cases o <;> simp only [lenB] at h <;> first | cases h | skip
    split at h
    · rename_i a b ha hb
      cases h
      have h1 := ihx ha
      have h2 := ihy hb
      show ((x.ev U r).toS ++ (y.ev U r).toS).size ≤ _
      rw [ByteArray.size_append]
      omega
    · cases h
  | o3 o x y z ihx ihy ihz =>
    intro n h
    unfold lenB at h
    split at h
    case h_4 =>
      rename_i lo hi heq
      cases heq
      split at h
      · rename_i h0
        cases h
        show ((x.ev U r).toS.extract lo.toNat hi.toNat).size ≤ _
        show ((x.ev U r).toS.extract lo.toNat hi.toNat).data.size ≤ _
        rw [ByteArray.data_extract, Array.size_extract]
        omega
      · cases h
    case h_5 =>
      rename_i heq
      cases heq
      split at h
      · rename_i a b ha hb
        cases h
        have h1 := ihy ha
        have h2 := ihz hb
        show (if (x.ev U r).toB = true then y.ev U r else z.ev U r).toS.size ≤ _
        split <;> omega
      · cases h
    all_goals first | (cases h; done) | (rename_i heq; cases heq) | (rename_i heq _; cases heq) | skip
  | _ => intro n h; simp [lenB] at h


/-- The join of some texts of bounded length. -/
def joinRunB (other : List SV → Cx → Tree (SV × Cx)) (args : List SV) (c : Cx) : Tree (SV × Cx) :=
  match args with
  | [.sl id off sz (.i n) _, .str s] =>
    match c.h[id]? with
    | some (some b) =>
      if 0 ≤ n ∧ n ≤ 1048576 ∧ off + n.toNat ≤ b.cs.length ∧ sz = 1 then
        match strCells (cut b.cs off n.toNat) with
        | some es => match lenB (joinsE s es) with
          | some k => if k ≤ 140737488355328 then .ret (.str (joinsE s es), c) else .bad
          | none => .bad
        | none => .bad
      else .bad
    | _ => .bad
  | _ => other args c
section
variable {U : Nat → D → D} {L : Nat → Prop} {r : Nat → D} {g : Gh} {c : Cx} {w w' : World} {P : Program} {K : Value → World → Prop}
theorem joinB_entry {f : FuncId} {fn : Func} {body : Code} {other : List SV → Cx → Tree (SV × Cx)} (hn : NamesOk P) (hf : P.funcs[f]? = some fn) (hb : fn.body = some body) (hJ : JoinSays P f) (hoth : EntryOk U P f other) : EntryOk U P f (joinRunB other) := by
  intro args c L r g w vs K hh hp hd h
  unfold joinRunB at h
  split at h
  case h_2 => exact hoth _ c L r g w vs K hh hp hd h
  rename_i id off sz n cap s
  split at h
  case h_2 => exact h.elim
  rename_i b hbk
  split at h
  case isFalse => exact h.elim
  rename_i hc
  obtain ⟨h0, hn1, hle, hsz⟩ := hc
  split at h
  case h_2 => exact h.elim
  rename_i es hes
  split at h
  case h_2 => exact h.elim
  rename_i k hk
  split at h
  case isFalse => exact h.elim
  rename_i hkl
  obtain ⟨v1, v2, hvs⟩ : ∃ v1 v2, vs = #[v1, v2] := by
    have hl := SV.denL_length U r g L hd
    simp only [List.length_cons, List.length_nil, Array.length_toList] at hl
    match vs, hl with
    | ⟨[a, b]⟩, _ => exact ⟨a, b, rfl⟩
  subst hvs
  simp only [SV.denL, SV.den, and_true] at hd
  obtain ⟨⟨hl, _, cp, rfl, h3, h4, _⟩, rfl⟩ := hd
  rw [toI_i] at *
  obtain ⟨xs, t', fz, e1, e2, e3, e4, e5⟩ := hh.blk id b hl hbk
  have hcut : SV.denL U r g L (cut b.cs off n.toNat) (xs.extract off (off + n.toNat)).toList := by
    refine SV.denL_of U r g L (by unfold cut; simp; omega) fun i s v h1 h2 => ?_
    unfold cut at h1
    rw [List.getElem?_take] at h1
    split at h1
    · rename_i hi
      rw [List.getElem?_drop] at h1
      obtain ⟨v', hv', hd'⟩ := e5 _ _ h1
      have : v = v' := by
        simp only [Array.toList_extract, List.extract_eq_take_drop, List.getElem?_take, List.getElem?_drop] at h2
        rw [if_pos (by omega), Array.getElem?_toList, hv'] at h2
        exact (Option.some.inj h2).symm
      subst this; exact hd'
    · cases h1
  have hstr := strCells_ok hes hcut
  have hlen : es.length = n.toNat := by
    have := congrArg List.length hstr
    simp at this; omega
  have hJ' := hJ (g.a id) off cp (es.map fun e => (e.ev U r).toS) (s.ev U r).toS w (fun j x hx => by
    rw [cell_of e1]
    rw [List.getElem?_map] at hx
    cases he : es[j]? with
    | none => rw [he] at hx; cases hx
    | some e =>
      rw [he] at hx
      simp only [Option.map_some, Option.some.injEq] at hx
      have hj : j < n.toNat := by rw [← hlen]; exact (List.getElem?_eq_some_iff.1 he).1
      have h6 : (xs.extract off (off + n.toNat)).toList[j]? = some (.string x) := by
        rw [hstr, List.getElem?_map, he, ← hx]; rfl
      simp only [Array.toList_extract, List.extract_eq_take_drop, List.getElem?_take, List.getElem?_drop] at h6
      rw [if_pos (by omega), Array.getElem?_toList] at h6
      exact h6) (hh.lt id hl) (by simp; omega) (by simp; omega) (by
    have h7 := lenB_ev (U := U) r hk
    have h8 := joinsE_ev (U := U) (r := r) s (l := es)
    rw [List.map_map]
    have h9 := congrArg List.length h8
    rw [show (fun x : ByteArray => x.data.toList) ∘ (fun e : E => (e.ev U r).toS) = fun e : E => (e.ev U r).toS.data.toList from rfl, ← h9]
    have : ((joinsE s es).ev U r).toS.data.toList.length ≤ k := by rw [Array.length_toList]; exact h7
    omega)
  rw [List.length_map, hlen] at hJ'
  refine callGoal_of hn hf hb (hJ'.mono fun e w' ⟨he, hB⟩ => ⟨_, he, ?_⟩)
  refine h g _ w' (ext_frame hh rfl (Nat.le_refl _) hp ⟨hB.os, hB.tape, hB.output, hB.size, fun k hk _ => hB.block k hk⟩) ?_
  simp only [SV.den]
  congr 1
  apply ByteArray.ext
  rw [List.map_map]
  have h8 := joinsE_ev (U := U) (r := r) s (l := es)
  rw [show (fun x : ByteArray => x.data.toList) ∘ (fun e : E => (e.ev U r).toS) = fun e : E => (e.ev U r).toS.data.toList from rfl, ← h8]
end

/-! ### Small whole numbers in decimals -/

def decB (k : Nat) : List UInt8 := if k < 10 then [UInt8.ofNat (48 + k)] else [UInt8.ofNat (48 + k / 10), UInt8.ofNat (48 + k % 10)]
theorem decB_len (k : Nat) : (decB k).length ≤ 2 := by
  unfold decB
  split <;> simp
def decVal (d : D) : D := .s ⟨(decB d.toI.toNat).toArray⟩
def decE (dn : Nat) (e : E) : E := .o3 .ssub (.app dn e) (.i 0) (.i 2)
theorem decE_ev {U : Nat → D → D} {dn : Nat} (hU : ∀ d, U dn d = decVal d) (r : Nat → D) (e : E) : ((decE dn e).ev U r).toS = ⟨(decB (e.ev U r).toI.toNat).toArray⟩ := by
  show ((U dn (e.ev U r)).toS.extract 0 2) = _
  rw [hU]
  refine extract_all ?_
  show (decB _).toArray.size ≤ 2
  rw [List.size_toArray]
  exact decB_len _
def decRun (dn : Nat) (args : List SV) (c : Cx) : Tree (SV × Cx) :=
  match args with
  | [.int .i64 e] => br c (mk2 .ile (.i 0) e) (fun c => br c (mk2 .ile e (.i 63)) (fun c => .ret (.str (decE dn e), c)) (fun _ => .bad)) (fun _ => .bad)
  | _ => .bad
def decOk (cf : FuncId → List SV → Cx → Tree (SV × Cx)) (f : FuncId) : Bool := (List.range 64).all fun k => match resT (cf f [.int .i64 (.i k)] cx0) with
  | .ret (.str x) => x.same (.s (decB k))
  | _ => false
section
variable {U : Nat → D → D} {P : Program}
theorem dec_entry {cf : FuncId → List SV → Cx → Tree (SV × Cx)} (hcf : CallsOk U P cf) {f : FuncId} {dn : Nat} (hU : ∀ d, U dn d = decVal d) (hk : decOk cf f = true) : EntryOk U P f (decRun dn) := by
  intro args c L r g w vs K hh hp hd h
  unfold decRun at h
  split at h
  case h_2 => exact h.elim
  rename_i e
  obtain ⟨pc1, hp1, h1 | h1⟩ := br_sat hp h
  case inr => exact h1.2.elim
  obtain ⟨pc2, hp2, h2 | h2⟩ := br_sat (c := { c with pc := pc1 }) hp1 h1.2
  case inr => exact h2.2.elim
  have q1 : (0 : Int) ≤ (e.ev U r).toI := by
    have := h1.1; rw [mk2_ev] at this; exact of_decide_eq_true this
  have q2 : (e.ev U r).toI ≤ 63 := by
    have := h2.1; rw [mk2_ev] at this; exact of_decide_eq_true this
  have h3 := h2.2
  obtain ⟨v1, hvs⟩ : ∃ v1, vs = #[v1] := by
    have hl := SV.denL_length U r g L hd
    simp only [List.length_cons, List.length_nil, Array.length_toList] at hl
    match vs, hl with
    | ⟨[a]⟩, _ => exact ⟨a, rfl⟩
  subst hvs
  simp only [SV.denL, SV.den, and_true] at hd
  subst hd
  have hk := List.all_eq_true.1 hk (e.ev U r).toI.toNat (List.mem_range.2 (by omega))
  split at hk
  case h_2 => cases hk
  rename_i x hx
  have hxs := E.same_eq hk
  refine closed_ok (U := U) (r := r) (g := g) hcf (args := [.int .i64 (.i ((e.ev U r).toI.toNat : Nat))]) ?_ ?_
  · simp only [SV.denL, SV.den, and_true]
    rw [toI_i, Int.toNat_of_nonneg q1]
  · rw [hx]
    intro g' L' v w' hf hv
    simp only [SV.den] at hv
    refine h3 g v w' (ext_frame (c' := { c with pc := pc2 }) hh rfl (Nat.le_refl _) hp2 hf) ?_
    simp only [SV.den]
    rw [hv, hxs, decE_ev hU]
    congr 1
end

/-! ### The first element's text let into the joined one -/

def isField (a : E) (j : Nat) : E × Bool → Option Nat
  | (.o2 .fsame (.v k) (.o2 .sel (.o2 .sel x (.i 0)) (.i q)), true) => if (q == (j : Int)) && x.same a then some k else none
  | _ => none
/-- The names of the first element's numbers. -/
def fieldsOf (a : E) (pc : List (E × Bool)) : Nat → Nat → Option (List (Nat × E))
  | _, 0 => some []
  | j, m + 1 => match pc.findSome? (isField a j), fieldsOf a pc (j + 1) m with
    | some k, some l => some ((1000 + j, .v k) :: l)
    | _, _ => none
def rwText (m : Nat) (h : E) (tn jn : Nat) (s : SV) (c : Cx) : SV × List (E × Bool) := match s with
  | .str (.o2 .scat o (.app n a)) => if Nat.beq n tn && (sure (.o2 .ile (.i 1) (.o1 .llen a)) c.pc && sure (.o2 .ile (.o1 .llen a) (.i 65536)) c.pc) then (match fieldsOf a c.pc 0 m with
    | some mp => (match h.sub mp with
      | some o' => if o'.same o then (.str (joinE' jn a), []) else (s, [])
      | none => (s, []))
    | none => (s, [])) else (s, [])
  | _ => (s, [])
section
variable {U : Nat → D → D}
theorem isField_ok {a : E} {j k : Nat} {p : E × Bool} (h : isField a j p = some k) {r : Nat → D} (hp : (p.1.ev U r).toB = p.2) : (r k).toF = (((a.ev U r).toL.getD 0 (.b false)).at_ j).toF := by
  unfold isField at h
  split at h
  case h_2 => cases h
  rename_i k' x q
  split at h
  case isFalse => cases h
  rename_i hx
  cases h
  rw [Bool.and_eq_true] at hx
  have hq := eq_of_beq hx.1
  subst hq
  have hp : ((r k).toF == (((x.ev U r).toL.getD 0 (.b false)).at_ ((j : Int)).toNat).toF) = true := hp
  have hp := eq_of_beq hp
  rw [E.same_eq hx.2, Int.toNat_natCast] at hp
  exact hp
theorem fieldsOf_ok {a : E} {pc : List (E × Bool)} {r : Nat → D} (hp : PcOk U r pc) : ∀ {m j : Nat} {l : List (Nat × E)}, fieldsOf a pc j m = some l →
    ∃ r', Fills U r r' l ∧ (∀ q, j ≤ q → q < j + m → (r' (1000 + q)).toF = (((a.ev U r).toL.getD 0 (.b false)).at_ q).toF) := by
  intro m
  induction m with
  | zero =>
    intro j l h
    cases h
    exact ⟨r, (fun n e hn => by cases hn), (fun q h1 h2 => by omega)⟩
  | succ m ih =>
    intro j l h
    unfold fieldsOf at h
    split at h
    case h_2 => cases h
    rename_i k l' hk hl
    cases h
    obtain ⟨r', hf, hr⟩ := ih hl
    obtain ⟨p, hpm, hpk⟩ := List.exists_of_findSome?_eq_some hk
    have hv := isField_ok hpk (hp _ hpm)
    refine ⟨Tree.upd r' (1000 + j) (r k), fun n e hn => ?_, fun q q1 q2 => ?_⟩
    · unfold lkM at hn
      cases hb : Nat.beq (1000 + j) n with
      | true =>
        rw [hb] at hn
        cases hn
        have := Nat.eq_of_beq_eq_true hb
        subst this
        unfold Tree.upd; rw [if_pos rfl]; rfl
      | false =>
        rw [hb] at hn
        have hne : n ≠ 1000 + j := fun he => by rw [he, Nat.beq_refl] at hb; cases hb
        unfold Tree.upd
        rw [if_neg hne]
        exact hf n e hn
    · rcases Nat.lt_or_ge j q with hlt | hge
      · unfold Tree.upd
        rw [if_neg (by omega)]
        exact hr q (by omega) (by omega)
      · have : q = j := by omega
        subst this
        unfold Tree.upd
        rw [if_pos rfl]
        exact hv
theorem rwText_ok {m : Nat} (hU : FloatWord U) {h : E} {tn jn s' : Nat} {sep : UInt8} (ho : Tv.onlyB m h = true) (h8 : E.lenE h = some s') (hs100 : s' ≤ 100) (hT : ∀ d, U tn d = .s (Tv.tailS U sep h (d.toL.drop 1))) (hJn : ∀ d, U jn d = .s (Tv.joinD U sep h d.toL)) (s : SV) (c : Cx) (r : Nat → D) (g : Gh) (L : Nat → Prop) (v : Value) (hp : PcOk U r c.pc)
    (hd : s.den U r g L v) : (rwText m h tn jn s c).1.den U r g L v ∧ PcOk U r (rwText m h tn jn s c).2 := by
  have none_ : PcOk U r [] := fun x hx => by cases hx
  unfold rwText
  split
  case h_2 => exact ⟨hd, none_⟩
  rename_i o n a
  split
  case isFalse => exact ⟨hd, none_⟩
  rename_i hc
  simp only [Bool.and_eq_true] at hc
  obtain ⟨hn, hl, hl2⟩ := hc
  split
  case h_2 => exact ⟨hd, none_⟩
  rename_i mp hmp
  split
  case h_2 => exact ⟨hd, none_⟩
  rename_i o' ho'
  split
  case isFalse => exact ⟨hd, none_⟩
  rename_i hfo
  have hl2 : (((a.ev U r).toL.length : Nat) : Int) ≤ 65536 := of_decide_eq_true (sure_ok hp hl2)
  have hn := Nat.eq_of_beq_eq_true hn
  subst hn
  have hl : (1 : Int) ≤ (((a.ev U r).toL.length : Nat) : Int) := of_decide_eq_true (sure_ok hp hl)
  refine ⟨?_, none_⟩
  simp only [SV.den] at hd ⊢
  rw [hd]
  congr 1
  rw [Tv.joinE'_ev hJn h8 hs100 hl2]
  show (o.ev U r).toS ++ (U n (a.ev U r)).toS = _
  rw [hT]
  obtain ⟨d, hd0⟩ : ∃ d, (a.ev U r).toL[0]? = some d := ⟨_, List.getElem?_eq_getElem (by omega)⟩
  refine Tv.first_join hd0 ?_
  rw [← E.same_eq hfo]
  obtain ⟨r', hf, hr⟩ := fieldsOf_ok hp hmp
  rw [E.sub_ev hf ho']
  refine Tv.elS_at hU ho fun j hj => ?_
  rw [hr j (by omega) (by omega), List.getD_eq_getElem?_getD, hd0]
  rfl
end

/-! ### Texts with their pieces one after another -/

def pieces : E → List E
  | .o2 .scat x y => pieces x ++ pieces y
  | e => [e]
/-- Literals one behind another are one; empty ones are left out. -/
def mergeP : List E → List E
  | [] => []
  | .s a :: l => (match mergeP l with
    | .s b :: m => .s (a ++ b) :: m
    | m => if a.isEmpty then m else .s a :: m)
  | x :: l => x :: mergeP l
def unp : List E → E
  | [] => .s []
  | [x] => x
  | x :: l => .o2 .scat x (unp l)
def canonS (s : SV) (_ : Cx) : SV × List (E × Bool) := match s with
  | .str (.o2 .scat x y) => (.str (unp (mergeP (pieces (.o2 .scat x y)))), [])
  | s => (s, [])
section
variable {U : Nat → D → D}
def catS : List ByteArray → ByteArray
  | [] => .empty
  | x :: l => x ++ catS l
theorem catS_append : ∀ {l m : List ByteArray}, catS (l ++ m) = catS l ++ catS m := by
  intro l
  induction l with
  | nil => intro m; show _ = ByteArray.empty ++ _; rw [ByteArray.empty_append]; rfl
  | cons x l ih => intro m; show x ++ catS (l ++ m) = (x ++ catS l) ++ _; rw [ih, ByteArray.append_assoc]
theorem pieces_ev (r : Nat → D) : ∀ (e : E), catS ((pieces e).map fun x => (x.ev U r).toS) = (e.ev U r).toS := by
  intro e
  induction e with
  | o2 o x y ihx ihy =>
    cases o
    case scat =>
      show catS ((pieces x ++ pieces y).map _) = _
      rw [List.map_append, catS_append, ihx, ihy]
      rfl
    all_goals (show (_ ++ ByteArray.empty : ByteArray) = _; rw [ByteArray.append_empty])
  | _ => show (_ ++ ByteArray.empty : ByteArray) = _; rw [ByteArray.append_empty]
theorem mergeP_ev (r : Nat → D) : ∀ (l : List E), catS ((mergeP l).map fun x => (x.ev U r).toS) = catS (l.map fun x => (x.ev U r).toS) := by
  intro l
  induction l with
  | nil => rfl
  | cons x l ih =>
    unfold mergeP
    split
    · rename_i h; cases h
    · rename_i a l' heq
      cases heq
      have e0 : catS ((E.s a :: l).map fun x => (x.ev U r).toS) = (⟨a.toArray⟩ : ByteArray) ++ catS (l.map fun x => (x.ev U r).toS) := rfl
      split
      · rename_i b m hm
        rw [e0, ← ih, hm]
        show (⟨(a ++ b).toArray⟩ : ByteArray) ++ _ = (⟨a.toArray⟩ : ByteArray) ++ ((⟨b.toArray⟩ : ByteArray) ++ _)
        rw [← ByteArray.append_assoc]
        congr 1
      · rename_i m _
        split
        · rename_i ha
          have ha : a = [] := List.isEmpty_iff.1 ha
          subst ha
          rw [e0, ← ih]
          exact (ByteArray.empty_append).symm
        · rw [e0, ← ih]
          rfl
    · rename_i l' _ heq
      cases heq
      show (x.ev U r).toS ++ catS ((mergeP l).map _) = (x.ev U r).toS ++ _
      rw [ih]
theorem unp_ev (r : Nat → D) : ∀ (l : List E), ((unp l).ev U r).toS = catS (l.map fun x => (x.ev U r).toS) := by
  intro l
  induction l with
  | nil => rfl
  | cons x l ih =>
    cases l with
    | nil => show _ = (_ ++ ByteArray.empty : ByteArray); rw [ByteArray.append_empty]; rfl
    | cons y l =>
      show ((x.ev U r).toS ++ ((unp (y :: l)).ev U r).toS : ByteArray) = _
      rw [ih]; rfl
theorem canonS_ok (s : SV) (c : Cx) (r : Nat → D) (g : Gh) (L : Nat → Prop) (v : Value) (_ : PcOk U r c.pc) (hd : s.den U r g L v) : (canonS s c).1.den U r g L v ∧ PcOk U r (canonS s c).2 := by
  have none_ : PcOk U r [] := fun x hx => by cases hx
  unfold canonS
  split
  · refine ⟨?_, none_⟩
    simp only [SV.den] at hd ⊢
    rw [unp_ev, mergeP_ev, pieces_ev]
    exact hd
  · exact ⟨hd, none_⟩
end
end Go.Sx.Tw
