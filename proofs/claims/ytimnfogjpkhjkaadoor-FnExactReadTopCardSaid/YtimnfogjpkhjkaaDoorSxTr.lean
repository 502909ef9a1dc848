/-
  Sx, part Tr: numbers read from texts of eight hexadecimal digits, and lists of them.
-/
import Derived.Test.YtimnfogjpkhjkaaDoorSxTs
import Derived.Shelf.Small.Strs
namespace Go.Sx.Tr
open E (mk1 mk2 mkIte mk1_ev mk2_ev mkIte_ev)
open Go.RowKit (Below)
open Ts (evA_pos evA_neg)

/-! ### Digits -/

def hexL : List UInt8 := [48, 49, 50, 51, 52, 53, 54, 55, 56, 57, 97, 98, 99, 100, 101, 102]
def hx (x : UInt8) : Int := Lib.indexByte hexL x
theorem hx_all : ∀ n : Nat, n < 256 → hx (UInt8.ofNat n) = if 48 ≤ n ∧ n ≤ 57 then (n : Int) - 48 else if 97 ≤ n ∧ n ≤ 102 then (n : Int) - 87 else -1 := by decide +kernel
theorem hx_eq (x : UInt8) : hx x = if 48 ≤ x.toNat ∧ x.toNat ≤ 57 then (x.toNat : Int) - 48 else if 97 ≤ x.toNat ∧ x.toNat ≤ 102 then (x.toNat : Int) - 87 else -1 := by
  have := hx_all x.toNat x.toNat_lt
  rwa [UInt8.ofNat_toNat] at this
theorem hx_ge (x : UInt8) : -1 ≤ hx x := Lib.indexByte_ge _ _
theorem hx_le (x : UInt8) : hx x ≤ 15 := by
  rw [hx_eq]
  split
  · omega
  · split <;> omega
def hexVal (d : D) : D := .i (hx d.toI.toNat.toUInt8)
def hexRun (hn : Nat) (args : List SV) (c : Cx) : Tree (SV × Cx) := match args with
  | [.str (.s l), .int .u8 e] => if (E.s l).same (.s hexL) then .ret (.int .i64 (.app hn e), { c with pc := (.o2 .ile (.i (-1)) (.app hn e), true) :: (.o2 .ile (.app hn e) (.i 15), true) :: c.pc }) else .bad
  | _ => .bad
/-- What the library says of its IndexByte. -/
def IndexByteSays (P : Program) (f : FuncId) : Prop := ∀ (s : ByteArray) (c : Int) (w : World), Calls P f #[.string s, .int .u8 c] w fun e w' => e = .returned (.int .i64 (Lib.indexByte s.data.toList c.toNat.toUInt8)) ∧ w' = w
section
variable {U : Nat → D → D} {P : Program}
theorem hex_entry {f : FuncId} {fn : Func} {body : Code} {hn : Nat} (hN : NamesOk P) (hf : P.funcs[f]? = some fn) (hb : fn.body = some body) (hS : IndexByteSays P f) (hU : ∀ d, U hn d = hexVal d) : EntryOk U P f (hexRun hn) := by
  intro args c L r g w vs K hh hp hd h
  unfold hexRun at h
  split at h
  case h_2 => exact h.elim
  rename_i l e
  split at h
  case isFalse => exact h.elim
  rename_i hl
  have hl := E.same_eq hl
  cases hl
  obtain ⟨v1, v2, hvs⟩ : ∃ v1 v2, vs = #[v1, v2] := by
    have hl := SV.denL_length U r g L hd
    simp only [List.length_cons, List.length_nil, Array.length_toList] at hl
    match vs, hl with
    | ⟨[a, b]⟩, _ => exact ⟨a, b, rfl⟩
  subst hvs
  simp only [SV.denL, SV.den, and_true] at hd
  obtain ⟨rfl, rfl⟩ := hd
  have hv : ((E.app hn e).ev U r).toI = hx (e.ev U r).toI.toNat.toUInt8 := by
    show (U hn (e.ev U r)).toI = _
    rw [hU]; rfl
  refine callGoal_of hN hf hb ((hS _ _ w).mono fun en w' ⟨he, hw⟩ => ⟨_, he, ?_⟩)
  subst hw
  refine h g _ _ (ext_frame (c' := { c with pc := (.o2 .ile (.i (-1)) (.app hn e), true) :: (.o2 .ile (.app hn e) (.i 15), true) :: c.pc }) hh rfl (Nat.le_refl _) (fun x hx' => ?_) ⟨rfl, rfl, rfl, Nat.le_refl _, fun _ _ _ => rfl⟩) ?_
  · rcases List.mem_cons.1 hx' with rfl | hx'
    · exact decide_eq_true (show (-1 : Int) ≤ ((E.app hn e).ev U r).toI by rw [hv]; exact hx_ge _)
    · rcases List.mem_cons.1 hx' with rfl | hx'
      · exact decide_eq_true (show ((E.app hn e).ev U r).toI ≤ (15 : Int) by rw [hv]; exact hx_le _)
      · exact hp x hx'
  · simp only [SV.den]
    rw [hv]
    rfl
end

/-! ### Numbers of digits -/

def allHex (l : List UInt8) : Bool := l.all fun x => decide (0 ≤ hx x)
def val (l : List UInt8) : Int := l.foldl (fun n x => n * 16 + hx x) 0
theorem val_snoc (l : List UInt8) (x : UInt8) : val (l ++ [x]) = val l * 16 + hx x := by unfold val; rw [List.foldl_append]; rfl
theorem allHex_snoc (l : List UInt8) (x : UInt8) : allHex (l ++ [x]) = (allHex l && decide (0 ≤ hx x)) := by unfold allHex; rw [List.all_append]; simp
theorem fold_bound : ∀ (l : List UInt8) (n : Int), 0 ≤ n → allHex l = true → 0 ≤ l.foldl (fun n x => n * 16 + hx x) n ∧ l.foldl (fun n x => n * 16 + hx x) n + 1 ≤ (n + 1) * (16 ^ l.length : Nat) := by
  intro l
  induction l with
  | nil => intro n h _; exact ⟨h, by simp⟩
  | cons x l ih =>
    intro n h hl
    simp only [allHex, List.all_cons, Bool.and_eq_true, decide_eq_true_eq] at hl
    have hle := hx_le x
    obtain ⟨h1, h2⟩ := ih (n * 16 + hx x) (by omega) hl.2
    refine ⟨h1, ?_⟩
    show l.foldl (fun n x => n * 16 + hx x) (n * 16 + hx x) + 1 ≤ _
    rw [List.length_cons, Nat.pow_succ]
    have h3 : (n * 16 + hx x + 1) * ((16 ^ l.length : Nat) : Int) ≤ ((n + 1) * 16) * ((16 ^ l.length : Nat) : Int) := Int.mul_le_mul_of_nonneg_right (by omega) (Int.natCast_nonneg _)
    rw [Int.natCast_mul]
    have h4 : (n + 1) * (((16 ^ l.length : Nat) : Int) * ((16 : Nat) : Int)) = ((n + 1) * 16) * ((16 ^ l.length : Nat) : Int) := by
      rw [Int.mul_assoc, Int.mul_comm ((16 ^ l.length : Nat) : Int)]; rfl
    rw [h4]
    omega
theorem val_bound {l : List UInt8} (h8 : l.length ≤ 8) (h : allHex l = true) : 0 ≤ val l ∧ val l ≤ 4294967295 := by
  obtain ⟨h1, h2⟩ := fold_bound l 0 (Int.le_refl _) h
  have h3 : 16 ^ l.length ≤ 16 ^ 8 := Nat.pow_le_pow_right (by decide) h8
  have h4 : (16 : Nat) ^ 8 = 4294967296 := by decide
  refine ⟨h1, ?_⟩
  show List.foldl (fun n x => n * 16 + hx x) 0 l ≤ _
  omega
def numV (l : List UInt8) : Int := if l.length ≤ 8 ∧ allHex l = true then val l else 0
theorem numV_eq {l : List UInt8} (h8 : l.length ≤ 8) (h : allHex l = true) : numV l = val l := if_pos ⟨h8, h⟩
theorem numV_bound (l : List UInt8) : 0 ≤ numV l ∧ numV l ≤ 4294967295 := by
  unfold numV
  split
  · rename_i h; exact val_bound h.1 h.2
  · omega
def allVal8 (d : D) : D := .b (allHex d.toS.data.toList)
def numVal (d : D) : D := .i (numV d.toS.data.toList)

/-- The words of reading: digits 81, all digits 84, their number 85. -/
structure HexWords (U : Nat → D → D) : Prop where
  w81 : ∀ d, U 81 d = hexVal d
  w84 : ∀ d, U 84 d = allVal8 d
  w85 : ∀ d, U 85 d = numVal d

theorem all_take {l : List UInt8} {n : Nat} (h : allHex l = true) : allHex (l.take n) = true := by
  unfold allHex at h ⊢
  exact List.all_eq_true.2 fun x hx => List.all_eq_true.1 h x (List.mem_of_mem_take hx)
theorem not_all {l : List UInt8} {x : UInt8} (hx' : x ∈ l) (h : hx x < 0) : allHex l ≠ true := fun hl => by
  have := of_decide_eq_true (List.all_eq_true.1 hl x hx')
  omega

/-! ### The loop over a text of any length -/

def hexInv : List E := [.o2 .ile (.i 0) (.v 3), .o2 .ile (.v 3) (.v 2), .o2 .ieq (.v 2) (.o1 .slen (.v 0)), .o2 .ile (.v 3) (.i 8), .o2 .ile (.i 0) (.v 1), .o2 .ile (.v 1) (.i 4294967295)]
def hexNo : Tree LRes := .ret (.done 1 [.f (some 0), .b false])
def hexT : Tree LRes := .ite (.o2 .ilt (.v 3) (.v 2)) (.ite (.o2 .ilt (.app 81 (.o2 .sidx (.v 0) (.v 3))) (.i 0)) hexNo (.ite (.o2 .ieq (.v 3) (.i 8)) hexNo
  (.ret (.next [.v 0, .o2 .iadd (.o2 .imul (.v 1) (.i 16)) (.app 81 (.o2 .sidx (.v 0) (.v 3))), .v 2, .o2 .iadd (.v 3) (.i 1)])))) (.ret (.done 0 [.v 0, .v 1]))
section
variable {U : Nat → D → D}
theorem dig_ev (h : HexWords U) {r : Nat → D} {e i : E} {I : Nat} {x : UInt8} (hi : (i.ev U r).toI = (I : Int)) (hx' : (e.ev U r).toS.data.toList[I]? = some x) : ((E.app 81 (.o2 .sidx e i)).ev U r).toI = hx x := by
  show (U 81 (.i ((((e.ev U r).toS.data[(i.ev U r).toI.toNat]?.getD 0).toNat : Nat) : Int))).toI = _
  rw [h.w81, hi, Int.toNat_natCast, ← Array.getElem?_toList, hx']
  show hx ((((x.toNat : Nat) : Int)).toNat.toUInt8) = hx x
  rw [Int.toNat_natCast]
  congr 1
  exact UInt8.ofNat_toNat
theorem hex_run (h : HexWords U) {s n : D} (hn : n.toI = (s.toS.size : Int)) : ∀ (k : Nat) (p i : D) (I : Nat), i.toI = (I : Int) → I ≤ s.toS.size → I ≤ 8 → p.toI = val (s.toS.data.toList.take I) → allHex (s.toS.data.toList.take I) = true → s.toS.size - I ≤ k →
    ((s.toS.size ≤ 8 ∧ allHex s.toS.data.toList = true) ∧ ∃ o, LoopTo U hexInv hexT [s, p, n, i] 0 [s, o] ∧ o.toI = val s.toS.data.toList ∧ ((I = s.toS.size ∧ o = p) ∨ (I ≠ s.toS.size ∧ ∃ z, o = .i z))) ∨
    (¬ (s.toS.size ≤ 8 ∧ allHex s.toS.data.toList = true) ∧ LoopTo U hexInv hexT [s, p, n, i] 1 [.f (some 0), .b false]) := by
  have hlen : s.toS.data.toList.length = s.toS.size := Array.length_toList
  intro k
  induction k with
  | zero =>
    intro p i I hi h1 h2 h3 h4 h5
    have he : I = s.toS.size := by omega
    have hb := val_bound (l := s.toS.data.toList.take I) (by rw [List.length_take]; omega) h4
    have htk : s.toS.data.toList.take I = s.toS.data.toList := List.take_of_length_le (by omega)
    rw [htk] at h3 h4
    refine .inl ⟨⟨by omega, h4⟩, p, Tw.loop_stop (fun e hm => ?_) ⟨[.v 0, .v 1], rOf [s, p, n, i], (evA_neg (by exact fun hc => absurd (of_decide_eq_true (show decide (i.toI < n.toI) = true from hc)) (by omega))).trans rfl, rfl⟩, h3, .inl ⟨he, rfl⟩⟩
    rw [htk] at hb
    simp only [hexInv, List.mem_cons, List.not_mem_nil, or_false] at hm
    rcases hm with rfl | rfl | rfl | rfl | rfl | rfl
    · exact decide_eq_true (show (0 : Int) ≤ i.toI by omega)
    · exact decide_eq_true (show i.toI ≤ n.toI by omega)
    · exact beq_iff_eq.2 hn
    · exact decide_eq_true (show i.toI ≤ 8 by omega)
    · exact decide_eq_true (show (0 : Int) ≤ p.toI by omega)
    · exact decide_eq_true (show p.toI ≤ 4294967295 by omega)
  | succ k ih =>
    intro p i I hi h1 h2 h3 h4 h5
    have hb := val_bound (l := s.toS.data.toList.take I) (by rw [List.length_take]; omega) h4
    have hold : HoldI U hexInv [s, p, n, i] := by
      intro e hm
      simp only [hexInv, List.mem_cons, List.not_mem_nil, or_false] at hm
      rcases hm with rfl | rfl | rfl | rfl | rfl | rfl
      · exact decide_eq_true (show (0 : Int) ≤ i.toI by omega)
      · exact decide_eq_true (show i.toI ≤ n.toI by omega)
      · exact beq_iff_eq.2 hn
      · exact decide_eq_true (show i.toI ≤ 8 by omega)
      · exact decide_eq_true (show (0 : Int) ≤ p.toI by omega)
      · exact decide_eq_true (show p.toI ≤ 4294967295 by omega)
    by_cases he : I = s.toS.size
    · have htk : s.toS.data.toList.take I = s.toS.data.toList := List.take_of_length_le (by omega)
      rw [htk] at h3 h4
      exact .inl ⟨⟨by omega, h4⟩, p, Tw.loop_stop hold ⟨[.v 0, .v 1], rOf [s, p, n, i], (evA_neg (by exact fun hc => absurd (of_decide_eq_true (show decide (i.toI < n.toI) = true from hc)) (by omega))).trans rfl, rfl⟩, h3, .inl ⟨he, rfl⟩⟩
    · have hlt : I < s.toS.data.toList.length := by omega
      obtain ⟨x, hx'⟩ : ∃ x, s.toS.data.toList[I]? = some x := ⟨_, List.getElem?_eq_getElem hlt⟩
      have hmem : x ∈ s.toS.data.toList := List.mem_of_getElem? hx'
      have hd : ((E.app 81 (.o2 .sidx (.v 0) (.v 3))).ev U (rOf [s, p, n, i])).toI = hx x := dig_ev h (e := .v 0) (i := .v 3) (r := rOf [s, p, n, i]) hi hx'
      have c0 : evA U hexT (rOf [s, p, n, i]) = evA U _ (rOf [s, p, n, i]) := evA_pos (by exact decide_eq_true (show i.toI < n.toI by omega))
      by_cases hneg : hx x < 0
      · refine .inr ⟨fun hc => not_all hmem hneg hc.2, Tw.loop_stop hold ⟨[.f (some 0), .b false], rOf [s, p, n, i], c0.trans ((evA_pos (by exact decide_eq_true (show ((E.app 81 (.o2 .sidx (.v 0) (.v 3))).ev U (rOf [s, p, n, i])).toI < 0 by omega))).trans rfl), rfl⟩⟩
      · have c1 : ∀ {t e : Tree LRes}, evA U (.ite (.o2 .ilt (.app 81 (.o2 .sidx (.v 0) (.v 3))) (.i 0)) t e) (rOf [s, p, n, i]) = evA U e (rOf [s, p, n, i]) := evA_neg (by exact fun hc => absurd (of_decide_eq_true (show decide (((E.app 81 (.o2 .sidx (.v 0) (.v 3))).ev U (rOf [s, p, n, i])).toI < 0) = true from hc)) (by omega))
        by_cases h8 : I = 8
        · refine .inr ⟨fun hc => by omega, Tw.loop_stop hold ⟨[.f (some 0), .b false], rOf [s, p, n, i], c0.trans (c1.trans ((evA_pos (by exact beq_iff_eq.2 (show i.toI = 8 by omega))).trans rfl)), rfl⟩⟩
        · have hstep : Tw.NextTo U hexT [s, p, n, i] [s, .i (p.toI * 16 + hx x), n, .i (i.toI + 1)] := by
            refine ⟨[.v 0, .o2 .iadd (.o2 .imul (.v 1) (.i 16)) (.app 81 (.o2 .sidx (.v 0) (.v 3))), .v 2, .o2 .iadd (.v 3) (.i 1)], rOf [s, p, n, i], c0.trans (c1.trans ((evA_neg (by exact fun hc => h8 (by have := beq_iff_eq.1 (show (i.toI == (8 : Int)) = true from hc); omega))).trans rfl)), ?_⟩
            show [s, D.i (p.toI * 16 + ((E.app 81 (.o2 .sidx (.v 0) (.v 3))).ev U (rOf [s, p, n, i])).toI), n, D.i (i.toI + 1)] = _
            rw [hd]
          have htk : s.toS.data.toList.take (I + 1) = s.toS.data.toList.take I ++ [x] := by
            rw [List.take_add_one, hx']; rfl
          rcases ih (.i (p.toI * 16 + hx x)) (.i (i.toI + 1)) (I + 1) (by show i.toI + 1 = _; omega) (by omega) (by omega) (by show p.toI * 16 + hx x = _; rw [htk, val_snoc, h3]) (by rw [htk, allHex_snoc, h4]; simp; omega) (by omega) with ⟨hc, o, q1, q2, q3⟩ | ⟨hc, q1⟩
          · refine .inl ⟨hc, o, Tw.loop_step hold hstep q1, q2, .inr ⟨he, ?_⟩⟩
            rcases q3 with ⟨_, rfl⟩ | ⟨_, q3⟩
            · exact ⟨_, rfl⟩
            · exact q3
          · exact .inr ⟨hc, Tw.loop_step hold hstep q1⟩

theorem conj_tag (l : List E) (r : Nat → D) : ((conjTag l).ev U r).toI = if (l.all fun e => (e.ev U r).toB) = true then 0 else 1 := by
  rw [conjTag, mkIte_ev]
  show (if ((conjE l).ev U r).toB = true then D.i 0 else D.i 1).toI = _
  rw [conjE_all]
  split <;> rfl
def isI : E → Bool
  | .i _ => true
  | _ => false
def hexLRun (A : LoopT) : LRun := ⟨A, fun _ => .i 0, fun k es => if k = 0 then [nmOf es 0, if isI (nmOf es 1) then .app 85 (nmOf es 0) else .o3 .ite (.o2 .ieq (.o1 .slen (nmOf es 0)) (.i 0)) (nmOf es 1) (.app 85 (nmOf es 0))] else [.f (some 0), .b false], [.o2 .ieq (.v 1) (.i 0), .o2 .ieq (.v 3) (.i 0)],
  some fun es => [.o2 .ile (.o1 .slen (nmOf es 0)) (.i 8), .app 84 (nmOf es 0)], fun k es => if k = 0 then [(.o2 .ile (.i 0) (.app 85 (nmOf es 0)), true), (.o2 .ile (.app 85 (nmOf es 0)) (.i 4294967295), true)] else []⟩
theorem num_ev (h : HexWords U) (e : E) (r : Nat → D) : (E.app 85 e).ev U r = .i (numV (e.ev U r).toS.data.toList) := by
  show U 85 (e.ev U r) = _
  rw [h.w85]; rfl
theorem num_post (h : HexWords U) (e : E) (r : Nat → D) : PcOk U r [(.o2 .ile (.i 0) (.app 85 e), true), (.o2 .ile (.app 85 e) (.i 4294967295), true)] := by
  intro x hx'
  have hb := numV_bound (e.ev U r).toS.data.toList
  rcases List.mem_cons.1 hx' with rfl | hx'
  · exact decide_eq_true (show (0 : Int) ≤ ((E.app 85 e).ev U r).toI by rw [num_ev h]; exact hb.1)
  · rw [List.mem_singleton.1 hx']
    exact decide_eq_true (show ((E.app 85 e).ev U r).toI ≤ (4294967295 : Int) by rw [num_ev h]; exact hb.2)
theorem hex_told (h : HexWords U) {A : LoopT} {T : Tree LRes} (hT : T = hexT) (hinv : A.inv = hexInv) (hcnt : A.t.cnt = 4) : Told U T (hexLRun A) := by
  subst hT
  intro r es hlen hI hE _
  have hlen : es.length = 4 := hlen.trans hcnt
  match es, hlen with
  | [e0, e1, e2, e3], _ =>
    have hI : HoldI U hexInv ([e0, e1, e2, e3].map (E.ev U r)) := hinv ▸ hI
    have i2 : (e2.ev U r).toI = ((e0.ev U r).toS.size : Int) := beq_iff_eq.1 (hI (.o2 .ieq (.v 2) (.o1 .slen (.v 0))) (by simp [hexInv]))
    have j1 : (e1.ev U r).toI = 0 := beq_iff_eq.1 (hE (.o2 .ieq (.v 1) (.i 0)) (by simp [hexLRun]))
    have j2 : (e3.ev U r).toI = 0 := beq_iff_eq.1 (hE (.o2 .ieq (.v 3) (.i 0)) (by simp [hexLRun]))
    have ht : (((hexLRun A).tagE [e0, e1, e2, e3]).ev U r).toI = if ((e0.ev U r).toS.size ≤ 8 ∧ allHex (e0.ev U r).toS.data.toList = true) then 0 else 1 := by
      show ((conjTag [.o2 .ile (.o1 .slen e0) (.i 8), .app 84 e0]).ev U r).toI = _
      rw [conj_tag]
      have h84 : ((E.app 84 e0).ev U r).toB = allHex (e0.ev U r).toS.data.toList := by
        show (U 84 (e0.ev U r)).toB = _
        rw [h.w84]; rfl
      have hle : ((E.o2 .ile (.o1 .slen e0) (.i 8)).ev U r).toB = decide ((e0.ev U r).toS.size ≤ 8) := by
        show decide ((((e0.ev U r).toS.size : Nat) : Int) ≤ 8) = _
        rw [decide_eq_decide]; omega
      simp only [List.all_cons, List.all_nil, Bool.and_true, hle, h84, Bool.and_eq_true, decide_eq_true_eq]
    rcases hex_run h (s := e0.ev U r) (n := e2.ev U r) i2 _ (e1.ev U r) (e3.ev U r) 0 j2 (Nat.zero_le _) (Nat.zero_le _) (by rw [j1]; rfl) rfl (Nat.le_refl _) with ⟨hc, o, q1, q2, q3⟩ | ⟨hc, q1⟩
    · refine ⟨0, _, (show LoopTo U A.inv _ _ _ _ from hinv.symm ▸ q1), by rw [ht, if_pos hc]; rfl, num_post h e0 r, fun e to hto j => ?_⟩
      match j with
      | 0 => exact .of_eq rfl
      | 1 =>
        have hnv : numV (e0.ev U r).toS.data.toList = val (e0.ev U r).toS.data.toList := numV_eq (by rw [Array.length_toList]; exact hc.1) hc.2
        refine .of_eq ?_
        show o = (if isI e1 = true then E.app 85 e0 else .o3 .ite (.o2 .ieq (.o1 .slen e0) (.i 0)) e1 (.app 85 e0)).ev U r
        have done_ : ∀ {z : Int}, o = .i z → o = (E.app 85 e0).ev U r := fun {z} hz => by
          rw [num_ev h, hnv, ← q2, hz]; rfl
        split
        · rename_i hi
          rcases q3 with ⟨_, q3⟩ | ⟨_, z, q3⟩
          · unfold isI at hi
            split at hi
            · exact done_ q3
            · cases hi
          · exact done_ q3
        · show o = if ((((e0.ev U r).toS.size : Nat) : Int) == 0) = true then e1.ev U r else (E.app 85 e0).ev U r
          rcases q3 with ⟨q4, q3⟩ | ⟨q4, z, q3⟩
          · rw [if_pos (beq_iff_eq.2 (by omega))]; exact q3
          · rw [if_neg (fun hq => q4 (by have := beq_iff_eq.1 hq; omega))]; exact done_ q3
      | j + 2 => exact .of_eq rfl
    · refine ⟨1, _, (show LoopTo U A.inv _ _ _ _ from hinv.symm ▸ q1), by rw [ht, if_neg hc]; rfl, (fun _ hx' => by cases hx'), fun e to hto j => ?_⟩
      match j with
      | 0 => exact .of_eq rfl
      | 1 => exact .of_eq rfl
      | j + 2 => exact .of_eq rfl
end

/-! ### The loop over a text of eight bytes -/

def txE (p i : E) : E := .o2 .sel (.o2 .sel p i) (.i 0)
def innInv : List E := [.o2 .ile (.i 0) (.v 2), .o2 .ilt (.v 2) (.o1 .llen (.v 0)), .o2 .ieq (.o1 .slen (txE (.v 0) (.v 2))) (.i 8), .o2 .ile (.i 0) (.v 4), .o2 .ile (.v 4) (.i 8), .o2 .ile (.i 0) (.v 3), .o2 .ile (.v 3) (.i 4294967295)]
def innX : E := .o2 .sidx (txE (.v 0) (.v 2)) (.v 4)
def innNo : Tree LRes := .ret (.done 1 [.v 0, .v 1, .b false])
def innNx (e : E) : Tree LRes := .ret (.next [.v 0, .v 1, .v 2, .o2 .iadd (.o2 .imul (.i 16) (.v 3)) e, .o2 .iadd (.v 4) (.i 1)])
def innD1 : E := .o1 (.wrap .i64) (.o2 .iadd innX (.i (-48)))
def innD2 : E := .o2 .iadd (.o1 (.wrap .i64) (.o2 .iadd innX (.i (-97)))) (.i 10)
def innT : Tree LRes := .ite (.o2 .ilt (.v 4) (.i 8)) (.ite (.o2 .ile (.i 48) innX) (.ite (.o2 .ile innX (.i 57)) (.ite (.o2 .ilt innD1 (.i 0)) innNo (innNx innD1))
  (.ite (.o2 .ile (.i 97) innX) (.ite (.o2 .ile innX (.i 102)) (.ite (.o2 .ilt innD2 (.i 0)) innNo (innNx innD2)) innNo) innNo)) innNo) (.ret (.done 0 [.v 0, .v 1, .v 2, .v 3]))
theorem wrap_small {z : Int} (h1 : -1000 ≤ z) (h2 : z ≤ 1000) : IntKind.i64.wrap z = z := by
  have h3 : loOf .i64 = -9223372036854775808 := by decide
  have h4 : hiOf .i64 = 9223372036854775807 := by decide
  exact wrap_in (by omega) (by omega)
section
variable {U : Nat → D → D}
theorem inn_step {P O i p k : D} {K : Nat} {x : UInt8} (hk : k.toI = (K : Int)) (h8 : K < 8) (hx' : ((P.toL.getD i.toI.toNat (.b false)).at_ 0).toS.data.toList[K]? = some x) :
    (0 ≤ hx x → Tw.NextTo U innT [P, O, i, p, k] [P, O, i, .i (16 * p.toI + hx x), .i (k.toI + 1)]) ∧ (hx x < 0 → Tw.DoneTo U innT [P, O, i, p, k] 1 [P, O, .b false]) := by
  have hX : ((innX).ev U (rOf [P, O, i, p, k])).toI = (x.toNat : Int) := by
    show (((((P.toL.getD i.toI.toNat (.b false)).at_ 0).toS.data[k.toI.toNat]?.getD 0).toNat : Nat) : Int) = _
    rw [hk, Int.toNat_natCast, ← Array.getElem?_toList, hx']; rfl
  have hlt := x.toNat_lt
  have heq := hx_eq x
  have w1 : ((innD1).ev U (rOf [P, O, i, p, k])).toI = IntKind.i64.wrap ((x.toNat : Int) + (-48)) := by
    show IntKind.i64.wrap (((innX).ev U (rOf [P, O, i, p, k])).toI + (-48)) = _
    rw [hX]
  have w2 : ((innD2).ev U (rOf [P, O, i, p, k])).toI = IntKind.i64.wrap ((x.toNat : Int) + (-97)) + 10 := by
    show IntKind.i64.wrap (((innX).ev U (rOf [P, O, i, p, k])).toI + (-97)) + 10 = _
    rw [hX]
  rw [wrap_small (by omega) (by omega)] at w1 w2
  have c0 : evA U innT (rOf [P, O, i, p, k]) = evA U _ (rOf [P, O, i, p, k]) := evA_pos (by exact decide_eq_true (show k.toI < 8 by omega))
  have no : ∀ {t : Tree LRes}, evA U innT (rOf [P, O, i, p, k]) = evA U innNo (rOf [P, O, i, p, k]) → Tw.DoneTo U innT [P, O, i, p, k] 1 [P, O, .b false] := fun {_} he => ⟨[.v 0, .v 1, .b false], rOf [P, O, i, p, k], he.trans rfl, rfl⟩
  have nx : ∀ {e : E}, (e.ev U (rOf [P, O, i, p, k])).toI = hx x → evA U innT (rOf [P, O, i, p, k]) = evA U (innNx e) (rOf [P, O, i, p, k]) → Tw.NextTo U innT [P, O, i, p, k] [P, O, i, .i (16 * p.toI + hx x), .i (k.toI + 1)] := fun {e} hv he =>
    ⟨[.v 0, .v 1, .v 2, .o2 .iadd (.o2 .imul (.i 16) (.v 3)) e, .o2 .iadd (.v 4) (.i 1)], rOf [P, O, i, p, k], he.trans rfl, by
      show [P, O, i, D.i (16 * p.toI + (e.ev U (rOf [P, O, i, p, k])).toI), D.i (k.toI + 1)] = _
      rw [hv]⟩
  have pos1 : ∀ {t e : Tree LRes} {z : Int}, z ≤ (x.toNat : Int) → evA U (.ite (.o2 .ile (.i z) innX) t e) (rOf [P, O, i, p, k]) = evA U t (rOf [P, O, i, p, k]) := fun {_ _ z} hz => evA_pos (by exact decide_eq_true (show z ≤ ((innX).ev U (rOf [P, O, i, p, k])).toI by omega))
  have neg1 : ∀ {t e : Tree LRes} {z : Int}, (x.toNat : Int) < z → evA U (.ite (.o2 .ile (.i z) innX) t e) (rOf [P, O, i, p, k]) = evA U e (rOf [P, O, i, p, k]) := fun {_ _ z} hz => evA_neg (by exact fun hc => absurd (of_decide_eq_true (show decide (z ≤ ((innX).ev U (rOf [P, O, i, p, k])).toI) = true from hc)) (by omega))
  have pos2 : ∀ {t e : Tree LRes} {z : Int}, (x.toNat : Int) ≤ z → evA U (.ite (.o2 .ile innX (.i z)) t e) (rOf [P, O, i, p, k]) = evA U t (rOf [P, O, i, p, k]) := fun {_ _ z} hz => evA_pos (by exact decide_eq_true (show ((innX).ev U (rOf [P, O, i, p, k])).toI ≤ z by omega))
  have neg2 : ∀ {t e : Tree LRes} {z : Int}, z < (x.toNat : Int) → evA U (.ite (.o2 .ile innX (.i z)) t e) (rOf [P, O, i, p, k]) = evA U e (rOf [P, O, i, p, k]) := fun {_ _ z} hz => evA_neg (by exact fun hc => absurd (of_decide_eq_true (show decide (((innX).ev U (rOf [P, O, i, p, k])).toI ≤ z) = true from hc)) (by omega))
  have ge : ∀ {t e : Tree LRes} {d : E}, 0 ≤ (d.ev U (rOf [P, O, i, p, k])).toI → evA U (.ite (.o2 .ilt d (.i 0)) t e) (rOf [P, O, i, p, k]) = evA U e (rOf [P, O, i, p, k]) := fun {_ _ d} hz => evA_neg (by exact fun hc => absurd (of_decide_eq_true (show decide ((d.ev U (rOf [P, O, i, p, k])).toI < 0) = true from hc)) (by omega))
  by_cases a : 48 ≤ x.toNat
  · by_cases b : x.toNat ≤ 57
    · have hv : hx x = (x.toNat : Int) - 48 := by rw [heq, if_pos ⟨a, b⟩]
      refine ⟨fun _ => nx (e := innD1) (by rw [w1, hv]; omega) (c0.trans ((pos1 (by omega)).trans ((pos2 (by omega)).trans (ge (by rw [w1]; omega))))), fun hn => by omega⟩
    · by_cases a' : 97 ≤ x.toNat
      · by_cases b' : x.toNat ≤ 102
        · have hv : hx x = (x.toNat : Int) - 87 := by rw [heq, if_neg (by omega), if_pos ⟨a', b'⟩]
          refine ⟨fun _ => nx (e := innD2) (by rw [w2, hv]; omega) (c0.trans ((pos1 (by omega)).trans ((neg2 (by omega)).trans ((pos1 (by omega)).trans ((pos2 (by omega)).trans (ge (by rw [w2]; omega))))))), fun hn => by omega⟩
        · have hv : hx x = -1 := by rw [heq, if_neg (by omega), if_neg (by omega)]
          exact ⟨fun hn => by omega, fun _ => no (t := innNo) (c0.trans ((pos1 (by omega)).trans ((neg2 (by omega)).trans ((pos1 (by omega)).trans (neg2 (by omega))))))⟩
      · have hv : hx x = -1 := by rw [heq, if_neg (by omega), if_neg (by omega)]
        exact ⟨fun hn => by omega, fun _ => no (t := innNo) (c0.trans ((pos1 (by omega)).trans ((neg2 (by omega)).trans (neg1 (by omega)))))⟩
  · have hv : hx x = -1 := by rw [heq, if_neg (by omega), if_neg (by omega)]
    exact ⟨fun hn => by omega, fun _ => no (t := innNo) (c0.trans (neg1 (by omega)))⟩
theorem inn_run {P O i : D} (hi0 : 0 ≤ i.toI) (hi1 : i.toI < (P.toL.length : Int)) (h8 : ((P.toL.getD i.toI.toNat (.b false)).at_ 0).toS.size = 8) : ∀ (m : Nat) (p k : D) (K : Nat), k.toI = (K : Int) → K ≤ 8 → p.toI = val (((P.toL.getD i.toI.toNat (.b false)).at_ 0).toS.data.toList.take K) → allHex (((P.toL.getD i.toI.toNat (.b false)).at_ 0).toS.data.toList.take K) = true → 8 - K ≤ m →
    (allHex ((P.toL.getD i.toI.toNat (.b false)).at_ 0).toS.data.toList = true ∧ ∃ o, LoopTo U innInv innT [P, O, i, p, k] 0 [P, O, i, o] ∧ o.toI = val ((P.toL.getD i.toI.toNat (.b false)).at_ 0).toS.data.toList ∧ ((K = 8 ∧ o = p) ∨ ∃ z, o = .i z)) ∨
    (¬ allHex ((P.toL.getD i.toI.toNat (.b false)).at_ 0).toS.data.toList = true ∧ LoopTo U innInv innT [P, O, i, p, k] 1 [P, O, .b false]) := by
  generalize hl : ((P.toL.getD i.toI.toNat (.b false)).at_ 0).toS.data.toList = l
  have hlen : l.length = 8 := by rw [← hl, Array.length_toList]; exact h8
  have hold : ∀ (p k : D) (K : Nat), k.toI = (K : Int) → K ≤ 8 → p.toI = val (l.take K) → allHex (l.take K) = true → HoldI U innInv [P, O, i, p, k] := by
    intro p k K hk h1 h2 h3 e hm
    have hb := val_bound (l := l.take K) (by rw [List.length_take]; omega) h3
    simp only [innInv, List.mem_cons, List.not_mem_nil, or_false] at hm
    rcases hm with rfl | rfl | rfl | rfl | rfl | rfl | rfl
    · exact decide_eq_true hi0
    · exact decide_eq_true hi1
    · exact beq_iff_eq.2 (show ((((P.toL.getD i.toI.toNat (.b false)).at_ 0).toS.size : Nat) : Int) = 8 by rw [h8]; rfl)
    · exact decide_eq_true (show (0 : Int) ≤ k.toI by omega)
    · exact decide_eq_true (show k.toI ≤ 8 by omega)
    · exact decide_eq_true (show (0 : Int) ≤ p.toI by omega)
    · exact decide_eq_true (show p.toI ≤ 4294967295 by omega)
  have stop : ∀ (p k : D) (K : Nat), k.toI = (K : Int) → K = 8 → p.toI = val (l.take K) → allHex (l.take K) = true → allHex l = true ∧ ∃ o, LoopTo U innInv innT [P, O, i, p, k] 0 [P, O, i, o] ∧ o.toI = val l ∧ ((K = 8 ∧ o = p) ∨ ∃ z, o = .i z) := by
    intro p k K hk h1 h2 h3
    have hH := hold p k K hk (by omega) h2 h3
    have htk : l.take K = l := List.take_of_length_le (by omega)
    rw [htk] at h2 h3
    exact ⟨h3, p, Tw.loop_stop hH ⟨[.v 0, .v 1, .v 2, .v 3], rOf [P, O, i, p, k], (evA_neg (by exact fun hc => absurd (of_decide_eq_true (show decide (k.toI < 8) = true from hc)) (by omega))).trans rfl, rfl⟩, h2, .inl ⟨h1, rfl⟩⟩
  intro m
  induction m with
  | zero => intro p k K hk h1 h2 h3 h4; exact .inl (stop p k K hk (by omega) h2 h3)
  | succ m ih =>
    intro p k K hk h1 h2 h3 h4
    by_cases he : K = 8
    · exact .inl (stop p k K hk he h2 h3)
    · obtain ⟨x, hx'⟩ : ∃ x, l[K]? = some x := ⟨_, List.getElem?_eq_getElem (by omega)⟩
      obtain ⟨s1, s2⟩ := inn_step (U := U) (P := P) (O := O) (i := i) (p := p) (k := k) (K := K) (x := x) hk (by omega) (by rw [hl]; exact hx')
      by_cases hneg : hx x < 0
      · exact .inr ⟨not_all (List.mem_of_getElem? hx') hneg, Tw.loop_stop (hold p k K hk h1 h2 h3) (s2 hneg)⟩
      · have htk : l.take (K + 1) = l.take K ++ [x] := by rw [List.take_add_one, hx']; rfl
        rcases ih (.i (16 * p.toI + hx x)) (.i (k.toI + 1)) (K + 1) (by show k.toI + 1 = _; omega) (by omega) (by show 16 * p.toI + hx x = _; rw [htk, val_snoc, h2]; omega) (by rw [htk, allHex_snoc, h3]; simp; omega) (by omega) with ⟨hc, o, q1, q2, q3⟩ | ⟨hc, q1⟩
        · refine .inl ⟨hc, o, Tw.loop_step (hold p k K hk h1 h2 h3) (s1 (by omega)) q1, q2, .inr ?_⟩
          rcases q3 with ⟨_, rfl⟩ | q3
          · exact ⟨_, rfl⟩
          · exact q3
        · exact .inr ⟨hc, Tw.loop_step (hold p k K hk h1 h2 h3) (s1 (by omega)) q1⟩

def tx2 (es : List E) : E := txE (nmOf es 0) (nmOf es 2)
def innRun (A : LoopT) : LRun := ⟨A, fun _ => .i 0, fun k es => if k = 0 then [nmOf es 0, nmOf es 1, nmOf es 2, .app 85 (tx2 es)] else [nmOf es 0, nmOf es 1, .b false], [.o2 .ieq (.v 3) (.i 0), .o2 .ieq (.v 4) (.i 0)],
  some fun es => [.app 84 (tx2 es)], fun k es => if k = 0 then [(.o2 .ile (.i 0) (.app 85 (tx2 es)), true), (.o2 .ile (.app 85 (tx2 es)) (.i 4294967295), true)] else []⟩
theorem inn_told (h : HexWords U) {A : LoopT} {T : Tree LRes} (hT : T = innT) (hinv : A.inv = innInv) (hcnt : A.t.cnt = 5) : Told U T (innRun A) := by
  subst hT
  intro r es hlen hI hE _
  have hlen : es.length = 5 := hlen.trans hcnt
  match es, hlen with
  | [e0, e1, e2, e3, e4], _ =>
    have hI : HoldI U innInv ([e0, e1, e2, e3, e4].map (E.ev U r)) := hinv ▸ hI
    have i1 : (0 : Int) ≤ (e2.ev U r).toI := of_decide_eq_true (hI (.o2 .ile (.i 0) (.v 2)) (by simp [innInv]))
    have i2 : (e2.ev U r).toI < ((e0.ev U r).toL.length : Int) := of_decide_eq_true (hI (.o2 .ilt (.v 2) (.o1 .llen (.v 0))) (by simp [innInv]))
    have i3 : ((((e0.ev U r).toL.getD (e2.ev U r).toI.toNat (.b false)).at_ 0).toS.size : Int) = 8 := beq_iff_eq.1 (hI (.o2 .ieq (.o1 .slen (txE (.v 0) (.v 2))) (.i 8)) (by simp [innInv]))
    have j1 : (e3.ev U r).toI = 0 := beq_iff_eq.1 (hE (.o2 .ieq (.v 3) (.i 0)) (by simp [innRun]))
    have j2 : (e4.ev U r).toI = 0 := beq_iff_eq.1 (hE (.o2 .ieq (.v 4) (.i 0)) (by simp [innRun]))
    have htx : (tx2 [e0, e1, e2, e3, e4]).ev U r = ((e0.ev U r).toL.getD (e2.ev U r).toI.toNat (.b false)).at_ 0 := rfl
    have ht : (((innRun A).tagE [e0, e1, e2, e3, e4]).ev U r).toI = if allHex (((e0.ev U r).toL.getD (e2.ev U r).toI.toNat (.b false)).at_ 0).toS.data.toList = true then 0 else 1 := by
      show ((conjTag [.app 84 (tx2 [e0, e1, e2, e3, e4])]).ev U r).toI = _
      rw [conj_tag]
      have h84 : ((E.app 84 (tx2 [e0, e1, e2, e3, e4])).ev U r).toB = allHex (((e0.ev U r).toL.getD (e2.ev U r).toI.toNat (.b false)).at_ 0).toS.data.toList := by
        show (U 84 ((tx2 [e0, e1, e2, e3, e4]).ev U r)).toB = _
        rw [h.w84, htx]; rfl
      simp only [List.all_cons, List.all_nil, Bool.and_true, h84]
    rcases inn_run (U := U) (P := e0.ev U r) (O := e1.ev U r) (i := e2.ev U r) i1 i2 (by omega) _ (e3.ev U r) (e4.ev U r) 0 j2 (Nat.zero_le _) (by rw [j1]; rfl) rfl (Nat.le_refl _) with ⟨hc, o, q1, q2, q3⟩ | ⟨hc, q1⟩
    · refine ⟨0, _, (show LoopTo U A.inv _ _ _ _ from hinv.symm ▸ q1), by rw [ht, if_pos hc]; rfl, num_post h _ r, fun e to hto j => ?_⟩
      match j with
      | 0 => exact .of_eq rfl
      | 1 => exact .of_eq rfl
      | 2 => exact .of_eq rfl
      | 3 =>
        refine .of_eq ?_
        obtain ⟨z, hz⟩ : ∃ z, o = .i z := by
          rcases q3 with ⟨q4, _⟩ | q3
          · omega
          · exact q3
        show o = (E.app 85 (tx2 [e0, e1, e2, e3, e4])).ev U r
        rw [num_ev h, htx, numV_eq (by rw [Array.length_toList]; show ByteArray.size _ ≤ 8; omega) hc, ← q2, hz]
        rfl
      | j + 4 => exact .of_eq rfl
    · refine ⟨1, _, (show LoopTo U A.inv _ _ _ _ from hinv.symm ▸ q1), by rw [ht, if_neg hc]; rfl, (fun _ hx' => by cases hx'), fun e to hto j => ?_⟩
      match j with
      | 0 => exact .of_eq rfl
      | 1 => exact .of_eq rfl
      | 2 => exact .of_eq rfl
      | j + 3 => exact .of_eq rfl
end

/-! ### Rows that are read -/

section
variable {U : Nat → D → D}
theorem read_run {T : Tree LRes} {inv : List E} {mk : D → D → List D} {out : D → List D} {outF : List D} {l : List D} {f : D → D} {good : D → Bool} {N : Nat}
    (hh : ∀ (p i : D) (I : Nat), i.toI = (I : Int) → I ≤ l.length → I ≤ N → p.toL.length = I → HoldI U inv (mk p i))
    (hs : ∀ (p i d : D) (I : Nat), i.toI = (I : Int) → l[I]? = some d → p.toL.length = I → I < N → good d = true → Tw.NextTo U T (mk p i) (mk (.l (p.toL ++ [.l [f d]])) (.i (i.toI + 1))))
    (hf : ∀ (p i d : D) (I : Nat), i.toI = (I : Int) → l[I]? = some d → p.toL.length = I → I ≤ N → (good d = false ∨ I = N) → Tw.DoneTo U T (mk p i) 1 outF)
    (hd : ∀ p i : D, i.toI = (l.length : Int) → Tw.DoneTo U T (mk p i) 0 (out p)) :
    ∀ (k : Nat) (p i : D) (I : Nat), i.toI = (I : Int) → I ≤ l.length → I ≤ N → p.toL.length = I → ((l.take I).all good = true) → l.length - I ≤ k →
      ((l.all good = true ∧ l.length ≤ N) ∧ ∃ o, LoopTo U inv T (mk p i) 0 (out o) ∧ o.toL = p.toL ++ (l.drop I).map (fun d => .l [f d])) ∨ (¬ (l.all good = true ∧ l.length ≤ N) ∧ LoopTo U inv T (mk p i) 1 outF) := by
  have stop : ∀ (p i : D) (I : Nat), i.toI = (I : Int) → I = l.length → I ≤ N → p.toL.length = I → ((l.take I).all good = true) → ((l.all good = true ∧ l.length ≤ N) ∧ ∃ o, LoopTo U inv T (mk p i) 0 (out o) ∧ o.toL = p.toL ++ (l.drop I).map (fun d => .l [f d])) := by
    intro p i I hi h1 h2 h3 h4
    rw [List.take_of_length_le (by omega)] at h4
    exact ⟨⟨h4, by omega⟩, p, Tw.loop_stop (hh p i I hi (by omega) h2 h3) (hd p i (by omega)), by rw [List.drop_eq_nil_of_le (by omega)]; simp⟩
  intro k
  induction k with
  | zero => intro p i I hi h1 h2 h3 h4 h5; exact .inl (stop p i I hi (by omega) h2 h3 h4)
  | succ k ih =>
    intro p i I hi h1 h2 h3 h4 h5
    by_cases he : I = l.length
    · exact .inl (stop p i I hi he h2 h3 h4)
    · obtain ⟨d, hdd⟩ : ∃ d, l[I]? = some d := ⟨_, List.getElem?_eq_getElem (by omega)⟩
      by_cases hN : I = N
      · exact .inr ⟨fun hc => by omega, Tw.loop_stop (hh p i I hi h1 h2 h3) (hf p i d I hi hdd h3 h2 (.inr hN))⟩
      · by_cases hg : good d = true
        · have htk : l.take (I + 1) = l.take I ++ [d] := by rw [List.take_add_one, hdd]; rfl
          rcases ih (.l (p.toL ++ [.l [f d]])) (.i (i.toI + 1)) (I + 1) (by show i.toI + 1 = _; omega) (by omega) (by omega) (by rw [D.toL_l, List.length_append, h3]; rfl) (by rw [htk, List.all_append, h4]; simp [hg]) (by omega) with ⟨hc, o, q1, q2⟩ | ⟨hc, q1⟩
          · refine .inl ⟨hc, o, Tw.loop_step (hh p i I hi h1 h2 h3) (hs p i d I hi hdd h3 (by omega) hg) q1, ?_⟩
            rw [q2, D.toL_l, drop_at hdd]
            simp
          · exact .inr ⟨hc, Tw.loop_step (hh p i I hi h1 h2 h3) (hs p i d I hi hdd h3 (by omega) hg) q1⟩
        · exact .inr ⟨fun hc => hg (List.all_eq_true.1 hc.1 d (List.mem_of_getElem? hdd)), Tw.loop_stop (hh p i I hi h1 h2 h3) (hf p i d I hi hdd h3 h2 (.inl (by simpa using hg)))⟩

/-- The number of a text of digits. -/
def fE (e : E) : E := .o1 (.ofBits .f32) (.o1 (.wrap .u32) (.app 85 e))
def numF (U : Nat → D → D) (t : D) : D := (fE (.v 0)).ev U (fun _ => t)
theorem fE_ev (e : E) (r : Nat → D) : (fE e).ev U r = numF U (e.ev U r) := rfl
def good (U : Nat → D → D) (d : D) : Bool := decide ((((d.at_ 0).toS.size : Nat) : Int) = 8) && ((U 84 (d.at_ 0)).toB && ((U 1 (numF U (d.at_ 0))).toI == (U 85 (d.at_ 0)).toI))
def readL (U : Nat → D → D) (l : List D) : List D := l.map fun d => .l [numF U (d.at_ 0)]
structure ReadWords (U : Nat → D → D) : Prop extends HexWords U where
  w86 : ∀ d, U 86 d = .b (d.toL.all (good U))
  w87 : ∀ d, U 87 d = .l (readL U d.toL)

def rdNo : Tree LRes := .ret (.done 1 [.v 0, .b false])
def spInv : List E := [.o2 .ile (.i 0) (.v 2), .o2 .ile (.v 2) (.o1 .llen (.v 0)), .o2 .ile (.o1 .llen (.v 0)) (.i 256), .o2 .ieq (.o1 .llen (.v 1)) (.v 2)]
def spT : Tree LRes := .ite (.o2 .ilt (.v 2) (.o1 .llen (.v 0))) (.ite (.o2 .ieq (.o1 .slen (txE (.v 0) (.v 2))) (.i 8)) (.ite (.app 84 (txE (.v 0) (.v 2))) (.chk (.o2 .fsame (.v 1000) (fE (txE (.v 0) (.v 2))))
  (.ite (.o2 .ieq (.app 1 (.v 1000)) (.app 85 (txE (.v 0) (.v 2)))) (.ret (.next [.v 0, .o2 .lpush (.v 1) (elemE [.v 1000]), .o2 .iadd (.v 2) (.i 1)])) rdNo)) rdNo) rdNo) (.ret (.done 0 [.v 0, .v 1]))
def imInv : List E := [.o2 .ile (.i 0) (.v 3), .o2 .ile (.v 3) (.v 2), .o2 .ieq (.v 2) (.o1 .llen (.v 0)), .o2 .ile (.v 2) (.i 1048577), .o2 .ieq (.o1 .llen (.v 1)) (.v 3), .o2 .ile (.v 3) (.i 256)]
def imT : Tree LRes := .ite (.o2 .ilt (.v 3) (.v 2)) (.ite (.o2 .ile (.o1 .slen (txE (.v 0) (.v 3))) (.i 8)) (.ite (.app 84 (txE (.v 0) (.v 3))) (.chk (.o2 .fsame (.v 1000) (fE (txE (.v 0) (.v 3)))) (.ite (.o2 .ieq (.o1 .slen (txE (.v 0) (.v 3))) (.i 8))
  (.ite (.o2 .ieq (.app 1 (.v 1000)) (.app 85 (txE (.v 0) (.v 3)))) (.ite (.o2 .ieq (.o1 .llen (.v 1)) (.i 256)) rdNo (.ret (.next [.v 0, .o2 .lpush (.v 1) (elemE [.v 1000]), .v 2, .o2 .iadd (.v 3) (.i 1)]))) rdNo) rdNo)) rdNo) rdNo) (.ret (.done 0 [.v 0, .v 1]))
def rdPost (es : List E) : List (E × Bool) := [(.o2 .ieq (.o1 .llen (.app 87 (nmOf es 0))) (.o1 .llen (nmOf es 0)), true)]
def spRun (A : LoopT) : LRun := ⟨A, fun _ => .i 0, fun k es => if k = 0 then [nmOf es 0, .app 87 (nmOf es 0)] else [nmOf es 0, .b false], [.o2 .ieq (.v 2) (.i 0)], some fun es => [.app 86 (nmOf es 0)], fun k es => if k = 0 then rdPost es else []⟩
def imRun (A : LoopT) : LRun := ⟨A, fun _ => .i 0, fun k es => if k = 0 then [nmOf es 0, .app 87 (nmOf es 0)] else [nmOf es 0, .b false], [.o2 .ieq (.v 3) (.i 0)], some fun es => [.app 86 (nmOf es 0), .o2 .ile (.o1 .llen (nmOf es 0)) (.i 256)], fun k es => if k = 0 then rdPost es else []⟩

theorem rd_post (h : ReadWords U) (es : List E) (r : Nat → D) : PcOk U r (rdPost es) := by
  intro x hx'
  rw [List.mem_singleton.1 hx']
  show ((((U 87 ((nmOf es 0).ev U r)).toL.length : Nat) : Int) == ((((nmOf es 0).ev U r).toL.length : Nat) : Int)) = true
  rw [h.w87, D.toL_l, readL, List.length_map, beq_self_eq_true]

theorem tx_ev {a i : D} {d : D} {I : Nat} (hi : i.toI = (I : Int)) (hd : a.toL[I]? = some d) : (a.toL.getD i.toI.toNat (.b false)).at_ 0 = d.at_ 0 := by
  rw [hi, Int.toNat_natCast, List.getD_eq_getElem?_getD, hd]; rfl
theorem sp_step {a p i d : D} {I : Nat} (hi : i.toI = (I : Int)) (hd : a.toL[I]? = some d) :
    (good U d = true → Tw.NextTo U spT [a, p, i] [a, .l (p.toL ++ [.l [numF U (d.at_ 0)]]), .i (i.toI + 1)]) ∧ (good U d = false → Tw.DoneTo U spT [a, p, i] 1 [a, .b false]) := by
  have hlt : I < a.toL.length := (List.getElem?_eq_some_iff.1 hd).1
  have t0 : (txE (.v 0) (.v 2)).ev U (rOf [a, p, i]) = d.at_ 0 := tx_ev hi hd
  have t1 : ∀ y : D, (txE (.v 0) (.v 2)).ev U (Tree.upd (rOf [a, p, i]) 1000 y) = d.at_ 0 := fun y => tx_ev hi hd
  have f0 : (fE (txE (.v 0) (.v 2))).ev U (rOf [a, p, i]) = numF U (d.at_ 0) := by rw [fE_ev, t0]
  have c0 : evA U spT (rOf [a, p, i]) = evA U _ (rOf [a, p, i]) := evA_pos (by exact decide_eq_true (show i.toI < (a.toL.length : Int) by omega))
  have no : evA U spT (rOf [a, p, i]) = some (.done 1 [.v 0, .b false], rOf [a, p, i]) → Tw.DoneTo U spT [a, p, i] 1 [a, .b false] := fun he => ⟨_, _, he, rfl⟩
  have no' : evA U spT (rOf [a, p, i]) = some (.done 1 [.v 0, .b false], Tree.upd (rOf [a, p, i]) 1000 (numF U (d.at_ 0))) → Tw.DoneTo U spT [a, p, i] 1 [a, .b false] := fun he => ⟨_, _, he, rfl⟩
  have nm : ∀ {t : Tree LRes}, evA U (.chk (.o2 .fsame (.v 1000) (fE (txE (.v 0) (.v 2)))) t) (rOf [a, p, i]) = evA U t (Tree.upd (rOf [a, p, i]) 1000 (numF U (d.at_ 0))) := fun {t} => by
    show evA U t (Tree.upd (rOf [a, p, i]) 1000 ((fE (txE (.v 0) (.v 2))).ev U (rOf [a, p, i]))) = _
    rw [f0]
  have s8 : (((txE (.v 0) (.v 2)).ev U (rOf [a, p, i])).toS.size : Int) = ((d.at_ 0).toS.size : Int) := by rw [t0]
  have a84 : ((E.app 84 (txE (.v 0) (.v 2))).ev U (rOf [a, p, i])).toB = (U 84 (d.at_ 0)).toB := by show (U 84 ((txE (.v 0) (.v 2)).ev U _)).toB = _; rw [t0]
  have bq : ((E.o2 .ieq (.app 1 (.v 1000)) (.app 85 (txE (.v 0) (.v 2)))).ev U (Tree.upd (rOf [a, p, i]) 1000 (numF U (d.at_ 0)))).toB = ((U 1 (numF U (d.at_ 0))).toI == (U 85 (d.at_ 0)).toI) := by
    show ((U 1 (numF U (d.at_ 0))).toI == (U 85 ((txE (.v 0) (.v 2)).ev U _)).toI) = _
    rw [t1]
  by_cases h8 : ((d.at_ 0).toS.size : Int) = 8
  · have c1 : ∀ {t e : Tree LRes}, evA U (.ite (.o2 .ieq (.o1 .slen (txE (.v 0) (.v 2))) (.i 8)) t e) (rOf [a, p, i]) = evA U t (rOf [a, p, i]) := evA_pos (by exact beq_iff_eq.2 (show (((txE (.v 0) (.v 2)).ev U (rOf [a, p, i])).toS.size : Int) = 8 by rw [s8]; exact h8))
    by_cases h4 : (U 84 (d.at_ 0)).toB = true
    · have c2 : ∀ {t e : Tree LRes}, evA U (.ite (.app 84 (txE (.v 0) (.v 2))) t e) (rOf [a, p, i]) = evA U t (rOf [a, p, i]) := evA_pos (by rw [a84]; exact h4)
      by_cases hb : ((U 1 (numF U (d.at_ 0))).toI == (U 85 (d.at_ 0)).toI) = true
      · refine ⟨fun _ => ⟨[.v 0, .o2 .lpush (.v 1) (elemE [.v 1000]), .o2 .iadd (.v 2) (.i 1)], Tree.upd (rOf [a, p, i]) 1000 (numF U (d.at_ 0)), c0.trans (c1.trans (c2.trans (nm.trans ((evA_pos (by rw [bq]; exact hb)).trans rfl)))), ?_⟩, fun hg => ?_⟩
        · have e5 : (E.o2 .lpush (.v 1) (elemE [.v 1000])).ev U (Tree.upd (rOf [a, p, i]) 1000 (numF U (d.at_ 0))) = .l (p.toL ++ [.l [numF U (d.at_ 0)]]) := by
            show D.l (p.toL ++ [(elemE [.v 1000]).ev U _]) = _
            rw [elemE_ev]; rfl
          simp only [List.map_cons, List.map_nil]
          rw [e5]; rfl
        · exfalso
          unfold good at hg
          rw [decide_eq_true h8, h4, hb] at hg
          cases hg
      · refine ⟨fun hg => ?_, fun _ => no' (c0.trans (c1.trans (c2.trans (nm.trans ((evA_neg (by rw [bq]; exact hb)).trans rfl)))))⟩
        exfalso
        unfold good at hg
        simp only [Bool.and_eq_true] at hg
        exact hb hg.2.2
    · refine ⟨fun hg => ?_, fun _ => no (c0.trans (c1.trans ((evA_neg (by rw [a84]; exact h4)).trans rfl)))⟩
      exfalso
      unfold good at hg
      simp only [Bool.and_eq_true] at hg
      exact h4 hg.2.1
  · refine ⟨fun hg => ?_, fun _ => no (c0.trans ((evA_neg (by exact fun hc => h8 (by have := beq_iff_eq.1 (show ((((txE (.v 0) (.v 2)).ev U (rOf [a, p, i])).toS.size : Int) == 8) = true from hc); rw [s8] at this; exact this))).trans rfl))⟩
    exfalso
    unfold good at hg
    simp only [Bool.and_eq_true, decide_eq_true_eq] at hg
    exact h8 hg.1
theorem sp_told (h : ReadWords U) {A : LoopT} {T : Tree LRes} (hT : T = spT) (hinv : A.inv = spInv) (hcnt : A.t.cnt = 3) (hout0 : (A.outs.getD 0 (.ret, ⟨0, 0, [], []⟩)).2.blks.length = 2) : Told U T (spRun A) := by
  subst hT
  intro r es hlen hI hE _
  have hlen : es.length = 3 := hlen.trans hcnt
  match es, hlen with
  | [e0, e1, e2], _ =>
    have hI : HoldI U spInv ([e0, e1, e2].map (E.ev U r)) := hinv ▸ hI
    have i2 : ((e0.ev U r).toL.length : Int) ≤ 256 := of_decide_eq_true (hI (.o2 .ile (.o1 .llen (.v 0)) (.i 256)) (by simp [spInv]))
    have i3 : ((e1.ev U r).toL.length : Int) = (e2.ev U r).toI := beq_iff_eq.1 (hI (.o2 .ieq (.o1 .llen (.v 1)) (.v 2)) (by simp [spInv]))
    have j1 : (e2.ev U r).toI = 0 := beq_iff_eq.1 (hE (.o2 .ieq (.v 2) (.i 0)) (by simp [spRun]))
    have ht : (((spRun A).tagE [e0, e1, e2]).ev U r).toI = if ((e0.ev U r).toL.all (good U) = true ∧ (e0.ev U r).toL.length ≤ 256) then 0 else 1 := by
      show ((conjTag [.app 86 e0]).ev U r).toI = _
      rw [conj_tag]
      have h86 : ((E.app 86 e0).ev U r).toB = (e0.ev U r).toL.all (good U) := by
        show (U 86 (e0.ev U r)).toB = _
        rw [h.w86]; rfl
      have hle : (e0.ev U r).toL.length ≤ 256 := by omega
      simp only [List.all_cons, List.all_nil, Bool.and_true, h86, hle, and_true]
    have hp : (e1.ev U r).toL = [] := List.eq_nil_of_length_eq_zero (by omega)
    rcases read_run (U := U) (T := spT) (inv := spInv) (mk := fun p i => [e0.ev U r, p, i]) (out := fun o => [e0.ev U r, o]) (outF := [e0.ev U r, .b false]) (l := (e0.ev U r).toL) (f := fun d => numF U (d.at_ 0)) (good := good U) (N := 256)
      (fun p i I hi h1 h2 h3 => by
        intro e hm
        simp only [spInv, List.mem_cons, List.not_mem_nil, or_false] at hm
        rcases hm with rfl | rfl | rfl | rfl
        · exact decide_eq_true (show (0 : Int) ≤ i.toI by omega)
        · exact decide_eq_true (show i.toI ≤ ((e0.ev U r).toL.length : Int) by omega)
        · exact decide_eq_true i2
        · exact beq_iff_eq.2 (show (p.toL.length : Int) = i.toI by omega))
      (fun p i d I hi hd h1 h2 hg => (sp_step hi hd).1 hg)
      (fun p i d I hi hd h1 h2 hg => (sp_step hi hd).2 (by
        rcases hg with hg | hg
        · exact hg
        · have := (List.getElem?_eq_some_iff.1 hd).1
          omega))
      (fun p i hi => ⟨[.v 0, .v 1], rOf [e0.ev U r, p, i], (evA_neg (by exact fun hc => absurd (of_decide_eq_true (show decide (i.toI < ((e0.ev U r).toL.length : Int)) = true from hc)) (by omega))).trans rfl, rfl⟩)
      _ (e1.ev U r) (e2.ev U r) 0 j1 (Nat.zero_le _) (Nat.zero_le _) (by rw [hp]; rfl) rfl (Nat.le_refl _) with ⟨hc, o, q1, q2⟩ | ⟨hc, q1⟩
    · refine ⟨0, _, (show LoopTo U A.inv _ _ _ _ from hinv.symm ▸ q1), by rw [ht, if_pos hc]; rfl, rd_post h [e0, e1, e2] r, fun e to hto j => ?_⟩
      have hb : to.blks.length = 2 := by
        rw [List.getD_eq_getElem?_getD, show A.outs[0]? = some (e, to) from hto] at hout0
        exact hout0
      rw [hb]
      rw [hp] at q2
      have q2 : o.toL = readL U (e0.ev U r).toL := q2
      match j with
      | 0 => exact .of_eq rfl
      | 1 => exact ⟨by show o.toL = (U 87 (e0.ev U r)).toL; rw [h.w87, q2]; rfl, fun h => absurd h (by omega)⟩
      | j + 2 => exact .of_eq rfl
    · refine ⟨1, _, (show LoopTo U A.inv _ _ _ _ from hinv.symm ▸ q1), by rw [ht, if_neg hc]; rfl, (fun _ hx' => by cases hx'), fun e to hto j => ?_⟩
      match j with
      | 0 => exact .of_eq rfl
      | 1 => exact .of_eq rfl
      | j + 2 => exact .of_eq rfl
theorem im_step {a p n i d : D} {I : Nat} (hi : i.toI = (I : Int)) (hn : n.toI = (a.toL.length : Int)) (hd : a.toL[I]? = some d) (hp : p.toL.length = I) :
    (good U d = true → I < 256 → Tw.NextTo U imT [a, p, n, i] [a, .l (p.toL ++ [.l [numF U (d.at_ 0)]]), n, .i (i.toI + 1)]) ∧ (good U d = false ∨ I = 256 → Tw.DoneTo U imT [a, p, n, i] 1 [a, .b false]) := by
  have hlt : I < a.toL.length := (List.getElem?_eq_some_iff.1 hd).1
  have t0 : (txE (.v 0) (.v 3)).ev U (rOf [a, p, n, i]) = d.at_ 0 := tx_ev hi hd
  have t1 : ∀ y : D, (txE (.v 0) (.v 3)).ev U (Tree.upd (rOf [a, p, n, i]) 1000 y) = d.at_ 0 := fun y => tx_ev hi hd
  have f0 : (fE (txE (.v 0) (.v 3))).ev U (rOf [a, p, n, i]) = numF U (d.at_ 0) := by rw [fE_ev, t0]
  have c0 : evA U imT (rOf [a, p, n, i]) = evA U _ (rOf [a, p, n, i]) := evA_pos (by exact decide_eq_true (show i.toI < n.toI by omega))
  have no : evA U imT (rOf [a, p, n, i]) = some (.done 1 [.v 0, .b false], rOf [a, p, n, i]) → Tw.DoneTo U imT [a, p, n, i] 1 [a, .b false] := fun he => ⟨_, _, he, rfl⟩
  have no' : evA U imT (rOf [a, p, n, i]) = some (.done 1 [.v 0, .b false], Tree.upd (rOf [a, p, n, i]) 1000 (numF U (d.at_ 0))) → Tw.DoneTo U imT [a, p, n, i] 1 [a, .b false] := fun he => ⟨_, _, he, rfl⟩
  have nm : ∀ {t : Tree LRes}, evA U (.chk (.o2 .fsame (.v 1000) (fE (txE (.v 0) (.v 3)))) t) (rOf [a, p, n, i]) = evA U t (Tree.upd (rOf [a, p, n, i]) 1000 (numF U (d.at_ 0))) := fun {t} => by
    show evA U t (Tree.upd (rOf [a, p, n, i]) 1000 ((fE (txE (.v 0) (.v 3))).ev U (rOf [a, p, n, i]))) = _
    rw [f0]
  have s8 : (((txE (.v 0) (.v 3)).ev U (rOf [a, p, n, i])).toS.size : Int) = ((d.at_ 0).toS.size : Int) := by rw [t0]
  have s8' : (((txE (.v 0) (.v 3)).ev U (Tree.upd (rOf [a, p, n, i]) 1000 (numF U (d.at_ 0)))).toS.size : Int) = ((d.at_ 0).toS.size : Int) := by rw [t1]
  have a84 : ((E.app 84 (txE (.v 0) (.v 3))).ev U (rOf [a, p, n, i])).toB = (U 84 (d.at_ 0)).toB := by show (U 84 ((txE (.v 0) (.v 3)).ev U _)).toB = _; rw [t0]
  have bq : ((E.o2 .ieq (.app 1 (.v 1000)) (.app 85 (txE (.v 0) (.v 3)))).ev U (Tree.upd (rOf [a, p, n, i]) 1000 (numF U (d.at_ 0)))).toB = ((U 1 (numF U (d.at_ 0))).toI == (U 85 (d.at_ 0)).toI) := by
    show ((U 1 (numF U (d.at_ 0))).toI == (U 85 ((txE (.v 0) (.v 3)).ev U _)).toI) = _
    rw [t1]
  by_cases h8 : ((d.at_ 0).toS.size : Int) ≤ 8
  · have c1 : ∀ {t e : Tree LRes}, evA U (.ite (.o2 .ile (.o1 .slen (txE (.v 0) (.v 3))) (.i 8)) t e) (rOf [a, p, n, i]) = evA U t (rOf [a, p, n, i]) := evA_pos (by exact decide_eq_true (show (((txE (.v 0) (.v 3)).ev U (rOf [a, p, n, i])).toS.size : Int) ≤ 8 by rw [s8]; exact h8))
    by_cases h4 : (U 84 (d.at_ 0)).toB = true
    · have c2 : ∀ {t e : Tree LRes}, evA U (.ite (.app 84 (txE (.v 0) (.v 3))) t e) (rOf [a, p, n, i]) = evA U t (rOf [a, p, n, i]) := evA_pos (by rw [a84]; exact h4)
      by_cases h9 : ((d.at_ 0).toS.size : Int) = 8
      · have c3 : ∀ {t e : Tree LRes}, evA U (.ite (.o2 .ieq (.o1 .slen (txE (.v 0) (.v 3))) (.i 8)) t e) (Tree.upd (rOf [a, p, n, i]) 1000 (numF U (d.at_ 0))) = evA U t (Tree.upd (rOf [a, p, n, i]) 1000 (numF U (d.at_ 0))) := evA_pos (by exact beq_iff_eq.2 (show (((txE (.v 0) (.v 3)).ev U (Tree.upd (rOf [a, p, n, i]) 1000 (numF U (d.at_ 0)))).toS.size : Int) = 8 by rw [s8']; exact h9))
        by_cases hb : ((U 1 (numF U (d.at_ 0))).toI == (U 85 (d.at_ 0)).toI) = true
        · have c4 : ∀ {t e : Tree LRes}, evA U (.ite (.o2 .ieq (.app 1 (.v 1000)) (.app 85 (txE (.v 0) (.v 3)))) t e) (Tree.upd (rOf [a, p, n, i]) 1000 (numF U (d.at_ 0))) = evA U t (Tree.upd (rOf [a, p, n, i]) 1000 (numF U (d.at_ 0))) := evA_pos (by rw [bq]; exact hb)
          refine ⟨fun _ hI => ⟨[.v 0, .o2 .lpush (.v 1) (elemE [.v 1000]), .v 2, .o2 .iadd (.v 3) (.i 1)], Tree.upd (rOf [a, p, n, i]) 1000 (numF U (d.at_ 0)), c0.trans (c1.trans (c2.trans (nm.trans (c3.trans (c4.trans ((evA_neg (by
            intro hc
            have := beq_iff_eq.1 (show ((p.toL.length : Int) == 256) = true from hc)
            omega)).trans rfl)))))), ?_⟩, fun hg => ?_⟩
          · have e5 : (E.o2 .lpush (.v 1) (elemE [.v 1000])).ev U (Tree.upd (rOf [a, p, n, i]) 1000 (numF U (d.at_ 0))) = .l (p.toL ++ [.l [numF U (d.at_ 0)]]) := by
              show D.l (p.toL ++ [(elemE [.v 1000]).ev U _]) = _
              rw [elemE_ev]; rfl
            simp only [List.map_cons, List.map_nil]
            rw [e5]; rfl
          · rcases hg with hg | hg
            · exfalso
              unfold good at hg
              rw [decide_eq_true h9, h4, hb] at hg
              cases hg
            · exact no' (c0.trans (c1.trans (c2.trans (nm.trans (c3.trans (c4.trans ((evA_pos (by
                refine beq_iff_eq.2 ?_
                show (p.toL.length : Int) = 256
                omega)).trans rfl)))))))
        · refine ⟨fun hg _ => ?_, fun _ => no' (c0.trans (c1.trans (c2.trans (nm.trans (c3.trans ((evA_neg (by rw [bq]; exact hb)).trans rfl))))))⟩
          exfalso
          unfold good at hg
          simp only [Bool.and_eq_true] at hg
          exact hb hg.2.2
      · refine ⟨fun hg _ => ?_, fun _ => no' (c0.trans (c1.trans (c2.trans (nm.trans ((evA_neg (by exact fun hc => h9 (by have := beq_iff_eq.1 (show ((((txE (.v 0) (.v 3)).ev U (Tree.upd (rOf [a, p, n, i]) 1000 (numF U (d.at_ 0)))).toS.size : Int) == 8) = true from hc); rw [s8'] at this; exact this))).trans rfl)))))⟩
        exfalso
        unfold good at hg
        simp only [Bool.and_eq_true, decide_eq_true_eq] at hg
        exact h9 hg.1
    · refine ⟨fun hg _ => ?_, fun _ => no (c0.trans (c1.trans ((evA_neg (by rw [a84]; exact h4)).trans rfl)))⟩
      exfalso
      unfold good at hg
      simp only [Bool.and_eq_true] at hg
      exact h4 hg.2.1
  · refine ⟨fun hg _ => ?_, fun _ => no (c0.trans ((evA_neg (by exact fun hc => h8 (by have := of_decide_eq_true (show decide (((((txE (.v 0) (.v 3)).ev U (rOf [a, p, n, i])).toS.size : Nat) : Int) ≤ 8) = true from hc); rw [s8] at this; exact this))).trans rfl))⟩
    exfalso
    unfold good at hg
    simp only [Bool.and_eq_true, decide_eq_true_eq] at hg
    omega
theorem im_told (h : ReadWords U) {A : LoopT} {T : Tree LRes} (hT : T = imT) (hinv : A.inv = imInv) (hcnt : A.t.cnt = 4) (hout0 : (A.outs.getD 0 (.ret, ⟨0, 0, [], []⟩)).2.blks.length = 2) : Told U T (imRun A) := by
  subst hT
  intro r es hlen hI hE _
  have hlen : es.length = 4 := hlen.trans hcnt
  match es, hlen with
  | [e0, e1, e2, e3], _ =>
    have hI : HoldI U imInv ([e0, e1, e2, e3].map (E.ev U r)) := hinv ▸ hI
    have i2 : (e2.ev U r).toI = ((e0.ev U r).toL.length : Int) := beq_iff_eq.1 (hI (.o2 .ieq (.v 2) (.o1 .llen (.v 0))) (by simp [imInv]))
    have i3 : (e2.ev U r).toI ≤ 1048577 := of_decide_eq_true (hI (.o2 .ile (.v 2) (.i 1048577)) (by simp [imInv]))
    have i4 : ((e1.ev U r).toL.length : Int) = (e3.ev U r).toI := beq_iff_eq.1 (hI (.o2 .ieq (.o1 .llen (.v 1)) (.v 3)) (by simp [imInv]))
    have j1 : (e3.ev U r).toI = 0 := beq_iff_eq.1 (hE (.o2 .ieq (.v 3) (.i 0)) (by simp [imRun]))
    have ht : (((imRun A).tagE [e0, e1, e2, e3]).ev U r).toI = if ((e0.ev U r).toL.all (good U) = true ∧ (e0.ev U r).toL.length ≤ 256) then 0 else 1 := by
      show ((conjTag [.app 86 e0, .o2 .ile (.o1 .llen e0) (.i 256)]).ev U r).toI = _
      rw [conj_tag]
      have h86 : ((E.app 86 e0).ev U r).toB = (e0.ev U r).toL.all (good U) := by
        show (U 86 (e0.ev U r)).toB = _
        rw [h.w86]; rfl
      have hle : ((E.o2 .ile (.o1 .llen e0) (.i 256)).ev U r).toB = decide ((e0.ev U r).toL.length ≤ 256) := by
        show decide ((((e0.ev U r).toL.length : Nat) : Int) ≤ 256) = _
        rw [decide_eq_decide]; omega
      simp only [List.all_cons, List.all_nil, Bool.and_true, h86, hle, Bool.and_eq_true, decide_eq_true_eq]
    have hp : (e1.ev U r).toL = [] := List.eq_nil_of_length_eq_zero (by omega)
    rcases read_run (U := U) (T := imT) (inv := imInv) (mk := fun p i => [e0.ev U r, p, e2.ev U r, i]) (out := fun o => [e0.ev U r, o]) (outF := [e0.ev U r, .b false]) (l := (e0.ev U r).toL) (f := fun d => numF U (d.at_ 0)) (good := good U) (N := 256)
      (fun p i I hi h1 h2 h3 => by
        intro e hm
        simp only [imInv, List.mem_cons, List.not_mem_nil, or_false] at hm
        rcases hm with rfl | rfl | rfl | rfl | rfl | rfl
        · exact decide_eq_true (show (0 : Int) ≤ i.toI by omega)
        · exact decide_eq_true (show i.toI ≤ (e2.ev U r).toI by omega)
        · exact beq_iff_eq.2 i2
        · exact decide_eq_true i3
        · exact beq_iff_eq.2 (show (p.toL.length : Int) = i.toI by omega)
        · exact decide_eq_true (show i.toI ≤ 256 by omega))
      (fun p i d I hi hd h1 h2 hg => (im_step hi i2 hd h1).1 hg h2)
      (fun p i d I hi hd h1 h2 hg => (im_step hi i2 hd h1).2 hg)
      (fun p i hi => ⟨[.v 0, .v 1], rOf [e0.ev U r, p, e2.ev U r, i], (evA_neg (by exact fun hc => absurd (of_decide_eq_true (show decide (i.toI < (e2.ev U r).toI) = true from hc)) (by omega))).trans rfl, rfl⟩)
      _ (e1.ev U r) (e3.ev U r) 0 j1 (Nat.zero_le _) (Nat.zero_le _) (by rw [hp]; rfl) rfl (Nat.le_refl _) with ⟨hc, o, q1, q2⟩ | ⟨hc, q1⟩
    · refine ⟨0, _, (show LoopTo U A.inv _ _ _ _ from hinv.symm ▸ q1), by rw [ht, if_pos hc]; rfl, rd_post h [e0, e1, e2, e3] r, fun e to hto j => ?_⟩
      have hb : to.blks.length = 2 := by
        rw [List.getD_eq_getElem?_getD, show A.outs[0]? = some (e, to) from hto] at hout0
        exact hout0
      rw [hb]
      rw [hp] at q2
      have q2 : o.toL = readL U (e0.ev U r).toL := q2
      match j with
      | 0 => exact .of_eq rfl
      | 1 => exact ⟨by show o.toL = (U 87 (e0.ev U r)).toL; rw [h.w87, q2]; rfl, fun h => absurd h (by omega)⟩
      | j + 2 => exact .of_eq rfl
    · refine ⟨1, _, (show LoopTo U A.inv _ _ _ _ from hinv.symm ▸ q1), by rw [ht, if_neg hc]; rfl, (fun _ hx' => by cases hx'), fun e to hto j => ?_⟩
      match j with
      | 0 => exact .of_eq rfl
      | 1 => exact .of_eq rfl
      | j + 2 => exact .of_eq rfl
/-- The same, asked in the other order. -/
def imRun' (A : LoopT) : LRun := ⟨A, fun _ => .i 0, fun k es => if k = 0 then [nmOf es 0, .app 87 (nmOf es 0)] else [nmOf es 0, .b false], [.o2 .ieq (.v 3) (.i 0)], some fun es => [.o2 .ile (.o1 .llen (nmOf es 0)) (.i 256), .app 86 (nmOf es 0)], fun k es => if k = 0 then rdPost es else []⟩
theorem im_told' (h : ReadWords U) {A : LoopT} {T : Tree LRes} (hT : T = imT) (hinv : A.inv = imInv) (hcnt : A.t.cnt = 4) (hout0 : (A.outs.getD 0 (.ret, ⟨0, 0, [], []⟩)).2.blks.length = 2) : Told U T (imRun' A) := fun r es hl hI hE hS => by
  obtain ⟨k, os, q1, q2, q3⟩ := im_told h hT hinv hcnt hout0 r es hl hI hE hS
  refine ⟨k, os, q1, ?_, q3⟩
  rw [← q2]
  show ((conjTag [.o2 .ile (.o1 .llen (nmOf es 0)) (.i 256), .app 86 (nmOf es 0)]).ev U r).toI = ((conjTag [.app 86 (nmOf es 0), .o2 .ile (.o1 .llen (nmOf es 0)) (.i 256)]).ev U r).toI
  rw [conj_tag, conj_tag]
  simp only [List.all_cons, List.all_nil, Bool.and_true]
  rw [Bool.and_comm]
end
end Go.Sx.Tr
