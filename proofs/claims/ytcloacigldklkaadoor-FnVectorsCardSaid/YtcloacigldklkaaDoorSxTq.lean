/-
  Sx, part Tq: texts that are written out byte by byte: cut at a mark, and their digits read.
-/
import Derived.Test.YtcloacigldklkaaDoorSxTk
namespace Go.Sx.Tq
open E (mk1 mk2 mkIte mk1_ev mk2_ev mkIte_ev)
open Go.RowKit (Below)
open Ts (sc sc_hit sc_miss cutL splitB_cut txt SplitSays)

/-- Is a byte a literal one, or one of a table without the mark? -/
def clsE (b : UInt8) : E → Bool
  | .i n => decide (0 ≤ n ∧ n < 256)
  | .o2 .sidx (.s l) _ => l.all (fun x => decide (x ≠ b)) && decide (b ≠ 0)
  | _ => false
def isB (b : UInt8) : E → Bool
  | .i n => decide (n = (b.toNat : Int))
  | _ => false
def scE (b : UInt8) : List E → List E → List (List E)
  | acc, [] => [acc]
  | acc, x :: r => if isB b x then acc :: scE b [] r else scE b (acc ++ [x]) r
def unB : E → E
  | .i n => .s [UInt8.ofNat n.toNat]
  | x => .o1 .byte x
def unflat : List E → E
  | [] => .s []
  | x :: l => .o2 .scat (unB x) (unflat l)
section
variable {U : Nat → D → D}
theorem unB_ev (r : Nat → D) (x : E) : ((unB x).ev U r).toS = ⟨#[E.byteOf U r x]⟩ := by
  unfold unB
  split
  · rfl
  · rfl
theorem unflat_ev (r : Nat → D) : ∀ l : List E, ((unflat l).ev U r).toS = txt (l.map (E.byteOf U r)) := by
  intro l
  induction l with
  | nil => rfl
  | cons x l ih =>
    show ((unB x).ev U r).toS ++ ((unflat l).ev U r).toS = _
    rw [unB_ev, ih]
    apply ByteArray.ext
    rw [ByteArray.data_append]
    apply Array.ext'
    rw [Array.toList_append]
    rfl
theorem cls_ev {b : UInt8} {x : E} (h : clsE b x = true) (r : Nat → D) : E.byteOf U r x = b ↔ isB b x = true := by
  unfold clsE at h
  split at h
  · rename_i n
    have h := of_decide_eq_true h
    unfold E.byteOf isB
    rw [decide_eq_true_iff]
    show UInt8.ofNat n.toNat = b ↔ _
    constructor
    · intro he
      rw [← he, UInt8.toNat_ofNat']
      omega
    · intro he
      rw [he, Int.toNat_natCast]
      simp
  · rename_i l y
    simp only [Bool.and_eq_true, decide_eq_true_eq] at h
    refine ⟨fun he => ?_, fun he => by cases he⟩
    exfalso
    have hv : E.byteOf U r (.o2 .sidx (.s l) y) = l.getD (y.ev U r).toI.toNat 0 := by
      unfold E.byteOf
      show UInt8.ofNat ((((((l.toArray)[(y.ev U r).toI.toNat]?).getD 0).toNat : Nat) : Int)).toNat = _
      rw [Int.toNat_natCast, List.getElem?_toArray, List.getD_eq_getElem?_getD]
      simp
    rw [hv, List.getD_eq_getElem?_getD] at he
    cases hg : l[(y.ev U r).toI.toNat]? with
    | none => rw [hg] at he; exact h.2 he.symm
    | some z =>
      rw [hg] at he
      exact (of_decide_eq_true (List.all_eq_true.1 h.1 z (List.mem_of_getElem? hg))) he
  · cases h
theorem scE_ev {b : UInt8} (r : Nat → D) : ∀ (l acc : List E), l.all (clsE b) = true → sc b (acc.map (E.byteOf U r)) (l.map (E.byteOf U r)) = (scE b acc l).map fun p => p.map (E.byteOf U r) := by
  intro l
  induction l with
  | nil => intro acc _; rfl
  | cons x l ih =>
    intro acc h
    simp only [List.all_cons, Bool.and_eq_true] at h
    have hx := cls_ev (U := U) h.1 r
    unfold scE
    by_cases hb : isB b x = true
    · rw [if_pos hb, List.map_cons, hx.2 hb, sc_hit, List.map_cons]
      congr 1
      exact ih [] h.2
    · rw [if_neg hb, List.map_cons, sc_miss _ _ (fun he => hb (hx.1 he))]
      have := ih (acc ++ [x]) h.2
      rw [List.map_append] at this
      exact this

/-- The library's Split of such a text. -/
def splitFlat (other : List SV → Cx → Tree (SV × Cx)) (args : List SV) (c : Cx) : Tree (SV × Cx) :=
  match args with
  | [.str e, .str (.s [b])] => (match E.flatE e with
    | some fl => if fl.all (clsE b) && decide (fl.length ≤ 1000) then
        .ret (.sl c.h.length 0 1 (.i ((scE b [] fl).length : Int)) (some (.i ((scE b [] fl).length : Int))), { c with h := c.h ++ [some ⟨true, (scE b [] fl).map fun p => .str (unflat p), none⟩] }) else other args c
    | none => other args c)
  | _ => other args c
theorem splitFlat_entry {P : Program} {f : FuncId} {fn : Func} {body : Code} {t : TypeId} {other : List SV → Cx → Tree (SV × Cx)} (hn : NamesOk P) (hf : P.funcs[f]? = some fn) (hb : fn.body = some body) (hS : SplitSays P f t) (ho : EntryOk U P f other) : EntryOk U P f (splitFlat other) := by
  intro args c L r g w vs K hh hp hd h
  unfold splitFlat at h
  split at h
  case h_2 => exact ho _ c L r g w vs K hh hp hd h
  rename_i e b
  split at h
  case h_2 => exact ho _ c L r g w vs K hh hp hd h
  rename_i fl hfl
  split at h
  case isFalse => exact ho _ c L r g w vs K hh hp hd h
  rename_i hc
  rw [Bool.and_eq_true, decide_eq_true_eq] at hc
  obtain ⟨v1, v2, hvs⟩ : ∃ v1 v2, vs = #[v1, v2] := by
    have hl := SV.denL_length U r g L hd
    simp only [List.length_cons, List.length_nil, Array.length_toList] at hl
    match vs, hl with
    | ⟨[a, b]⟩, _ => exact ⟨a, b, rfl⟩
  subst hvs
  simp only [SV.denL, SV.den, and_true] at hd
  obtain ⟨rfl, rfl⟩ := hd
  have hl1 := E.flatE_ev U r hfl
  have hsize : (e.ev U r).toS.size = fl.length := by
    have : (e.ev U r).toS.data.toList.length = fl.length := by rw [hl1, List.length_map]
    rw [← this, Array.length_toList]; rfl
  have hpc : Lib.splitB ⟨#[b]⟩ 0 (Lib.countB (e.ev U r).toS ⟨#[b]⟩) (e.ev U r).toS = (scE b [] fl).map fun p => ((unflat p).ev U r).toS := by
    rw [splitB_cut, hl1]
    have := scE_ev (U := U) r fl [] hc.1
    rw [List.map_nil] at this
    rw [this, List.map_map]
    congr 1
    funext p
    exact (unflat_ev r p).symm
  have hlenN : (Lib.countB (e.ev U r).toS ⟨#[b]⟩ + 1) = (scE b [] fl).length := by
    have h1 := Lib.splitB_all ⟨#[b]⟩ (Nat.le_refl _) 0 _ (e.ev U r).toS rfl
    rw [← h1, hpc, List.length_map]
  refine callGoal_of hn hf hb ((hS (e.ev U r).toS b w (by omega)).mono fun en w' ⟨he, hw⟩ => ⟨_, he, ?_⟩)
  subst hw
  have hsz : ((Lib.splitB ⟨#[b]⟩ 0 (Lib.countB (e.ev U r).toS ⟨#[b]⟩) (e.ev U r).toS).map Value.string).toArray.size = (scE b [] fl).length := by
    rw [List.size_toArray, List.length_map, hpc, List.length_map]
  have ext := ext_alloc hh hp (cs := (scE b [] fl).map fun p => .str (unflat p)) (xs := ((Lib.splitB ⟨#[b]⟩ 0 (Lib.countB (e.ev U r).toS ⟨#[b]⟩) (e.ev U r).toS).map Value.string).toArray) t (by
    have : (((Lib.splitB ⟨#[b]⟩ 0 (Lib.countB (e.ev U r).toS ⟨#[b]⟩) (e.ev U r).toS).map Value.string).toArray.toList.take ((scE b [] fl).map fun p => SV.str (unflat p)).length) = (scE b [] fl).map fun p => Value.string ((unflat p).ev U r).toS := by
      rw [List.length_map, List.take_of_length_le (by rw [Array.length_toList, hsz]; exact Nat.le_refl _), hpc, List.map_map]
      rfl
    rw [this]
    refine SV.denL_of U r g L (by rw [List.length_map, List.length_map]) fun i s v h1 h2 => ?_
    rw [List.getElem?_map, Option.map_eq_some_iff] at h1 h2
    obtain ⟨p, hp1, rfl⟩ := h1
    obtain ⟨q, hq1, rfl⟩ := h2
    rw [hp1] at hq1
    cases hq1
    rfl) (by rw [List.length_map, hsz]; exact Nat.le_refl _) true
  refine h _ _ _ ext ?_
  simp only [SV.den]
  refine ⟨.inr ⟨Nat.le_refl _, by simp⟩, ?_, (scE b [] fl).length, ?_, ?_, ?_, ?_⟩
  · show (0 : Int) ≤ (((scE b [] fl).length : Nat) : Int); omega
  · rw [hlenN]
    show _ = Value.slice (some ⟨(g.put c.h.length w.heap.size _).a c.h.length, 0, none⟩) ((((scE b [] fl).length : Nat) : Int)).toNat _
    rw [Int.toNat_natCast]
    simp [Gh.put]
  · show ((((scE b [] fl).length : Nat) : Int)).toNat ≤ _
    rw [Int.toNat_natCast]; exact Nat.le_refl _
  · simp only [Gh.put, if_true]
    rw [hsz]
    omega
  · intro e' he
    cases he
    show _ = ((((scE b [] fl).length : Nat) : Int)).toNat
    rw [Int.toNat_natCast]

/-- A byte of a text that is written out. -/
def bytE : E → E
  | .o2 .sidx e (.i k) => (match E.flatE e with
    | some fl => (match fl[k.toNat]? with
      | some (.o2 .sidx (.s l) j) => .o2 .sidx (.s l) j
      | _ => .o2 .sidx e (.i k))
    | none => .o2 .sidx e (.i k))
  | x => x
theorem bytE_ev (r : Nat → D) (x : E) : (bytE x).ev U r = x.ev U r := by
  unfold bytE
  split
  case h_2 => rfl
  rename_i e k
  split
  case h_2 => rfl
  rename_i fl hfl
  split
  case h_2 => rfl
  rename_i l j hj
  have h1 := E.flatE_ev U r hfl
  have h2 : (e.ev U r).toS.data[k.toNat]? = some (E.byteOf U r (.o2 .sidx (.s l) j)) := by
    rw [← Array.getElem?_toList, h1, List.getElem?_map, hj]; rfl
  have hs : ∀ (a b : E), (E.o2 .sidx a b).ev U r = .i ((((a.ev U r).toS.data[(b.ev U r).toI.toNat]?).getD 0).toNat : Int) := fun a b => rfl
  rw [hs e, hs]
  have h3 : ((E.i k).ev U r).toI.toNat = k.toNat := rfl
  rw [h3, h2]
  unfold E.byteOf
  rw [hs]
  show D.i _ = D.i _
  congr 1
  rw [Option.getD_some]
  have hb : ∀ z : UInt8, ((z.toNat : Nat) : Int) = ((UInt8.ofNat (D.i ((z.toNat : Nat) : Int)).toI.toNat).toNat : Int) := fun z => by
    show _ = ((UInt8.ofNat (((z.toNat : Nat) : Int)).toNat).toNat : Int)
    rw [Int.toNat_natCast]
    simp
  exact hb _
/-- A digit out of the table is its place. -/
def hexFlat (other : List SV → Cx → Tree (SV × Cx)) (args : List SV) (c : Cx) : Tree (SV × Cx) := match args with
  | [.str (.s l), .int .u8 x] => (match bytE x with
    | .o2 .sidx (.s l2) k => if (E.s l).same (.s Tr.hexL) && ((E.s l2).same (.s Tr.hexL) && (sure (.o2 .ile (.i 0) k) c.pc && sure (.o2 .ile k (.i 15)) c.pc)) then .ret (.int .i64 k, c) else other args c
    | _ => other args c)
  | _ => other args c
theorem hx_table : ∀ n : Nat, n < 16 → Lib.indexByte Tr.hexL ((((Tr.hexL.toArray[n]?).getD 0).toNat : Int).toNat.toUInt8) = (n : Int) := by decide +kernel
theorem hexFlat_entry {P : Program} {f : FuncId} {fn : Func} {body : Code} {other : List SV → Cx → Tree (SV × Cx)} (hN : NamesOk P) (hf : P.funcs[f]? = some fn) (hb : fn.body = some body) (hS : Tr.IndexByteSays P f) (ho : EntryOk U P f other) : EntryOk U P f (hexFlat other) := by
  intro args c L r g w vs K hh hp hd h
  unfold hexFlat at h
  split at h
  case h_2 => exact ho _ c L r g w vs K hh hp hd h
  rename_i l x
  split at h
  case h_2 => exact ho _ c L r g w vs K hh hp hd h
  rename_i l2 k hx0
  have hx1 := bytE_ev (U := U) r x
  rw [hx0] at hx1
  split at h
  case isFalse => exact ho _ c L r g w vs K hh hp hd h
  rename_i hc
  simp only [Bool.and_eq_true] at hc
  obtain ⟨h1, h2, h3, h4⟩ := hc
  have h1 := E.same_eq h1
  have h2 := E.same_eq h2
  cases h1
  cases h2
  have h3 : (0 : Int) ≤ (k.ev U r).toI := of_decide_eq_true (sure_ok hp h3)
  have h4 : (k.ev U r).toI ≤ 15 := of_decide_eq_true (sure_ok hp h4)
  obtain ⟨v1, v2, hvs⟩ : ∃ v1 v2, vs = #[v1, v2] := by
    have hl := SV.denL_length U r g L hd
    simp only [List.length_cons, List.length_nil, Array.length_toList] at hl
    match vs, hl with
    | ⟨[a, b]⟩, _ => exact ⟨a, b, rfl⟩
  subst hvs
  simp only [SV.denL, SV.den, and_true] at hd
  obtain ⟨rfl, rfl⟩ := hd
  refine callGoal_of hN hf hb ((hS _ _ w).mono fun en w' ⟨he, hw⟩ => ⟨_, he, ?_⟩)
  subst hw
  refine h g _ _ (ext_frame hh rfl (Nat.le_refl _) hp ⟨rfl, rfl, rfl, Nat.le_refl _, fun _ _ _ => rfl⟩) ?_
  simp only [SV.den]
  congr 1
  rw [← hx1]
  have := hx_table (k.ev U r).toI.toNat (by omega)
  rw [Int.toNat_of_nonneg h3] at this
  exact this
end
end Go.Sx.Tq
