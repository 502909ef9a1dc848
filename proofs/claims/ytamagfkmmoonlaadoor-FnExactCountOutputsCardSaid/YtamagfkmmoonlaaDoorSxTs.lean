/-
  Sx, part Ts: texts cut at a mark: the library's Split at one byte, and the pieces.
-/
import Derived.Test.YtamagfkmmoonlaaDoorSxTw
import Derived.Shelf.Strings.Split
namespace Go.Sx.Ts
open Go.Proofs Go.Shelf Go.RowKit Go.Lib
open E (mk1 mk2 mkIte mk1_ev mk2_ev mkIte_ev)
variable {ρ : Ren}

set_option maxHeartbeats 1000000 in
/-- strings.Split at one byte: it looks at no package variable. -/
theorem split_one {P : Program} (L : Go.Proofs.Lays.n146 P ρ) (hi9 : (P.info? (ρ.t 9)).map (fun i => (i.zero, i.size, i.bytes)) = some (some (.string ByteArray.empty), 1, 16)) (s : ByteArray) (b : UInt8) (w : World) (hs : s.size < 4294967281) :
    Calls P (ρ.f 146) #[.string s, .string ⟨#[b]⟩] w fun e w' =>
      e = .returned (.slice (some ⟨w.heap.size, 0, none⟩) (Lib.countB s ⟨#[b]⟩ + 1) (Lib.countB s ⟨#[b]⟩ + 1)) ∧ w' = w.alloc (.cells ((Lib.splitB ⟨#[b]⟩ 0 (Lib.countB s ⟨#[b]⟩) s).map Value.string).toArray (ρ.t 9)) := by
  have h1 : 1 ≤ (⟨#[b]⟩ : ByteArray).size := Nat.le_refl _
  have hle := Lib.countB_le ⟨#[b]⟩ h1 s.size s (Nat.le_refl _)
  have hlen := Lib.splitB_all ⟨#[b]⟩ h1 0 _ s rfl
  have hc1 : ∀ x : ByteArray, (Lib.countB x ⟨#[b]⟩ : Int) = (Lib.countByte x.data.toList b : Nat) := fun x => by
    show ((Lib.count x.data.toList [b] : Nat) : Int) = _
    rw [Lib.count_one]; rfl
  have hi1 : ∀ x : ByteArray, Lib.indexB x ⟨#[b]⟩ = Lib.indexByte x.data.toList b := fun x => by
    exact Lib.index_one x.data.toList b
  have c := Go.Proofs.Any.strings_genSplit_core { L with } hi9 s ⟨#[b]⟩ 0 (-1) (Lib.countB s ⟨#[b]⟩ + 1) w hs h1 (Nat.zero_le _)
    (fun x cs hx => (Go.Proofs.Any.strings_Index_one { L with } x b _).mono fun e w' h => ⟨by rw [h.1, hi1], h.2⟩)
    ((Go.Proofs.Any.strings_Count_one { L with } s b w).mono fun e w' h => ⟨by rw [h.1, hc1], h.2⟩) (by decide) (by decide) (by rw [if_pos (by decide)]; omega)
  rw [Nat.add_sub_cancel, hlen] at c
  have e2 : Lib.cellsOf (Lib.splitB ⟨#[b]⟩ 0 (Lib.countB s ⟨#[b]⟩) s) (Lib.countB s ⟨#[b]⟩ + 1) = ((Lib.splitB ⟨#[b]⟩ 0 (Lib.countB s ⟨#[b]⟩) s).map Value.string).toArray := by rw [← hlen]; exact Lib.cellsOf_full _
  rw [e2] at c
  have t3 := L.t3; have t9 := L.t9; have t31 := L.t31
  have a3 := L.a3; have a9 := L.a9; have a31 := L.a31
  have z3 := L.z3; have v3 := L.v3; have z9 := L.z9; have v9 := L.v9; have z31 := L.z31; have v31 := L.v31
  have e221 : ∀ args w, (callFunc (ρ.f 221) args).run P w = .ok (.enter (ρ.f 221) args) w := Go.Proofs.enters_of L.f221 (by kernel_rfl) rfl
  go_enter L.f146, Body.n146_ntmps ρ
  go_wp2_with (go_at_fn (ρ.f 221); refine c.mono ?_; rintro e w' ⟨rfl, hw⟩; rw [hw])
  go_ret
  exact ⟨rfl, rfl⟩

/-! ### The pieces -/

/-- The pieces of a list at a byte; 'acc' stands before it. -/
def sc (c : UInt8) : List UInt8 → List UInt8 → List (List UInt8)
  | acc, [] => [acc]
  | acc, x :: r => if x = c then acc :: sc c [] r else sc c (acc ++ [x]) r
/-- A text put ahead of the first piece. -/
def ahead (a : List UInt8) : List (List UInt8) → List (List UInt8)
  | [] => []
  | x :: l => (a ++ x) :: l
theorem sc_acc (c : UInt8) : ∀ (l acc : List UInt8), sc c acc l = ahead acc (sc c [] l) := by
  intro l
  induction l with
  | nil => intro acc; simp [sc, ahead]
  | cons x r ih =>
    intro acc
    unfold sc
    split
    · simp [ahead]
    · rw [ih (acc ++ [x]), ih ([] ++ [x])]
      cases sc c [] r with
      | nil => rfl
      | cons y l => simp [ahead]
theorem sc_hit (c : UInt8) (acc l : List UInt8) : sc c acc (c :: l) = acc :: sc c [] l := by
  show (if c = c then _ else _) = _
  rw [if_pos rfl]
theorem sc_miss {c x : UInt8} (acc l : List UInt8) (h : x ≠ c) : sc c acc (x :: l) = sc c (acc ++ [x]) l := by
  show (if x = c then _ else _) = _
  rw [if_neg h]
theorem sc_ne (c : UInt8) (l acc : List UInt8) : sc c acc l ≠ [] := by
  induction l generalizing acc with
  | nil => simp [sc]
  | cons x r ih =>
    unfold sc
    split
    · simp
    · exact ih _
theorem sc_len (c : UInt8) : ∀ (l acc : List UInt8), 1 ≤ (sc c acc l).length ∧ (sc c acc l).length ≤ l.length + 1 := by
  intro l
  induction l with
  | nil => intro acc; simp [sc]
  | cons x r ih =>
    intro acc
    unfold sc
    split
    · have := ih []
      simp only [List.length_cons]; omega
    · have := ih (acc ++ [x])
      simp only [List.length_cons]; omega
theorem split_sc (c : UInt8) : ∀ l : List UInt8, Lib.splitK [c] 0 (Lib.count l [c]) l = sc c [] l := by
  have key : ∀ (b : UInt8) (l : List UInt8) (k : Nat), b ≠ c → Lib.splitK [c] 0 k (b :: l) = ahead [b] (Lib.splitK [c] 0 k l) := by
    intro b l k hb
    have hib : Lib.indexByte (b :: l) c = if Lib.indexByte l c == -1 then -1 else Lib.indexByte l c + 1 := by
      show (if b == c then (0 : Int) else _) = _
      rw [if_neg (by simpa using hb)]
    cases k with
    | zero => rfl
    | succ k =>
      unfold Lib.splitK
      rw [Lib.index_one, Lib.index_one, hib]
      by_cases h : Lib.indexByte l c = -1
      · rw [if_pos (beq_iff_eq.2 h), if_pos (by decide), if_pos (beq_iff_eq.2 h)]
        rfl
      · have hg := Lib.indexByte_ge l c
        rw [if_neg (fun h' => h (beq_iff_eq.1 h')), if_neg (fun h' => by have := beq_iff_eq.1 h'; omega), if_neg (fun h' => h (beq_iff_eq.1 h'))]
        have e : (Lib.indexByte l c + 1).toNat = (Lib.indexByte l c).toNat + 1 := by omega
        rw [e]
        show (b :: l).take ((Lib.indexByte l c).toNat + 1 + 0) :: Lib.splitK [c] 0 k ((b :: l).drop ((Lib.indexByte l c).toNat + 1 + 1)) = _
        simp [ahead, List.take_succ_cons, List.drop_succ_cons]
  intro l
  induction l with
  | nil => rfl
  | cons b l ih =>
    by_cases hb : b = c
    · subst hb
      rw [Lib.count_cons_eq, Nat.add_comm, sc_hit]
      unfold Lib.splitK
      rw [Lib.index_one]
      have h0 : Lib.indexByte (b :: l) b = 0 := by
        show (if b == b then (0 : Int) else _) = 0
        rw [if_pos (by simp)]
      rw [h0, if_neg (by decide)]
      show (b :: l).take 0 :: Lib.splitK [b] 0 (Lib.count l [b]) ((b :: l).drop 1) = _
      rw [List.drop_one, List.tail_cons, ih, List.take_zero]
    · rw [Lib.count_cons_ne b c l hb, key b l _ hb, ih]
      rw [sc_miss _ _ hb, sc_acc c l ([] ++ [b])]
      rfl

def txt (l : List UInt8) : ByteArray := ⟨l.toArray⟩
/-- The pieces of a text. -/
def cutL (c : UInt8) (s : ByteArray) : List D := (sc c [] s.data.toList).map fun x => .l [.s (txt x)]
theorem cutL_len (c : UInt8) (s : ByteArray) : 1 ≤ (cutL c s).length ∧ (cutL c s).length ≤ s.size + 1 := by
  unfold cutL
  rw [List.length_map]
  have := sc_len c s.data.toList []
  rw [Array.length_toList] at this
  exact this
theorem splitB_cut (c : UInt8) (s : ByteArray) : Lib.splitB ⟨#[c]⟩ 0 (Lib.countB s ⟨#[c]⟩) s = (sc c [] s.data.toList).map txt := by
  have h := Lib.splitB_data ⟨#[c]⟩ 0 (Lib.countB s ⟨#[c]⟩) s
  have h2 : Lib.splitK [c] 0 (Lib.countB s ⟨#[c]⟩) s.data.toList = sc c [] s.data.toList := split_sc c s.data.toList
  rw [show (⟨#[c]⟩ : ByteArray).data.toList = [c] from rfl, h2] at h
  rw [← h, List.map_map]
  have : (txt ∘ fun x : ByteArray => x.data.toList) = id := by
    funext x
    rfl
  rw [this, List.map_id]
/-- The word of pieces, of a text and a mark. -/
def cutVal (d : D) : D := .l (cutL (UInt8.ofNat (d.at_ 1).toI.toNat) (d.at_ 0).toS)
def cutE (cn : Nat) (e : E) (c : Int) : E := .app cn (elemE [e, .i c])
theorem cutE_ev {U : Nat → D → D} {cn : Nat} (hU : ∀ d, U cn d = cutVal d) (r : Nat → D) (e : E) (c : UInt8) : (cutE cn e (c.toNat : Int)).ev U r = .l (cutL c (e.ev U r).toS) := by
  show U cn ((elemE [e, .i (c.toNat : Int)]).ev U r) = _
  rw [elemE_ev, hU]
  show D.l (cutL (UInt8.ofNat ((c.toNat : Int)).toNat) (e.ev U r).toS) = _
  rw [Int.toNat_natCast]
  simp

theorem sc_mem (c : UInt8) : ∀ (l acc : List UInt8), ∀ x ∈ sc c acc l, x.length ≤ acc.length + l.length := by
  intro l
  induction l with
  | nil => intro acc x hx; rw [show sc c acc [] = [acc] from rfl, List.mem_singleton] at hx; subst hx; simp
  | cons y r ih =>
    intro acc x hx
    by_cases hy : y = c
    · subst hy
      rw [sc_hit] at hx
      rcases List.mem_cons.1 hx with rfl | hx
      · omega
      · have := ih [] x hx
        simp only [List.length_nil, List.length_cons] at this ⊢
        omega
    · rw [sc_miss _ _ hy] at hx
      have := ih (acc ++ [y]) x hx
      simp only [List.length_append, List.length_cons, List.length_nil] at this ⊢
      omega
/-- What is known of pieces. -/
def cutFacts (W e : E) : List (E × Bool) := (.o2 .ile (.i 1) (.o1 .llen W), true) :: (.o2 .ile (.o1 .llen W) (.o2 .iadd (.o1 .slen e) (.i 1)), true) ::
  (List.range 4).map fun (k : Nat) => (.o2 .ile (.o1 .slen (.o2 .sel (.o2 .sel W (.i (k : Int))) (.i 0))) (.o1 .slen e), true)
theorem cutFacts_ok {U : Nat → D → D} {r : Nat → D} {W e : E} {c : UInt8} (hW : W.ev U r = .l (cutL c (e.ev U r).toS)) : PcOk U r (cutFacts W e) := by
  have hlen := cutL_len c (e.ev U r).toS
  intro x hx
  rcases List.mem_cons.1 hx with rfl | hx
  · show decide ((1 : Int) ≤ (((W.ev U r).toL.length : Nat) : Int)) = true
    rw [hW, D.toL_l]
    exact decide_eq_true (by omega)
  · rcases List.mem_cons.1 hx with rfl | hx
    · show decide ((((W.ev U r).toL.length : Nat) : Int) ≤ (((e.ev U r).toS.size : Nat) : Int) + 1) = true
      rw [hW, D.toL_l]
      exact decide_eq_true (by omega)
    · obtain ⟨k, _, rfl⟩ := List.mem_map.1 hx
      show decide (((((W.ev U r).toL.getD ((k : Int)).toNat (.b false)).at_ 0).toS.size : Int) ≤ (((e.ev U r).toS.size : Nat) : Int)) = true
      rw [hW, D.toL_l, Int.toNat_natCast, List.getD_eq_getElem?_getD]
      refine decide_eq_true ?_
      unfold cutL
      rw [List.getElem?_map]
      cases hk : (sc c [] (e.ev U r).toS.data.toList)[k]? with
      | none =>
        show ((ByteArray.empty.size : Nat) : Int) ≤ _
        rw [ByteArray.size_empty]
        omega
      | some x =>
        have h4 := sc_mem c _ _ x (List.mem_of_getElem? hk)
        have h5 : (e.ev U r).toS.data.toList.length = (e.ev U r).toS.size := Array.length_toList
        have h2 : (txt x).size = x.length := List.size_toArray
        show (((txt x).size : Nat) : Int) ≤ _
        rw [h2]
        rw [List.length_nil, Nat.zero_add, h5] at h4
        exact Int.ofNat_le.2 h4

def splitRun (cn : Nat) (args : List SV) (c : Cx) : Tree (SV × Cx) :=
  match args with
  | [.str e, .str (.s [b])] => if sure (.o2 .ile (.o1 .slen e) (.i 16777216)) c.pc then
      let W := cutE cn e (b.toNat : Int)
      .ret (.slo c.h.length 1 (mk1 .llen W), ⟨c.h ++ [some ⟨true, [], some ([.s], W)⟩], c.nv, cutFacts W e ++ c.pc⟩) else .bad
  | _ => .bad
section
variable {U : Nat → D → D} {P : Program}
/-- What the library says of its Split at one byte. -/
def SplitSays (P : Program) (f : FuncId) (t : TypeId) : Prop := ∀ (s : ByteArray) (b : UInt8) (w : World), s.size < 4294967281 → Calls P f #[.string s, .string ⟨#[b]⟩] w fun e w' =>
  e = .returned (.slice (some ⟨w.heap.size, 0, none⟩) (Lib.countB s ⟨#[b]⟩ + 1) (Lib.countB s ⟨#[b]⟩ + 1)) ∧ w' = w.alloc (.cells ((Lib.splitB ⟨#[b]⟩ 0 (Lib.countB s ⟨#[b]⟩) s).map Value.string).toArray t)
theorem split_entry {f : FuncId} {fn : Func} {body : Code} {t : TypeId} {cn : Nat} (hn : NamesOk P) (hf : P.funcs[f]? = some fn) (hb : fn.body = some body) (hS : SplitSays P f t) (hU : ∀ d, U cn d = cutVal d) : EntryOk U P f (splitRun cn) := by
  intro args c L r g w vs K hh hp hd h
  unfold splitRun at h
  split at h
  case h_2 => exact h.elim
  rename_i e b
  split at h
  case isFalse => exact h.elim
  rename_i hs
  have hs : (((e.ev U r).toS.size : Nat) : Int) ≤ 16777216 := of_decide_eq_true (sure_ok hp hs)
  obtain ⟨v1, v2, hvs⟩ : ∃ v1 v2, vs = #[v1, v2] := by
    have hl := SV.denL_length U r g L hd
    simp only [List.length_cons, List.length_nil, Array.length_toList] at hl
    match vs, hl with
    | ⟨[a, b]⟩, _ => exact ⟨a, b, rfl⟩
  subst hvs
  simp only [SV.denL, SV.den, and_true] at hd
  obtain ⟨rfl, rfl⟩ := hd
  have hW := cutE_ev (cn := cn) hU r e b
  have hlenN : (Lib.countB (e.ev U r).toS ⟨#[b]⟩ + 1) = (cutL b (e.ev U r).toS).length := by
    have h1 := Lib.splitB_all ⟨#[b]⟩ (Nat.le_refl _) 0 _ (e.ev U r).toS rfl
    rw [← h1, splitB_cut, List.length_map, cutL, List.length_map]
  have hlen := cutL_len b (e.ev U r).toS
  have hlv : ((mk1 .llen (cutE cn e (b.toNat : Int))).ev U r).toI = ((cutL b (e.ev U r).toS).length : Int) := by
    rw [mk1_ev]
    show ((((cutE cn e (b.toNat : Int)).ev U r).toL.length : Nat) : Int) = _
    rw [hW]; rfl
  have hp' : PcOk U r (cutFacts (cutE cn e (b.toNat : Int)) e ++ c.pc) := fun x hx => (List.mem_append.1 hx).elim (cutFacts_ok hW x) (hp x)
  refine callGoal_of hn hf hb ((hS (e.ev U r).toS b w (by omega)).mono fun en w' ⟨he, hw⟩ => ⟨_, he, ?_⟩)
  subst hw
  have hsz : ((Lib.splitB ⟨#[b]⟩ 0 (Lib.countB (e.ev U r).toS ⟨#[b]⟩) (e.ev U r).toS).map Value.string).toArray.size = (cutL b (e.ev U r).toS).length := by
    rw [List.size_toArray, List.length_map, splitB_cut, List.length_map, cutL, List.length_map]
  have ext := ext_alloc (c := ⟨c.h, c.nv, cutFacts (cutE cn e (b.toNat : Int)) e ++ c.pc⟩) hh hp' (cs := []) (xs := ((Lib.splitB ⟨#[b]⟩ 0 (Lib.countB (e.ev U r).toS ⟨#[b]⟩) (e.ev U r).toS).map Value.string).toArray) t (by simp [SV.denL]) (Nat.zero_le _) true (some ([.s], cutE cn e (b.toNat : Int))) (by
    intro ks x hx
    cases hx
    intro i d hd
    rw [hW, D.toL_l] at hd
    unfold cutL at hd
    rw [List.getElem?_map, Option.map_eq_some_iff] at hd
    obtain ⟨y, hy, rfl⟩ := hd
    refine ⟨⟨[.s (txt y)], rfl, rfl⟩, fun f k hk => ?_⟩
    match f, hk with
    | 0, hk =>
      cases hk
      refine ⟨.string (txt y), ?_, rfl⟩
      rw [splitB_cut]
      simp [hy])
  refine h _ _ _ (Ext.pcs ext) ?_
  simp only [SV.den]
  rw [hlv, hlenN]
  refine ⟨by omega, some ⟨w.heap.size, 0, none⟩, (cutL b (e.ev U r).toS).length, by rw [Int.toNat_natCast], by rw [Int.toNat_natCast]; exact Nat.le_refl _, .inr ⟨.inr ⟨Nat.le_refl _, by simp⟩, ?_, ?_⟩⟩
  · simp [Gh.put]
  · simp only [Gh.put, if_true]
    rw [hsz]
    omega
end

/-! ### A loop that cuts -/

section
variable {U : Nat → D → D}
theorem evA_pos {c : E} {t e : Tree LRes} {r : Nat → D} (h : (c.ev U r).toB = true) : evA U (.ite c t e) r = evA U t r := by
  show (if (c.ev U r).toB = true then _ else _) = _
  rw [if_pos h]
theorem evA_neg {c : E} {t e : Tree LRes} {r : Nat → D} (h : (c.ev U r).toB ≠ true) : evA U (.ite c t e) r = evA U e r := by
  show (if (c.ev U r).toB = true then _ else _) = _
  rw [if_neg h]
end
def cutInv : List E := [.o2 .ile (.i 0) (.v 3), .o2 .ile (.v 3) (.v 4), .o2 .ile (.v 4) (.o2 .iadd (.o1 .slen (.v 1)) (.i 1)), .o2 .ile (.o1 .slen (.v 1)) (.i 1048576), .o2 .ile (.o1 .llen (.v 0)) (.v 4), .o2 .ile (.i 0) (.v 2), .o2 .ile (.v 2) (.i 255)]
def cutPush : Tree LRes := .ret (.next [.o2 .lpush (.v 0) (elemE [.o3 .ssub (.v 1) (.v 3) (.v 4)]), .v 1, .v 2, .o2 .iadd (.v 4) (.i 1), .o2 .iadd (.v 4) (.i 1)])
def cutGo : Tree LRes := .ret (.next [.v 0, .v 1, .v 2, .v 3, .o2 .iadd (.v 4) (.i 1)])
def cutT : Tree LRes := .ite (.o2 .ile (.v 4) (.o1 .slen (.v 1))) (.ite (.o2 .ieq (.v 4) (.o1 .slen (.v 1))) cutPush (.ite (.o2 .ilt (.v 4) (.o1 .slen (.v 1))) (.ite (.o2 .ieq (.o2 .sidx (.v 1) (.v 4)) (.v 2)) cutPush cutGo) .bad)) (.ret (.done 0 [.v 0]))
theorem txt_extract (s : ByteArray) (a b : Nat) : s.extract a b = txt ((s.data.toList.take b).drop a) := by
  apply ByteArray.ext
  rw [ByteArray.data_extract]
  apply Array.ext'
  rw [Array.toList_extract, List.extract_eq_take_drop]
  show _ = ((s.data.toList.take b).drop a)
  rw [List.drop_take]
section
variable {U : Nat → D → D}
theorem cut_run {s m : D} {c : UInt8} (hm : m.toI = (c.toNat : Int)) (hs : s.toS.size ≤ 1048576) : ∀ (k : Nat) (p f i : D) (F I : Nat), f.toI = (F : Int) → i.toI = (I : Int) → F ≤ I → I ≤ s.toS.size + 1 → s.toS.size + 1 - I ≤ k → p.toL.length ≤ I →
    ∃ o, LoopTo U cutInv cutT [p, s, m, f, i] 0 [o] ∧ o.toL = p.toL ++ (if I ≤ s.toS.size then (sc c ((s.toS.data.toList.take I).drop F) (s.toS.data.toList.drop I)).map fun x => .l [.s (txt x)] else []) := by
  have hlen : s.toS.data.toList.length = s.toS.size := Array.length_toList
  have hold : ∀ (p f i : D) (F I : Nat), f.toI = (F : Int) → i.toI = (I : Int) → F ≤ I → I ≤ s.toS.size + 1 → p.toL.length ≤ I → HoldI U cutInv [p, s, m, f, i] := by
    intro p f i F I hf hi h1 h2 h3 e he
    have hc := c.toNat_lt
    simp only [cutInv, List.mem_cons, List.not_mem_nil, or_false] at he
    rcases he with rfl | rfl | rfl | rfl | rfl | rfl | rfl
    · exact decide_eq_true (show (0 : Int) ≤ f.toI by omega)
    · exact decide_eq_true (show f.toI ≤ i.toI by omega)
    · exact decide_eq_true (show i.toI ≤ (s.toS.size : Int) + 1 by omega)
    · exact decide_eq_true (show (s.toS.size : Int) ≤ 1048576 by omega)
    · exact decide_eq_true (show (p.toL.length : Int) ≤ i.toI by omega)
    · exact decide_eq_true (show (0 : Int) ≤ m.toI by omega)
    · exact decide_eq_true (show m.toI ≤ 255 by omega)
  have push : ∀ (p f i : D) (F I : Nat), f.toI = (F : Int) → i.toI = (I : Int) → I ≤ s.toS.size → (I = s.toS.size ∨ s.toS.data.toList[I]? = some c) →
      Tw.NextTo U cutT [p, s, m, f, i] [.l (p.toL ++ [.l [.s (txt ((s.toS.data.toList.take I).drop F))]]), s, m, .i (i.toI + 1), .i (i.toI + 1)] := by
    intro p f i F I hf hi h1 h2
    refine ⟨[.o2 .lpush (.v 0) (elemE [.o3 .ssub (.v 1) (.v 3) (.v 4)]), .v 1, .v 2, .o2 .iadd (.v 4) (.i 1), .o2 .iadd (.v 4) (.i 1)], rOf [p, s, m, f, i], ?_, ?_⟩
    · refine (evA_pos (by exact decide_eq_true (show i.toI ≤ (s.toS.size : Int) by omega))).trans ?_
      by_cases he : I = s.toS.size
      · refine (evA_pos (by exact beq_iff_eq.2 (show i.toI = (s.toS.size : Int) by omega))).trans ?_
        rfl
      · rcases h2 with h2 | h2
        · exact absurd h2 he
        · refine (evA_neg (by exact fun hc => he (by have := beq_iff_eq.1 (show (i.toI == (s.toS.size : Int)) = true from hc); omega))).trans ?_
          refine (evA_pos (by exact decide_eq_true (show i.toI < (s.toS.size : Int) by omega))).trans ?_
          refine (evA_pos (by
            refine beq_iff_eq.2 ?_
            show (((s.toS.data[i.toI.toNat]?.getD 0).toNat : Nat) : Int) = m.toI
            rw [hi, Int.toNat_natCast, ← Array.getElem?_toList, h2, hm]
            rfl)).trans ?_
          rfl
    · have e5 : (E.o2 .lpush (.v 0) (elemE [.o3 .ssub (.v 1) (.v 3) (.v 4)])).ev U (rOf [p, s, m, f, i]) = .l (p.toL ++ [.l [.s (txt ((s.toS.data.toList.take I).drop F))]]) := by
        show D.l (p.toL ++ [(elemE [.o3 .ssub (.v 1) (.v 3) (.v 4)]).ev U _]) = _
        rw [elemE_ev, List.map_cons, List.map_nil]
        show D.l (p.toL ++ [.l [.s (s.toS.extract f.toI.toNat i.toI.toNat)]]) = _
        rw [hf, hi, Int.toNat_natCast, Int.toNat_natCast, txt_extract]
      simp only [List.map_cons, List.map_nil]
      rw [e5]
      rfl
  intro k
  induction k with
  | zero =>
    intro p f i F I hf hi h1 h2 h3 h4
    refine ⟨p, Tw.loop_stop (hold p f i F I hf hi h1 h2 h4) ⟨[.v 0], rOf [p, s, m, f, i], (evA_neg (by exact fun hc => absurd (of_decide_eq_true (show decide (i.toI ≤ (s.toS.size : Int)) = true from hc)) (by omega))).trans rfl, rfl⟩, ?_⟩
    rw [if_neg (by omega), List.append_nil]
  | succ k ih =>
    intro p f i F I hf hi h1 h2 h3 h4
    by_cases hle : I ≤ s.toS.size
    · by_cases he : I = s.toS.size
      · obtain ⟨o, q1, q2⟩ := ih (.l (p.toL ++ [.l [.s (txt ((s.toS.data.toList.take I).drop F))]])) (.i (i.toI + 1)) (.i (i.toI + 1)) (I + 1) (I + 1) (by show i.toI + 1 = _; omega) (by show i.toI + 1 = _; omega) (Nat.le_refl _) (by omega) (by omega) (by rw [D.toL_l, List.length_append]; show p.toL.length + 1 ≤ I + 1; omega)
        refine ⟨o, Tw.loop_step (hold p f i F I hf hi h1 h2 h4) (push p f i F I hf hi hle (.inl he)) q1, ?_⟩
        have hd0 : s.toS.data.toList.drop I = [] := List.drop_eq_nil_of_le (by omega)
        rw [q2, if_neg (by omega), if_pos hle, D.toL_l, List.append_nil, hd0]
        rfl
      · have hlt : I < s.toS.data.toList.length := by omega
        have hx : s.toS.data.toList[I]? = some s.toS.data.toList[I] := List.getElem?_eq_getElem hlt
        have hdrop : s.toS.data.toList.drop I = s.toS.data.toList[I] :: s.toS.data.toList.drop (I + 1) := List.drop_eq_getElem_cons hlt
        by_cases hc : s.toS.data.toList[I] = c
        · obtain ⟨o, q1, q2⟩ := ih (.l (p.toL ++ [.l [.s (txt ((s.toS.data.toList.take I).drop F))]])) (.i (i.toI + 1)) (.i (i.toI + 1)) (I + 1) (I + 1) (by show i.toI + 1 = _; omega) (by show i.toI + 1 = _; omega) (Nat.le_refl _) (by omega) (by omega) (by rw [D.toL_l, List.length_append]; show p.toL.length + 1 ≤ I + 1; omega)
          refine ⟨o, Tw.loop_step (hold p f i F I hf hi h1 h2 h4) (push p f i F I hf hi hle (.inr (by rw [hx, hc]))) q1, ?_⟩
          have hd0 : (s.toS.data.toList.take (I + 1)).drop (I + 1) = [] := List.drop_eq_nil_of_le (by rw [List.length_take]; omega)
          rw [q2, if_pos (by omega), if_pos hle, D.toL_l, hdrop, hd0, hc, sc_hit, List.map_cons, List.append_assoc]
          rfl
        · obtain ⟨o, q1, q2⟩ := ih p f (.i (i.toI + 1)) F (I + 1) hf (by show i.toI + 1 = _; omega) (by omega) (by omega) (by omega) (by omega)
          refine ⟨o, Tw.loop_step (hold p f i F I hf hi h1 h2 h4) ⟨[.v 0, .v 1, .v 2, .v 3, .o2 .iadd (.v 4) (.i 1)], rOf [p, s, m, f, i], ?_, rfl⟩ q1, ?_⟩
          · refine (evA_pos (by exact decide_eq_true (show i.toI ≤ (s.toS.size : Int) by omega))).trans ?_
            refine (evA_neg (by exact fun hc => he (by have := beq_iff_eq.1 (show (i.toI == (s.toS.size : Int)) = true from hc); omega))).trans ?_
            refine (evA_pos (by exact decide_eq_true (show i.toI < (s.toS.size : Int) by omega))).trans ?_
            refine (evA_neg (by
              intro hq
              have hq := beq_iff_eq.1 (show ((((s.toS.data[i.toI.toNat]?.getD 0).toNat : Nat) : Int) == m.toI) = true from hq)
              rw [hi, Int.toNat_natCast, ← Array.getElem?_toList, hx, hm] at hq
              exact hc (UInt8.toNat_inj.1 (Int.ofNat.inj hq)))).trans ?_
            rfl
          · rw [q2, if_pos (by omega), if_pos hle, hdrop, sc_miss _ _ hc, List.take_succ_eq_append_getElem hlt, List.drop_append_of_le_length (by rw [List.length_take]; omega)]
    · refine ⟨p, Tw.loop_stop (hold p f i F I hf hi h1 h2 h4) ⟨[.v 0], rOf [p, s, m, f, i], (evA_neg (by exact fun hc => absurd (of_decide_eq_true (show decide (i.toI ≤ (s.toS.size : Int)) = true from hc)) (by omega))).trans rfl, rfl⟩, ?_⟩
      rw [if_neg hle, List.append_nil]

def cutRun (A : LoopT) (cn : Nat) : LRun := ⟨A, fun _ => .i 0, fun _ es => [.app cn (elemE [nmOf es 1, nmOf es 2])], [.o2 .ieq (.v 3) (.i 0), .o2 .ieq (.v 4) (.i 0), .o2 .ieq (.o1 .llen (.v 0)) (.i 0)], none,
  fun _ es => cutFacts (.app cn (elemE [nmOf es 1, nmOf es 2])) (nmOf es 1)⟩
theorem cut_told {A : LoopT} {cn : Nat} {T : Tree LRes} (hU : ∀ d, U cn d = cutVal d) (hT : T = cutT) (hinv : A.inv = cutInv) (hcnt : A.t.cnt = 5) (houts : (A.outs.all fun x => Nat.beq x.2.blks.length 1) = true) : Told U T (cutRun A cn) := by
  subst hT
  intro r es hlen hI hE _
  have hlen : es.length = 5 := hlen.trans hcnt
  match es, hlen with
  | [e0, e1, e2, e3, e4], _ =>
    have hI : HoldI U cutInv ([e0, e1, e2, e3, e4].map (E.ev U r)) := hinv ▸ hI
    have i4 : ((e1.ev U r).toS.size : Int) ≤ 1048576 := of_decide_eq_true (hI (.o2 .ile (.o1 .slen (.v 1)) (.i 1048576)) (by simp [cutInv]))
    have i6 : (0 : Int) ≤ (e2.ev U r).toI := of_decide_eq_true (hI (.o2 .ile (.i 0) (.v 2)) (by simp [cutInv]))
    have i7 : (e2.ev U r).toI ≤ 255 := of_decide_eq_true (hI (.o2 .ile (.v 2) (.i 255)) (by simp [cutInv]))
    have j1 : (e3.ev U r).toI = 0 := beq_iff_eq.1 (hE (.o2 .ieq (.v 3) (.i 0)) (by simp [cutRun]))
    have j2 : (e4.ev U r).toI = 0 := beq_iff_eq.1 (hE (.o2 .ieq (.v 4) (.i 0)) (by simp [cutRun]))
    have j3 : ((e0.ev U r).toL.length : Int) = 0 := beq_iff_eq.1 (hE (.o2 .ieq (.o1 .llen (.v 0)) (.i 0)) (by simp [cutRun]))
    have hcn : ((UInt8.ofNat (e2.ev U r).toI.toNat).toNat : Int) = (e2.ev U r).toI := by
      rw [UInt8.toNat_ofNat']
      omega
    obtain ⟨o, q1, q2⟩ := cut_run (U := U) (s := e1.ev U r) (m := e2.ev U r) (c := UInt8.ofNat (e2.ev U r).toI.toNat) hcn.symm (by omega) _ (e0.ev U r) (e3.ev U r) (e4.ev U r) 0 0 j1 j2 (Nat.le_refl _) (by omega) (Nat.le_refl _) (by omega)
    have hW : (E.app cn (elemE [e1, e2])).ev U r = .l (cutL (UInt8.ofNat (e2.ev U r).toI.toNat) (e1.ev U r).toS) := by
      show U cn ((elemE [e1, e2]).ev U r) = _
      rw [elemE_ev, hU]; rfl
    have hp : (e0.ev U r).toL = [] := List.eq_nil_of_length_eq_zero (by omega)
    rw [hp, if_pos (Nat.zero_le _)] at q2
    have q2 : o.toL = cutL (UInt8.ofNat (e2.ev U r).toI.toNat) (e1.ev U r).toS := q2
    refine ⟨0, _, (show LoopTo U A.inv _ _ _ _ from hinv.symm ▸ q1), rfl, cutFacts_ok hW, fun e to hto j => ?_⟩
    · have hb : to.blks.length = 1 := Nat.eq_of_beq_eq_true (List.all_eq_true.1 houts _ (List.mem_of_getElem? hto))
      rw [hb]
      match j with
      | 0 => exact ⟨by show o.toL = ((E.app cn (elemE [e1, e2])).ev U r).toL; rw [hW, q2]; rfl, fun h => absurd h (by omega)⟩
      | j + 1 => exact .of_eq rfl
end
end Go.Sx.Ts
