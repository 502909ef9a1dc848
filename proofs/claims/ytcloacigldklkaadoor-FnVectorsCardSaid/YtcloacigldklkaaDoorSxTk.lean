/-
  Sx, part Tk: texts cut at a mark by the library, the pieces; what the library says of IndexByte.
-/
import Derived.Test.YtcloacigldklkaaDoorSxZm
import Derived.Shelf.Strings.Split
import Derived.Shelf.Small.Strs
namespace Go.Sx.Ts
open Go.Proofs Go.Shelf Go.RowKit Go.Lib
open E (mk1 mk2 mkIte mk1_ev mk2_ev mkIte_ev)
variable {ρ : Ren}

set_option maxHeartbeats 1000000 in
/-- strings.Split at one byte: it looks at no package variable. -/
theorem split_one {P : Program} (L : Go.Proofs.Lays.n146 P ρ) (hi9 : (P.info? (ρ.t 9)).map (fun i => (i.zero, i.size, i.bytes)) = some (some (.string ByteArray.empty), 1, 16)) (s : ByteArray) (b : UInt8) (w : World) (hs : s.size < 4294967281) :
    Calls P (ρ.f 146) #[.string s, .string ⟨#[b]⟩] w fun e w' =>
      e = .returned (.slice (some ⟨w.heap.size, 0, none⟩) (Lib.countB s ⟨#[b]⟩ + 1) (Lib.countB s ⟨#[b]⟩ + 1)) ∧ w' = w.alloc (.cells ((Lib.splitB ⟨#[b]⟩ 0 (Lib.countB s ⟨#[b]⟩) s).map Value.string).toArray (ρ.t 9)) := by
  have h1 : 1 ≤ (⟨#[b]⟩ : ByteArray).size := Nat.le_refl _
  have hle := Lib.countB_le ⟨#[b]⟩ h1 s.size s (Nat.le_refl _)
  have hlen := Lib.splitB_all ⟨#[b]⟩ h1 0 _ s rfl
  have hc1 : ∀ x : ByteArray, (Lib.countB x ⟨#[b]⟩ : Int) = (Lib.countByte x.data.toList b : Nat) := fun x => by
    show ((Lib.count x.data.toList [b] : Nat) : Int) = _
    rw [Lib.count_one]; rfl
  have hi1 : ∀ x : ByteArray, Lib.indexB x ⟨#[b]⟩ = Lib.indexByte x.data.toList b := fun x => by
    exact Lib.index_one x.data.toList b
  have c := Go.Proofs.Any.strings_genSplit_core { L with } hi9 s ⟨#[b]⟩ 0 (-1) (Lib.countB s ⟨#[b]⟩ + 1) w hs h1 (Nat.zero_le _)
    (fun x cs hx => (Go.Proofs.Any.strings_Index_one { L with } x b _).mono fun e w' h => ⟨by rw [h.1, hi1], h.2⟩)
    ((Go.Proofs.Any.strings_Count_one { L with } s b w).mono fun e w' h => ⟨by rw [h.1, hc1], h.2⟩) (by decide) (by decide) (by rw [if_pos (by decide)]; omega)
  rw [Nat.add_sub_cancel, hlen] at c
  have e2 : Lib.cellsOf (Lib.splitB ⟨#[b]⟩ 0 (Lib.countB s ⟨#[b]⟩) s) (Lib.countB s ⟨#[b]⟩ + 1) = ((Lib.splitB ⟨#[b]⟩ 0 (Lib.countB s ⟨#[b]⟩) s).map Value.string).toArray := by rw [← hlen]; exact Lib.cellsOf_full _
  rw [e2] at c
  have t3 := L.t3; have t9 := L.t9; have t31 := L.t31
  have a3 := L.a3; have a9 := L.a9; have a31 := L.a31
  have z3 := L.z3; have v3 := L.v3; have z9 := L.z9; have v9 := L.v9; have z31 := L.z31; have v31 := L.v31
  have e221 : ∀ args w, (callFunc (ρ.f 221) args).run P w = .ok (.enter (ρ.f 221) args) w := Go.Proofs.enters_of L.f221 (by kernel_rfl) rfl
  go_enter L.f146, Body.n146_ntmps ρ
  go_wp2_with (go_at_fn (ρ.f 221); refine c.mono ?_; rintro e w' ⟨rfl, hw⟩; rw [hw])
  go_ret
  exact ⟨rfl, rfl⟩

/-! ### The pieces -/

/-- The pieces of a list at a byte; 'acc' stands before it. -/
def sc (c : UInt8) : List UInt8 → List UInt8 → List (List UInt8)
  | acc, [] => [acc]
  | acc, x :: r => if x = c then acc :: sc c [] r else sc c (acc ++ [x]) r
/-- A text put ahead of the first piece. -/
def ahead (a : List UInt8) : List (List UInt8) → List (List UInt8)
  | [] => []
  | x :: l => (a ++ x) :: l
theorem sc_acc (c : UInt8) : ∀ (l acc : List UInt8), sc c acc l = ahead acc (sc c [] l) := by
  intro l
  induction l with
  | nil => intro acc; simp [sc, ahead]
  | cons x r ih =>
    intro acc
    unfold sc
    split
    · simp [ahead]
    · rw [ih (acc ++ [x]), ih ([] ++ [x])]
      cases sc c [] r with
      | nil => rfl
      | cons y l => simp [ahead]
theorem sc_hit (c : UInt8) (acc l : List UInt8) : sc c acc (c :: l) = acc :: sc c [] l := by
  show (if c = c then _ else _) = _
  rw [if_pos rfl]
theorem sc_miss {c x : UInt8} (acc l : List UInt8) (h : x ≠ c) : sc c acc (x :: l) = sc c (acc ++ [x]) l := by
  show (if x = c then _ else _) = _
  rw [if_neg h]
theorem sc_ne (c : UInt8) (l acc : List UInt8) : sc c acc l ≠ [] := by
  induction l generalizing acc with
  | nil => simp [sc]
  | cons x r ih =>
    unfold sc
    split
    · simp
    · exact ih _
theorem sc_len (c : UInt8) : ∀ (l acc : List UInt8), 1 ≤ (sc c acc l).length ∧ (sc c acc l).length ≤ l.length + 1 := by
  intro l
  induction l with
  | nil => intro acc; simp [sc]
  | cons x r ih =>
    intro acc
    unfold sc
    split
    · have := ih []
      simp only [List.length_cons]; omega
    · have := ih (acc ++ [x])
      simp only [List.length_cons]; omega
theorem split_sc (c : UInt8) : ∀ l : List UInt8, Lib.splitK [c] 0 (Lib.count l [c]) l = sc c [] l := by
  have key : ∀ (b : UInt8) (l : List UInt8) (k : Nat), b ≠ c → Lib.splitK [c] 0 k (b :: l) = ahead [b] (Lib.splitK [c] 0 k l) := by
    intro b l k hb
    have hib : Lib.indexByte (b :: l) c = if Lib.indexByte l c == -1 then -1 else Lib.indexByte l c + 1 := by
      show (if b == c then (0 : Int) else _) = _
      rw [if_neg (by simpa using hb)]
    cases k with
    | zero => rfl
    | succ k =>
      unfold Lib.splitK
      rw [Lib.index_one, Lib.index_one, hib]
      by_cases h : Lib.indexByte l c = -1
      · rw [if_pos (beq_iff_eq.2 h), if_pos (by decide), if_pos (beq_iff_eq.2 h)]
        rfl
      · have hg := Lib.indexByte_ge l c
        rw [if_neg (fun h' => h (beq_iff_eq.1 h')), if_neg (fun h' => by have := beq_iff_eq.1 h'; omega), if_neg (fun h' => h (beq_iff_eq.1 h'))]
        have e : (Lib.indexByte l c + 1).toNat = (Lib.indexByte l c).toNat + 1 := by omega
        rw [e]
        show (b :: l).take ((Lib.indexByte l c).toNat + 1 + 0) :: Lib.splitK [c] 0 k ((b :: l).drop ((Lib.indexByte l c).toNat + 1 + 1)) = _
        simp [ahead, List.take_succ_cons, List.drop_succ_cons]
  intro l
  induction l with
  | nil => rfl
  | cons b l ih =>
    by_cases hb : b = c
    · subst hb
      rw [Lib.count_cons_eq, Nat.add_comm, sc_hit]
      unfold Lib.splitK
      rw [Lib.index_one]
      have h0 : Lib.indexByte (b :: l) b = 0 := by
        show (if b == b then (0 : Int) else _) = 0
        rw [if_pos (by simp)]
      rw [h0, if_neg (by decide)]
      show (b :: l).take 0 :: Lib.splitK [b] 0 (Lib.count l [b]) ((b :: l).drop 1) = _
      rw [List.drop_one, List.tail_cons, ih, List.take_zero]
    · rw [Lib.count_cons_ne b c l hb, key b l _ hb, ih]
      rw [sc_miss _ _ hb, sc_acc c l ([] ++ [b])]
      rfl

def txt (l : List UInt8) : ByteArray := ⟨l.toArray⟩
/-- The pieces of a text. -/
def cutL (c : UInt8) (s : ByteArray) : List D := (sc c [] s.data.toList).map fun x => .l [.s (txt x)]
theorem cutL_len (c : UInt8) (s : ByteArray) : 1 ≤ (cutL c s).length ∧ (cutL c s).length ≤ s.size + 1 := by
  unfold cutL
  rw [List.length_map]
  have := sc_len c s.data.toList []
  rw [Array.length_toList] at this
  exact this
theorem splitB_cut (c : UInt8) (s : ByteArray) : Lib.splitB ⟨#[c]⟩ 0 (Lib.countB s ⟨#[c]⟩) s = (sc c [] s.data.toList).map txt := by
  have h := Lib.splitB_data ⟨#[c]⟩ 0 (Lib.countB s ⟨#[c]⟩) s
  have h2 : Lib.splitK [c] 0 (Lib.countB s ⟨#[c]⟩) s.data.toList = sc c [] s.data.toList := split_sc c s.data.toList
  rw [show (⟨#[c]⟩ : ByteArray).data.toList = [c] from rfl, h2] at h
  rw [← h, List.map_map]
  have : (txt ∘ fun x : ByteArray => x.data.toList) = id := by
    funext x
    rfl
  rw [this, List.map_id]
/-- The word of pieces, of a text and a mark. -/
def cutVal (d : D) : D := .l (cutL (UInt8.ofNat (d.at_ 1).toI.toNat) (d.at_ 0).toS)
def cutE (cn : Nat) (e : E) (c : Int) : E := .app cn (elemE [e, .i c])
theorem cutE_ev {U : Nat → D → D} {cn : Nat} (hU : ∀ d, U cn d = cutVal d) (r : Nat → D) (e : E) (c : UInt8) : (cutE cn e (c.toNat : Int)).ev U r = .l (cutL c (e.ev U r).toS) := by
  show U cn ((elemE [e, .i (c.toNat : Int)]).ev U r) = _
  rw [elemE_ev, hU]
  show D.l (cutL (UInt8.ofNat ((c.toNat : Int)).toNat) (e.ev U r).toS) = _
  rw [Int.toNat_natCast]
  simp

theorem sc_mem (c : UInt8) : ∀ (l acc : List UInt8), ∀ x ∈ sc c acc l, x.length ≤ acc.length + l.length := by
  intro l
  induction l with
  | nil => intro acc x hx; rw [show sc c acc [] = [acc] from rfl, List.mem_singleton] at hx; subst hx; simp
  | cons y r ih =>
    intro acc x hx
    by_cases hy : y = c
    · subst hy
      rw [sc_hit] at hx
      rcases List.mem_cons.1 hx with rfl | hx
      · omega
      · have := ih [] x hx
        simp only [List.length_nil, List.length_cons] at this ⊢
        omega
    · rw [sc_miss _ _ hy] at hx
      have := ih (acc ++ [y]) x hx
      simp only [List.length_append, List.length_cons, List.length_nil] at this ⊢
      omega

/-- What the library says of its Split at one byte. -/
def SplitSays (P : Program) (f : FuncId) (t : TypeId) : Prop := ∀ (s : ByteArray) (b : UInt8) (w : World), s.size < 4294967281 → Calls P f #[.string s, .string ⟨#[b]⟩] w fun e w' =>
  e = .returned (.slice (some ⟨w.heap.size, 0, none⟩) (Lib.countB s ⟨#[b]⟩ + 1) (Lib.countB s ⟨#[b]⟩ + 1)) ∧ w' = w.alloc (.cells ((Lib.splitB ⟨#[b]⟩ 0 (Lib.countB s ⟨#[b]⟩) s).map Value.string).toArray t)
end Go.Sx.Ts
namespace Go.Sx.Tr
def hexL : List UInt8 := [48, 49, 50, 51, 52, 53, 54, 55, 56, 57, 97, 98, 99, 100, 101, 102]
/-- What the library says of its IndexByte. -/
def IndexByteSays (P : Program) (f : FuncId) : Prop := ∀ (s : ByteArray) (c : Int) (w : World), Calls P f #[.string s, .int .u8 c] w fun e w' => e = .returned (.int .i64 (Lib.indexByte s.data.toList c.toNat.toUInt8)) ∧ w' = w
end Go.Sx.Tr
