/-
  PROVED: 'laws.FnBits' answers true at every input, and leaves all it was handed as it was. No condition.
-/
import Derived.Test.YtocoabcgpffelaaBits
namespace Go.Proofs.Ytocoabcgpffelaa
open Go.Sx
set_option maxRecDepth 100000

def negW (a : Nat) : Nat := if a < 2147483648 then a + 2147483648 else a - 2147483648
def nextW (a : Nat) : Nat := if a = 2139095040 then a else if a = 0 ∨ a = 2147483648 then 1 else if a < 2147483648 then a + 1 else a - 1

theorem num_neg {a : Nat} (h : num32 a) : num32 (negW a) := by
  obtain ⟨h1, h2⟩ := h; unfold negW num32; split <;> omega
theorem num_next {a : Nat} (h : num32 a) : num32 (nextW a) := by
  obtain ⟨h1, h2⟩ := h; unfold nextW num32; split
  · omega
  · split
    · omega
    · split <;> omega
theorem k_neg {a : Nat} (h : num32 a) : k32 (negW a) = -k32 a := by
  obtain ⟨h1, h2⟩ := h; unfold negW k32; split <;> split <;> omega
theorem k_next {a : Nat} (h : num32 a) (h' : k32 a < 2139095040) : k32 (nextW a) = k32 a + 1 := by
  obtain ⟨h1, h2⟩ := h
  unfold k32 at h'
  unfold nextW k32
  split at h' <;> (split <;> (try omega) <;> split <;> (try omega) <;> split <;> (try omega) <;> split <;> omega)
theorem k_top {a : Nat} (h : num32 a) (h' : ¬k32 a < 2139095040) : nextW a = a := by
  obtain ⟨h1, h2⟩ := h
  unfold k32 at h'
  unfold nextW
  split at h' <;> split <;> omega
theorem k_le {a : Nat} (h : num32 a) : -2139095040 ≤ k32 a ∧ k32 a ≤ 2139095040 := by
  obtain ⟨h1, h2⟩ := h; unfold k32; split <;> omega
theorem neg_w {a : Nat} (h : num32 a) : Fl.neg .f32 (some a) = some (negW a) := neg32 h

theorem bits_some (a : Nat) : Fl.bits (some a) = (a : Int) := rfl

theorem nextV {U : Nat → D → D} {r : Nat → D} {a : Nat} (hx : (r 0).toF = some a) (h : num32 a) : evFs U L17 r = some (nextW a) := by
  obtain ⟨h1, h2⟩ := h
  have hn : num32 a := ⟨h1, h2⟩
  have n0 : num32 0 := ⟨by decide, by decide⟩
  have nt : num32 2139095039 := ⟨by decide, by decide⟩
  have lo : loOf .u32 = 0 := by decide
  have hi : hiOf .u32 = 4294967295 := by decide
  have w : ∀ {n : Int}, 0 ≤ n → n < 4294967296 → IntKind.u32.wrap n = n := fun g1 g2 => wrap_in (k := .u32) (by omega) (by omega)
  have of : ∀ {n : Int}, 0 ≤ n → n < 4294967296 → num32 n.toNat → Fl.ofBits .f32 (IntKind.u32.wrap n) = some n.toNat := fun g1 g2 g3 => by
    rw [w g1 g2]
    have := of32 g3
    rwa [Int.toNat_of_nonneg g1] at this
  unfold L17
  simp only [evFs, E.ev, O1.ev, O2.ev, D.toB_b, D.toF_f, D.toI_i, hx, eq32 hn hn, lt32 nt hn, eq32 hn n0, lt32 hn n0, decide_eq_true_eq, Tree.upd, if_pos, bits_some]
  have e0 : k32 0 = 0 := by decide
  have et : k32 2139095039 = 2139095039 := by decide
  rw [e0, et]
  have hk := k_le hn
  split
  · rename_i hgt
    rw [k_top hn (by omega)]
  · rename_i hgt
    split
    · rename_i hz
      unfold k32 at hz
      unfold nextW
      have : a = 0 ∨ a = 2147483648 := by split at hz <;> omega
      rw [if_neg (by omega), if_pos this]
    · rename_i hz
      have hz0 : ¬ (a = 0 ∨ a = 2147483648) := by
        rintro (rfl | rfl)
        · exact hz (by decide)
        · exact hz (by decide)
      have hi : a ≠ 2139095040 := by rintro rfl; exact hgt (by decide)
      unfold nextW
      rw [if_neg hi, if_neg hz0]
      split
      · rename_i hl
        have hs : ¬ a < 2147483648 := by unfold k32 at hl; split at hl <;> omega
        rw [if_neg hs, of (by omega) (by omega) (by unfold num32; omega)]
        congr 1; omega
      · rename_i hl
        have hs : a < 2147483648 := by unfold k32 at hl; split at hl <;> omega
        have hlt : a < 2139095040 := by omega
        rw [if_pos hs, of (by omega) (by omega) (by unfold num32; omega)]
        congr 1
theorem nextN {U : Nat → D → D} {r : Nat → D} (hx : (r 0).toF = none) : evFs U L17 r = none := by
  unfold L17
  simp only [evFs, E.ev, O2.ev, D.toB_b, hx]
  rfl

theorem and_inf (a : Nat) (h : a < 4294967296) : IntKind.i64.wrap (BitVec.ofInt 64 (a : Int) &&& BitVec.ofInt 64 2139095040).toNat = ((a / 8388608 % 256 * 8388608 : Nat) : Int) := by
  have h1 : (BitVec.ofInt 64 (a : Int)).toNat = a := by rw [BitVec.toNat_ofInt]; omega
  have h2 : (BitVec.ofInt 64 2139095040).toNat = 2139095040 := by decide
  have h3 : a &&& 2139095040 = a / 8388608 % 256 * 8388608 := by
    refine Nat.eq_of_testBit_eq fun i => ?_
    have e1 : 2139095040 = (2 ^ 8 - 1) * 2 ^ 23 := by decide
    have e2 : a / 8388608 % 256 * 8388608 = a / 2 ^ 23 % 2 ^ 8 * 2 ^ 23 := rfl
    rw [e2, Nat.testBit_and, e1, Nat.testBit_mul_two_pow, Nat.testBit_mul_two_pow, Nat.testBit_two_pow_sub_one, Nat.testBit_mod_two_pow, Nat.testBit_div_two_pow]
    by_cases hi : 23 ≤ i
    · simp [hi, Bool.and_comm]
    · simp [hi]
  rw [BitVec.toNat_and, h1, h2, h3]
  exact wrap_in (k := .i64) (by have : loOf .i64 = -9223372036854775808 := by decide
                                omega) (by have : hiOf .i64 = 9223372036854775807 := by decide
                                           omega)

theorem upd_at {r : Nat → D} {i : Nat} {d : D} : Tree.upd r i d i = d := by unfold Tree.upd; rw [if_pos rfl]
theorem upd_ne {r : Nat → D} {i n : Nat} {d : D} (h : n ≠ i) : Tree.upd r i d n = r n := by unfold Tree.upd; rw [if_neg h]
theorem eX_upd {r : Nat → D} {i : Nat} {d : D} (h : 1000 ≤ i) : eX.ev bitsU (Tree.upd r i d) = eX.ev bitsU r := E.ev_under bitsU (m := 1000) (fun n hn => upd_low (by omega)) (by rfl)
theorem eY_upd {r : Nat → D} {i : Nat} {d : D} (h : 1000 ≤ i) : eY.ev bitsU (Tree.upd r i d) = eY.ev bitsU r := E.ev_under bitsU (m := 1000) (fun n hn => upd_low (by omega)) (by rfl)
theorem nx_ev {r : Nat → D} {z : E} : (nx z).ev bitsU r = .f (evFs bitsU L17 (rOf [z.ev bitsU r])) := by
  show D.at_ (D.snd (bitsU 31 (.l [z.ev bitsU r]))) 0 = _
  have hk : okF 1000 [0] TX = true := by
    have := okX17
    simp only [fltOk, Bool.and_eq_true] at this
    exact this.1
  rw [u31]
  show D.f (evF bitsU TX (rOf [z.ev bitsU r])) = _
  rw [evF_res hk, l17]
theorem nx_at {d : D} {a : Nat} (hd : d.toF = some a) (h : num32 a) : evFs bitsU L17 (rOf [d]) = some (nextW a) := nextV hd h
theorem nx_f {a : Nat} (h : num32 a) : evFs bitsU L17 (rOf [.f (some a)]) = some (nextW a) := nextV rfl h
theorem wfX (r : Nat → D) : wfF (eX.ev bitsU r).toF = true := flt_wf u30 okB7 r _
theorem wfY (r : Nat → D) : wfF (eY.ev bitsU r).toF = true := flt_wf u30 okB7 r _

theorem w64 {a : Nat} (h : num32 a) : IntKind.i64.wrap (a : Int) = a := by
  have lo : loOf .i64 = -9223372036854775808 := by decide
  have hi : hiOf .i64 = 9223372036854775807 := by decide
  exact wrap_in (k := .i64) (by omega) (by have := h.1; omega)
theorem w32 {a : Nat} (h : num32 a) : IntKind.u32.wrap (a : Int) = a := by
  have lo : loOf .u32 = 0 := by decide
  have hi : hiOf .u32 = 4294967295 := by decide
  exact wrap_in (k := .u32) (by omega) (by have := h.1; omega)
theorem n0 : num32 0 := ⟨by decide, by decide⟩

theorem and_fin {a : Nat} (h : num32 a) : (IntKind.i64.wrap ((BitVec.ofInt IntKind.i64.bits (a : Int) &&& BitVec.ofInt IntKind.i64.bits 2139095040).toNat : Int) == 2139095040) = decide (2139095040 ≤ a % 2147483648) := by
  have e : IntKind.i64.wrap ((BitVec.ofInt IntKind.i64.bits (a : Int) &&& BitVec.ofInt IntKind.i64.bits 2139095040).toNat : Int) = ((a / 8388608 % 256 * 8388608 : Nat) : Int) := and_inf a h.1
  rw [e, Bool.eq_iff_iff, beq_iff_eq, decide_eq_true_iff]
  have := h.1
  omega
theorem not_nan {a : Nat} (h : num32 a) : ((a : Int) == 2143289344) = false := by
  rw [beq_eq_false_iff_ne]
  have := h.2
  omega
theorem fin_k {a : Nat} (h : num32 a) : (a % 2147483648 < 2139095040 ↔ (-2139095040 < k32 a ∧ k32 a < 2139095040)) := by
  obtain ⟨h1, h2⟩ := h; unfold k32; split <;> omega
theorem k0 : k32 0 = 0 := by decide
theorem lo0 {a : Nat} : (0 : Int) ≤ a := by omega
theorem hi0 {a : Nat} (h : num32 a) : (a : Int) ≤ 4294967295 := by have := h.1; omega

theorem bits_xy {r : Nat → D} {a b : Nat} (hx : (eX.ev bitsU r).toF = some a) (hy : (eY.ev bitsU r).toF = some b) (ha : num32 a) (hb : num32 b) : evB bitsU LN r = true := by
  have h1 := num_neg ha
  have h2 := num_next h1
  have h3 := num_neg h2
  have h4 := num_next ha
  have h5 := num_neg h4
  have h6 := num_next h5
  have h7 := num_neg h6
  have h8 := num_next h3
  unfold LN
  simp only [evB, E.ev, O1.ev, O2.ev, D.toB_b, D.toI_i, D.toF_f, upd_at, upd_ne, eX_upd, eY_upd, nx_ev, hx, hy, nx_at hx ha, nx_f, neg_w, h1, h2, h3, h4, h5, h6, h7, h8, ha, hb, n0, eq32, lt32, w64, w32, of32, bits_some,
    Nat.reduceLeDiff, ne_eq, Nat.reduceEqDiff, not_false_eq_true, fin32, and_fin, not_nan, decide_true, k0]
  have k1 := k_neg ha
  have k2 := k_neg h2
  have k3 := k_neg h4
  have k4 := k_neg h6
  have g := k_le ha
  by_cases hf : a % 2147483648 < 2139095040
  · have hf' := (fin_k ha).1 hf
    have q1 := k_next ha hf'.2
    have q2 := k_next h1 (by omega)
    have q3 := k_next h5 (by omega)
    have q4 := k_next h3 (by omega)
    have hf2 : ¬ 2139095040 ≤ a % 2147483648 := by omega
    simp only [hf, hf2, decide_true, decide_false, Bool.not_false, Bool.not_true, beq_self_eq_true, if_true, Bool.false_eq_true, if_false, k1, k2, k3, k4, q1, q2, q3, q4, lo0, hi0 ha, decide_eq_true_eq]
    (repeat' split) <;> first | rfl | (exfalso; omega) | exact decide_eq_true (by omega)
  · have hinf : k32 a = 2139095040 ∨ k32 a = -2139095040 := by
      have hk : ¬(-2139095040 < k32 a ∧ k32 a < 2139095040) := fun h => hf ((fin_k ha).2 h)
      omega
    have hf2 : 2139095040 ≤ a % 2147483648 := by omega
    rcases hinf with hi | hi
    · have t1 := k_top ha (by omega)
      have q2 := k_next h1 (by omega)
      simp only [hf, hf2, decide_true, decide_false, Bool.not_true, beq_self_eq_true, if_true, Bool.false_eq_true, if_false, k1, k2, q2, t1, lo0, hi0 ha, decide_eq_true_eq]
      (repeat' split) <;> first | rfl | (exfalso; omega) | exact decide_eq_true (by omega)
    · have q1 := k_next ha (by omega)
      have t2 := k_top h1 (by omega)
      have e1 : k32 (negW (nextW (negW a))) = k32 a := by rw [k2, t2, k1]; omega
      simp only [hf, hf2, decide_true, decide_false, Bool.not_true, beq_self_eq_true, if_true, Bool.false_eq_true, if_false, e1, q1, lo0, hi0 ha, decide_eq_true_eq]
      (repeat' split) <;> first | rfl | (exfalso; omega) | exact decide_eq_true (by omega)
theorem eq_nl {x : Fl} : Fl.eq .f32 none x = false := rfl
theorem lt_nl {x : Fl} : Fl.lt .f32 none x = false := rfl
theorem lt_nr {x : Fl} : Fl.lt .f32 x none = false := by cases x <;> rfl
theorem bits_x {r : Nat → D} {a : Nat} (hx : (eX.ev bitsU r).toF = some a) (hy : (eY.ev bitsU r).toF = none) (ha : num32 a) : evB bitsU LN r = true := by
  have h1 := num_neg ha
  have h2 := num_next h1
  have h3 := num_neg h2
  have h4 := num_next ha
  have h5 := num_neg h4
  have h6 := num_next h5
  have h7 := num_neg h6
  have h8 := num_next h3
  unfold LN
  simp only [evB, E.ev, O1.ev, O2.ev, D.toB_b, D.toI_i, D.toF_f, upd_at, upd_ne, eX_upd, eY_upd, nx_ev, hx, hy, nx_at hx ha, nx_f, neg_w, h1, h2, h3, h4, h5, h6, h7, h8, ha, n0, eq32, lt32, w64, w32, of32, bits_some,
    Nat.reduceLeDiff, ne_eq, Nat.reduceEqDiff, not_false_eq_true, fin32, and_fin, not_nan, decide_true, k0, eq_nl, lt_nl, lt_nr]
  have k1 := k_neg ha
  have k2 := k_neg h2
  have k3 := k_neg h4
  have k4 := k_neg h6
  have g := k_le ha
  by_cases hf : a % 2147483648 < 2139095040
  · have hf' := (fin_k ha).1 hf
    have q1 := k_next ha hf'.2
    have q2 := k_next h1 (by omega)
    have q3 := k_next h5 (by omega)
    have q4 := k_next h3 (by omega)
    have hf2 : ¬ 2139095040 ≤ a % 2147483648 := by omega
    simp only [hf, hf2, decide_true, decide_false, Bool.not_false, Bool.not_true, beq_self_eq_true, if_true, Bool.false_eq_true, if_false, k1, k2, k3, k4, q1, q2, q3, q4, lo0, hi0 ha, decide_eq_true_eq]
    (repeat' split) <;> first | rfl | (exfalso; omega) | exact decide_eq_true (by omega)
  · have hinf : k32 a = 2139095040 ∨ k32 a = -2139095040 := by
      have hk : ¬(-2139095040 < k32 a ∧ k32 a < 2139095040) := fun h => hf ((fin_k ha).2 h)
      omega
    have hf2 : 2139095040 ≤ a % 2147483648 := by omega
    rcases hinf with hi | hi
    · have t1 := k_top ha (by omega)
      have q2 := k_next h1 (by omega)
      simp only [hf, hf2, decide_true, decide_false, Bool.not_true, beq_self_eq_true, if_true, Bool.false_eq_true, if_false, k1, k2, q2, t1, lo0, hi0 ha, decide_eq_true_eq]
      (repeat' split) <;> first | rfl | (exfalso; omega) | exact decide_eq_true (by omega)
    · have q1 := k_next ha (by omega)
      have t2 := k_top h1 (by omega)
      have e1 : k32 (negW (nextW (negW a))) = k32 a := by rw [k2, t2, k1]; omega
      simp only [hf, hf2, decide_true, decide_false, Bool.not_true, beq_self_eq_true, if_true, Bool.false_eq_true, if_false, e1, q1, lo0, hi0 ha, decide_eq_true_eq]
      (repeat' split) <;> first | rfl | (exfalso; omega) | exact decide_eq_true (by omega)
theorem sub_nl {x : Fl} : Fl.sub .f32 none x = none := rfl
theorem neg_n : Fl.neg .f32 none = none := rfl
theorem nx_n {d : D} (hd : d.toF = none) : evFs bitsU L17 (rOf [d]) = none := nextN hd
theorem nx_nf : evFs bitsU L17 (rOf [.f none]) = none := nextN rfl
theorem bits_n {r : Nat → D} (hx : (eX.ev bitsU r).toF = none) : evB bitsU LN r = true := by
  have hb : ∀ {b : Nat}, (eY.ev bitsU r).toF = some b → num32 b := fun h => wfF_num (wfF_wf (by rw [← h]; exact wfY r))
  unfold LN
  simp only [evB, E.ev, O1.ev, O2.ev, D.toB_b, D.toI_i, D.toF_f, upd_at, upd_ne, eX_upd, eY_upd, nx_ev, hx, nx_n hx, nx_nf, neg_n, sub_nl, Nat.reduceLeDiff, ne_eq, Nat.reduceEqDiff, not_false_eq_true, eq_nl, lt_nl, lt_nr]
  cases hy : (eY.ev bitsU r).toF with
  | none =>
    simp only [eq_nl, Bool.false_eq_true, if_false]
    (repeat' split) <;> rfl
  | some b =>
    have hn : ((2143289344 : Int) == (b : Int)) = false := by
      rw [beq_eq_false_iff_ne]
      have := (hb hy).2
      omega
    simp only [eq32 (hb hy) (hb hy), bits_some, w64 (hb hy), hn, decide_true, Bool.false_eq_true, if_false, if_true]
    (repeat' split) <;> first | rfl | (rename_i h; cases h)

theorem bits_all (r : Nat → D) : evB bitsU LN r = true := by
  cases hx : (eX.ev bitsU r).toF with
  | none => exact bits_n hx
  | some a =>
    have ha : num32 a := wfF_num (wfF_wf (by rw [← hx]; exact wfX r))
    cases hy : (eY.ev bitsU r).toF with
    | none => exact bits_x hx hy ha
    | some b => exact bits_xy hx hy ha (wfF_num (wfF_wf (by rw [← hy]; exact wfY r)))

theorem fnBits_law : LawIsA bitsU (resT (cfN 4 (argGoA 0 0 twoB) (cxA twoB))) := by
  rw [lN]
  exact law_of_ev okN bits_all

theorem fnBits_lifted (os : Os) (started : os.Started) (H : Type) (enc : TypeId × Value → H) :
    ReturnsInHanded {} Try.checked os 4 .any (Rows.fnBitsSpec.pre6 enc Try.prog Try.f4 Rows.fnBitsRow.domain false) (Rows.fnBitsSpec.post enc Try.prog Try.f4 false true false false) :=
  row_lawA (C := Try.checked) (U := bitsU) (cf := cfN) (f := 4) («as» := twoB) Try.own Try.laidOut started (by kernel_rfl) Try.names cfN_ok Try.func4 rfl rfl (by kernel_rfl) (by kernel_rfl) rfl
    (fun ds h => by match ds, h with | [_, _], _ => rfl)
    (ChangeSpec.witness6 (enc := enc) (C := Try.checked) false ⟨#[], #[.slice none 0 0, .slice none 0 0], []⟩ 8 (by kernel_rfl) (by kernel_rfl) (by kernel_rfl) (by kernel_rfl))
    (by kernel_rfl) (by kernel_rfl) (by kernel_rfl) (by kernel_rfl) fnBits_law

theorem fnBits_holds : Rows.FnBitsSaid :=
  OpenClaim.holds_of_wide 4 Try.f4 rfl rfl rfl rfl rfl rfl rfl ⟨rfl, rfl, rfl, rfl, rfl⟩ rfl rfl rfl rfl rfl (by kernel_rfl) Try.func4 (by kernel_rfl)
    (of_decide_eq_true (by kernel_rfl)) (by unfold Func.isWrapper; first | (rw [if_pos (by decide +kernel)]; kernel_rfl) | (rw [if_neg (by decide +kernel)]; exact ⟨rfl, rfl⟩))
    (fun os started H enc _ => fnBits_lifted os started H enc)

end Go.Proofs.Ytocoabcgpffelaa
