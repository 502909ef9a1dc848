/-
  PROVED: 'laws.FnNarrowed' answers true at every input, and leaves all it was handed as it was. No condition.
-/
import Derived.Test.YtocoabcgpffelaaNarrow
namespace Go.Proofs.Ytocoabcgpffelaa
open Go.Sx
set_option maxRecDepth 100000

theorem next10 {U : Nat → D → D} {r : Nat → D} {a : Nat} (hx : (r 0).toF = some a) (h : num32 a) : evFs U L10 r = some (nextW a) := by
  obtain ⟨h1, h2⟩ := h
  have hn : num32 a := ⟨h1, h2⟩
  have lo : loOf .u32 = 0 := by decide
  have hi : hiOf .u32 = 4294967295 := by decide
  have lo' : loOf .i64 = -9223372036854775808 := by decide
  have hi' : hiOf .i64 = 9223372036854775807 := by decide
  have w : ∀ {n : Int}, 0 ≤ n → n < 4294967296 → IntKind.u32.wrap n = n := fun g1 g2 => wrap_in (k := .u32) (by omega) (by omega)
  have w' : ∀ {n : Int}, -5 ≤ n → n < 4294967299 → IntKind.i64.wrap n = n := fun g1 g2 => wrap_in (k := .i64) (by omega) (by omega)
  have of : ∀ {n : Int}, 0 ≤ n → n < 4294967296 → num32 n.toNat → Fl.ofBits .f32 (IntKind.u32.wrap (IntKind.i64.wrap n)) = some n.toNat := fun g1 g2 g3 => by
    rw [w' (by omega) (by omega), w g1 g2]
    have := of32 g3
    rwa [Int.toNat_of_nonneg g1] at this
  unfold L10
  simp only [evFs, E.ev, O1.ev, O2.ev, D.toB_b, D.toF_f, D.toI_i, hx, eq32 hn hn, eq32 hn n0, lt32 n0 hn, decide_eq_true_eq, Tree.upd, if_pos, bits_some, w64 hn, k0, beq_iff_eq]
  have hk := k_le hn
  split
  · rename_i hgt
    have : a = 2139095040 := by omega
    subst this
    rfl
  · rename_i hgt
    split
    · rename_i hz
      unfold k32 at hz
      unfold nextW
      have : a = 0 ∨ a = 2147483648 := by split at hz <;> omega
      rw [if_neg (by omega), if_pos this]
    · rename_i hz
      have hz0 : ¬ (a = 0 ∨ a = 2147483648) := by
        rintro (rfl | rfl)
        · exact hz (by decide)
        · exact hz (by decide)
      have hi : a ≠ 2139095040 := by rintro rfl; exact hgt (by decide)
      unfold nextW
      rw [if_neg hi, if_neg hz0]
      split
      · rename_i hl
        have hs : a < 2147483648 := by unfold k32 at hl; split at hl <;> omega
        have hlt : a < 2139095040 := by omega
        rw [if_pos hs, of (by omega) (by omega) (by unfold num32; omega)]
        congr 1
      · rename_i hl
        have hs : ¬ a < 2147483648 := by unfold k32 at hl hz; split at hl <;> omega
        rw [if_neg hs, of (by omega) (by omega) (by unfold num32; omega)]
        congr 1; omega

theorem eXm_upd {r : Nat → D} {i : Nat} {d : D} (h : 1000 ≤ i) : eX.ev narU (Tree.upd r i d) = eX.ev narU r := E.ev_under narU (m := 1000) (fun n hn => upd_low (by omega)) (by rfl)
theorem eN_upd {r : Nat → D} {i : Nat} {d : D} (h : 1000 ≤ i) : eN.ev narU (Tree.upd r i d) = eN.ev narU r := E.ev_under narU (m := 1000) (fun n hn => upd_low (by omega)) (by rfl)
theorem wfXm (r : Nat → D) : wfF (eX.ev narU r).toF = true := flt_wf n30 okB7 r _
theorem nS_ev {r : Nat → D} {z : E} : (nS z).ev narU r = .f (evFs narU L10 (rOf [z.ev narU r])) := by
  show D.at_ (D.snd (narU 32 (.l [z.ev narU r]))) 0 = _
  have hk : okF 1000 [0] TS = true := by
    have := okS10
    simp only [fltOk, Bool.and_eq_true] at this
    exact this.1
  rw [n32]
  show D.f (evF narU TS (rOf [z.ev narU r])) = _
  rw [evF_res hk, l10]
theorem eN_ev {r : Nat → D} {a : Nat} (hx : (eX.ev narU r).toF = some a) (h : num32 a) : (eN.ev narU r).toF = some (nextW a) := by
  have h0 : (rOf [eX.ev narU r] 0).toF = some a := hx
  have h1 := next10 (U := narU) h0 h
  unfold eN
  rw [nS_ev, D.toF_f, h1]
theorem good_num {a : Nat} (g : Sx.Good .f32 a) : num32 a := wfF_num ⟨a, g.lt, cn_of_not g.num⟩
theorem num_good {a : Nat} (h : num32 a) : Sx.Good .f32 a := ⟨h.1, num32_nan h⟩
theorem key_k {a : Nat} (h : num32 a) : key .f32 a = k32 a := skey32 h.1
theorem fin_w {a : Nat} (_ : num32 a) (hf : a % 2147483648 < 2139095040) : IsFinW .f32 a := by
  unfold IsFinW
  rw [inf32]
  exact hf
theorem half_E (x y : Fl) : Fl.mul .f64 (some 4602678819172646912) (Fl.add .f64 x y) = midF x y := rfl
theorem inf_cases {a : Nat} (h : num32 a) (hf : ¬ a % 2147483648 < 2139095040) : a = 2139095040 ∨ a = 4286578688 := by
  obtain ⟨h1, h2⟩ := h; omega
theorem inf_ok {a : Nat} (h : a = 2139095040 ∨ a = 4286578688) : Fl.convOk .f64 .f32 (Fl.conv .f32 .f64 (some a)) = true := by
  rcases h with rfl | rfl <;> decide +kernel
theorem odd_k {a : Nat} (h : num32 a) : ((a : Int).tmod 2 == 1) = !decide (k32 a % 2 = 0) := by
  obtain ⟨h1, h2⟩ := h
  rw [Bool.eq_iff_iff, beq_iff_eq, Bool.not_eq_true', decide_eq_false_iff_not]
  unfold k32
  have : (a : Int).tmod 2 = ((a % 2 : Nat) : Int) := by rw [Int.tmod_eq_emod_of_nonneg (by omega)]; rfl
  rw [this]
  split <;> omega

theorem nar_x {r : Nat → D} {a : Nat} (hx : (eX.ev narU r).toF = some a) (ha : num32 a) : evB narU LM r = true := by
  have hnx := eN_ev hx ha
  have h4 := num_next ha
  have nw := narrow_widen (num_good ha)
  unfold LM
  by_cases hf : a % 2147483648 < 2139095040
  · have fa := fin_w ha hf
    have hf' := (fin_k ha).1 hf
    have q1 := k_next ha hf'.2
    have c0 := conv_okOf nw fa
    simp only [evB, E.ev, O1.ev, O2.ev, D.toB_b, D.toI_i, D.toF_f, upd_at, upd_ne, eXm_upd, eN_upd, hx, hnx, nw, c0, ha, h4, eq32, w64, bits_some, odd_k,
      Nat.reduceLeDiff, ne_eq, Nat.reduceEqDiff, not_false_eq_true, fin32, decide_true, hf, half_E]
    by_cases hg : nextW a % 2147483648 < 2139095040
    · have fb := fin_w h4 hg
      have hg' := (fin_k h4).1 hg
      rw [q1] at hg'
      obtain ⟨⟨wm, em, gm, km⟩, ⟨wl, el, gl, kl⟩, ⟨wh, eh, gh, kh⟩⟩ := near32 fa fb (by rw [key_k ha, key_k h4]; exact q1) (by rw [key_k ha]; omega) (by rw [key_k ha]; omega)
      have nm := good_num gm
      have nl := good_num gl
      have nh := good_num gh
      rw [key_k nm, key_k ha] at km
      rw [key_k nl, key_k ha] at kl
      rw [key_k nh, key_k ha] at kh
      have fin : ∀ {w : Nat}, num32 w → (k32 w = k32 a ∨ k32 w = k32 a + 1) → IsFinW .f32 w := fun h1 h2 => fin_w h1 ((fin_k h1).2 (by omega))
      have he : evenI (k32 a) = k32 a ∨ evenI (k32 a) = k32 a + 1 := by unfold evenI; split <;> omega
      have cm := conv_okOf em (fin nm (by omega))
      have cl := conv_okOf el (fin nl (by omega))
      have ch := conv_okOf eh (fin nh (by omega))
      simp only [hg, decide_true, if_true, em, el, eh, cm, cl, ch, eq32, nm, nl, nh, ha, h4, km, kl, kh, q1, beq_self_eq_true]
      by_cases hp : k32 a % 2 = 0
      · have e1 : evenI (k32 a) = k32 a := by unfold evenI; rw [if_pos hp]
        simp only [hp, e1, decide_true, Bool.not_true, Bool.false_eq_true, if_false, if_true]
        (repeat' split) <;> rfl
      · have e1 : evenI (k32 a) = k32 a + 1 := by unfold evenI; rw [if_neg hp]
        simp only [hp, e1, decide_true, decide_false, Bool.not_false, if_true]
        (repeat' split) <;> rfl
    · simp only [hg, decide_false, Bool.false_eq_true, if_false, if_true, beq_self_eq_true]
      (repeat' split) <;> rfl
  · have c0 := inf_ok (inf_cases ha hf)
    simp only [evB, E.ev, O1.ev, O2.ev, D.toB_b, D.toI_i, D.toF_f, upd_at, upd_ne, eXm_upd, hx, nw, c0, ha, eq32, bits_some,
      Nat.reduceLeDiff, ne_eq, Nat.reduceEqDiff, not_false_eq_true, fin32, decide_true, hf, decide_false, Bool.false_eq_true, if_false, if_true, beq_self_eq_true]
    (repeat' split) <;> rfl
theorem cw_n : Fl.conv .f32 .f64 none = none := rfl
theorem cn_n : Fl.conv .f64 .f32 none = none := rfl
theorem co_n : Fl.convOk .f64 .f32 none = true := rfl
theorem nar_n {r : Nat → D} (hx : (eX.ev narU r).toF = none) : evB narU LM r = true := by
  unfold LM
  simp only [evB, E.ev, O1.ev, O2.ev, D.toB_b, D.toF_f, upd_at, upd_ne, eXm_upd, hx, cw_n, cn_n, co_n, eq_nl, sub_nl,
    Nat.reduceLeDiff, ne_eq, Nat.reduceEqDiff, not_false_eq_true, Bool.false_eq_true, if_false, if_true]
  (repeat' split) <;> rfl
theorem nar_all (r : Nat → D) : evB narU LM r = true := by
  cases hx : (eX.ev narU r).toF with
  | none => exact nar_n hx
  | some a => exact nar_x hx (wfF_num (wfF_wf (by rw [← hx]; exact wfXm r)))

theorem fnNarrowed_law : LawIsA narU (resT (cfM 3 (argGoA 0 0 twoB) (cxA twoB))) := by
  rw [lM]
  exact law_of_ev okM nar_all

theorem fnNarrowed_lifted (os : Os) (started : os.Started) (H : Type) (enc : TypeId × Value → H) :
    ReturnsInHanded {} Try.checked os 3 .any (Rows.fnNarrowedSpec.pre6 enc Try.prog Try.f3 Rows.fnNarrowedRow.domain false) (Rows.fnNarrowedSpec.post enc Try.prog Try.f3 false true false false) :=
  row_lawA (C := Try.checked) (U := narU) (cf := cfM) (f := 3) («as» := twoB) Try.own Try.laidOut started (by kernel_rfl) Try.names cfM_ok Try.func3 rfl rfl (by kernel_rfl) (by kernel_rfl) rfl
    (fun ds h => by match ds, h with | [_, _], _ => rfl)
    (ChangeSpec.witness6 (enc := enc) (C := Try.checked) false ⟨#[], #[.slice none 0 0, .slice none 0 0], []⟩ 8 (by kernel_rfl) (by kernel_rfl) (by kernel_rfl) (by kernel_rfl))
    (by kernel_rfl) (by kernel_rfl) (by kernel_rfl) (by kernel_rfl) fnNarrowed_law

theorem fnNarrowed_holds : Rows.FnNarrowedSaid :=
  OpenClaim.holds_of_wide 3 Try.f3 rfl rfl rfl rfl rfl rfl rfl ⟨rfl, rfl, rfl, rfl, rfl⟩ rfl rfl rfl rfl rfl (by kernel_rfl) Try.func3 (by kernel_rfl)
    (of_decide_eq_true (by kernel_rfl)) (by unfold Func.isWrapper; first | (rw [if_pos (by decide +kernel)]; kernel_rfl) | (rw [if_neg (by decide +kernel)]; exact ⟨rfl, rfl⟩))
    (fun os started H enc _ => fnNarrowed_lifted os started H enc)

end Go.Proofs.Ytocoabcgpffelaa
