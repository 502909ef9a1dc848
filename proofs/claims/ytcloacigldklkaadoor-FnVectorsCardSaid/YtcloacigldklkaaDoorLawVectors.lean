/-
  PROVED: 'laws.FnVectors' answers true at every input, and leaves all it was handed as it was; the card ties the tables that it lists. No condition.
-/
import Derived.Test.YtcloacigldklkaaDoorVec
import Derived.Test.YtcloacigldklkaaDoorSxGf
import Derived.Test.YtcloacigldklkaaDoorSxFo
import Derived.Test.YtcloacigldklkaaDoorSxDo
import Derived.Test.YtcloacigldklkaaDoorCards
import Derived.Test.YtcloacigldklkaaDoorTie
import Derived.LaidLaws
import Derived.Handed
namespace Go.Proofs.YtcloacigldklkaaDoor
open Go.Sx Go.RowKit
set_option maxRecDepth 100000

theorem bits_at (z : D) : opVal LB 1 RI z = if Fl.eq .f32 z.toF z.toF = true then .i (IntKind.i64.wrap (Fl.bits z.toF)) else .i 2143289344 := by
  have e : evT (fun _ d => d) LB (Sx.valOf [z] 0) = if Fl.eq .f32 z.toF z.toF = true then some (.int .i64 (.o1 (.wrap .i64) (.o1 .bits (.v 0))), Sx.valOf [z] 0) else some (.int .i64 (.i 2143289344), Sx.valOf [z] 0) := rfl
  show (match evT (fun _ d => d) LB (Sx.valOf [z] 0) with
    | some (s, r') => match RI.out s with
      | some es => tupD (es.map fun e : E => e.ev (fun _ d => d) r')
      | none => .b false
    | none => .b false) = _
  rw [e]
  by_cases hq : Fl.eq .f32 z.toF z.toF = true
  · rw [if_pos hq, if_pos hq]; rfl
  · rw [if_neg hq, if_neg hq]; rfl
def bitN (x : Fl) : Int := if Fl.eq .f32 x x = true then IntKind.i64.wrap (Fl.bits x) else 2143289344
theorem word1 (z : D) : (vecU 1 z).toI = bitN z.toF := by
  show (opVal LB 1 RI z).toI = _
  rw [bits_at]
  unfold bitN
  split <;> rfl
theorem bitN_ok {x : Fl} (hx : wfF x = true) : 0 ≤ bitN x ∧ bitN x < 4294967296 ∧ Fl.ofBits .f32 (IntKind.u32.wrap (bitN x)) = x := by
  cases x with
  | none =>
    have e : bitN none = 2143289344 := rfl
    rw [e]
    exact ⟨by decide, by decide, by decide +kernel⟩
  | some a =>
    have hn : num32 a := wfF_num (wfF_wf hx)
    have l64 : loOf .i64 = -9223372036854775808 := by decide
    have h64 : hiOf .i64 = 9223372036854775807 := by decide
    have l32 : loOf .u32 = 0 := by decide
    have h32 : hiOf .u32 = 4294967295 := by decide
    have ha := hn.1
    have e : bitN (some a) = (a : Int) := by
      unfold bitN
      rw [eq32 hn hn, if_pos (decide_eq_true rfl)]
      exact wrap_in (k := .i64) (x := (a : Int)) (by omega) (by omega)
    rw [e, wrap_in (k := .u32) (by omega) (by omega)]
    exact ⟨by omega, by omega, of32 hn⟩
theorem hex_ev {U : Nat → D → D} {r : Nat → D} {x : E} (h0 : 0 ≤ (x.ev U r).toI) (h1 : (x.ev U r).toI < 4294967296) : ((hexE x).ev U r).toI = (x.ev U r).toI := by
  have e : ∀ k : Nat, ((E.o2 (.iand .i64) (.o2 .ishr x (.i (k : Int))) (.i 15)).ev U r).toI = (x.ev U r).toI / 2 ^ k % 16 := fun k => nib _ k h0 h1
  have hx : ((hexE x).ev U r).toI = ((((((((E.o2 (.iand .i64) (.o2 .ishr x (.i ((28 : Nat) : Int))) (.i 15)).ev U r).toI * 16 + ((E.o2 (.iand .i64) (.o2 .ishr x (.i ((24 : Nat) : Int))) (.i 15)).ev U r).toI) * 16 + ((E.o2 (.iand .i64) (.o2 .ishr x (.i ((20 : Nat) : Int))) (.i 15)).ev U r).toI) * 16 + ((E.o2 (.iand .i64) (.o2 .ishr x (.i ((16 : Nat) : Int))) (.i 15)).ev U r).toI) * 16 + ((E.o2 (.iand .i64) (.o2 .ishr x (.i ((12 : Nat) : Int))) (.i 15)).ev U r).toI) * 16 + ((E.o2 (.iand .i64) (.o2 .ishr x (.i ((8 : Nat) : Int))) (.i 15)).ev U r).toI) * 16 + ((E.o2 (.iand .i64) (.o2 .ishr x (.i ((4 : Nat) : Int))) (.i 15)).ev U r).toI) * 16 + ((E.o2 (.iand .i64) (.o2 .ishr x (.i ((0 : Nat) : Int))) (.i 15)).ev U r).toI := rfl
  rw [hx, e, e, e, e, e, e, e, e]
  exact nibs _ h0 h1
section
variable {r : Nat → D} {eV : E}
theorem hexV (hw : wfF (eV.ev vecU r).toF = true) : ((hexE (.app 1 eV)).ev vecU r).toI = bitN (eV.ev vecU r).toF := by
  have e : ((E.app 1 eV).ev vecU r).toI = bitN (eV.ev vecU r).toF := word1 _
  obtain ⟨h0, h1, _⟩ := bitN_ok hw
  rw [hex_ev (by rw [e]; exact h0) (by rw [e]; exact h1), e]
theorem back_f (hw : wfF (eV.ev vecU r).toF = true) : ((E.o1 (.ofBits .f32) (.o1 (.wrap .u32) (hexE (.app 1 eV)))).ev vecU r).toF = (eV.ev vecU r).toF := by
  show Fl.ofBits .f32 (IntKind.u32.wrap ((hexE (.app 1 eV)).ev vecU r).toI) = _
  rw [hexV hw]
  exact (bitN_ok hw).2.2
theorem back_n {n : Nat} (hw : wfF (eV.ev vecU r).toF = true) (h : (r n).toF = (eV.ev vecU r).toF) : ((E.o2 .ieq (.app 1 (.v n)) (hexE (.app 1 eV))).ev vecU r).toB = true := by
  show ((vecU 1 (r n)).toI == ((hexE (.app 1 eV)).ev vecU r).toI) = true
  rw [hexV hw, word1, h]
  exact beq_self_eq_true _
end
theorem evP_i {U : Nat → D → D} {c : E} {t f : Tree SV} {r : Nat → D} (ht : evP U t r) (hf : evP U f r) : evP U (.ite c t f) r := by
  show if (c.ev U r).toB then _ else _
  split
  · exact ht
  · exact hf
theorem wfV0 (r : Nat → D) : wfF (eV0.ev vecU r).toF = true := Pv.wf_word u31 ok17 rfl r [.v 0] (j := 0) (by decide)
theorem wfV1 (r : Nat → D) : wfF (eV1.ev vecU r).toF = true := Pv.wf_word u31 ok17 rfl r [.v 0] (j := 1) (by decide)
theorem wfV2 (r : Nat → D) : wfF (eV2.ev vecU r).toF = true := Pv.wf_word u31 ok17 rfl r [.v 0] (j := 2) (by decide)
def LE : Tree SV := (.ite (.o2 (.feq .f32) (.v 1066) (.v 1066)) (.ite (.o2 (.feq .f32) eV0 eV0) (.ite (.o2 .ieq (.o1 .bits (.v 1066)) (.o1 .bits eV0)) (.ite (.o2 (.feq .f32) (.v 1067) (.v 1067)) (.ite (.o2 (.feq .f32) eV1 eV1) (.ite (.o2 .ieq (.o1 .bits (.v 1067)) (.o1 .bits eV1)) (.ite (.o2 (.feq .f32) (.v 1068) (.v 1068)) (.ite (.o2 (.feq .f32) eV2 eV2) (.ite (.o2 .ieq (.o1 .bits (.v 1068)) (.o1 .bits eV2)) (.ret (.bool (.b true))) (.ret (.bool (.b false)))) (.ret (.bool (.b false)))) (.ite (.o2 (.feq .f32) eV2 eV2) (.ret (.bool (.b false))) (.ret (.bool (.b true))))) (.ret (.bool (.b false)))) (.ret (.bool (.b false)))) (.ite (.o2 (.feq .f32) eV1 eV1) (.ret (.bool (.b false))) (.ite (.o2 (.feq .f32) (.v 1068) (.v 1068)) (.ite (.o2 (.feq .f32) eV2 eV2) (.ite (.o2 .ieq (.o1 .bits (.v 1068)) (.o1 .bits eV2)) (.ret (.bool (.b true))) (.ret (.bool (.b false)))) (.ret (.bool (.b false)))) (.ite (.o2 (.feq .f32) eV2 eV2) (.ret (.bool (.b false))) (.ret (.bool (.b true))))))) (.ret (.bool (.b false)))) (.ret (.bool (.b false)))) (.ite (.o2 (.feq .f32) eV0 eV0) (.ret (.bool (.b false))) (.ite (.o2 (.feq .f32) (.v 1067) (.v 1067)) (.ite (.o2 (.feq .f32) eV1 eV1) (.ite (.o2 .ieq (.o1 .bits (.v 1067)) (.o1 .bits eV1)) (.ite (.o2 (.feq .f32) (.v 1068) (.v 1068)) (.ite (.o2 (.feq .f32) eV2 eV2) (.ite (.o2 .ieq (.o1 .bits (.v 1068)) (.o1 .bits eV2)) (.ret (.bool (.b true))) (.ret (.bool (.b false)))) (.ret (.bool (.b false)))) (.ite (.o2 (.feq .f32) eV2 eV2) (.ret (.bool (.b false))) (.ret (.bool (.b true))))) (.ret (.bool (.b false)))) (.ret (.bool (.b false)))) (.ite (.o2 (.feq .f32) eV1 eV1) (.ret (.bool (.b false))) (.ite (.o2 (.feq .f32) (.v 1068) (.v 1068)) (.ite (.o2 (.feq .f32) eV2 eV2) (.ite (.o2 .ieq (.o1 .bits (.v 1068)) (.o1 .bits eV2)) (.ret (.bool (.b true))) (.ret (.bool (.b false)))) (.ret (.bool (.b false)))) (.ite (.o2 (.feq .f32) eV2 eV2) (.ret (.bool (.b false))) (.ret (.bool (.b true)))))))))
def LT : Tree SV := (.chk (.o2 .fsame (.v 1066) (.o1 (.ofBits .f32) (.o1 (.wrap .u32) (hexE (.app 1 eV0))))) (.ite (.o2 .ieq (.app 1 (.v 1066)) (hexE (.app 1 eV0))) (.chk (.o2 .fsame (.v 1067) (.o1 (.ofBits .f32) (.o1 (.wrap .u32) (hexE (.app 1 eV1))))) (.ite (.o2 .ieq (.app 1 (.v 1067)) (hexE (.app 1 eV1))) (.chk (.o2 .fsame (.v 1068) (.o1 (.ofBits .f32) (.o1 (.wrap .u32) (hexE (.app 1 eV2))))) (.ite (.o2 .ieq (.app 1 (.v 1068)) (hexE (.app 1 eV2))) (.ite (.o2 (.feq .f32) (.v 1066) (.v 1066)) (.ite (.o2 (.feq .f32) eV0 eV0) (.ite (.o2 .ieq (.o1 .bits (.v 1066)) (.o1 .bits eV0)) (.ite (.o2 (.feq .f32) (.v 1067) (.v 1067)) (.ite (.o2 (.feq .f32) eV1 eV1) (.ite (.o2 .ieq (.o1 .bits (.v 1067)) (.o1 .bits eV1)) (.ite (.o2 (.feq .f32) (.v 1068) (.v 1068)) (.ite (.o2 (.feq .f32) eV2 eV2) (.ite (.o2 .ieq (.o1 .bits (.v 1068)) (.o1 .bits eV2)) (.ret (.bool (.b true))) (.ret (.bool (.b false)))) (.ret (.bool (.b false)))) (.ite (.o2 (.feq .f32) eV2 eV2) (.ret (.bool (.b false))) (.ret (.bool (.b true))))) (.ret (.bool (.b false)))) (.ret (.bool (.b false)))) (.ite (.o2 (.feq .f32) eV1 eV1) (.ret (.bool (.b false))) (.ite (.o2 (.feq .f32) (.v 1068) (.v 1068)) (.ite (.o2 (.feq .f32) eV2 eV2) (.ite (.o2 .ieq (.o1 .bits (.v 1068)) (.o1 .bits eV2)) (.ret (.bool (.b true))) (.ret (.bool (.b false)))) (.ret (.bool (.b false)))) (.ite (.o2 (.feq .f32) eV2 eV2) (.ret (.bool (.b false))) (.ret (.bool (.b true))))))) (.ret (.bool (.b false)))) (.ret (.bool (.b false)))) (.ite (.o2 (.feq .f32) eV0 eV0) (.ret (.bool (.b false))) (.ite (.o2 (.feq .f32) (.v 1067) (.v 1067)) (.ite (.o2 (.feq .f32) eV1 eV1) (.ite (.o2 .ieq (.o1 .bits (.v 1067)) (.o1 .bits eV1)) (.ite (.o2 (.feq .f32) (.v 1068) (.v 1068)) (.ite (.o2 (.feq .f32) eV2 eV2) (.ite (.o2 .ieq (.o1 .bits (.v 1068)) (.o1 .bits eV2)) (.ret (.bool (.b true))) (.ret (.bool (.b false)))) (.ret (.bool (.b false)))) (.ite (.o2 (.feq .f32) eV2 eV2) (.ret (.bool (.b false))) (.ret (.bool (.b true))))) (.ret (.bool (.b false)))) (.ret (.bool (.b false)))) (.ite (.o2 (.feq .f32) eV1 eV1) (.ret (.bool (.b false))) (.ite (.o2 (.feq .f32) (.v 1068) (.v 1068)) (.ite (.o2 (.feq .f32) eV2 eV2) (.ite (.o2 .ieq (.o1 .bits (.v 1068)) (.o1 .bits eV2)) (.ret (.bool (.b true))) (.ret (.bool (.b false)))) (.ret (.bool (.b false)))) (.ite (.o2 (.feq .f32) eV2 eV2) (.ret (.bool (.b false))) (.ret (.bool (.b true))))))))) (.ret (.bool (.b false))))) (.ret (.bool (.b false))))) (.ret (.bool (.b false)))))
theorem last_ok {r : Nat → D} (w0 : (r 1066).toF = (eV0.ev vecU r).toF) (w1 : (r 1067).toF = (eV1.ev vecU r).toF) (w2 : (r 1068).toF = (eV2.ev vecU r).toF) : evP vecU LE r := by
  unfold LE
  simp only [evP, E.ev, O1.ev, O2.ev, D.toB_b, D.toI_i, w0, w1, w2, beq_self_eq_true, if_true]
  cases Fl.eq .f32 (eV0.ev vecU r).toF (eV0.ev vecU r).toF <;> cases Fl.eq .f32 (eV1.ev vecU r).toF (eV1.ev vecU r).toF <;> cases Fl.eq .f32 (eV2.ev vecU r).toF (eV2.ev vecU r).toF <;> simp only [Bool.false_eq_true, if_false, if_true]
theorem tail_ok {r : Nat → D} : evP vecU LT r := by
  unfold LT
  refine evP_c fun h1066 => ?_
  have w1066 : (r 1066).toF = (eV0.ev vecU r).toF := by rw [h1066]; exact back_f (wfV0 r)
  refine evP_t (back_n (wfV0 r) w1066) ?_
  refine evP_c fun h1067 => ?_
  have w1067 : (r 1067).toF = (eV1.ev vecU r).toF := by rw [h1067]; exact back_f (wfV1 r)
  refine evP_t (back_n (wfV1 r) w1067) ?_
  refine evP_c fun h1068 => ?_
  have w1068 : (r 1068).toF = (eV2.ev vecU r).toF := by rw [h1068]; exact back_f (wfV2 r)
  refine evP_t (back_n (wfV2 r) w1068) ?_
  exact last_ok w1066 w1067 w1068
section
variable {U : Nat → D → D} {r : Nat → D} {i : Nat} {a b : E} {u v : Int} {M N : Nat}
theorem ve_add (h : r i = (E.o2 (.fadd .f32) a b).ev U r) (hx : VB (a.ev U r).toF u M) (hy : VB (b.ev U r).toF v N) (hs : M + N < 16777216) : VB (r i).toF (u + v) (M + N) := by
  rw [h]; exact vb_add hx hy hs
theorem ve_sub (h : r i = (E.o2 (.fsub .f32) a b).ev U r) (hx : VB (a.ev U r).toF u M) (hy : VB (b.ev U r).toF v N) (hs : M + N < 16777216) : VB (r i).toF (u - v) (M + N) := by
  rw [h]; exact vb_sub hx hy hs
theorem ve_mul (h : r i = (E.o2 (.fmul .f32) a b).ev U r) (hx : VB (a.ev U r).toF u M) (hy : VB (b.ev U r).toF v N) (hs : M * N < 16777216) : VB (r i).toF (u * v) (M * N) := by
  rw [h]; exact vb_mul hx hy hs
end
set_option maxHeartbeats 4000000 in
theorem vec_go {U : Nat → D → D} {r : Nat → D} {a0 a1 a2 b0 b1 b2 : Int} (hA0 : VB (eA0.ev U r).toF a0 50) (hA1 : VB (eA1.ev U r).toF a1 50) (hA2 : VB (eA2.ev U r).toF a2 50) (hB0 : VB (eB0.ev U r).toF b0 50) (hB1 : VB (eB1.ev U r).toF b1 50) (hB2 : VB (eB2.ev U r).toF b2 50) (hT : evP U LT r) : evP U LN r := by
  unfold LN
  refine evP_i rfl ?_
  refine evP_i rfl ?_
  refine evP_c fun h1000 => ?_
  have v1000 : VB (r 1000).toF (a1 * b2) 2500 := ve_mul h1000 hA1 hB2 (by decide)
  refine evP_c fun h1001 => ?_
  have v1001 : VB (r 1001).toF (a2 * b1) 2500 := ve_mul h1001 hA2 hB1 (by decide)
  refine evP_c fun h1002 => ?_
  have v1002 : VB (r 1002).toF ((a1 * b2) - (a2 * b1)) 5000 := ve_sub h1002 v1000 v1001 (by decide)
  refine evP_c fun h1003 => ?_
  have v1003 : VB (r 1003).toF (a2 * b0) 2500 := ve_mul h1003 hA2 hB0 (by decide)
  refine evP_c fun h1004 => ?_
  have v1004 : VB (r 1004).toF (a0 * b2) 2500 := ve_mul h1004 hA0 hB2 (by decide)
  refine evP_c fun h1005 => ?_
  have v1005 : VB (r 1005).toF ((a2 * b0) - (a0 * b2)) 5000 := ve_sub h1005 v1003 v1004 (by decide)
  refine evP_c fun h1006 => ?_
  have v1006 : VB (r 1006).toF (a0 * b1) 2500 := ve_mul h1006 hA0 hB1 (by decide)
  refine evP_c fun h1007 => ?_
  have v1007 : VB (r 1007).toF (a1 * b0) 2500 := ve_mul h1007 hA1 hB0 (by decide)
  refine evP_c fun h1008 => ?_
  have v1008 : VB (r 1008).toF ((a0 * b1) - (a1 * b0)) 5000 := ve_sub h1008 v1006 v1007 (by decide)
  refine evP_c fun h1009 => ?_
  have v1009 : VB (r 1009).toF (b1 * a2) 2500 := ve_mul h1009 hB1 hA2 (by decide)
  refine evP_c fun h1010 => ?_
  have v1010 : VB (r 1010).toF (b2 * a1) 2500 := ve_mul h1010 hB2 hA1 (by decide)
  refine evP_c fun h1011 => ?_
  have v1011 : VB (r 1011).toF ((b1 * a2) - (b2 * a1)) 5000 := ve_sub h1011 v1009 v1010 (by decide)
  refine evP_c fun h1012 => ?_
  have v1012 : VB (r 1012).toF (b2 * a0) 2500 := ve_mul h1012 hB2 hA0 (by decide)
  refine evP_c fun h1013 => ?_
  have v1013 : VB (r 1013).toF (b0 * a2) 2500 := ve_mul h1013 hB0 hA2 (by decide)
  refine evP_c fun h1014 => ?_
  have v1014 : VB (r 1014).toF ((b2 * a0) - (b0 * a2)) 5000 := ve_sub h1014 v1012 v1013 (by decide)
  refine evP_c fun h1015 => ?_
  have v1015 : VB (r 1015).toF (b0 * a1) 2500 := ve_mul h1015 hB0 hA1 (by decide)
  refine evP_c fun h1016 => ?_
  have v1016 : VB (r 1016).toF (b1 * a0) 2500 := ve_mul h1016 hB1 hA0 (by decide)
  refine evP_c fun h1017 => ?_
  have v1017 : VB (r 1017).toF ((b0 * a1) - (b1 * a0)) 5000 := ve_sub h1017 v1015 v1016 (by decide)
  refine evP_c fun h1018 => ?_
  have v1018 : VB (r 1018).toF (a0 - b0) 100 := ve_sub h1018 hA0 hB0 (by decide)
  refine evP_c fun h1019 => ?_
  have v1019 : VB (r 1019).toF (a1 - b1) 100 := ve_sub h1019 hA1 hB1 (by decide)
  refine evP_c fun h1020 => ?_
  have v1020 : VB (r 1020).toF (a2 - b2) 100 := ve_sub h1020 hA2 hB2 (by decide)
  refine evP_c fun h1021 => ?_
  have v1021 : VB (r 1021).toF (b0 + (a0 - b0)) 150 := ve_add h1021 hB0 v1018 (by decide)
  refine evP_c fun h1022 => ?_
  have v1022 : VB (r 1022).toF (b1 + (a1 - b1)) 150 := ve_add h1022 hB1 v1019 (by decide)
  refine evP_c fun h1023 => ?_
  have v1023 : VB (r 1023).toF (b2 + (a2 - b2)) 150 := ve_add h1023 hB2 v1020 (by decide)
  refine evP_c fun h1024 => ?_
  have v1024 : VB (r 1024).toF (a0 * 2) 100 := ve_mul h1024 hA0 vb_two (by decide)
  refine evP_c fun h1025 => ?_
  have v1025 : VB (r 1025).toF (a1 * 2) 100 := ve_mul h1025 hA1 vb_two (by decide)
  refine evP_c fun h1026 => ?_
  have v1026 : VB (r 1026).toF (a2 * 2) 100 := ve_mul h1026 hA2 vb_two (by decide)
  refine evP_t (vb_eq v1021 hA0 (by grind)) ?_
  refine evP_t (vb_eq v1022 hA1 (by grind)) ?_
  refine evP_t (vb_eq v1023 hA2 (by grind)) ?_
  refine evP_c fun h1027 => ?_
  have v1027 : VB (r 1027).toF (((a1 * b2) - (a2 * b1)) * a0) 250000 := ve_mul h1027 v1002 hA0 (by decide)
  refine evP_c fun h1028 => ?_
  have v1028 : VB (r 1028).toF (((a2 * b0) - (a0 * b2)) * a1) 250000 := ve_mul h1028 v1005 hA1 (by decide)
  refine evP_c fun h1029 => ?_
  have v1029 : VB (r 1029).toF ((((a1 * b2) - (a2 * b1)) * a0) + (((a2 * b0) - (a0 * b2)) * a1)) 500000 := ve_add h1029 v1027 v1028 (by decide)
  refine evP_c fun h1030 => ?_
  have v1030 : VB (r 1030).toF (((a0 * b1) - (a1 * b0)) * a2) 250000 := ve_mul h1030 v1008 hA2 (by decide)
  refine evP_c fun h1031 => ?_
  have v1031 : VB (r 1031).toF (((((a1 * b2) - (a2 * b1)) * a0) + (((a2 * b0) - (a0 * b2)) * a1)) + (((a0 * b1) - (a1 * b0)) * a2)) 750000 := ve_add h1031 v1029 v1030 (by decide)
  refine evP_t (vb_eq v1031 vb_zero (by grind)) ?_
  refine evP_c fun h1032 => ?_
  have v1032 : VB (r 1032).toF (((a1 * b2) - (a2 * b1)) * b0) 250000 := ve_mul h1032 v1002 hB0 (by decide)
  refine evP_c fun h1033 => ?_
  have v1033 : VB (r 1033).toF (((a2 * b0) - (a0 * b2)) * b1) 250000 := ve_mul h1033 v1005 hB1 (by decide)
  refine evP_c fun h1034 => ?_
  have v1034 : VB (r 1034).toF ((((a1 * b2) - (a2 * b1)) * b0) + (((a2 * b0) - (a0 * b2)) * b1)) 500000 := ve_add h1034 v1032 v1033 (by decide)
  refine evP_c fun h1035 => ?_
  have v1035 : VB (r 1035).toF (((a0 * b1) - (a1 * b0)) * b2) 250000 := ve_mul h1035 v1008 hB2 (by decide)
  refine evP_c fun h1036 => ?_
  have v1036 : VB (r 1036).toF (((((a1 * b2) - (a2 * b1)) * b0) + (((a2 * b0) - (a0 * b2)) * b1)) + (((a0 * b1) - (a1 * b0)) * b2)) 750000 := ve_add h1036 v1034 v1035 (by decide)
  refine evP_t (vb_eq v1036 vb_zero (by grind)) ?_
  refine evP_c fun h1037 => ?_
  have v1037 : VB (r 1037).toF (((b1 * a2) - (b2 * a1)) * (-1)) 5000 := ve_mul h1037 v1011 vb_neg1 (by decide)
  refine evP_c fun h1038 => ?_
  have v1038 : VB (r 1038).toF (((b2 * a0) - (b0 * a2)) * (-1)) 5000 := ve_mul h1038 v1014 vb_neg1 (by decide)
  refine evP_c fun h1039 => ?_
  have v1039 : VB (r 1039).toF (((b0 * a1) - (b1 * a0)) * (-1)) 5000 := ve_mul h1039 v1017 vb_neg1 (by decide)
  refine evP_t (vb_eq v1002 v1037 (by grind)) ?_
  refine evP_t (vb_eq v1005 v1038 (by grind)) ?_
  refine evP_t (vb_eq v1008 v1039 (by grind)) ?_
  refine evP_c fun h1040 => ?_
  have v1040 : VB (r 1040).toF (a0 + a0) 100 := ve_add h1040 hA0 hA0 (by decide)
  refine evP_c fun h1041 => ?_
  have v1041 : VB (r 1041).toF (a1 + a1) 100 := ve_add h1041 hA1 hA1 (by decide)
  refine evP_c fun h1042 => ?_
  have v1042 : VB (r 1042).toF (a2 + a2) 100 := ve_add h1042 hA2 hA2 (by decide)
  refine evP_t (vb_eq v1024 v1040 (by grind)) ?_
  refine evP_t (vb_eq v1025 v1041 (by grind)) ?_
  refine evP_t (vb_eq v1026 v1042 (by grind)) ?_
  refine evP_c fun h1043 => ?_
  have v1043 : VB (r 1043).toF (a0 * a0) 2500 := ve_mul h1043 hA0 hA0 (by decide)
  refine evP_c fun h1044 => ?_
  have v1044 : VB (r 1044).toF (a1 * a1) 2500 := ve_mul h1044 hA1 hA1 (by decide)
  refine evP_c fun h1045 => ?_
  have v1045 : VB (r 1045).toF ((a0 * a0) + (a1 * a1)) 5000 := ve_add h1045 v1043 v1044 (by decide)
  refine evP_c fun h1046 => ?_
  have v1046 : VB (r 1046).toF (a2 * a2) 2500 := ve_mul h1046 hA2 hA2 (by decide)
  refine evP_c fun h1047 => ?_
  have v1047 : VB (r 1047).toF (((a0 * a0) + (a1 * a1)) + (a2 * a2)) 7500 := ve_add h1047 v1045 v1046 (by decide)
  refine evP_t (vb_eq v1047 v1047 (by grind)) ?_
  refine evP_c fun h1048 => ?_
  refine evP_c fun h1049 => ?_
  refine evP_t (t := _) (by show Fl.convOk .f64 .f32 (r 1049).toF = true; rw [h1049]; show Fl.convOk .f64 .f32 (Fl.sqrt (r 1048).toF) = true; rw [h1048]; exact root_ok32 _) ?_
  refine evP_c fun h1050 => ?_
  refine evP_c fun h1051 => ?_
  have v1051 : VB (r 1051).toF (b0 - a0) 100 := ve_sub h1051 hB0 hA0 (by decide)
  refine evP_c fun h1052 => ?_
  have v1052 : VB (r 1052).toF (b1 - a1) 100 := ve_sub h1052 hB1 hA1 (by decide)
  refine evP_c fun h1053 => ?_
  have v1053 : VB (r 1053).toF (b2 - a2) 100 := ve_sub h1053 hB2 hA2 (by decide)
  refine evP_c fun h1054 => ?_
  have v1054 : VB (r 1054).toF ((b0 - a0) * 0) 0 := ve_mul h1054 v1051 vb_zero (by decide)
  refine evP_c fun h1055 => ?_
  have v1055 : VB (r 1055).toF ((b1 - a1) * 0) 0 := ve_mul h1055 v1052 vb_zero (by decide)
  refine evP_c fun h1056 => ?_
  have v1056 : VB (r 1056).toF ((b2 - a2) * 0) 0 := ve_mul h1056 v1053 vb_zero (by decide)
  refine evP_c fun h1057 => ?_
  have v1057 : VB (r 1057).toF (a0 + ((b0 - a0) * 0)) 50 := ve_add h1057 hA0 v1054 (by decide)
  refine evP_c fun h1058 => ?_
  have v1058 : VB (r 1058).toF (a1 + ((b1 - a1) * 0)) 50 := ve_add h1058 hA1 v1055 (by decide)
  refine evP_c fun h1059 => ?_
  have v1059 : VB (r 1059).toF (a2 + ((b2 - a2) * 0)) 50 := ve_add h1059 hA2 v1056 (by decide)
  refine evP_t (vb_eq v1057 hA0 (by grind)) ?_
  refine evP_t (vb_eq v1058 hA1 (by grind)) ?_
  refine evP_t (vb_eq v1059 hA2 (by grind)) ?_
  refine evP_c fun h1060 => ?_
  have v1060 : VB (r 1060).toF ((b0 - a0) * 1) 100 := ve_mul h1060 v1051 vb_one (by decide)
  refine evP_c fun h1061 => ?_
  have v1061 : VB (r 1061).toF ((b1 - a1) * 1) 100 := ve_mul h1061 v1052 vb_one (by decide)
  refine evP_c fun h1062 => ?_
  have v1062 : VB (r 1062).toF ((b2 - a2) * 1) 100 := ve_mul h1062 v1053 vb_one (by decide)
  refine evP_c fun h1063 => ?_
  have v1063 : VB (r 1063).toF (a0 + ((b0 - a0) * 1)) 150 := ve_add h1063 hA0 v1060 (by decide)
  refine evP_c fun h1064 => ?_
  have v1064 : VB (r 1064).toF (a1 + ((b1 - a1) * 1)) 150 := ve_add h1064 hA1 v1061 (by decide)
  refine evP_c fun h1065 => ?_
  have v1065 : VB (r 1065).toF (a2 + ((b2 - a2) * 1)) 150 := ve_add h1065 hA2 v1062 (by decide)
  refine evP_t (vb_eq v1063 hB0 (by grind)) ?_
  refine evP_t (vb_eq v1064 hB1 (by grind)) ?_
  refine evP_t (vb_eq v1065 hB2 (by grind)) ?_
  exact hT
theorem vec_all (r : Nat → D) : evB vecU LN r = true := by
  refine evP_ok okN fun r _ => ?_
  obtain ⟨a0, hA0⟩ : ∃ a, VB (eA0.ev vecU r).toF a 50 := Pv.sm_word (by decide) u30 ok5 rfl small5 r [.v 0] (j := 0) (by decide)
  obtain ⟨b0, hB0⟩ : ∃ a, VB (eB0.ev vecU r).toF a 50 := Pv.sm_word (by decide) u30 ok5 rfl small5 r [.v 1] (j := 0) (by decide)
  obtain ⟨a1, hA1⟩ : ∃ a, VB (eA1.ev vecU r).toF a 50 := Pv.sm_word (by decide) u30 ok5 rfl small5 r [.v 0] (j := 1) (by decide)
  obtain ⟨b1, hB1⟩ : ∃ a, VB (eB1.ev vecU r).toF a 50 := Pv.sm_word (by decide) u30 ok5 rfl small5 r [.v 1] (j := 1) (by decide)
  obtain ⟨a2, hA2⟩ : ∃ a, VB (eA2.ev vecU r).toF a 50 := Pv.sm_word (by decide) u30 ok5 rfl small5 r [.v 0] (j := 2) (by decide)
  obtain ⟨b2, hB2⟩ : ∃ a, VB (eB2.ev vecU r).toF a 50 := Pv.sm_word (by decide) u30 ok5 rfl small5 r [.v 1] (j := 2) (by decide)
  exact vec_go hA0 hA1 hA2 hB0 hB1 hB2 tail_ok

theorem fnVectors_law : LawIsA vecU (resT (cfN 3 (argGoA 0 0 twoB) (cxA twoB))) := by
  rw [lN]
  exact law_of_ev okN vec_all

def cellsOf : Nat → DataW Unit → List Value
  | 0, _ => []
  | _ + 1, .lit (.int k v) => [.int k v]
  | n + 1, .agg l => l.flatMap (cellsOf n)
  | _, _ => []
def fill (d : DataW Unit) : Obj → Obj
  | .cells _ t fz => .cells (cellsOf 3 d).toArray t fz
  | o => o
/-- The settled world, with the tables laid. -/
noncomputable def laidWorld (os : Os) : World :=
  let w0 := World.holding Tryd.prog os ⟨#[], #[], []⟩
  { w0 with heap := (w0.heap.modify 2 (fill Rows.laid_unicode_utf8_first)).modify 3 (fill Rows.laid_unicode_utf8_acceptRanges) }
theorem laid_met (os : Os) (args : Array Value) : laidMet Tryd.prog Rows.fnVectorsRow.laid ((laidWorld os).forCall (fun _ _ => 0) ⟨#[], args, []⟩).memory :=
  laidMet_of_run' 8 (by kernel_rfl) (by kernel_rfl)

theorem fnVectors_lifted (os : Os) (started : os.Started) (H : Type) (enc : TypeId × Value → H) :
    ReturnsInHanded {} Tryd.checked os 3 .any (fun w args => (Rows.fnVectorsSpec.pre enc Tryd.prog Tryd.f3 Rows.fnVectorsRow.domain false w args ∧ laidMet Tryd.prog Rows.fnVectorsRow.laid w) ∧ sizedMet enc Tryd.prog Tryd.f3 (OpenSpec.ofChange Rows.fnVectorsSpec) false w args)
      (Rows.fnVectorsSpec.post enc Tryd.prog Tryd.f3 false true false false) :=
  row_lawL (C := Tryd.checked) (U := vecU) (cf := cfN) (f := 3) («as» := twoB) (X := fun w _ => laidMet Tryd.prog Rows.fnVectorsRow.laid w) (fun _ _ _ hh h => h.of_heap hh) Tryd.own Tryd.laidOut started (by kernel_rfl) Tryd.names cfN_ok Tryd.func3 rfl rfl (by kernel_rfl) (by kernel_rfl) rfl
    (fun ds h => by match ds, h with | [_, _], _ => rfl)
    (ChangeSpec.witness_at (enc := enc) (C := Tryd.checked) (os := os) (X := fun w _ => laidMet Tryd.prog Rows.fnVectorsRow.laid w) false (laidWorld os) #[.slice none 0 0, .slice none 0 0] 8 rfl (by kernel_rfl) (by kernel_rfl) (by kernel_rfl) (by kernel_rfl) (by kernel_rfl) (laid_met os _))
    (by kernel_rfl) (by kernel_rfl) (by kernel_rfl) (by kernel_rfl) fnVectors_law

theorem fnVectors_holds : Rows.FnVectorsSaid :=
  OpenClaim.holds_of_wide 3 Tryd.f3 rfl rfl rfl rfl rfl rfl rfl ⟨rfl, rfl, rfl, rfl, rfl⟩ rfl rfl rfl rfl rfl (by kernel_rfl) Tryd.func3 (by kernel_rfl)
    (of_decide_eq_true (by kernel_rfl)) (by unfold Func.isWrapper; first | (rw [if_pos (by decide +kernel)]; kernel_rfl) | (rw [if_neg (by decide +kernel)]; exact ⟨rfl, rfl⟩))
    (fun os started H enc _ => fnVectors_lifted os started H enc)

theorem fnVectors_card : Rows.FnVectorsCardSaid :=
  Claim7.holds_tied_plain_at .later [] [.data, .pinned] true (true, "4b79342a06011da7ebf688a8c0c05e12da5887ebed11eb5f74d181f89b209402") false
    fnVectors_holds (fun _ h => by cases h) (by kernel_rfl) (fun _ h => by cases h) fnVectors_row_tie rfl ⟨rfl, rfl⟩ (by kernel_rfl) rfl
    (fun f fn hf hfn => by
      obtain rfl : f = 3 := Option.some.inj ((show Tryd.prog.funcNamed "loop.example/g01253/laws.FnVectors" = some 3 by kernel_rfl).symm.trans hf) |>.symm
      obtain rfl : fn = Tryd.f3 := (Option.some.inj (Tryd.func3.symm.trans hfn)).symm
      exact ⟨by kernel_rfl, fun j t ht => by
        have hm : t ∈ Tryd.f3.params := Array.mem_of_getElem? ht
        have hall : (Tryd.f3.params.toList.all fun u => !Tryd.prog.wantsStandIn u) = true := by kernel_rfl
        exact (show Tryd.prog.wantsStandIn t = false by simpa using List.all_eq_true.1 hall t (by simpa using hm))⟩)
    (by kernel_rfl)

end Go.Proofs.YtcloacigldklkaaDoor
