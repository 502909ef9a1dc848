/-
  WholeT: all contracts of a chain and its text, the words, and the walk with them.
-/
import Derived.Test.YtjedoigphjbgmaaDoorRodsT
namespace Go.Proofs.YtjedoigphjbgmaaDoor
open Go.Sx
set_option maxRecDepth 100000

section
variable {U : Nat → D → D}
def isR22 : E × Bool → Option (E × E)
  | (.app 22 (.o2 .lpush (.o2 .lpush (.o2 .lrep (.i 0) (.b false)) row) n), true) => some (row, n)
  | _ => none
def smallF (s : SV) (c : Cx) : SV × List (E × Bool) := match c.pc.findSome? isR22 with
  | some (row, n) => if sure (.o2 .ile n (.i 64)) c.pc then (s, [(small row, true)]) else (s, [])
  | none => (s, [])
theorem smallF_ok (h : ChainWords U) (s : SV) (c : Cx) (r : Nat → D) (g : Gh) (L : Nat → Prop) (v : Value) (hp : PcOk U r c.pc) (hd : s.den U r g L v) : (smallF s c).1.den U r g L v ∧ PcOk U r (smallF s c).2 := by
  have none_ : PcOk U r [] := fun x hx => by cases hx
  unfold smallF
  split
  case h_2 => exact ⟨hd, none_⟩
  rename_i row n hf
  split
  case isFalse => exact ⟨hd, none_⟩
  rename_i hn
  refine ⟨hd, fun x hx => ?_⟩
  rw [List.mem_singleton.1 hx]
  obtain ⟨p, hpm, hpk⟩ := List.exists_of_findSome?_eq_some hf
  have hpv := hp _ hpm
  unfold isR22 at hpk
  split at hpk
  case h_2 => cases hpk
  cases hpk
  have hn : (n.ev U r).toI ≤ 64 := of_decide_eq_true (sure_ok hp hn)
  have hpv : (U 22 (.l [row.ev U r, n.ev U r])).toB = true := hpv
  show (U 27 ((elemE [row]).ev U r)).toB = true
  rw [elemE_ev, List.map_cons, List.map_nil, h.w27]
  rw [h.w22] at hpv
  have hpv : ((row.ev U r).toL.all fun el => goodD 3 PR el fun j => (D.l [row.ev U r, n.ev U r]).at_ (j + 1)) = true := hpv
  show ((row.ev U r).toL.all fun el => goodD 3 PW el fun j => (D.l [row.ev U r]).at_ (j + 1)) = true
  exact List.all_eq_true.2 fun el he => goodPR (List.all_eq_true.1 hpv el he) hn _
noncomputable def E14 := textL Tryd.prog ctT (loopsAt [(3, 0, R14)]) 100 Tryd.f14 body14
theorem e14 (h : ChainWords U) : EntryOk U Tryd.prog 14 E14 := loopsFn_entry Tryd.mixes Tryd.names (ctT_ok h.w1) Tryd.func14 (by kernel_rfl) (by kernel_rfl) (fun e he => by rw [List.mem_singleton.1 he]; exact told_ok Tryd.mixes Tryd.names (ctT_ok h.w1) (by kernel_rfl) okT14 (told14))
noncomputable def E15 := textL Tryd.prog ctT (loopsAt [(3, 0, R15)]) 100 Tryd.f15 body15
theorem e15 (h : ChainWords U) : EntryOk U Tryd.prog 15 E15 := loopsFn_entry Tryd.mixes Tryd.names (ctT_ok h.w1) Tryd.func15 (by kernel_rfl) (by kernel_rfl) (fun e he => by rw [List.mem_singleton.1 he]; exact told_ok Tryd.mixes Tryd.names (ctT_ok h.w1) (by kernel_rfl) okT15 (told15))
noncomputable def E16 := textL Tryd.prog ctT (loopsAt [(3, 0, R16)]) 100 Tryd.f16 body16
theorem e16 (h : ChainWords U) : EntryOk U Tryd.prog 16 E16 := loopsFn_entry Tryd.mixes Tryd.names (ctT_ok h.w1) Tryd.func16 (by kernel_rfl) (by kernel_rfl) (fun e he => by rw [List.mem_singleton.1 he]; exact told_ok Tryd.mixes Tryd.names (ctT_ok h.w1) (by kernel_rfl) okT16 (told16))
noncomputable def E23 := textL Tryd.prog ctT (loopsAt [(4, 0, R23)]) 100 Tryd.f23 body23
theorem e23 (h : ChainWords U) : EntryOk U Tryd.prog 23 E23 := loopsFn_entry Tryd.mixes Tryd.names (ctT_ok h.w1) Tryd.func23 (by kernel_rfl) (by kernel_rfl) (fun e he => by rw [List.mem_singleton.1 he]; exact told_ok Tryd.mixes Tryd.names (ctT_ok h.w1) (by kernel_rfl) okT23 (told23 h.toRowWords))
noncomputable def E24 := textL Tryd.prog ctT (loopsAt [(4, 0, R24)]) 100 Tryd.f24 body24
theorem e24 (h : ChainWords U) : EntryOk U Tryd.prog 24 E24 := loopsFn_entry Tryd.mixes Tryd.names (ctT_ok h.w1) Tryd.func24 (by kernel_rfl) (by kernel_rfl) (fun e he => by rw [List.mem_singleton.1 he]; exact told_ok Tryd.mixes Tryd.names (ctT_ok h.w1) (by kernel_rfl) okT24 (told24 h.toRowWords))
noncomputable def E25 := textL Tryd.prog ctT (loopsAt [(4, 0, R25)]) 100 Tryd.f25 body25
theorem e25 (h : ChainWords U) : EntryOk U Tryd.prog 25 E25 := loopsFn_entry Tryd.mixes Tryd.names (ctT_ok h.w1) Tryd.func25 (by kernel_rfl) (by kernel_rfl) (fun e he => by rw [List.mem_singleton.1 he]; exact told_ok Tryd.mixes Tryd.names (ctT_ok h.w1) (by kernel_rfl) okT25 (told25 h.toRowWords))
noncomputable def E12t := textL Tryd.prog ctT (loopsAt [(5, 0, R12a), (11, 1, R12b)]) 100 Tryd.f12 body12
theorem e12t (h : ChainWords U) : EntryOk U Tryd.prog 12 E12t := loopsFn_entry Tryd.mixes Tryd.names (ctT_ok h.w1) Tryd.func12 (by kernel_rfl) (by kernel_rfl) (fun e he => by rcases List.mem_cons.1 he with rfl | he; exact told_ok Tryd.mixes Tryd.names (ctT_ok h.w1) (by kernel_rfl) okT12a (told12a h.toRowWords); rw [List.mem_singleton.1 he]; exact told_ok Tryd.mixes Tryd.names (ctT_ok h.w1) (by kernel_rfl) okT12b (told12b h.toRowWords))
noncomputable def E12 := rwRun smallF E12t
theorem e12 (h : ChainWords U) : EntryOk U Tryd.prog 12 E12 := rw_entry (e12t h) (smallF_ok h)
noncomputable def E56 := textL Tryd.prog ctT (loopsAt [(2, 0, R56)]) 100 Tryd.f56 body56
theorem e56 (h : ChainWords U) : EntryOk U Tryd.prog 56 E56 := loopsFn_entry Tryd.mixes Tryd.names (ctT_ok h.w1) Tryd.func56 (by kernel_rfl) (by kernel_rfl) (fun e he => by rw [List.mem_singleton.1 he]; exact told_ok Tryd.mixes Tryd.names (ctT_ok h.w1) (by kernel_rfl) okT56 (told56 h.toRowWords))
noncomputable def E58 := textL Tryd.prog ctT (loopsAt [(2, 0, R58)]) 100 Tryd.f58 body58
theorem e58 (h : ChainWords U) : EntryOk U Tryd.prog 58 E58 := loopsFn_entry Tryd.mixes Tryd.names (ctT_ok h.w1) Tryd.func58 (by kernel_rfl) (by kernel_rfl) (fun e he => by rw [List.mem_singleton.1 he]; exact told_ok Tryd.mixes Tryd.names (ctT_ok h.w1) (by kernel_rfl) okT58 (told58 h.toRowWords))
noncomputable def E60 := textL Tryd.prog ctT (loopsAt [(2, 0, R60)]) 100 Tryd.f60 body60
theorem e60 (h : ChainWords U) : EntryOk U Tryd.prog 60 E60 := loopsFn_entry Tryd.mixes Tryd.names (ctT_ok h.w1) Tryd.func60 (by kernel_rfl) (by kernel_rfl) (fun e he => by rw [List.mem_singleton.1 he]; exact told_ok Tryd.mixes Tryd.names (ctT_ok h.w1) (by kernel_rfl) okT60 (told60 h.toRowWords))
noncomputable def ctV : Contracts := ((((((((((ctK.add 14 E14).add 15 E15).add 16 E16).add 23 E23).add 24 E24).add 25 E25).add 12 E12).add 56 E56).add 58 E58).add 60 E60)
theorem ctV_ok (h : ChainWords U) : ContractsOk U Tryd.prog ctV := ((((((((((ctK_ok h).add (e14 h)).add (e15 h)).add (e16 h)).add (e23 h)).add (e24 h)).add (e25 h)).add (e12 h)).add (e56 h)).add (e58 h)).add (e60 h)
noncomputable def E21 := textL Tryd.prog ctK (loopsAt [(3, 0, R21)]) 100 Tryd.f21 body21
theorem e21 (h : ChainWords U) : EntryOk U Tryd.prog 21 E21 := loopsFn_entry Tryd.mixes Tryd.names (ctK_ok h) Tryd.func21 (by kernel_rfl) (by kernel_rfl) (fun e he => by rw [List.mem_singleton.1 he]; exact told_ok Tryd.mixes Tryd.names (ctK_ok h) (by kernel_rfl) okT21 (told21 h))
noncomputable def E29t := textL Tryd.prog ctK (loopsAt [(5, 0, R29)]) 100 Tryd.f29 body29
theorem e29t (h : ChainWords U) : EntryOk U Tryd.prog 29 E29t := loopsFn_entry Tryd.mixes Tryd.names (ctK_ok h) Tryd.func29 (by kernel_rfl) (by kernel_rfl) (fun e he => by rw [List.mem_singleton.1 he]; exact told_ok Tryd.mixes Tryd.names (ctK_ok h) (by kernel_rfl) okT29 (told29 h))
noncomputable def E29 := rwRun (Tw.rwText 3 hV 63 64) E29t
theorem e29 (h : ChainWords U) : EntryOk U Tryd.prog 29 E29 := rw_entry (e29t h) (Tw.rwText_ok (floatWord h.w1) hVb hVl (by omega) h.w63 h.w64)
noncomputable def E31 := textL Tryd.prog ctK (loopsAt [(5, 0, R31)]) 100 Tryd.f31 body31
theorem e31 (h : ChainWords U) : EntryOk U Tryd.prog 31 E31 := loopsFn_entry Tryd.mixes Tryd.names (ctK_ok h) Tryd.func31 (by kernel_rfl) (by kernel_rfl) (fun e he => by rw [List.mem_singleton.1 he]; exact told_ok Tryd.mixes Tryd.names (ctK_ok h) (by kernel_rfl) okT31 (told31 h))
noncomputable def ctW : Contracts := ((ctV.add 21 E21).add 29 E29).add 31 E31
theorem ctW_ok (h : ChainWords U) : ContractsOk U Tryd.prog ctW := (((ctV_ok h).add (e21 h)).add (e29 h)).add (e31 h)
noncomputable def E7 := textL Tryd.prog ctW (loopsAt [(5, 0, R7)]) 100 Tryd.f7 body7
theorem e7 (h : ChainWords U) : EntryOk U Tryd.prog 7 E7 := loopsFn_entry Tryd.mixes Tryd.names (ctW_ok h) Tryd.func7 (by kernel_rfl) (by kernel_rfl) (fun e he => by rw [List.mem_singleton.1 he]; exact told_ok Tryd.mixes Tryd.names (ctK_ok h) (by kernel_rfl) okT7 (told7 h))
noncomputable def cfW := callX Tryd.prog ctW (exec Tryd.prog ctW 100)
theorem cfW_ok (h : ChainWords U) : CallsOk U Tryd.prog cfW := @calls_ok U Tryd.prog ctW Tryd.mixes Tryd.names (ctW_ok h) 100
noncomputable def E13 := rwRun Tw.canonS (cfW 13)
theorem e13 (h : ChainWords U) : EntryOk U Tryd.prog 13 E13 := rw_entry (cfW_ok h 13) Tw.canonS_ok
noncomputable def ctN : Contracts := (ctW.add 7 E7).add 13 E13
theorem ctN_ok (h : ChainWords U) : ContractsOk U Tryd.prog ctN := ((ctW_ok h).add (e7 h)).add (e13 h)
end
def idU : Nat → D → D := fun _ d => d
noncomputable def bitU : Nat → D → D := fun n d => bif Nat.beq n 1 then opVal bitsT (ptCount [F1]) RI d else d
noncomputable def chainU : Nat → D → D := fun n d => bif Nat.beq n 1 then opVal bitsT (ptCount [F1]) RI d else bif Nat.beq n 2 then Tw.decVal d else bif Nat.beq n 10 then loopVal idU A23.inv T23 d else bif Nat.beq n 11 then loopVal idU A24.inv T24 d else bif Nat.beq n 12 then loopVal idU A25.inv T25 d else bif Nat.beq n 30 then loopVal idU A56.inv T56 d else bif Nat.beq n 31 then loopVal idU A58.inv T58 d else bif Nat.beq n 33 then loopVal idU A60.inv T60 d else bif Nat.beq n 20 then allVal 3 PV d else bif Nat.beq n 21 then allVal 1 PL d else bif Nat.beq n 22 then allVal 3 PR d else bif Nat.beq n 27 then allVal 3 PW d else bif Nat.beq n 52 then .l (Tv.partL bitU h8 d.toL) else bif Nat.beq n 53 then .s (Tv.tailS bitU 44 h8 (d.toL.drop 1)) else bif Nat.beq n 54 then .s (Tv.joinD bitU 44 h8 d.toL) else bif Nat.beq n 62 then .l (Tv.partL bitU hV d.toL) else bif Nat.beq n 63 then .s (Tv.tailS bitU 47 hV (d.toL.drop 1)) else bif Nat.beq n 64 then .s (Tv.joinD bitU 47 hV d.toL) else bif Nat.beq n 72 then .l (Tw.partL (elR bitU) d.toL) else bif Nat.beq n 74 then .s (Tw.joinD 47 (elR bitU) d.toL) else d
theorem bits_same {h : E} (hl : h.lowW 2 = true) (r : Nat → D) : h.ev bitU r = h.ev chainU r := by
  rw [E.ev_lowW (N := 2) (U := bitU) (U' := chainU) (fun n hn => by
    funext d
    match n, hn with
    | 0, _ => rfl
    | 1, _ => rfl) hl]
theorem el_same {h : E} (hl : h.lowW 2 = true) : Tv.elS bitU h = Tv.elS chainU h := by
  funext d
  unfold Tv.elS
  rw [bits_same hl]
theorem tail_same {sep : UInt8} {h : E} (hl : h.lowW 2 = true) : ∀ l : List D, Tv.tailS bitU sep h l = Tv.tailS chainU sep h l := by
  intro l
  induction l with
  | nil => rfl
  | cons d l ih => show _ ++ Tv.elS bitU h d ++ Tv.tailS bitU sep h l = _ ++ Tv.elS chainU h d ++ Tv.tailS chainU sep h l; rw [ih, el_same hl]
theorem elR_same : elR bitU = elR chainU := by
  funext d
  unfold elR
  rw [bits_same (by kernel_rfl)]
theorem chainWords : ChainWords chainU where
  w1 d := by kernel_rfl
  w2 d := by kernel_rfl
  w10 d := (show chainU 10 d = loopVal idU A23.inv T23 d by kernel_rfl).trans (loopVal_below (N := 0) (fun _ h => absurd h (Nat.not_lt_zero _)) (by kernel_rfl) (by kernel_rfl) d)
  w11 d := (show chainU 11 d = loopVal idU A24.inv T24 d by kernel_rfl).trans (loopVal_below (N := 0) (fun _ h => absurd h (Nat.not_lt_zero _)) (by kernel_rfl) (by kernel_rfl) d)
  w12 d := (show chainU 12 d = loopVal idU A25.inv T25 d by kernel_rfl).trans (loopVal_below (N := 0) (fun _ h => absurd h (Nat.not_lt_zero _)) (by kernel_rfl) (by kernel_rfl) d)
  w30 d := (show chainU 30 d = loopVal idU A56.inv T56 d by kernel_rfl).trans (loopVal_below (N := 0) (fun _ h => absurd h (Nat.not_lt_zero _)) (by kernel_rfl) (by kernel_rfl) d)
  w31 d := (show chainU 31 d = loopVal idU A58.inv T58 d by kernel_rfl).trans (loopVal_below (N := 0) (fun _ h => absurd h (Nat.not_lt_zero _)) (by kernel_rfl) (by kernel_rfl) d)
  w33 d := (show chainU 33 d = loopVal idU A60.inv T60 d by kernel_rfl).trans (loopVal_below (N := 0) (fun _ h => absurd h (Nat.not_lt_zero _)) (by kernel_rfl) (by kernel_rfl) d)
  w20 d := by kernel_rfl
  w21 d := by kernel_rfl
  w22 d := by kernel_rfl
  w27 d := by kernel_rfl
  w52 d := by
    show D.l (Tv.partL bitU h8 d.toL) = _
    unfold Tv.partL
    rw [el_same (by kernel_rfl)]
  w53 d := by
    show D.s (Tv.tailS bitU 44 h8 (d.toL.drop 1)) = _
    rw [tail_same (by kernel_rfl)]
  w54 d := by
    show D.s (Tv.joinD bitU 44 h8 d.toL) = _
    unfold Tv.joinD
    rw [el_same (by kernel_rfl)]
  w62 d := by
    show D.l (Tv.partL bitU hV d.toL) = _
    unfold Tv.partL
    rw [el_same (by kernel_rfl)]
  w63 d := by
    show D.s (Tv.tailS bitU 47 hV (d.toL.drop 1)) = _
    rw [tail_same (by kernel_rfl)]
  w64 d := by
    show D.s (Tv.joinD bitU 47 hV d.toL) = _
    unfold Tv.joinD
    rw [el_same (by kernel_rfl)]
  w72 d := by
    show D.l (Tw.partL (elR bitU) d.toL) = _
    rw [elR_same]
  w74 d := by
    show D.s (Tw.joinD 47 (elR bitU) d.toL) = _
    rw [elR_same]
noncomputable def cfN := callX Tryd.prog ctN (exec Tryd.prog ctN 100)
theorem cfN_ok : CallsOk chainU Tryd.prog cfN := @calls_ok chainU Tryd.prog ctN Tryd.mixes Tryd.names (ctN_ok chainWords) 100
abbrev chArg : List AArg := [.ag [.row KV, .row KV, .row KF, .row KR]]
end Go.Proofs.YtjedoigphjbgmaaDoor
