/-
  RodsT: texts of vectors and rods, and the loops that make them, each told once.
-/
import Derived.Test.YtjedoigphjbgmaaDoorRowsT
namespace Go.Proofs.YtjedoigphjbgmaaDoor
open Go.Sx
set_option maxRecDepth 100000

def hV : E := (.o2 .scat (.o1 .byte (.o2 .sidx (.s [48, 49, 50, 51, 52, 53, 54, 55, 56, 57, 97, 98, 99, 100, 101, 102]) (.o2 (.iand .i64) (.o2 .ishr (.app 1 (.v 1000)) (.i 28)) (.i 15)))) (.o2 .scat (.o1 .byte (.o2 .sidx (.s [48, 49, 50, 51, 52, 53, 54, 55, 56, 57, 97, 98, 99, 100, 101, 102]) (.o2 (.iand .i64) (.o2 .ishr (.app 1 (.v 1000)) (.i 24)) (.i 15)))) (.o2 .scat (.o1 .byte (.o2 .sidx (.s [48, 49, 50, 51, 52, 53, 54, 55, 56, 57, 97, 98, 99, 100, 101, 102]) (.o2 (.iand .i64) (.o2 .ishr (.app 1 (.v 1000)) (.i 20)) (.i 15)))) (.o2 .scat (.o1 .byte (.o2 .sidx (.s [48, 49, 50, 51, 52, 53, 54, 55, 56, 57, 97, 98, 99, 100, 101, 102]) (.o2 (.iand .i64) (.o2 .ishr (.app 1 (.v 1000)) (.i 16)) (.i 15)))) (.o2 .scat (.o1 .byte (.o2 .sidx (.s [48, 49, 50, 51, 52, 53, 54, 55, 56, 57, 97, 98, 99, 100, 101, 102]) (.o2 (.iand .i64) (.o2 .ishr (.app 1 (.v 1000)) (.i 12)) (.i 15)))) (.o2 .scat (.o1 .byte (.o2 .sidx (.s [48, 49, 50, 51, 52, 53, 54, 55, 56, 57, 97, 98, 99, 100, 101, 102]) (.o2 (.iand .i64) (.o2 .ishr (.app 1 (.v 1000)) (.i 8)) (.i 15)))) (.o2 .scat (.o1 .byte (.o2 .sidx (.s [48, 49, 50, 51, 52, 53, 54, 55, 56, 57, 97, 98, 99, 100, 101, 102]) (.o2 (.iand .i64) (.o2 .ishr (.app 1 (.v 1000)) (.i 4)) (.i 15)))) (.o2 .scat (.o1 .byte (.o2 .sidx (.s [48, 49, 50, 51, 52, 53, 54, 55, 56, 57, 97, 98, 99, 100, 101, 102]) (.o2 (.iand .i64) (.o2 .ishr (.app 1 (.v 1000)) (.i 0)) (.i 15)))) (.o2 .scat (.s [44]) (.o2 .scat (.o1 .byte (.o2 .sidx (.s [48, 49, 50, 51, 52, 53, 54, 55, 56, 57, 97, 98, 99, 100, 101, 102]) (.o2 (.iand .i64) (.o2 .ishr (.app 1 (.v 1001)) (.i 28)) (.i 15)))) (.o2 .scat (.o1 .byte (.o2 .sidx (.s [48, 49, 50, 51, 52, 53, 54, 55, 56, 57, 97, 98, 99, 100, 101, 102]) (.o2 (.iand .i64) (.o2 .ishr (.app 1 (.v 1001)) (.i 24)) (.i 15)))) (.o2 .scat (.o1 .byte (.o2 .sidx (.s [48, 49, 50, 51, 52, 53, 54, 55, 56, 57, 97, 98, 99, 100, 101, 102]) (.o2 (.iand .i64) (.o2 .ishr (.app 1 (.v 1001)) (.i 20)) (.i 15)))) (.o2 .scat (.o1 .byte (.o2 .sidx (.s [48, 49, 50, 51, 52, 53, 54, 55, 56, 57, 97, 98, 99, 100, 101, 102]) (.o2 (.iand .i64) (.o2 .ishr (.app 1 (.v 1001)) (.i 16)) (.i 15)))) (.o2 .scat (.o1 .byte (.o2 .sidx (.s [48, 49, 50, 51, 52, 53, 54, 55, 56, 57, 97, 98, 99, 100, 101, 102]) (.o2 (.iand .i64) (.o2 .ishr (.app 1 (.v 1001)) (.i 12)) (.i 15)))) (.o2 .scat (.o1 .byte (.o2 .sidx (.s [48, 49, 50, 51, 52, 53, 54, 55, 56, 57, 97, 98, 99, 100, 101, 102]) (.o2 (.iand .i64) (.o2 .ishr (.app 1 (.v 1001)) (.i 8)) (.i 15)))) (.o2 .scat (.o1 .byte (.o2 .sidx (.s [48, 49, 50, 51, 52, 53, 54, 55, 56, 57, 97, 98, 99, 100, 101, 102]) (.o2 (.iand .i64) (.o2 .ishr (.app 1 (.v 1001)) (.i 4)) (.i 15)))) (.o2 .scat (.o1 .byte (.o2 .sidx (.s [48, 49, 50, 51, 52, 53, 54, 55, 56, 57, 97, 98, 99, 100, 101, 102]) (.o2 (.iand .i64) (.o2 .ishr (.app 1 (.v 1001)) (.i 0)) (.i 15)))) (.o2 .scat (.s [44]) (.o2 .scat (.o1 .byte (.o2 .sidx (.s [48, 49, 50, 51, 52, 53, 54, 55, 56, 57, 97, 98, 99, 100, 101, 102]) (.o2 (.iand .i64) (.o2 .ishr (.app 1 (.v 1002)) (.i 28)) (.i 15)))) (.o2 .scat (.o1 .byte (.o2 .sidx (.s [48, 49, 50, 51, 52, 53, 54, 55, 56, 57, 97, 98, 99, 100, 101, 102]) (.o2 (.iand .i64) (.o2 .ishr (.app 1 (.v 1002)) (.i 24)) (.i 15)))) (.o2 .scat (.o1 .byte (.o2 .sidx (.s [48, 49, 50, 51, 52, 53, 54, 55, 56, 57, 97, 98, 99, 100, 101, 102]) (.o2 (.iand .i64) (.o2 .ishr (.app 1 (.v 1002)) (.i 20)) (.i 15)))) (.o2 .scat (.o1 .byte (.o2 .sidx (.s [48, 49, 50, 51, 52, 53, 54, 55, 56, 57, 97, 98, 99, 100, 101, 102]) (.o2 (.iand .i64) (.o2 .ishr (.app 1 (.v 1002)) (.i 16)) (.i 15)))) (.o2 .scat (.o1 .byte (.o2 .sidx (.s [48, 49, 50, 51, 52, 53, 54, 55, 56, 57, 97, 98, 99, 100, 101, 102]) (.o2 (.iand .i64) (.o2 .ishr (.app 1 (.v 1002)) (.i 12)) (.i 15)))) (.o2 .scat (.o1 .byte (.o2 .sidx (.s [48, 49, 50, 51, 52, 53, 54, 55, 56, 57, 97, 98, 99, 100, 101, 102]) (.o2 (.iand .i64) (.o2 .ishr (.app 1 (.v 1002)) (.i 8)) (.i 15)))) (.o2 .scat (.o1 .byte (.o2 .sidx (.s [48, 49, 50, 51, 52, 53, 54, 55, 56, 57, 97, 98, 99, 100, 101, 102]) (.o2 (.iand .i64) (.o2 .ishr (.app 1 (.v 1002)) (.i 4)) (.i 15)))) (.o1 .byte (.o2 .sidx (.s [48, 49, 50, 51, 52, 53, 54, 55, 56, 57, 97, 98, 99, 100, 101, 102]) (.o2 (.iand .i64) (.o2 .ishr (.app 1 (.v 1002)) (.i 0)) (.i 15)))))))))))))))))))))))))))))
theorem hVb : Tv.onlyB 3 hV = true := by kernel_rfl
theorem hVt : isTxt hV = true := by kernel_rfl
theorem hVl : E.lenE hV = some 26 := by kernel_rfl
theorem h8cb : Tv.onlyB 1 h8c = true := by kernel_rfl
theorem h8cl : E.lenE h8c = some 8 := by kernel_rfl
def decT (d : D) : ByteArray := ⟨(Tw.decB d.toI.toNat).toArray⟩
theorem decT_size (d : D) : (decT d).size ≤ 2 := by
  show (Tw.decB d.toI.toNat).toArray.size ≤ 2
  rw [List.size_toArray]
  exact Tw.decB_len _
/-- The text of a rod. -/
def elR (U : Nat → D → D) (d : D) : ByteArray := ((decT (d.at_ 0) ++ ((⟨#[44]⟩ : ByteArray) ++ decT (d.at_ 1))) ++ (⟨#[58]⟩ : ByteArray)) ++ (h8c.ev U (fun _ => d.at_ 2)).toS
theorem elR_size (U : Nat → D → D) (d : D) : (elR U d).size ≤ 14 := by
  unfold elR
  rw [ByteArray.size_append, ByteArray.size_append, ByteArray.size_append, ByteArray.size_append, E.lenE_ev U _ h8cl]
  have h1 := decT_size (d.at_ 0)
  have h2 := decT_size (d.at_ 1)
  show _ + (1 + _) + 1 + 8 ≤ 14
  omega
structure ChainWords (U : Nat → D → D) : Prop extends RowWords U where
  w2 : ∀ d, U 2 d = Tw.decVal d
  w27 : ∀ d, U 27 d = allVal 3 PW d
  w62 : ∀ d, U 62 d = .l (Tv.partL U hV d.toL)
  w63 : ∀ d, U 63 d = .s (Tv.tailS U 47 hV (d.toL.drop 1))
  w64 : ∀ d, U 64 d = .s (Tv.joinD U 47 hV d.toL)
  w72 : ∀ d, U 72 d = .l (Tw.partL (elR U) d.toL)
  w74 : ∀ d, U 74 d = .s (Tw.joinD 47 (elR U) d.toL)
section
variable {U : Nat → D → D}
theorem dec42 : Tw.decOk cf1 42 = true := by kernel_rfl
theorem dec68 : Tw.decOk cf1 68 = true := by kernel_rfl
theorem e42 (h : ChainWords U) : EntryOk U Tryd.prog 42 (Tw.decRun 2) := Tw.dec_entry cf1_ok h.w2 dec42
theorem e68 (h : ChainWords U) : EntryOk U Tryd.prog 68 (Tw.decRun 2) := Tw.dec_entry cf1_ok h.w2 dec68
theorem el1_size (U : Nat → D → D) {h : E} {s : Nat} (hl : E.lenE h = some s) (d : D) : (Tv.elS U h d).size ≤ s := Nat.le_of_eq (E.lenE_ev U _ hl)
noncomputable def J20 := Tv.joinRow 52 54 44 (Tv.joinRow 62 64 47 (Tv.joinRow 72 74 47 (rwRun Tw.canonS (Tw.joinRunB (fun _ _ => .bad)))))
theorem e20 (h : ChainWords U) : EntryOk U Tryd.prog 20 J20 :=
  Tw.joinRow_entry (s := 8) (el := Tv.elS U h8) Tryd.names Tryd.func20 rfl join_says
    (Tw.joinRow_entry (s := 26) (el := Tv.elS U hV) Tryd.names Tryd.func20 rfl join_says
      (Tw.joinRow_entry (s := 14) (el := elR U) Tryd.names Tryd.func20 rfl join_says
        (rw_entry (Tw.joinB_entry Tryd.names Tryd.func20 rfl join_says bad_ok) Tw.canonS_ok) h.w72 h.w74 (elR_size U) (by omega)) h.w62 h.w64 (el1_size U hVl) (by omega)) h.w52 h.w54 (el1_size U h8l) (by omega)
noncomputable def ctJ : Contracts := ((ctT.add 20 J20).add 42 (Tw.decRun 2)).add 68 (Tw.decRun 2)
theorem ctJ_ok (h : ChainWords U) : ContractsOk U Tryd.prog ctJ := (((ctT_ok h.w1).add (e20 h)).add (e42 h)).add (e68 h)
noncomputable def E44 := textL Tryd.prog ctJ (loopsAt [(5, 0, R44)]) 100 Tryd.f44 body44
theorem e44 (h : ChainWords U) : EntryOk U Tryd.prog 44 E44 := loopsFn_entry Tryd.mixes Tryd.names (ctJ_ok h) Tryd.func44 (by kernel_rfl) (by kernel_rfl) (fun e he => by rw [List.mem_singleton.1 he]; exact told_ok Tryd.mixes Tryd.names (ctT_ok h.w1) (by kernel_rfl) okT44 (told44 h.toRowWords))
noncomputable def E30t := textL Tryd.prog ctT (loopsAt [(5, 0, R30)]) 100 Tryd.f30 body30
theorem e30t (h : ChainWords U) : EntryOk U Tryd.prog 30 E30t := loopsFn_entry Tryd.mixes Tryd.names (ctT_ok h.w1) Tryd.func30 (by kernel_rfl) (by kernel_rfl) (fun e he => by rw [List.mem_singleton.1 he]; exact told_ok Tryd.mixes Tryd.names (ctT_ok h.w1) (by kernel_rfl) okT30 (told30 h.toRowWords))
noncomputable def E30 := rwRun Tw.canonS (rwRun (Tw.rwText 1 h8 53 54) E30t)
theorem e30 (h : ChainWords U) : EntryOk U Tryd.prog 30 E30 := rw_entry (rw_entry (e30t h) (Tw.rwText_ok (floatWord h.w1) h8b h8l (by omega) h.w53 h.w54)) Tw.canonS_ok
noncomputable def ctK0 : Contracts := (ctJ.add 44 E44).add 30 E30
theorem ctK0_ok (h : ChainWords U) : ContractsOk U Tryd.prog ctK0 := ((ctJ_ok h).add (e44 h)).add (e30 h)
noncomputable def cfK0 := callX Tryd.prog ctK0 (exec Tryd.prog ctK0 100)
theorem cfK0_ok (h : ChainWords U) : CallsOk U Tryd.prog cfK0 := @calls_ok U Tryd.prog ctK0 Tryd.mixes Tryd.names (ctK0_ok h) 100
noncomputable def E53 := rwRun Tw.canonS (cfK0 53)
theorem e53 (h : ChainWords U) : EntryOk U Tryd.prog 53 E53 := rw_entry (cfK0_ok h 53) Tw.canonS_ok
noncomputable def ctK : Contracts := ctK0.add 53 E53
theorem ctK_ok (h : ChainWords U) : ContractsOk U Tryd.prog ctK := (ctK0_ok h).add (e53 h)
noncomputable def A21 : LoopT := ⟨⟨Tryd.f21.ntmps, 1, [(7, .slo 0 3), (3, .slo 1 1), (8, i1), (9, i1)], [rowB KV, rowW [.s]]⟩, partsInv, [(.exit 0, ⟨Tryd.f21.ntmps, 1, [(7, .slo 0 3), (3, .slo 1 1)], [rowB KV, rowW [.s]]⟩)]⟩
noncomputable def T21 : Tree LRes := mapT A21.leaf (execL Tryd.prog ctK (fun _ => none) 100 (bodyOf body21 0) A21.s0)
noncomputable def A29 : LoopT := ⟨⟨Tryd.f29.ntmps, 1, [(0, .slo 0 3), (3, .one .s), (4, i1)], [rowB KV]⟩, Tv.textInv 26, [(.exit 0, ⟨Tryd.f29.ntmps, 1, [(0, .slo 0 3), (3, .one .s)], [rowB KV]⟩)]⟩
noncomputable def T29 : Tree LRes := mapT A29.leaf (execL Tryd.prog ctK (fun _ => none) 100 (bodyOf body29 0) A29.s0)
def small (v : E) : E := .app 27 (elemE [v])
def inv7 : List E := [.o2 .ile (.i 0) (.v 7), .o2 .ile (.v 7) (.v 6), .o2 .ieq (.v 6) (.o1 .llen (.v 0)), .o2 .ile (.v 6) (.i 40), .o2 .ieq (.o1 .llen (.v 5)) (.v 7), small (.v 0)]
abbrev B7 : List BP := [rowB KR, cellB [.slo 2 3, .slo 3 3, .slo 4 1, .slo 0 3], rowB KV, rowB KV, rowB KF, rowW [.s]]
noncomputable def A7 : LoopT := ⟨⟨Tryd.f7.ntmps, 5, [(1, .ptr 1 0), (4, .slo 5 1), (14, .slo 0 3), (15, i1), (16, i1)], B7⟩, inv7, [(.exit 0, ⟨Tryd.f7.ntmps, 5, [(1, .ptr 1 0), (4, .slo 5 1)], B7⟩)]⟩
noncomputable def T7 : Tree LRes := mapT A7.leaf (execL Tryd.prog ctK (fun _ => none) 100 (bodyOf body7 0) A7.s0)
def inv31 : List E := [.o2 .ile (.i 0) (.v 2), .o2 .ile (.v 2) (.o1 .llen (.v 0)), .o2 .ile (.o1 .llen (.v 0)) (.i 40), .o2 .ile (.o1 .slen (.v 1)) (.o2 .imul (.i 15) (.v 2)), small (.v 0)]
noncomputable def A31 : LoopT := ⟨⟨Tryd.f31.ntmps, 1, [(0, .slo 0 3), (3, .one .s), (4, i1)], [rowB KR]⟩, inv31, [(.exit 0, ⟨Tryd.f31.ntmps, 1, [(0, .slo 0 3), (3, .one .s)], [rowB KR]⟩)]⟩
noncomputable def T31 : Tree LRes := mapT A31.leaf (execL Tryd.prog ctK (fun _ => none) 100 (bodyOf body31 0) A31.s0)
noncomputable def R21 : LRun := Tv.partsRun A21 62
noncomputable def R29 : LRun := Tv.textRun A29 63
noncomputable def R7 : LRun := ⟨A7, fun _ => .i 0, fun _ es => [nmOf es 0, .b false, nmOf es 2, nmOf es 3, nmOf es 4, .app 72 (nmOf es 0)], [.o2 .ieq (.v 7) (.i 0)], none, fun _ es => [(.o2 .ieq (.o1 .llen (.app 72 (nmOf es 0))) (.o1 .llen (nmOf es 0)), true)]⟩
noncomputable def R31 : LRun := ⟨A31, fun _ => .i 0, fun _ es => [nmOf es 0, joinE' 74 (nmOf es 0)], [.o2 .ieq (.v 2) (.i 0), .o2 .ieq (.o1 .slen (.v 1)) (.i 0), .o2 .ile (.i 1) (.o1 .llen (.v 0))], none, fun _ _ => []⟩
theorem t21 : T21 = Tv.partsT 3 hV := by kernel_rfl
theorem t29 : T29 = Tv.textT 3 47 hV := by kernel_rfl
theorem okT21 : okA 1000 T21 = true := by rw [t21]; kernel_rfl
theorem okT29 : okA 1000 T29 = true := by rw [t29]; kernel_rfl
theorem told21 (h : ChainWords U) : Sx.Told U T21 R21 := Tv.parts_told (floatWord h.w1) h.w62 hVb hVt t21 (by kernel_rfl) (by kernel_rfl) (by kernel_rfl)
theorem told29 (h : ChainWords U) : Sx.Told U T29 R29 := Tv.text_told (floatWord h.w1) h.w63 hVb hVl t29 (by kernel_rfl) (by kernel_rfl)
end

/-! ### Rods -/

def selE (iv j : Nat) : E := .o2 .sel (.o2 .sel (.v 0) (.v iv)) (.i (j : Int))
def rodE (iv : Nat) : E := .o2 .scat (.o2 .scat (.o2 .scat (Tw.decE 2 (selE iv 0)) (.o2 .scat (.s [44]) (Tw.decE 2 (selE iv 1)))) (.s [58])) h8c
def nx7 (x : E) : Tree LRes := .ret (.next [.v 0, .b false, .v 2, .v 3, .v 4, .o2 .lpush (.v 5) (elemE [x]), .v 6, .o2 .iadd (.v 7) (.i 1)])
def no7 : Tree LRes := nx7 (.o2 .scat (.s [58]) h8c)
def rods7 : Tree LRes := .ite (.o2 .ilt (.v 7) (.v 6)) (.chk (.o2 .fsame (.v 1000) (selE 7 2))
  (.ite (.o2 .ile (.i (-1000000000000000)) (selE 7 0)) (.ite (.o2 .ile (selE 7 0) (.i 1000000000000000)) (.ite (.o2 .ile (.i 0) (selE 7 0)) (.ite (.o2 .ile (selE 7 0) (.i 63))
    (.ite (.o2 .ile (.i (-1000000000000000)) (selE 7 1)) (.ite (.o2 .ile (selE 7 1) (.i 1000000000000000)) (.ite (.o2 .ile (.i 0) (selE 7 1)) (.ite (.o2 .ile (selE 7 1) (.i 63)) (nx7 (rodE 7)) .bad) .bad) no7) no7)
    .bad) .bad) no7) no7)) (.ret (.done 0 [.v 0, .b false, .v 2, .v 3, .v 4, .v 5]))
def nx31 (x : E) : Tree LRes := .ite (.o2 .ile (.i 0) (selE 2 0)) (.ite (.o2 .ile (selE 2 0) (.i 63)) (.ite (.o2 .ile (.i 0) (selE 2 1)) (.ite (.o2 .ile (selE 2 1) (.i 63))
  (.chk (.o2 .fsame (.v 1000) (selE 2 2)) (.ret (.next [.v 0, .o2 .scat x (rodE 2), .o2 .iadd (.v 2) (.i 1)]))) .bad) .bad) .bad) .bad
def rods31 : Tree LRes := .ite (.o2 .ilt (.v 2) (.o1 .llen (.v 0))) (.ite (.o2 .ilt (.i 0) (.v 2)) (nx31 (.o2 .scat (.v 1) (.s [47]))) (nx31 (.v 1))) (.ret (.done 0 [.v 0, .v 1]))
theorem t7 : T7 = rods7 := by kernel_rfl
theorem t31 : T31 = rods31 := by kernel_rfl
theorem okT7 : okA 1000 T7 = true := by rw [t7]; kernel_rfl
theorem okT31 : okA 1000 T31 = true := by rw [t31]; kernel_rfl

section
variable {U : Nat → D → D}
theorem evA_pos {c : E} {t e : Tree LRes} {r : Nat → D} (h : (c.ev U r).toB = true) : evA U (.ite c t e) r = evA U t r := by
  show (if (c.ev U r).toB = true then _ else _) = _
  rw [if_pos h]
theorem evA_neg {c : E} {t e : Tree LRes} {r : Nat → D} (h : (c.ev U r).toB ≠ true) : evA U (.ite c t e) r = evA U e r := by
  show (if (c.ev U r).toB = true then _ else _) = _
  rw [if_neg h]
theorem goodPW {el : D} {xs : Nat → D} (h : goodD 3 PW el xs = true) : (0 ≤ (el.at_ 0).toI ∧ (el.at_ 0).toI ≤ 63) ∧ 0 ≤ (el.at_ 1).toI ∧ (el.at_ 1).toI ≤ 63 := by
  have h : (decide ((0 : Int) ≤ (el.at_ 0).toI) && (decide ((el.at_ 0).toI ≤ 63) && (decide ((0 : Int) ≤ (el.at_ 1).toI) && decide ((el.at_ 1).toI ≤ 63)))) = true := h
  simp only [Bool.and_eq_true, decide_eq_true_eq] at h
  exact ⟨⟨h.1, h.2.1⟩, h.2.2.1, h.2.2.2⟩
theorem goodPR {el : D} {xs : Nat → D} (h : goodD 3 PR el xs = true) (hn : (xs 0).toI ≤ 64) (ys : Nat → D) : goodD 3 PW el ys = true := by
  have h : (decide ((0 : Int) ≤ (el.at_ 0).toI) && (decide ((el.at_ 0).toI ≤ (xs 0).toI + (-1)) && (decide ((0 : Int) ≤ (el.at_ 1).toI) && (decide ((el.at_ 1).toI ≤ (xs 0).toI + (-1)) && _)))) = true := h
  simp only [Bool.and_eq_true, decide_eq_true_eq] at h
  show (decide ((0 : Int) ≤ (el.at_ 0).toI) && (decide ((el.at_ 0).toI ≤ 63) && (decide ((0 : Int) ≤ (el.at_ 1).toI) && decide ((el.at_ 1).toI ≤ 63)))) = true
  simp only [Bool.and_eq_true, decide_eq_true_eq]
  omega
theorem small_good (h27 : ∀ d, U 27 d = allVal 3 PW d) {a : D} (h : (U 27 (.l [a])).toB = true) {d : D} (hd : d ∈ a.toL) : (0 ≤ (d.at_ 0).toI ∧ (d.at_ 0).toI ≤ 63) ∧ 0 ≤ (d.at_ 1).toI ∧ (d.at_ 1).toI ≤ 63 := by
  rw [h27] at h
  exact goodPW (List.all_eq_true.1 (show (a.toL.all fun el => goodD 3 PW el fun j => (D.l [a]).at_ (j + 1)) = true from h) d hd)
/-- What a rod's text is, where it is made. -/
theorem rod_ev (h : ChainWords U) {iv : Nat} {r : Nat → D} {d : D} (s : ∀ j : Nat, (selE iv j).ev U r = d.at_ j) (hf : (r 1000).toF = (d.at_ 2).toF) : (rodE iv).ev U r = .s (elR U d) := by
  have e1 : ((Tw.decE 2 (selE iv 0)).ev U r).toS = decT (d.at_ 0) := by rw [Tw.decE_ev h.w2, s 0]; rfl
  have e2 : ((Tw.decE 2 (selE iv 1)).ev U r).toS = decT (d.at_ 1) := by rw [Tw.decE_ev h.w2, s 1]; rfl
  have e3 : (h8c.ev U r).toS = (h8c.ev U (fun _ => d.at_ 2)).toS := by
    rw [Tv.onlyB_ev (m := 1) (floatWord h.w1) (r' := fun _ => d.at_ 2) (fun k h1 h2 => by
      have : k = 1000 := by omega
      subst this; exact hf) h8cb]
  show D.s (((((Tw.decE 2 (selE iv 0)).ev U r).toS ++ ((⟨#[44]⟩ : ByteArray) ++ ((Tw.decE 2 (selE iv 1)).ev U r).toS)) ++ (⟨#[58]⟩ : ByteArray)) ++ (h8c.ev U r).toS) = _
  rw [e1, e2, e3]
  rfl

theorem step7 (h : ChainWords U) {a q b c w p n i d : D} (hs : (U 27 (.l [a])).toB = true) (h0 : i.toI < n.toI) (hd : a.toL[i.toI.toNat]? = some d) :
    Tw.NextTo U rods7 [a, q, b, c, w, p, n, i] [a, .b false, b, c, w, .l (p.toL ++ [.l [.s (elR U d)]]), n, .i (i.toI + 1)] := by
  obtain ⟨⟨g1, g2⟩, g3, g4⟩ := small_good h.w27 hs (List.mem_of_getElem? hd)
  have sel : ∀ j : Nat, (((a.toL.getD i.toI.toNat (.b false)).at_ ((j : Int)).toNat)) = d.at_ j := fun j => by
    rw [List.getD_eq_getElem?_getD, hd, Int.toNat_natCast]; rfl
  have s0 : (selE 7 2).ev U (rOf [a, q, b, c, w, p, n, i]) = d.at_ 2 := sel 2
  have s : ∀ j : Nat, (selE 7 j).ev U (Tree.upd (rOf [a, q, b, c, w, p, n, i]) 1000 (d.at_ 2)) = d.at_ j := fun j => sel j
  refine ⟨[.v 0, .b false, .v 2, .v 3, .v 4, .o2 .lpush (.v 5) (elemE [rodE 7]), .v 6, .o2 .iadd (.v 7) (.i 1)], Tree.upd (rOf [a, q, b, c, w, p, n, i]) 1000 (d.at_ 2), ?_, ?_⟩
  · refine (evA_pos (by exact decide_eq_true h0)).trans ?_
    show evA U _ (Tree.upd (rOf [a, q, b, c, w, p, n, i]) 1000 ((selE 7 2).ev U (rOf [a, q, b, c, w, p, n, i]))) = _
    rw [s0]
    refine (evA_pos (by show decide ((-1000000000000000 : Int) ≤ ((selE 7 0).ev U _).toI) = true; rw [s]; exact decide_eq_true (by omega))).trans ?_
    refine (evA_pos (by show decide (((selE 7 0).ev U _).toI ≤ (1000000000000000 : Int)) = true; rw [s]; exact decide_eq_true (by omega))).trans ?_
    refine (evA_pos (by show decide ((0 : Int) ≤ ((selE 7 0).ev U _).toI) = true; rw [s]; exact decide_eq_true (by omega))).trans ?_
    refine (evA_pos (by show decide (((selE 7 0).ev U _).toI ≤ (63 : Int)) = true; rw [s]; exact decide_eq_true (by omega))).trans ?_
    refine (evA_pos (by show decide ((-1000000000000000 : Int) ≤ ((selE 7 1).ev U _).toI) = true; rw [s]; exact decide_eq_true (by omega))).trans ?_
    refine (evA_pos (by show decide (((selE 7 1).ev U _).toI ≤ (1000000000000000 : Int)) = true; rw [s]; exact decide_eq_true (by omega))).trans ?_
    refine (evA_pos (by show decide ((0 : Int) ≤ ((selE 7 1).ev U _).toI) = true; rw [s]; exact decide_eq_true (by omega))).trans ?_
    refine (evA_pos (by show decide (((selE 7 1).ev U _).toI ≤ (63 : Int)) = true; rw [s]; exact decide_eq_true (by omega))).trans ?_
    rfl
  · have e := rod_ev h s rfl
    simp only [List.map_cons, List.map_nil]
    have e5 : (E.o2 .lpush (.v 5) (elemE [rodE 7])).ev U (Tree.upd (rOf [a, q, b, c, w, p, n, i]) 1000 (d.at_ 2)) = .l (p.toL ++ [.l [.s (elR U d)]]) := by
      show D.l (p.toL ++ [(elemE [rodE 7]).ev U _]) = _
      rw [elemE_ev, List.map_cons, List.map_nil, e]
    rw [e5]
    rfl
theorem stop7 {a q b c w p n i : D} (h0 : ¬ i.toI < n.toI) : Tw.DoneTo U rods7 [a, q, b, c, w, p, n, i] 0 [a, .b false, b, c, w, p] := by
  refine ⟨[.v 0, .b false, .v 2, .v 3, .v 4, .v 5], rOf [a, q, b, c, w, p, n, i], (evA_neg (by exact fun hc => h0 (of_decide_eq_true (show decide (i.toI < n.toI) = true from hc)))).trans rfl, rfl⟩
theorem told7 (h : ChainWords U) : Sx.Told U T7 R7 := by
  rw [t7]
  intro r es hlen hI hE _
  have hlen : es.length = 8 := hlen
  match es, hlen with
  | [e0, e1, e2, e3, e4, e5, e6, e7], _ =>
    have hI : HoldI U inv7 ([e0, e1, e2, e3, e4, e5, e6, e7].map (E.ev U r)) := hI
    have i1 : (e7.ev U r).toI ≤ (e6.ev U r).toI := of_decide_eq_true (hI (.o2 .ile (.v 7) (.v 6)) (by simp [inv7]))
    have i2 : (e6.ev U r).toI = ((e0.ev U r).toL.length : Int) := beq_iff_eq.1 (hI (.o2 .ieq (.v 6) (.o1 .llen (.v 0))) (by simp [inv7]))
    have i3 : (e6.ev U r).toI ≤ 40 := of_decide_eq_true (hI (.o2 .ile (.v 6) (.i 40)) (by simp [inv7]))
    have i4 : ((e5.ev U r).toL.length : Int) = (e7.ev U r).toI := beq_iff_eq.1 (hI (.o2 .ieq (.o1 .llen (.v 5)) (.v 7)) (by simp [inv7]))
    have i5 : (e7.ev U r).toI = 0 := beq_iff_eq.1 (hE (.o2 .ieq (.v 7) (.i 0)) (by simp [R7]))
    have is : (U 27 (.l [e0.ev U r])).toB = true := by
      have := hI (small (.v 0)) (by simp [inv7])
      have : (U 27 ((elemE [E.v 0]).ev U (rOf ([e0, e1, e2, e3, e4, e5, e6, e7].map (E.ev U r))))).toB = true := this
      rw [elemE_ev] at this
      exact this
    obtain ⟨o, q1, q2⟩ := Tw.parts_run (U := U) (T := rods7) (inv := inv7) (el := elR U) (mk := fun q p i => [e0.ev U r, q, e2.ev U r, e3.ev U r, e4.ev U r, p, e6.ev U r, i]) (out := fun o => [e0.ev U r, .b false, e2.ev U r, e3.ev U r, e4.ev U r, o]) (l := (e0.ev U r).toL)
      (fun q p i h1 h2 h3 => by
        intro e he
        simp only [inv7, List.mem_cons, List.not_mem_nil, or_false] at he
        rcases he with rfl | rfl | rfl | rfl | rfl | rfl
        · exact decide_eq_true h1
        · exact decide_eq_true (show i.toI ≤ (e6.ev U r).toI by omega)
        · exact beq_iff_eq.2 i2
        · exact decide_eq_true i3
        · exact beq_iff_eq.2 h3
        · show (U 27 ((elemE [E.v 0]).ev U (rOf [e0.ev U r, q, e2.ev U r, e3.ev U r, e4.ev U r, p, e6.ev U r, i]))).toB = true
          rw [elemE_ev]; exact is)
      (fun q p i d h1 h2 h3 => step7 h is (by omega) h3)
      (fun q p i h1 => stop7 (by omega)) _ (e1.ev U r) (e5.ev U r) (e7.ev U r) (by omega) (by omega) i4 (Nat.le_refl _)
    have hp : (e5.ev U r).toL = [] := List.eq_nil_of_length_eq_zero (by omega)
    rw [hp, i5] at q2
    have q2 : o.toL = Tw.partL (elR U) (e0.ev U r).toL := q2
    refine ⟨0, _, q1, rfl, ?_, fun e to hto j => ?_⟩
    · intro x hx
      rw [List.mem_singleton.1 hx]
      show ((((U 72 (e0.ev U r)).toL.length : Nat) : Int) == (((e0.ev U r).toL.length : Nat) : Int)) = true
      rw [h.w72, D.toL_l, Tw.partL, List.length_map, beq_self_eq_true]
    · have hb : to.blks.length = 6 := by
        have : A7.outs[0]? = some (e, to) := hto
        simp only [A7, List.getElem?_cons_zero, Option.some.injEq, Prod.mk.injEq] at this
        rw [← this.2]; rfl
      rw [hb]
      match j with
      | 0 => exact .of_eq rfl
      | 1 => exact .of_eq rfl
      | 2 => exact .of_eq rfl
      | 3 => exact .of_eq rfl
      | 4 => exact .of_eq rfl
      | 5 => exact ⟨by show o.toL = (U 72 (e0.ev U r)).toL; rw [h.w72, q2]; rfl, fun h => absurd h (by omega)⟩
      | j + 6 => exact .of_eq rfl

theorem step31 (h : ChainWords U) {a p i d : D} {x : E} {t : ByteArray} (hs : (U 27 (.l [a])).toB = true) (hd : a.toL[i.toI.toNat]? = some d) (hx : ∀ y, ((x.ev U (Tree.upd (rOf [a, p, i]) 1000 y)).toS) = t) :
    ∃ es r', evA U (nx31 x) (rOf [a, p, i]) = some (.next es, r') ∧ es.map (E.ev U r') = [a, .s (t ++ elR U d), .i (i.toI + 1)] := by
  obtain ⟨⟨g1, g2⟩, g3, g4⟩ := small_good h.w27 hs (List.mem_of_getElem? hd)
  have sel : ∀ j : Nat, (((a.toL.getD i.toI.toNat (.b false)).at_ ((j : Int)).toNat)) = d.at_ j := fun j => by
    rw [List.getD_eq_getElem?_getD, hd, Int.toNat_natCast]; rfl
  have s0 : ∀ j : Nat, (selE 2 j).ev U (rOf [a, p, i]) = d.at_ j := fun j => sel j
  have s : ∀ j : Nat, (selE 2 j).ev U (Tree.upd (rOf [a, p, i]) 1000 (d.at_ 2)) = d.at_ j := fun j => sel j
  refine ⟨[.v 0, .o2 .scat x (rodE 2), .o2 .iadd (.v 2) (.i 1)], Tree.upd (rOf [a, p, i]) 1000 (d.at_ 2), ?_, ?_⟩
  · refine (evA_pos (by show decide ((0 : Int) ≤ ((selE 2 0).ev U _).toI) = true; rw [s0]; exact decide_eq_true (by omega))).trans ?_
    refine (evA_pos (by show decide (((selE 2 0).ev U _).toI ≤ (63 : Int)) = true; rw [s0]; exact decide_eq_true (by omega))).trans ?_
    refine (evA_pos (by show decide ((0 : Int) ≤ ((selE 2 1).ev U _).toI) = true; rw [s0]; exact decide_eq_true (by omega))).trans ?_
    refine (evA_pos (by show decide (((selE 2 1).ev U _).toI ≤ (63 : Int)) = true; rw [s0]; exact decide_eq_true (by omega))).trans ?_
    show evA U _ (Tree.upd (rOf [a, p, i]) 1000 ((selE 2 2).ev U (rOf [a, p, i]))) = _
    rw [s0]
    rfl
  · have e := rod_ev h s rfl
    simp only [List.map_cons, List.map_nil]
    have e5 : (E.o2 .scat x (rodE 2)).ev U (Tree.upd (rOf [a, p, i]) 1000 (d.at_ 2)) = .s (t ++ elR U d) := by
      show D.s ((x.ev U _).toS ++ ((rodE 2).ev U _).toS) = _
      rw [e, hx]
      rfl
    rw [e5]
    rfl
theorem told31 (h : ChainWords U) : Sx.Told U T31 R31 := by
  rw [t31]
  intro r es hlen hI hE _
  have hlen : es.length = 3 := hlen
  match es, hlen with
  | [e0, e1, e2], _ =>
    have hI : HoldI U inv31 ([e0, e1, e2].map (E.ev U r)) := hI
    have i3 : ((e0.ev U r).toL.length : Int) ≤ 40 := of_decide_eq_true (hI (.o2 .ile (.o1 .llen (.v 0)) (.i 40)) (by simp [inv31]))
    have i5 : (e2.ev U r).toI = 0 := beq_iff_eq.1 (hE (.o2 .ieq (.v 2) (.i 0)) (by simp [R31]))
    have i6 : ((e1.ev U r).toS.size : Int) = 0 := beq_iff_eq.1 (hE (.o2 .ieq (.o1 .slen (.v 1)) (.i 0)) (by simp [R31]))
    have i7 : (1 : Int) ≤ ((e0.ev U r).toL.length : Int) := of_decide_eq_true (hE (.o2 .ile (.i 1) (.o1 .llen (.v 0))) (by simp [R31]))
    have is : (U 27 (.l [e0.ev U r])).toB = true := by
      have := hI (small (.v 0)) (by simp [inv31])
      have : (U 27 ((elemE [E.v 0]).ev U (rOf ([e0, e1, e2].map (E.ev U r))))).toB = true := this
      rw [elemE_ev] at this
      exact this
    have q := Tw.text0_run (U := U) (T := rods31) (inv := inv31) (el := elR U) (sep := 47) (s := 14) (mk := fun p i => [e0.ev U r, p, i]) (out := fun o => [e0.ev U r, o]) (l := (e0.ev U r).toL) (elR_size U)
      (fun p i h1 h2 h3 => by
        intro e he
        simp only [inv31, List.mem_cons, List.not_mem_nil, or_false] at he
        rcases he with rfl | rfl | rfl | rfl | rfl
        · exact decide_eq_true h1
        · exact decide_eq_true h2
        · exact decide_eq_true i3
        · exact decide_eq_true (show (p.toS.size : Int) ≤ 15 * i.toI by omega)
        · show (U 27 ((elemE [E.v 0]).ev U (rOf [e0.ev U r, p, i]))).toB = true
          rw [elemE_ev]; exact is)
      (fun p i d h1 h2 => by
        obtain ⟨es, r', q1, q2⟩ := step31 h (x := .v 1) (t := p.toS) (p := p) (i := i) is (by rw [h1]; exact h2) (fun y => rfl)
        refine ⟨es, r', ?_, by rw [q2, h1]; rfl⟩
        refine (evA_pos (by exact decide_eq_true (show i.toI < ((e0.ev U r).toL.length : Int) by omega))).trans ?_
        exact (evA_neg (by exact fun hc => absurd (of_decide_eq_true (show decide ((0 : Int) < i.toI) = true from hc)) (by omega))).trans q1)
      (fun p i d h1 h2 h3 => by
        obtain ⟨es, r', q1, q2⟩ := step31 h (x := .o2 .scat (.v 1) (.s [47])) (t := p.toS ++ ⟨#[47]⟩) (p := p) (i := i) is h3 (fun y => rfl)
        refine ⟨es, r', ?_, by rw [q2, ByteArray.append_assoc]⟩
        refine (evA_pos (by exact decide_eq_true (show i.toI < ((e0.ev U r).toL.length : Int) from h2))).trans ?_
        exact (evA_pos (by exact decide_eq_true (show (0 : Int) < i.toI from h1))).trans q1)
      (fun p i h1 => ⟨[.v 0, .v 1], rOf [e0.ev U r, p, i], (evA_neg (by exact fun hc => absurd (of_decide_eq_true (show decide (i.toI < ((e0.ev U r).toL.length : Int)) = true from hc)) (by omega))).trans rfl, rfl⟩)
      (e1.ev U r) (e2.ev U r) i5 (by
        apply ByteArray.ext
        apply Array.eq_empty_of_size_eq_zero
        show (e1.ev U r).toS.size = 0
        omega) (by omega)
    refine ⟨0, _, q, rfl, (fun _ hx => by cases hx), fun e to hto j => ?_⟩
    match j with
    | 0 => exact .of_eq rfl
    | 1 =>
      refine .of_eq ?_
      have e : ((joinE' 74 e0).ev U r).toS = Tw.joinD 47 (elR U) (e0.ev U r).toL := Tw.joinE'_ev h.w74 (elR_size U) (by omega) (by omega)
      show D.s (Tw.joinD 47 (elR U) (e0.ev U r).toL) = (joinE' 74 e0).ev U r
      rw [← e]
      rfl
    | j + 2 => exact .of_eq rfl
end
end Go.Proofs.YtjedoigphjbgmaaDoor
