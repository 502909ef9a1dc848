import Derived.Test.YtaflnmmnaiaceaaTops
namespace Go.Proofs.Ytaflnmmnaiaceaa
open Go.Sx
set_option maxRecDepth 100000
abbrev KV : List Sk := [.f .f32, .f .f32, .f .f32]
abbrev f1 : LP := .one (.f .f32)
abbrev i1 : LP := .one (.i .i64)
abbrev tens : List LP := List.replicate 10 f1
abbrev threes : List LP := List.replicate 3 f1
abbrev anyN (n : Nat) : List LP := List.replicate n .any
noncomputable def body43 : Code := (Try.f43.body).getD .skip
-- spec, no weight
abbrev B43 (axes : Bool) : List BP := [⟨true, tens, none⟩, ⟨true, threes, none⟩, ⟨true, anyN 10, none⟩] ++ (if axes then [⟨true, [], some KV⟩] else [])
noncomputable def A43 : LoopT := ⟨⟨Try.f43.ntmps, 3, [(7, .ptr 0 0), (8, .ptr 1 0), (14, .ptr 2 0), (17, .slo 3 3), (2, f1), (3, f1), (4, f1), (5, i1), (6, .one .b), (18, i1)], B43 true⟩,
  [.o2 .ile (.i 0) (.v 9), .o2 .ile (.v 9) (.v 7), .o2 .ile (.v 7) (.i 128), .o2 .ieq (.o1 .llen (.v 3)) (.v 9), .o1 .not (.v 8)],
  [(.exit 0, ⟨Try.f43.ntmps, 3, [(7, .ptr 0 0), (8, .ptr 1 0), (14, .ptr 2 0), (17, .slo 3 3)], B43 true⟩),
   (.ret, ⟨Try.f43.ntmps, 3, [(7, .ptr 0 0), (8, .ptr 1 0), (14, .ptr 2 0), (15, .nils), (16, .one .b)], [⟨true, anyN 10, none⟩, ⟨true, anyN 3, none⟩, ⟨true, tens, none⟩]⟩)]⟩
noncomputable def T43 : Tree LRes := mapT A43.leaf (execL Try.prog ctA (fun _ => none) 100 (bodyOf body43 0) A43.s0)
abbrev C43 : List Nat := [4, 5, 6, 7, 8, 10, 11, 12, 20, 21, 22]
abbrev outs43 : List (List OutW) := [[.lit (.b false), .lit (.b false), .lit (.b false), .val 3, .same 10, .same 11, .same 12] ++ ((List.range 7).map fun j => .val (j + 7)) ++ [.same 20, .same 21, .same 22],
  List.replicate 4 (.lit (.b false)) ++ List.replicate 10 (.lit (.f (some 0)))]
theorem r43 : roundK C43 outs43 A43.t.cnt A43.inv (.o2 .isub (.v 7) (.v 9)) T43 = true := by kernel_rfl
def n43 : Nat := 0
noncomputable def R43 : LRun := wordRun A43 n43 outs43
theorem told43 {U : Nat → D → D} (hU : ∀ d, U n43 d = loopVal U A43.inv T43 d) : Sx.Told U T43 R43 := wordK_told hU r43 (by kernel_rfl)
end Go.Proofs.Ytaflnmmnaiaceaa
