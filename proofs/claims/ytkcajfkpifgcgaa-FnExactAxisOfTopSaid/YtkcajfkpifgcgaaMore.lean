/-
  Contracts of this seat: vectors that are turned, finite vectors, spins: each walk made once.
-/
import Derived.Test.YtkcajfkpifgcgaaBase
import Derived.Test.YtkcajfkpifgcgaaSxU
namespace Go.Proofs.Ytkcajfkpifgcgaa
open Go.Sx

abbrev V3 : Pt := .ag [.f .f32, .f .f32, .f .f32]
abbrev V4 : Pt := .ag [.f .f32, .f .f32, .f .f32, .f .f32]
abbrev V10 : Pt := .ag [.f .f32, .f .f32, .f .f32, .f .f32, .f .f32, .f .f32, .f .f32, .f .f32, .f .f32, .f .f32]

noncomputable def ct2 : Contracts := ((((ct1.add 12 (memoRun [V4, V3] (resT (cf1 12 (ptGo 0 [V4, V3]) cx0)))).add 37 (memoRun [V4, V3] (resT (cf1 37 (ptGo 0 [V4, V3]) cx0)))).add 78 (memoRun [V3] (resT (cf1 78 (ptGo 0 [V3]) cx0)))).add 77 (memoRun [V4] (orMerge (resT (cf1 77 (ptGo 0 [V4]) cx0)))))
theorem ct2_ok : ContractsOk noU Try.prog ct2 := (((ct1_ok.add (memo_ok cf1_ok 12 [V4, V3])).add (memo_ok cf1_ok 37 [V4, V3])).add (memo_ok cf1_ok 78 [V3])).add (memoOr_ok cf1_ok 77 [V4])
noncomputable def cf2 := callX Try.prog ct2 (exec Try.prog ct2 100)
theorem cf2_ok : CallsOk noU Try.prog cf2 := calls_ok Try.mixes Try.names ct2_ok 100

end Go.Proofs.Ytkcajfkpifgcgaa
