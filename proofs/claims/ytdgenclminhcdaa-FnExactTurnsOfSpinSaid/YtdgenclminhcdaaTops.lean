/-
  Contracts of this seat: vectors that are turned, finite vectors, spins: each walk made once.
-/
import Derived.Test.YtdgenclminhcdaaBase
namespace Go.Proofs.Ytdgenclminhcdaa
open Go.Sx
set_option maxRecDepth 100000

noncomputable def ct2 : Contracts := ((((ct1.add 54 (memoRun [V4, V3] (resT (cf1 54 (ptGo 0 [V4, V3]) cx0)))).add 49 (memoRun [V4, V3] (resT (cf1 49 (ptGo 0 [V4, V3]) cx0)))).add 119 (memoRun [V3] (resT (cf1 119 (ptGo 0 [V3]) cx0)))).add 136 (memoRun [V4] (orMerge (resT (cf1 136 (ptGo 0 [V4]) cx0)))))
theorem ct2_ok : ContractsOk noU Try.prog ct2 := (((ct1_ok.add (memo_ok cf1_ok 54 [V4, V3])).add (memo_ok cf1_ok 49 [V4, V3])).add (memo_ok cf1_ok 119 [V3])).add (memoOr_ok cf1_ok 136 [V4])
noncomputable def cf2 := callX Try.prog ct2 (exec Try.prog ct2 100)
theorem cf2_ok : CallsOk noU Try.prog cf2 := @calls_ok noU Try.prog ct2 Try.mixes Try.names ct2_ok 100

end Go.Proofs.Ytdgenclminhcdaa
