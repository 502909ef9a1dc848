/-
  Contracts of this seat: angles, vectors that are turned, finite vectors, spins: each walk made once.
-/
import Derived.Test.YtdgenclminhcdaaWords
namespace Go.Proofs.Ytdgenclminhcdaa
open Go.Sx
set_option maxRecDepth 100000

noncomputable def ct2 : Contracts := ((((((ct1.add 54 (memoRun [V4, V3] (resT (cf1 54 (ptGo 0 [V4, V3]) cx0)))).add 49 (memoRun [V4, V3] (resT (cf1 49 (ptGo 0 [V4, V3]) cx0)))).add 119 (memoRun [V3] (resT (cf1 119 (ptGo 0 [V3]) cx0)))).add 136 (memoRun [V4] (orMerge (resT (cf1 136 (ptGo 0 [V4]) cx0))))).add 64 (opRun 0 [F1, F1] RF)).add 67 (opRun 0 [F1, F1] RF))
theorem ct2_ok : ContractsOk seatU Try.prog ct2 := (((((ct1_ok.add (memo_ok cf1_ok 54 [V4, V3])).add (memo_ok cf1_ok 49 [V4, V3])).add (memo_ok cf1_ok 119 [V3])).add (memoOr_ok cf1_ok 136 [V4])).add angle_spec).add angle_impl
noncomputable def cf2 := callX Try.prog ct2 (exec Try.prog ct2 100)
theorem cf2_ok : CallsOk seatU Try.prog cf2 := @calls_ok seatU Try.prog ct2 Try.mixes Try.names ct2_ok 100

end Go.Proofs.Ytdgenclminhcdaa
