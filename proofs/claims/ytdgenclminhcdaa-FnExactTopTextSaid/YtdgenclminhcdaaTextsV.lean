/-
  Contracts of this seat: texts of vectors, each walked once.
-/
import Derived.Test.YtdgenclminhcdaaTexts
namespace Go.Proofs.Ytdgenclminhcdaa
open Go.Sx
set_option maxRecDepth 100000

/-- The texts of vectors, each walked once. -/
noncomputable def vtextImpl : Tree SV := resT (cfT 72 (ptGo 0 [V3]) cx0)
noncomputable def vtextSpec : Tree SV := resT (cfT 134 (ptGo 0 [V3]) cx0)
theorem vtext_impl : EntryOk seatU Try.prog 72 (memoRun [V3] vtextImpl) := @memo_ok seatU Try.prog cfT cfT_ok 72 [V3]
theorem vtext_spec : EntryOk seatU Try.prog 134 (memoRun [V3] vtextSpec) := @memo_ok seatU Try.prog cfT cfT_ok 134 [V3]
noncomputable def ctV : Contracts := (ctT.add 72 (memoRun [V3] vtextImpl)).add 134 (memoRun [V3] vtextSpec)
theorem ctV_ok : ContractsOk seatU Try.prog ctV := (ctT_ok.add vtext_impl).add vtext_spec
noncomputable def cfV := callX Try.prog ctV (exec Try.prog ctV 100)
theorem cfV_ok : CallsOk seatU Try.prog cfV := @calls_ok seatU Try.prog ctV Try.mixes Try.names ctV_ok 100

end Go.Proofs.Ytdgenclminhcdaa
