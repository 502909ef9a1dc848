/-
  Contracts of this seat: the library's join; the bits of a number as one word.
-/
import Derived.Test.YtdgenclminhcdaaWords
import Derived.Test.YtdgenclminhcdaaShelf
import Derived.Test.YtdgenclminhcdaaSxZm
namespace Go.Proofs.Ytdgenclminhcdaa
open Go.Sx
set_option maxRecDepth 100000

theorem join_says : JoinSays Try.prog 167 := fun bk o c xs sep w h1 h2 h3 h4 h5 => Try.strings_Join bk o c xs sep w h1 h2 h3 h4 h5
theorem join_ok {U : Nat → D → D} : EntryOk U Try.prog 167 joinRun := @join_entry U Try.prog 167 _ _ Try.names Try.func167 rfl join_says

noncomputable def ctT : Contracts := ((ct1.add 164 (opRun 1 [F1] RI)).add 158 (opRun 1 [F1] RI)).add 167 joinRun
theorem ctT_ok : ContractsOk seatU Try.prog ctT := ((ct1_ok.add bits_spec).add bits_impl).add join_ok
noncomputable def cfT := callX Try.prog ctT (exec Try.prog ctT 100)
theorem cfT_ok : CallsOk seatU Try.prog cfT := @calls_ok seatU Try.prog ctT Try.mixes Try.names ctT_ok 100

end Go.Proofs.Ytdgenclminhcdaa
