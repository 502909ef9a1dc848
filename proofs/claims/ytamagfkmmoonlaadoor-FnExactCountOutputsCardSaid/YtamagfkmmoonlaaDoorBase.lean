/-
  What the law of this seat leans on: the program's closed facts.
-/
import Derived.Test.YtamagfkmmoonlaaDoorRows
import Derived.Test.YtamagfkmmoonlaaDoorSxGe
namespace Go.Proofs.YtamagfkmmoonlaaDoor
open Go.Sx
set_option maxRecDepth 100000

theorem Tryd.own : ownKnob Tryd.prog.godebug = none := by kernel_rfl
theorem Tryd.laidOut : laidOutB Tryd.prog = true := by kernel_rfl
theorem Tryd.names : NamesOk Tryd.prog := names_ok (by kernel_rfl)
theorem Tryd.mixes : Tryd.prog.follows .mixedOrders = true := Tryd.checked.mixed

end Go.Proofs.YtamagfkmmoonlaaDoor
