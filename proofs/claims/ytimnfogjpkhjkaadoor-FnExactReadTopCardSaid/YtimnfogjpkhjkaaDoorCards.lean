/-
  DERIVED. GIVEN WITH THE SEED: THE CARDS: each row of YtimnfogjpkhjkaaDoorRows.lean that lists a variable, with what it lists TIED to the program's text (the seventh form; the later family's looks); each row that meets fmt, with fmt's text TOLD by the authors' own Lean function (tested against real Go, not proved from fmt's source: count such statements apart). THE CARD IS WHAT COUNTS. Prove the row's statement (the work); the ties are given (YtimnfogjpkhjkaaDoorTie.lean); close each card by the builder's one call (the guide's Derived/Test/ToyasCard.lean, 'card_holds'). Laid BY PROGRAM, IN A SANDBOX (cutbox-door.mjs). By AI agents, Wed Nov 11 2026. No macro, syntax, notation, axiom, sorry.
-/
import Derived.Test.YtimnfogjpkhjkaaDoorRows
import GoSem.ClaimSeven
namespace Go.Proofs.YtimnfogjpkhjkaaDoor
namespace Rows

/-- THE TIED CARD OF 'laws.FnExactReadSwing'. -/
def fnExactReadSwingCard : Claim7 := { stood := { row := fnExactReadSwingRow, standIns := [], harness := (true, "fd62f2e5a6809ae2b0200c52fe0e5903ff706315af06b21b2dcc9327fdc42bda"), looks := false }, kinds := [], alts := [], laidByText := true, laidKinds := [.data, .pinned], laidTests := true, laidLooks := .later }
def FnExactReadSwingCardSaid : Prop := Claim7.holds Tryd.pinned (.plain (OpenSpec.ofChange fnExactReadSwingSpec)) fnExactReadSwingCard

/-- THE TIED CARD OF 'laws.FnExactReadPendulum'. -/
def fnExactReadPendulumCard : Claim7 := { stood := { row := fnExactReadPendulumRow, standIns := [], harness := (true, "fd62f2e5a6809ae2b0200c52fe0e5903ff706315af06b21b2dcc9327fdc42bda"), looks := false }, kinds := [], alts := [], laidByText := true, laidKinds := [.data, .pinned], laidTests := true, laidLooks := .later }
def FnExactReadPendulumCardSaid : Prop := Claim7.holds Tryd.pinned (.plain (OpenSpec.ofChange fnExactReadPendulumSpec)) fnExactReadPendulumCard

/-- THE TIED CARD OF 'laws.FnExactReadTop'. -/
def fnExactReadTopCard : Claim7 := { stood := { row := fnExactReadTopRow, standIns := [], harness := (true, "fd62f2e5a6809ae2b0200c52fe0e5903ff706315af06b21b2dcc9327fdc42bda"), looks := false }, kinds := [], alts := [], laidByText := true, laidKinds := [.data, .pinned], laidTests := true, laidLooks := .later }
def FnExactReadTopCardSaid : Prop := Claim7.holds Tryd.pinned (.plain (OpenSpec.ofChange fnExactReadTopSpec)) fnExactReadTopCard

/-- THE TIED CARD OF 'laws.FnExactReadClocks'. -/
def fnExactReadClocksCard : Claim7 := { stood := { row := fnExactReadClocksRow, standIns := [], harness := (true, "fd62f2e5a6809ae2b0200c52fe0e5903ff706315af06b21b2dcc9327fdc42bda"), looks := false }, kinds := [], alts := [], laidByText := true, laidKinds := [.data, .pinned], laidTests := true, laidLooks := .later }
def FnExactReadClocksCardSaid : Prop := Claim7.holds Tryd.pinned (.plain (OpenSpec.ofChange fnExactReadClocksSpec)) fnExactReadClocksCard

/-- THE SECOND FORM's CARD OF 'laws.FnExactReadSwing'. -/
def fnExactReadSwingUptoCard : Claim7 := { stood := { row := fnExactReadSwingUptoRow, standIns := [], harness := (true, "fd62f2e5a6809ae2b0200c52fe0e5903ff706315af06b21b2dcc9327fdc42bda"), looks := false }, kinds := [], alts := [], laidByText := true, laidKinds := [.data, .pinned], laidTests := true, laidLooks := .later }
def FnExactReadSwingUptoCardSaid : Prop := Claim7.holds Tryd.pinned (.plain (OpenSpec.upto fnExactReadSwingSpec)) fnExactReadSwingUptoCard

/-- THE SECOND FORM's CARD OF 'laws.FnExactReadPendulum'. -/
def fnExactReadPendulumUptoCard : Claim7 := { stood := { row := fnExactReadPendulumUptoRow, standIns := [], harness := (true, "fd62f2e5a6809ae2b0200c52fe0e5903ff706315af06b21b2dcc9327fdc42bda"), looks := false }, kinds := [], alts := [], laidByText := true, laidKinds := [.data, .pinned], laidTests := true, laidLooks := .later }
def FnExactReadPendulumUptoCardSaid : Prop := Claim7.holds Tryd.pinned (.plain (OpenSpec.upto fnExactReadPendulumSpec)) fnExactReadPendulumUptoCard

/-- THE SECOND FORM's CARD OF 'laws.FnExactReadTop'. -/
def fnExactReadTopUptoCard : Claim7 := { stood := { row := fnExactReadTopUptoRow, standIns := [], harness := (true, "fd62f2e5a6809ae2b0200c52fe0e5903ff706315af06b21b2dcc9327fdc42bda"), looks := false }, kinds := [], alts := [], laidByText := true, laidKinds := [.data, .pinned], laidTests := true, laidLooks := .later }
def FnExactReadTopUptoCardSaid : Prop := Claim7.holds Tryd.pinned (.plain (OpenSpec.upto fnExactReadTopSpec)) fnExactReadTopUptoCard

/-- THE SECOND FORM's CARD OF 'laws.FnExactReadClocks'. -/
def fnExactReadClocksUptoCard : Claim7 := { stood := { row := fnExactReadClocksUptoRow, standIns := [], harness := (true, "fd62f2e5a6809ae2b0200c52fe0e5903ff706315af06b21b2dcc9327fdc42bda"), looks := false }, kinds := [], alts := [], laidByText := true, laidKinds := [.data, .pinned], laidTests := true, laidLooks := .later }
def FnExactReadClocksUptoCardSaid : Prop := Claim7.holds Tryd.pinned (.plain (OpenSpec.upto fnExactReadClocksSpec)) fnExactReadClocksUptoCard
end Rows
end Go.Proofs.YtimnfogjpkhjkaaDoor
