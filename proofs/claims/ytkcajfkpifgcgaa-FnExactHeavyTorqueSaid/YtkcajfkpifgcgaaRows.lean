/-
  No cell of these rows narrows 'for every input' (looked for: loops, veiled, ifaces, maps, wideKeys, modest, calm, conditions, laid).
  DERIVED. THE GIVEN ROWS OF THIS SEAT. 6 by the template 'for every input the law returns true; each argument reads behind the call as it read before'; 0 by the template 'total and deterministic' (their statements: YtkcajfkpifgcgaaTotals.lean).
  GIVEN WITH THE SEED: the statements are not yours to turn. If you find one false, say at which input.
  Laid BY PROGRAM, IN A SANDBOX (cutbox-rows.mjs): the forced cells as the released guide's own fill.sh prints them over the translation aa4b7e911480bfe7… (all of the seat's roots in one cut). By AI agents, Wed Nov 11 2026. No macro, syntax, notation, axiom, sorry.
-/
import Derived.Test.YtkcajfkpifgcgaaChecked
import GoSem.Claim
import GoSem.ClaimJoined
import GoSem.ClaimMapViews
import Derived.JoinedTies
import Derived.KernelRfl
namespace Go.Proofs.Ytkcajfkpifgcgaa
/- THE CELL 'sum', in the pinned program and in every row, IS THE sha256 OF THE DUMP (.gsa) THAT YtkcajfkpifgcgaaProg.lean LOADS. Nothing in Lean hashes anything: it is a label: what it is worth is what the hold of that sum in a sandbox is worth. -/
noncomputable def Try.pinned : Pinned := { name := "ytkcajfkpifgcgaa", sum := "aa4b7e911480bfe744e44e177e8ed73dd39be14ae8fb15f4cf39e038c21e4c2b", checked := Try.checked }
namespace Rows
def none {H : Type} : Left H := { results := [], args := [] }

/-- 'laws.FnExactTurnVector': WHATEVER THE INPUT: true; the input reads as it did. -/
def fnExactTurnVectorSpec : ChangeSpec := { name := "fnExactTurnVector", fn := fun _ => fun
  | [d1, d2] => { results := [.lit (.bool true)], args := [d1, d2] }
  | _ => none }
def fnExactTurnVectorRow : OpenClaim := { program := "ytkcajfkpifgcgaa", sum := "aa4b7e911480bfe744e44e177e8ed73dd39be14ae8fb15f4cf39e038c21e4c2b", func := "loop.example/g01253/laws.FnExactTurnVector", spec := "fnExactTurnVector", apart := false }
def FnExactTurnVectorSaid : Prop := fnExactTurnVectorRow.holds Try.pinned (OpenSpec.ofChange fnExactTurnVectorSpec)

/-- ITS FALSE NEIGHBOUR: 'it returns false'. Refute it at one input. -/
def fnExactTurnVectorWrong : ChangeSpec := { name := "fnExactTurnVector", fn := fun _ => fun
  | [d1, d2] => { results := [.lit (.bool false)], args := [d1, d2] }
  | _ => none }
def FnExactTurnVectorWrongFalsely : Prop := fnExactTurnVectorRow.holds Try.pinned (OpenSpec.ofChange fnExactTurnVectorWrong)

/-- 'laws.FnNarrowed': WHATEVER THE INPUT: true; the input reads as it did. -/
def fnNarrowedSpec : ChangeSpec := { name := "fnNarrowed", fn := fun _ => fun
  | [d1, d2] => { results := [.lit (.bool true)], args := [d1, d2] }
  | _ => none }
def fnNarrowedRow : OpenClaim := { program := "ytkcajfkpifgcgaa", sum := "aa4b7e911480bfe744e44e177e8ed73dd39be14ae8fb15f4cf39e038c21e4c2b", func := "loop.example/g01253/laws.FnNarrowed", spec := "fnNarrowed", inPlace := ["math.Float32frombits", "math.Float32bits"], apart := false }
def FnNarrowedSaid : Prop := fnNarrowedRow.holds Try.pinned (OpenSpec.ofChange fnNarrowedSpec)

/-- ITS FALSE NEIGHBOUR: 'it returns false'. Refute it at one input. -/
def fnNarrowedWrong : ChangeSpec := { name := "fnNarrowed", fn := fun _ => fun
  | [d1, d2] => { results := [.lit (.bool false)], args := [d1, d2] }
  | _ => none }
def FnNarrowedWrongFalsely : Prop := fnNarrowedRow.holds Try.pinned (OpenSpec.ofChange fnNarrowedWrong)

/-- 'laws.FnExactMatrixOfSpin': WHATEVER THE INPUT: true; the input reads as it did. -/
def fnExactMatrixOfSpinSpec : ChangeSpec := { name := "fnExactMatrixOfSpin", fn := fun _ => fun
  | [d] => { results := [.lit (.bool true)], args := [d] }
  | _ => none }
def fnExactMatrixOfSpinRow : OpenClaim := { program := "ytkcajfkpifgcgaa", sum := "aa4b7e911480bfe744e44e177e8ed73dd39be14ae8fb15f4cf39e038c21e4c2b", func := "loop.example/g01253/laws.FnExactMatrixOfSpin", spec := "fnExactMatrixOfSpin", apart := false }
def FnExactMatrixOfSpinSaid : Prop := fnExactMatrixOfSpinRow.holds Try.pinned (OpenSpec.ofChange fnExactMatrixOfSpinSpec)

/-- ITS FALSE NEIGHBOUR: 'it returns false'. Refute it at one input. -/
def fnExactMatrixOfSpinWrong : ChangeSpec := { name := "fnExactMatrixOfSpin", fn := fun _ => fun
  | [d] => { results := [.lit (.bool false)], args := [d] }
  | _ => none }
def FnExactMatrixOfSpinWrongFalsely : Prop := fnExactMatrixOfSpinRow.holds Try.pinned (OpenSpec.ofChange fnExactMatrixOfSpinWrong)

/-- 'laws.FnBits': WHATEVER THE INPUT: true; the input reads as it did. -/
def fnBitsSpec : ChangeSpec := { name := "fnBits", fn := fun _ => fun
  | [d1, d2] => { results := [.lit (.bool true)], args := [d1, d2] }
  | _ => none }
def fnBitsRow : OpenClaim := { program := "ytkcajfkpifgcgaa", sum := "aa4b7e911480bfe744e44e177e8ed73dd39be14ae8fb15f4cf39e038c21e4c2b", func := "loop.example/g01253/laws.FnBits", spec := "fnBits", inPlace := ["math.Float32frombits", "math.Float32bits"], apart := false }
def FnBitsSaid : Prop := fnBitsRow.holds Try.pinned (OpenSpec.ofChange fnBitsSpec)

/-- ITS FALSE NEIGHBOUR: 'it returns false'. Refute it at one input. -/
def fnBitsWrong : ChangeSpec := { name := "fnBits", fn := fun _ => fun
  | [d1, d2] => { results := [.lit (.bool false)], args := [d1, d2] }
  | _ => none }
def FnBitsWrongFalsely : Prop := fnBitsRow.holds Try.pinned (OpenSpec.ofChange fnBitsWrong)

/-- 'laws.FnExactAxisOfTop': WHATEVER THE INPUT: true; the input reads as it did. -/
def fnExactAxisOfTopSpec : ChangeSpec := { name := "fnExactAxisOfTop", fn := fun _ => fun
  | [d] => { results := [.lit (.bool true)], args := [d] }
  | _ => none }
def fnExactAxisOfTopRow : OpenClaim := { program := "ytkcajfkpifgcgaa", sum := "aa4b7e911480bfe744e44e177e8ed73dd39be14ae8fb15f4cf39e038c21e4c2b", func := "loop.example/g01253/laws.FnExactAxisOfTop", spec := "fnExactAxisOfTop", unfollowed := true, recurses := true, apart := false }
def FnExactAxisOfTopSaid : Prop := fnExactAxisOfTopRow.holds Try.pinned (OpenSpec.ofChange fnExactAxisOfTopSpec)

/-- ITS FALSE NEIGHBOUR: 'it returns false'. Refute it at one input. -/
def fnExactAxisOfTopWrong : ChangeSpec := { name := "fnExactAxisOfTop", fn := fun _ => fun
  | [d] => { results := [.lit (.bool false)], args := [d] }
  | _ => none }
def FnExactAxisOfTopWrongFalsely : Prop := fnExactAxisOfTopRow.holds Try.pinned (OpenSpec.ofChange fnExactAxisOfTopWrong)

/-- 'laws.FnExactHeavyTorque': WHATEVER THE INPUT: true; the input reads as it did. -/
def fnExactHeavyTorqueSpec : ChangeSpec := { name := "fnExactHeavyTorque", fn := fun _ => fun
  | [d1, d2, d3] => { results := [.lit (.bool true)], args := [d1, d2, d3] }
  | _ => none }
def fnExactHeavyTorqueRow : OpenClaim := { program := "ytkcajfkpifgcgaa", sum := "aa4b7e911480bfe744e44e177e8ed73dd39be14ae8fb15f4cf39e038c21e4c2b", func := "loop.example/g01253/laws.FnExactHeavyTorque", spec := "fnExactHeavyTorque", unfollowed := true, recurses := true, apart := false }
def FnExactHeavyTorqueSaid : Prop := fnExactHeavyTorqueRow.holds Try.pinned (OpenSpec.ofChange fnExactHeavyTorqueSpec)

/-- ITS FALSE NEIGHBOUR: 'it returns false'. Refute it at one input. -/
def fnExactHeavyTorqueWrong : ChangeSpec := { name := "fnExactHeavyTorque", fn := fun _ => fun
  | [d1, d2, d3] => { results := [.lit (.bool false)], args := [d1, d2, d3] }
  | _ => none }
def FnExactHeavyTorqueWrongFalsely : Prop := fnExactHeavyTorqueRow.holds Try.pinned (OpenSpec.ofChange fnExactHeavyTorqueWrong)

/- THE SECOND FORM. 'bulk': how many values and letters a reading holds, each counted each time it is reached (what is shared counts as often as it is met; a slice's spare places count too). A statement '..UptoSaid' is the law's where the arguments, and the package variables that the reading takes, are together of bulk at most 1048576: NARROWER than '..Said'. Prove '..Said' where nothing that the law and all that it calls make is longer than what came in: it says more and counts as full. Else prove '..UptoSaid'. A law counts once. -/
mutual
def uptoBulk {H : Type} : DataW H → Nat
  | .lit (.string bytes) => bytes.length + 1
  | .lit _ => 1
  | .nil => 1
  | .ptr d => uptoBulk d + 1
  | .slice elems spare => uptoBulkAll elems + uptoBulkAll spare + 1
  | .agg parts => uptoBulkAll parts + 1
  | .iface _ d => uptoBulk d + 1
  | .map entries => uptoBulkEntries entries + 1
  | .held _ => 1
def uptoBulkAll {H : Type} : List (DataW H) → Nat
  | [] => 0
  | d :: r => uptoBulk d + uptoBulkAll r
def uptoBulkEntries {H : Type} : List (Lit × DataW H) → Nat
  | [] => 0
  | x :: r => uptoBulkEntry x + uptoBulkEntries r
def uptoBulkEntry {H : Type} : Lit × DataW H → Nat
  | (.string bytes, d) => bytes.length + uptoBulk d + 1
  | (_, d) => uptoBulk d + 1
 end
def uptoSmall : (H : Type) → List (DataW H) → Bool := fun _ ds => decide (uptoBulkAll ds ≤ 1048576)
def OpenSpec.upto (s : _root_.Go.ChangeSpec) : _root_.Go.OpenSpec := { _root_.Go.OpenSpec.ofChange s with cond := some uptoSmall }

/-- 'laws.FnExactTurnVector', WHERE WHAT IT READS IS OF BULK AT MOST 1048576: true; the input reads as it did. -/
def fnExactTurnVectorUptoRow : OpenClaim := { program := "ytkcajfkpifgcgaa", sum := "aa4b7e911480bfe744e44e177e8ed73dd39be14ae8fb15f4cf39e038c21e4c2b", func := "loop.example/g01253/laws.FnExactTurnVector", spec := "fnExactTurnVector", apart := false, narrowed := true }
def FnExactTurnVectorUptoSaid : Prop := fnExactTurnVectorUptoRow.holds Try.pinned (OpenSpec.upto fnExactTurnVectorSpec)

/-- 'laws.FnNarrowed', WHERE WHAT IT READS IS OF BULK AT MOST 1048576: true; the input reads as it did. -/
def fnNarrowedUptoRow : OpenClaim := { program := "ytkcajfkpifgcgaa", sum := "aa4b7e911480bfe744e44e177e8ed73dd39be14ae8fb15f4cf39e038c21e4c2b", func := "loop.example/g01253/laws.FnNarrowed", spec := "fnNarrowed", inPlace := ["math.Float32frombits", "math.Float32bits"], apart := false, narrowed := true }
def FnNarrowedUptoSaid : Prop := fnNarrowedUptoRow.holds Try.pinned (OpenSpec.upto fnNarrowedSpec)

/-- 'laws.FnExactMatrixOfSpin', WHERE WHAT IT READS IS OF BULK AT MOST 1048576: true; the input reads as it did. -/
def fnExactMatrixOfSpinUptoRow : OpenClaim := { program := "ytkcajfkpifgcgaa", sum := "aa4b7e911480bfe744e44e177e8ed73dd39be14ae8fb15f4cf39e038c21e4c2b", func := "loop.example/g01253/laws.FnExactMatrixOfSpin", spec := "fnExactMatrixOfSpin", apart := false, narrowed := true }
def FnExactMatrixOfSpinUptoSaid : Prop := fnExactMatrixOfSpinUptoRow.holds Try.pinned (OpenSpec.upto fnExactMatrixOfSpinSpec)

/-- 'laws.FnBits', WHERE WHAT IT READS IS OF BULK AT MOST 1048576: true; the input reads as it did. -/
def fnBitsUptoRow : OpenClaim := { program := "ytkcajfkpifgcgaa", sum := "aa4b7e911480bfe744e44e177e8ed73dd39be14ae8fb15f4cf39e038c21e4c2b", func := "loop.example/g01253/laws.FnBits", spec := "fnBits", inPlace := ["math.Float32frombits", "math.Float32bits"], apart := false, narrowed := true }
def FnBitsUptoSaid : Prop := fnBitsUptoRow.holds Try.pinned (OpenSpec.upto fnBitsSpec)

/-- 'laws.FnExactAxisOfTop', WHERE WHAT IT READS IS OF BULK AT MOST 1048576: true; the input reads as it did. -/
def fnExactAxisOfTopUptoRow : OpenClaim := { program := "ytkcajfkpifgcgaa", sum := "aa4b7e911480bfe744e44e177e8ed73dd39be14ae8fb15f4cf39e038c21e4c2b", func := "loop.example/g01253/laws.FnExactAxisOfTop", spec := "fnExactAxisOfTop", unfollowed := true, recurses := true, apart := false, narrowed := true }
def FnExactAxisOfTopUptoSaid : Prop := fnExactAxisOfTopUptoRow.holds Try.pinned (OpenSpec.upto fnExactAxisOfTopSpec)

/-- 'laws.FnExactHeavyTorque', WHERE WHAT IT READS IS OF BULK AT MOST 1048576: true; the input reads as it did. -/
def fnExactHeavyTorqueUptoRow : OpenClaim := { program := "ytkcajfkpifgcgaa", sum := "aa4b7e911480bfe744e44e177e8ed73dd39be14ae8fb15f4cf39e038c21e4c2b", func := "loop.example/g01253/laws.FnExactHeavyTorque", spec := "fnExactHeavyTorque", unfollowed := true, recurses := true, apart := false, narrowed := true }
def FnExactHeavyTorqueUptoSaid : Prop := fnExactHeavyTorqueUptoRow.holds Try.pinned (OpenSpec.upto fnExactHeavyTorqueSpec)

end Rows
end Go.Proofs.Ytkcajfkpifgcgaa
