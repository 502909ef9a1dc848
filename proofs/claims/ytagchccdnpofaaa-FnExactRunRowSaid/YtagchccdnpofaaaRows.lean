/-
  No cell of these rows narrows 'for every input' (looked for: loops, veiled, ifaces, maps, wideKeys, modest, calm, conditions, laid).
  DERIVED. THE GIVEN ROWS OF THIS SEAT. 10 by the template 'for every input the law returns true; each argument reads behind the call as it read before'; 0 by the template 'total and deterministic' (their statements: YtagchccdnpofaaaTotals.lean).
  GIVEN WITH THE SEED: the statements are not yours to turn. If you find one false, say at which input.
  Laid BY PROGRAM, IN A SANDBOX (cutbox-rows.mjs): the forced cells as the released guide's own fill.sh prints them over the translation 1656914e8890ac3f… (all of the seat's roots in one cut). By AI agents, Wed Nov 11 2026. No macro, syntax, notation, axiom, sorry.
-/
import Derived.Test.YtagchccdnpofaaaChecked
import GoSem.Claim
import GoSem.ClaimJoined
import GoSem.ClaimMapViews
import Derived.JoinedTies
import Derived.KernelRfl
namespace Go.Proofs.Ytagchccdnpofaaa
/- THE CELL 'sum', in the pinned program and in every row, IS THE sha256 OF THE DUMP (.gsa) THAT YtagchccdnpofaaaProg.lean LOADS. Nothing in Lean hashes anything: it is a label: what it is worth is what the hold of that sum in a sandbox is worth. -/
noncomputable def Try.pinned : Pinned := { name := "ytagchccdnpofaaa", sum := "1656914e8890ac3fa47d9aa766e5fb48443afe02369679f48f8434578c8b925b", checked := Try.checked }
namespace Rows
def none {H : Type} : Left H := { results := [], args := [] }

/-- 'laws.FnExactMomentumOfTop': WHATEVER THE INPUT: true; the input reads as it did. -/
def fnExactMomentumOfTopSpec : ChangeSpec := { name := "fnExactMomentumOfTop", fn := fun _ => fun
  | [d] => { results := [.lit (.bool true)], args := [d] }
  | _ => none }
def fnExactMomentumOfTopRow : OpenClaim := { program := "ytagchccdnpofaaa", sum := "1656914e8890ac3fa47d9aa766e5fb48443afe02369679f48f8434578c8b925b", func := "loop.example/g01253/laws.FnExactMomentumOfTop", spec := "fnExactMomentumOfTop", unfollowed := true, recurses := true, apart := false }
def FnExactMomentumOfTopSaid : Prop := fnExactMomentumOfTopRow.holds Try.pinned (OpenSpec.ofChange fnExactMomentumOfTopSpec)

/-- ITS FALSE NEIGHBOUR: 'it returns false'. Refute it at one input. -/
def fnExactMomentumOfTopWrong : ChangeSpec := { name := "fnExactMomentumOfTop", fn := fun _ => fun
  | [d] => { results := [.lit (.bool false)], args := [d] }
  | _ => none }
def FnExactMomentumOfTopWrongFalsely : Prop := fnExactMomentumOfTopRow.holds Try.pinned (OpenSpec.ofChange fnExactMomentumOfTopWrong)

/-- 'laws.FnExactNextMeeting': WHATEVER THE INPUT: true; the input reads as it did. -/
def fnExactNextMeetingSpec : ChangeSpec := { name := "fnExactNextMeeting", fn := fun _ => fun
  | [d] => { results := [.lit (.bool true)], args := [d] }
  | _ => none }
def fnExactNextMeetingRow : OpenClaim := { program := "ytagchccdnpofaaa", sum := "1656914e8890ac3fa47d9aa766e5fb48443afe02369679f48f8434578c8b925b", func := "loop.example/g01253/laws.FnExactNextMeeting", spec := "fnExactNextMeeting", unfollowed := true, recurses := true, apart := false }
def FnExactNextMeetingSaid : Prop := fnExactNextMeetingRow.holds Try.pinned (OpenSpec.ofChange fnExactNextMeetingSpec)

/-- ITS FALSE NEIGHBOUR: 'it returns false'. Refute it at one input. -/
def fnExactNextMeetingWrong : ChangeSpec := { name := "fnExactNextMeeting", fn := fun _ => fun
  | [d] => { results := [.lit (.bool false)], args := [d] }
  | _ => none }
def FnExactNextMeetingWrongFalsely : Prop := fnExactNextMeetingRow.holds Try.pinned (OpenSpec.ofChange fnExactNextMeetingWrong)

/-- 'laws.FnExactSwingText': WHATEVER THE INPUT: true; the input reads as it did. -/
def fnExactSwingTextSpec : ChangeSpec := { name := "fnExactSwingText", fn := fun _ => fun
  | [d] => { results := [.lit (.bool true)], args := [d] }
  | _ => none }
def fnExactSwingTextRow : OpenClaim := { program := "ytagchccdnpofaaa", sum := "1656914e8890ac3fa47d9aa766e5fb48443afe02369679f48f8434578c8b925b", func := "loop.example/g01253/laws.FnExactSwingText", spec := "fnExactSwingText", inPlace := ["math.Float32bits", "internal/abi.NoEscape", "internal/bytealg.MakeNoZero"], unfollowed := true, recurses := true, apart := false }
def FnExactSwingTextSaid : Prop := fnExactSwingTextRow.holds Try.pinned (OpenSpec.ofChange fnExactSwingTextSpec)

/-- ITS FALSE NEIGHBOUR: 'it returns false'. Refute it at one input. -/
def fnExactSwingTextWrong : ChangeSpec := { name := "fnExactSwingText", fn := fun _ => fun
  | [d] => { results := [.lit (.bool false)], args := [d] }
  | _ => none }
def FnExactSwingTextWrongFalsely : Prop := fnExactSwingTextRow.holds Try.pinned (OpenSpec.ofChange fnExactSwingTextWrong)

/-- 'laws.FnExactPendulumText': WHATEVER THE INPUT: true; the input reads as it did. -/
def fnExactPendulumTextSpec : ChangeSpec := { name := "fnExactPendulumText", fn := fun _ => fun
  | [d] => { results := [.lit (.bool true)], args := [d] }
  | _ => none }
def fnExactPendulumTextRow : OpenClaim := { program := "ytagchccdnpofaaa", sum := "1656914e8890ac3fa47d9aa766e5fb48443afe02369679f48f8434578c8b925b", func := "loop.example/g01253/laws.FnExactPendulumText", spec := "fnExactPendulumText", inPlace := ["math.Float32bits", "internal/abi.NoEscape", "internal/bytealg.MakeNoZero"], unfollowed := true, recurses := true, apart := false }
def FnExactPendulumTextSaid : Prop := fnExactPendulumTextRow.holds Try.pinned (OpenSpec.ofChange fnExactPendulumTextSpec)

/-- ITS FALSE NEIGHBOUR: 'it returns false'. Refute it at one input. -/
def fnExactPendulumTextWrong : ChangeSpec := { name := "fnExactPendulumText", fn := fun _ => fun
  | [d] => { results := [.lit (.bool false)], args := [d] }
  | _ => none }
def FnExactPendulumTextWrongFalsely : Prop := fnExactPendulumTextRow.holds Try.pinned (OpenSpec.ofChange fnExactPendulumTextWrong)

/-- 'laws.FnExactTurnsOfSpin': WHATEVER THE INPUT: true; the input reads as it did. -/
def fnExactTurnsOfSpinSpec : ChangeSpec := { name := "fnExactTurnsOfSpin", fn := fun _ => fun
  | [d] => { results := [.lit (.bool true)], args := [d] }
  | _ => none }
def fnExactTurnsOfSpinRow : OpenClaim := { program := "ytagchccdnpofaaa", sum := "1656914e8890ac3fa47d9aa766e5fb48443afe02369679f48f8434578c8b925b", func := "loop.example/g01253/laws.FnExactTurnsOfSpin", spec := "fnExactTurnsOfSpin", inPlace := ["math.sqrt", "math.Float64frombits", "math.Float64bits"], unfollowed := true, recurses := true, apart := false }
def FnExactTurnsOfSpinSaid : Prop := fnExactTurnsOfSpinRow.holds Try.pinned (OpenSpec.ofChange fnExactTurnsOfSpinSpec)

/-- ITS FALSE NEIGHBOUR: 'it returns false'. Refute it at one input. -/
def fnExactTurnsOfSpinWrong : ChangeSpec := { name := "fnExactTurnsOfSpin", fn := fun _ => fun
  | [d] => { results := [.lit (.bool false)], args := [d] }
  | _ => none }
def FnExactTurnsOfSpinWrongFalsely : Prop := fnExactTurnsOfSpinRow.holds Try.pinned (OpenSpec.ofChange fnExactTurnsOfSpinWrong)

/-- 'laws.FnExactTopText': WHATEVER THE INPUT: true; the input reads as it did. -/
def fnExactTopTextSpec : ChangeSpec := { name := "fnExactTopText", fn := fun _ => fun
  | [d] => { results := [.lit (.bool true)], args := [d] }
  | _ => none }
def fnExactTopTextRow : OpenClaim := { program := "ytagchccdnpofaaa", sum := "1656914e8890ac3fa47d9aa766e5fb48443afe02369679f48f8434578c8b925b", func := "loop.example/g01253/laws.FnExactTopText", spec := "fnExactTopText", inPlace := ["math.Float32bits", "internal/abi.NoEscape", "internal/bytealg.MakeNoZero"], unfollowed := true, recurses := true, apart := false }
def FnExactTopTextSaid : Prop := fnExactTopTextRow.holds Try.pinned (OpenSpec.ofChange fnExactTopTextSpec)

/-- ITS FALSE NEIGHBOUR: 'it returns false'. Refute it at one input. -/
def fnExactTopTextWrong : ChangeSpec := { name := "fnExactTopText", fn := fun _ => fun
  | [d] => { results := [.lit (.bool false)], args := [d] }
  | _ => none }
def FnExactTopTextWrongFalsely : Prop := fnExactTopTextRow.holds Try.pinned (OpenSpec.ofChange fnExactTopTextWrong)

/-- 'laws.FnExactLeanOfTop': WHATEVER THE INPUT: true; the input reads as it did. -/
def fnExactLeanOfTopSpec : ChangeSpec := { name := "fnExactLeanOfTop", fn := fun _ => fun
  | [d] => { results := [.lit (.bool true)], args := [d] }
  | _ => none }
def fnExactLeanOfTopRow : OpenClaim := { program := "ytagchccdnpofaaa", sum := "1656914e8890ac3fa47d9aa766e5fb48443afe02369679f48f8434578c8b925b", func := "loop.example/g01253/laws.FnExactLeanOfTop", spec := "fnExactLeanOfTop", inPlace := ["math.sqrt", "math.Float64frombits", "math.Float64bits"], unfollowed := true, recurses := true, apart := false }
def FnExactLeanOfTopSaid : Prop := fnExactLeanOfTopRow.holds Try.pinned (OpenSpec.ofChange fnExactLeanOfTopSpec)

/-- ITS FALSE NEIGHBOUR: 'it returns false'. Refute it at one input. -/
def fnExactLeanOfTopWrong : ChangeSpec := { name := "fnExactLeanOfTop", fn := fun _ => fun
  | [d] => { results := [.lit (.bool false)], args := [d] }
  | _ => none }
def FnExactLeanOfTopWrongFalsely : Prop := fnExactLeanOfTopRow.holds Try.pinned (OpenSpec.ofChange fnExactLeanOfTopWrong)

/-- 'laws.FnExactClocksText': WHATEVER THE INPUT: true; the input reads as it did. -/
def fnExactClocksTextSpec : ChangeSpec := { name := "fnExactClocksText", fn := fun _ => fun
  | [d] => { results := [.lit (.bool true)], args := [d] }
  | _ => none }
def fnExactClocksTextRow : OpenClaim := { program := "ytagchccdnpofaaa", sum := "1656914e8890ac3fa47d9aa766e5fb48443afe02369679f48f8434578c8b925b", func := "loop.example/g01253/laws.FnExactClocksText", spec := "fnExactClocksText", inPlace := ["math.Float32bits", "internal/abi.NoEscape", "internal/bytealg.MakeNoZero"], unfollowed := true, recurses := true, apart := false }
def FnExactClocksTextSaid : Prop := fnExactClocksTextRow.holds Try.pinned (OpenSpec.ofChange fnExactClocksTextSpec)

/-- ITS FALSE NEIGHBOUR: 'it returns false'. Refute it at one input. -/
def fnExactClocksTextWrong : ChangeSpec := { name := "fnExactClocksText", fn := fun _ => fun
  | [d] => { results := [.lit (.bool false)], args := [d] }
  | _ => none }
def FnExactClocksTextWrongFalsely : Prop := fnExactClocksTextRow.holds Try.pinned (OpenSpec.ofChange fnExactClocksTextWrong)

/-- 'laws.FnExactStepRow': WHATEVER THE INPUT: true; the input reads as it did. -/
def fnExactStepRowSpec : ChangeSpec := { name := "fnExactStepRow", fn := fun _ => fun
  | [d] => { results := [.lit (.bool true)], args := [d] }
  | _ => none }
def fnExactStepRowRow : OpenClaim := { program := "ytagchccdnpofaaa", sum := "1656914e8890ac3fa47d9aa766e5fb48443afe02369679f48f8434578c8b925b", func := "loop.example/g01253/laws.FnExactStepRow", spec := "fnExactStepRow", unfollowed := true, recurses := true, apart := false }
def FnExactStepRowSaid : Prop := fnExactStepRowRow.holds Try.pinned (OpenSpec.ofChange fnExactStepRowSpec)

/-- ITS FALSE NEIGHBOUR: 'it returns false'. Refute it at one input. -/
def fnExactStepRowWrong : ChangeSpec := { name := "fnExactStepRow", fn := fun _ => fun
  | [d] => { results := [.lit (.bool false)], args := [d] }
  | _ => none }
def FnExactStepRowWrongFalsely : Prop := fnExactStepRowRow.holds Try.pinned (OpenSpec.ofChange fnExactStepRowWrong)

/-- 'laws.FnExactRunRow': WHATEVER THE INPUT: true; the input reads as it did. -/
def fnExactRunRowSpec : ChangeSpec := { name := "fnExactRunRow", fn := fun _ => fun
  | [d1, d2, d3] => { results := [.lit (.bool true)], args := [d1, d2, d3] }
  | _ => none }
def fnExactRunRowRow : OpenClaim := { program := "ytagchccdnpofaaa", sum := "1656914e8890ac3fa47d9aa766e5fb48443afe02369679f48f8434578c8b925b", func := "loop.example/g01253/laws.FnExactRunRow", spec := "fnExactRunRow", unfollowed := true, recurses := true, apart := false }
def FnExactRunRowSaid : Prop := fnExactRunRowRow.holds Try.pinned (OpenSpec.ofChange fnExactRunRowSpec)

/-- ITS FALSE NEIGHBOUR: 'it returns false'. Refute it at one input. -/
def fnExactRunRowWrong : ChangeSpec := { name := "fnExactRunRow", fn := fun _ => fun
  | [d1, d2, d3] => { results := [.lit (.bool false)], args := [d1, d2, d3] }
  | _ => none }
def FnExactRunRowWrongFalsely : Prop := fnExactRunRowRow.holds Try.pinned (OpenSpec.ofChange fnExactRunRowWrong)

/- THE SECOND FORM. 'bulk': how many values and letters a reading holds, each counted each time it is reached (what is shared counts as often as it is met; a slice's spare places count too). A statement '..UptoSaid' is the law's where the arguments, and the package variables that the reading takes, are together of bulk at most 1048576: NARROWER than '..Said'. Prove '..Said' where nothing that the law and all that it calls make is longer than what came in: it says more and counts as full. Else prove '..UptoSaid'. A law counts once. -/
mutual
def uptoBulk {H : Type} : DataW H → Nat
  | .lit (.string bytes) => bytes.length + 1
  | .lit _ => 1
  | .nil => 1
  | .ptr d => uptoBulk d + 1
  | .slice elems spare => uptoBulkAll elems + uptoBulkAll spare + 1
  | .agg parts => uptoBulkAll parts + 1
  | .iface _ d => uptoBulk d + 1
  | .map entries => uptoBulkEntries entries + 1
  | .held _ => 1
def uptoBulkAll {H : Type} : List (DataW H) → Nat
  | [] => 0
  | d :: r => uptoBulk d + uptoBulkAll r
def uptoBulkEntries {H : Type} : List (Lit × DataW H) → Nat
  | [] => 0
  | x :: r => uptoBulkEntry x + uptoBulkEntries r
def uptoBulkEntry {H : Type} : Lit × DataW H → Nat
  | (.string bytes, d) => bytes.length + uptoBulk d + 1
  | (_, d) => uptoBulk d + 1
 end
def uptoSmall : (H : Type) → List (DataW H) → Bool := fun _ ds => decide (uptoBulkAll ds ≤ 1048576)
def OpenSpec.upto (s : _root_.Go.ChangeSpec) : _root_.Go.OpenSpec := { _root_.Go.OpenSpec.ofChange s with cond := some uptoSmall }

/-- 'laws.FnExactMomentumOfTop', WHERE WHAT IT READS IS OF BULK AT MOST 1048576: true; the input reads as it did. -/
def fnExactMomentumOfTopUptoRow : OpenClaim := { program := "ytagchccdnpofaaa", sum := "1656914e8890ac3fa47d9aa766e5fb48443afe02369679f48f8434578c8b925b", func := "loop.example/g01253/laws.FnExactMomentumOfTop", spec := "fnExactMomentumOfTop", unfollowed := true, recurses := true, apart := false, narrowed := true }
def FnExactMomentumOfTopUptoSaid : Prop := fnExactMomentumOfTopUptoRow.holds Try.pinned (OpenSpec.upto fnExactMomentumOfTopSpec)

/-- 'laws.FnExactNextMeeting', WHERE WHAT IT READS IS OF BULK AT MOST 1048576: true; the input reads as it did. -/
def fnExactNextMeetingUptoRow : OpenClaim := { program := "ytagchccdnpofaaa", sum := "1656914e8890ac3fa47d9aa766e5fb48443afe02369679f48f8434578c8b925b", func := "loop.example/g01253/laws.FnExactNextMeeting", spec := "fnExactNextMeeting", unfollowed := true, recurses := true, apart := false, narrowed := true }
def FnExactNextMeetingUptoSaid : Prop := fnExactNextMeetingUptoRow.holds Try.pinned (OpenSpec.upto fnExactNextMeetingSpec)

/-- 'laws.FnExactSwingText', WHERE WHAT IT READS IS OF BULK AT MOST 1048576: true; the input reads as it did. -/
def fnExactSwingTextUptoRow : OpenClaim := { program := "ytagchccdnpofaaa", sum := "1656914e8890ac3fa47d9aa766e5fb48443afe02369679f48f8434578c8b925b", func := "loop.example/g01253/laws.FnExactSwingText", spec := "fnExactSwingText", inPlace := ["math.Float32bits", "internal/abi.NoEscape", "internal/bytealg.MakeNoZero"], unfollowed := true, recurses := true, apart := false, narrowed := true }
def FnExactSwingTextUptoSaid : Prop := fnExactSwingTextUptoRow.holds Try.pinned (OpenSpec.upto fnExactSwingTextSpec)

/-- 'laws.FnExactPendulumText', WHERE WHAT IT READS IS OF BULK AT MOST 1048576: true; the input reads as it did. -/
def fnExactPendulumTextUptoRow : OpenClaim := { program := "ytagchccdnpofaaa", sum := "1656914e8890ac3fa47d9aa766e5fb48443afe02369679f48f8434578c8b925b", func := "loop.example/g01253/laws.FnExactPendulumText", spec := "fnExactPendulumText", inPlace := ["math.Float32bits", "internal/abi.NoEscape", "internal/bytealg.MakeNoZero"], unfollowed := true, recurses := true, apart := false, narrowed := true }
def FnExactPendulumTextUptoSaid : Prop := fnExactPendulumTextUptoRow.holds Try.pinned (OpenSpec.upto fnExactPendulumTextSpec)

/-- 'laws.FnExactTurnsOfSpin', WHERE WHAT IT READS IS OF BULK AT MOST 1048576: true; the input reads as it did. -/
def fnExactTurnsOfSpinUptoRow : OpenClaim := { program := "ytagchccdnpofaaa", sum := "1656914e8890ac3fa47d9aa766e5fb48443afe02369679f48f8434578c8b925b", func := "loop.example/g01253/laws.FnExactTurnsOfSpin", spec := "fnExactTurnsOfSpin", inPlace := ["math.sqrt", "math.Float64frombits", "math.Float64bits"], unfollowed := true, recurses := true, apart := false, narrowed := true }
def FnExactTurnsOfSpinUptoSaid : Prop := fnExactTurnsOfSpinUptoRow.holds Try.pinned (OpenSpec.upto fnExactTurnsOfSpinSpec)

/-- 'laws.FnExactTopText', WHERE WHAT IT READS IS OF BULK AT MOST 1048576: true; the input reads as it did. -/
def fnExactTopTextUptoRow : OpenClaim := { program := "ytagchccdnpofaaa", sum := "1656914e8890ac3fa47d9aa766e5fb48443afe02369679f48f8434578c8b925b", func := "loop.example/g01253/laws.FnExactTopText", spec := "fnExactTopText", inPlace := ["math.Float32bits", "internal/abi.NoEscape", "internal/bytealg.MakeNoZero"], unfollowed := true, recurses := true, apart := false, narrowed := true }
def FnExactTopTextUptoSaid : Prop := fnExactTopTextUptoRow.holds Try.pinned (OpenSpec.upto fnExactTopTextSpec)

/-- 'laws.FnExactLeanOfTop', WHERE WHAT IT READS IS OF BULK AT MOST 1048576: true; the input reads as it did. -/
def fnExactLeanOfTopUptoRow : OpenClaim := { program := "ytagchccdnpofaaa", sum := "1656914e8890ac3fa47d9aa766e5fb48443afe02369679f48f8434578c8b925b", func := "loop.example/g01253/laws.FnExactLeanOfTop", spec := "fnExactLeanOfTop", inPlace := ["math.sqrt", "math.Float64frombits", "math.Float64bits"], unfollowed := true, recurses := true, apart := false, narrowed := true }
def FnExactLeanOfTopUptoSaid : Prop := fnExactLeanOfTopUptoRow.holds Try.pinned (OpenSpec.upto fnExactLeanOfTopSpec)

/-- 'laws.FnExactClocksText', WHERE WHAT IT READS IS OF BULK AT MOST 1048576: true; the input reads as it did. -/
def fnExactClocksTextUptoRow : OpenClaim := { program := "ytagchccdnpofaaa", sum := "1656914e8890ac3fa47d9aa766e5fb48443afe02369679f48f8434578c8b925b", func := "loop.example/g01253/laws.FnExactClocksText", spec := "fnExactClocksText", inPlace := ["math.Float32bits", "internal/abi.NoEscape", "internal/bytealg.MakeNoZero"], unfollowed := true, recurses := true, apart := false, narrowed := true }
def FnExactClocksTextUptoSaid : Prop := fnExactClocksTextUptoRow.holds Try.pinned (OpenSpec.upto fnExactClocksTextSpec)

/-- 'laws.FnExactStepRow', WHERE WHAT IT READS IS OF BULK AT MOST 1048576: true; the input reads as it did. -/
def fnExactStepRowUptoRow : OpenClaim := { program := "ytagchccdnpofaaa", sum := "1656914e8890ac3fa47d9aa766e5fb48443afe02369679f48f8434578c8b925b", func := "loop.example/g01253/laws.FnExactStepRow", spec := "fnExactStepRow", unfollowed := true, recurses := true, apart := false, narrowed := true }
def FnExactStepRowUptoSaid : Prop := fnExactStepRowUptoRow.holds Try.pinned (OpenSpec.upto fnExactStepRowSpec)

/-- 'laws.FnExactRunRow', WHERE WHAT IT READS IS OF BULK AT MOST 1048576: true; the input reads as it did. -/
def fnExactRunRowUptoRow : OpenClaim := { program := "ytagchccdnpofaaa", sum := "1656914e8890ac3fa47d9aa766e5fb48443afe02369679f48f8434578c8b925b", func := "loop.example/g01253/laws.FnExactRunRow", spec := "fnExactRunRow", unfollowed := true, recurses := true, apart := false, narrowed := true }
def FnExactRunRowUptoSaid : Prop := fnExactRunRowUptoRow.holds Try.pinned (OpenSpec.upto fnExactRunRowSpec)

end Rows
end Go.Proofs.Ytagchccdnpofaaa
