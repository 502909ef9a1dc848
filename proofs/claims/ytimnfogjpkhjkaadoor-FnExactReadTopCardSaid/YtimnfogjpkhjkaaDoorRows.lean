/-
  NARROWER THAN 'FOR EVERY INPUT', by the rows' own cells (each row's printed sentence says how): FnExactReadSwing: laid · FnExactReadPendulum: laid · FnExactReadTop: laid · FnExactReadClocks: laid.
  DERIVED. THE GIVEN ROWS OF THIS SEAT. 4 by the template 'for every input the law returns true; each argument reads behind the call as it read before'; 0 by the template 'total and deterministic' (their statements: YtimnfogjpkhjkaaDoorTotals.lean).
  GIVEN WITH THE SEED: the statements are not yours to turn. If you find one false, say at which input.
  Laid BY PROGRAM, IN A SANDBOX (cutbox-rows.mjs): the forced cells as the released guide's own fill.sh prints them over the translation 7d08fa7b310e3544… (all of the seat's roots in one cut). By AI agents, Wed Nov 11 2026. No macro, syntax, notation, axiom, sorry.
-/
import Derived.Test.YtimnfogjpkhjkaaDoorChecked
import GoSem.PinnedTables
import GoSem.Claim
import GoSem.ClaimJoined
import GoSem.ClaimMapViews
import Derived.JoinedTies
import Derived.KernelRfl
namespace Go.Proofs.YtimnfogjpkhjkaaDoor
/- THE CELL 'sum', in the pinned program and in every row, IS THE sha256 OF THE DUMP (.gsa) THAT YtimnfogjpkhjkaaDoorProg.lean LOADS. Nothing in Lean hashes anything: it is a label: what it is worth is what the hold of that sum in a sandbox is worth. -/
noncomputable def Tryd.pinned : Pinned := { name := "ytimnfogjpkhjkaadoor", sum := "7d08fa7b310e3544769aedb169ab49106865a5bb0fbaec6966c1a4c6d5dfcec2", checked := Tryd.checked }
namespace Rows
def none {H : Type} : Left H := { results := [], args := [] }

/- WHAT THE LISTED PACKAGE-LEVEL VARIABLES READ AS WHEN THE CALL BEGINS. Each datum BY PROGRAM (the guide's laid-datum.mjs) off the statement by which the dump's own 'gosem.cut.vars' lays the variable. In a bare row this is a premise. The card (YtimnfogjpkhjkaaDoorCards.lean) ties it to the program's text. -/
def laid_unicode_utf8_acceptRanges {H : Type} : DataW H := .agg [.agg [.lit (.int .u8 128), .lit (.int .u8 191)], .agg [.lit (.int .u8 160), .lit (.int .u8 191)], .agg [.lit (.int .u8 128), .lit (.int .u8 159)], .agg [.lit (.int .u8 144), .lit (.int .u8 191)], .agg [.lit (.int .u8 128), .lit (.int .u8 143)], .agg [.lit (.int .u8 0), .lit (.int .u8 0)], .agg [.lit (.int .u8 0), .lit (.int .u8 0)], .agg [.lit (.int .u8 0), .lit (.int .u8 0)], .agg [.lit (.int .u8 0), .lit (.int .u8 0)], .agg [.lit (.int .u8 0), .lit (.int .u8 0)], .agg [.lit (.int .u8 0), .lit (.int .u8 0)], .agg [.lit (.int .u8 0), .lit (.int .u8 0)], .agg [.lit (.int .u8 0), .lit (.int .u8 0)], .agg [.lit (.int .u8 0), .lit (.int .u8 0)], .agg [.lit (.int .u8 0), .lit (.int .u8 0)], .agg [.lit (.int .u8 0), .lit (.int .u8 0)]]
/-- One of Go's own tables, pinned by name: the form's constant. -/
def laid_unicode_utf8_first : DataW Unit := Go.Pinned.utf8First

/-- 'laws.FnExactReadSwing': WHATEVER THE INPUT: true; the input reads as it did. -/
def fnExactReadSwingSpec : ChangeSpec := { name := "fnExactReadSwing", fn := fun _ => fun
  | [d] => { results := [.lit (.bool true)], args := [d] }
  | _ => none }
def fnExactReadSwingRow : OpenClaim := { program := "ytimnfogjpkhjkaadoor", sum := "7d08fa7b310e3544769aedb169ab49106865a5bb0fbaec6966c1a4c6d5dfcec2", func := "loop.example/g01253/laws.FnExactReadSwing", spec := "fnExactReadSwing", inPlace := ["math.Float32frombits", "math.Float32bits", "internal/bytealg.CountString", "internal/bytealg.IndexByteString", "internal/bytealg.IndexString"], unfollowed := true, recurses := true, named := ["unicode/utf8.first", "unicode/utf8.acceptRanges", "internal/bytealg.MaxLen"], apart := false, laid := [("unicode/utf8.acceptRanges", laid_unicode_utf8_acceptRanges), ("unicode/utf8.first", laid_unicode_utf8_first)] }
def FnExactReadSwingSaid : Prop := fnExactReadSwingRow.holds Tryd.pinned (OpenSpec.ofChange fnExactReadSwingSpec)

/-- ITS FALSE NEIGHBOUR: 'it returns false'. Refute it at one input. -/
def fnExactReadSwingWrong : ChangeSpec := { name := "fnExactReadSwing", fn := fun _ => fun
  | [d] => { results := [.lit (.bool false)], args := [d] }
  | _ => none }
def FnExactReadSwingWrongFalsely : Prop := fnExactReadSwingRow.holds Tryd.pinned (OpenSpec.ofChange fnExactReadSwingWrong)

/-- 'laws.FnExactReadPendulum': WHATEVER THE INPUT: true; the input reads as it did. -/
def fnExactReadPendulumSpec : ChangeSpec := { name := "fnExactReadPendulum", fn := fun _ => fun
  | [d] => { results := [.lit (.bool true)], args := [d] }
  | _ => none }
def fnExactReadPendulumRow : OpenClaim := { program := "ytimnfogjpkhjkaadoor", sum := "7d08fa7b310e3544769aedb169ab49106865a5bb0fbaec6966c1a4c6d5dfcec2", func := "loop.example/g01253/laws.FnExactReadPendulum", spec := "fnExactReadPendulum", inPlace := ["math.Float32frombits", "math.Float32bits", "internal/bytealg.CountString", "internal/bytealg.IndexByteString", "internal/bytealg.IndexString"], unfollowed := true, recurses := true, named := ["unicode/utf8.first", "unicode/utf8.acceptRanges", "internal/bytealg.MaxLen"], apart := false, laid := [("unicode/utf8.acceptRanges", laid_unicode_utf8_acceptRanges), ("unicode/utf8.first", laid_unicode_utf8_first)] }
def FnExactReadPendulumSaid : Prop := fnExactReadPendulumRow.holds Tryd.pinned (OpenSpec.ofChange fnExactReadPendulumSpec)

/-- ITS FALSE NEIGHBOUR: 'it returns false'. Refute it at one input. -/
def fnExactReadPendulumWrong : ChangeSpec := { name := "fnExactReadPendulum", fn := fun _ => fun
  | [d] => { results := [.lit (.bool false)], args := [d] }
  | _ => none }
def FnExactReadPendulumWrongFalsely : Prop := fnExactReadPendulumRow.holds Tryd.pinned (OpenSpec.ofChange fnExactReadPendulumWrong)

/-- 'laws.FnExactReadTop': WHATEVER THE INPUT: true; the input reads as it did. -/
def fnExactReadTopSpec : ChangeSpec := { name := "fnExactReadTop", fn := fun _ => fun
  | [d] => { results := [.lit (.bool true)], args := [d] }
  | _ => none }
def fnExactReadTopRow : OpenClaim := { program := "ytimnfogjpkhjkaadoor", sum := "7d08fa7b310e3544769aedb169ab49106865a5bb0fbaec6966c1a4c6d5dfcec2", func := "loop.example/g01253/laws.FnExactReadTop", spec := "fnExactReadTop", inPlace := ["math.Float32frombits", "math.Float32bits", "internal/bytealg.CountString", "internal/bytealg.IndexByteString", "internal/bytealg.IndexString"], unfollowed := true, recurses := true, named := ["unicode/utf8.first", "unicode/utf8.acceptRanges", "internal/bytealg.MaxLen"], apart := false, laid := [("unicode/utf8.acceptRanges", laid_unicode_utf8_acceptRanges), ("unicode/utf8.first", laid_unicode_utf8_first)] }
def FnExactReadTopSaid : Prop := fnExactReadTopRow.holds Tryd.pinned (OpenSpec.ofChange fnExactReadTopSpec)

/-- ITS FALSE NEIGHBOUR: 'it returns false'. Refute it at one input. -/
def fnExactReadTopWrong : ChangeSpec := { name := "fnExactReadTop", fn := fun _ => fun
  | [d] => { results := [.lit (.bool false)], args := [d] }
  | _ => none }
def FnExactReadTopWrongFalsely : Prop := fnExactReadTopRow.holds Tryd.pinned (OpenSpec.ofChange fnExactReadTopWrong)

/-- 'laws.FnExactReadClocks': WHATEVER THE INPUT: true; the input reads as it did. -/
def fnExactReadClocksSpec : ChangeSpec := { name := "fnExactReadClocks", fn := fun _ => fun
  | [d] => { results := [.lit (.bool true)], args := [d] }
  | _ => none }
def fnExactReadClocksRow : OpenClaim := { program := "ytimnfogjpkhjkaadoor", sum := "7d08fa7b310e3544769aedb169ab49106865a5bb0fbaec6966c1a4c6d5dfcec2", func := "loop.example/g01253/laws.FnExactReadClocks", spec := "fnExactReadClocks", inPlace := ["math.Float32frombits", "math.Float32bits", "internal/bytealg.IndexByteString", "internal/bytealg.IndexString", "internal/bytealg.CountString"], unfollowed := true, recurses := true, named := ["internal/bytealg.MaxLen", "unicode/utf8.first", "unicode/utf8.acceptRanges"], apart := false, laid := [("unicode/utf8.acceptRanges", laid_unicode_utf8_acceptRanges), ("unicode/utf8.first", laid_unicode_utf8_first)] }
def FnExactReadClocksSaid : Prop := fnExactReadClocksRow.holds Tryd.pinned (OpenSpec.ofChange fnExactReadClocksSpec)

/-- ITS FALSE NEIGHBOUR: 'it returns false'. Refute it at one input. -/
def fnExactReadClocksWrong : ChangeSpec := { name := "fnExactReadClocks", fn := fun _ => fun
  | [d] => { results := [.lit (.bool false)], args := [d] }
  | _ => none }
def FnExactReadClocksWrongFalsely : Prop := fnExactReadClocksRow.holds Tryd.pinned (OpenSpec.ofChange fnExactReadClocksWrong)

/- THE SECOND FORM. 'bulk': how many values and letters a reading holds, each counted each time it is reached (what is shared counts as often as it is met; a slice's spare places count too). A statement '..UptoSaid' is the law's where the arguments, and the package variables that the reading takes, are together of bulk at most 1048576: NARROWER than '..Said'. Prove '..Said' where nothing that the law and all that it calls make is longer than what came in: it says more and counts as full. Else prove '..UptoSaid'. A law counts once. -/
mutual
def uptoBulk {H : Type} : DataW H → Nat
  | .lit (.string bytes) => bytes.length + 1
  | .lit _ => 1
  | .nil => 1
  | .ptr d => uptoBulk d + 1
  | .slice elems spare => uptoBulkAll elems + uptoBulkAll spare + 1
  | .agg parts => uptoBulkAll parts + 1
  | .iface _ d => uptoBulk d + 1
  | .map entries => uptoBulkEntries entries + 1
  | .held _ => 1
def uptoBulkAll {H : Type} : List (DataW H) → Nat
  | [] => 0
  | d :: r => uptoBulk d + uptoBulkAll r
def uptoBulkEntries {H : Type} : List (Lit × DataW H) → Nat
  | [] => 0
  | x :: r => uptoBulkEntry x + uptoBulkEntries r
def uptoBulkEntry {H : Type} : Lit × DataW H → Nat
  | (.string bytes, d) => bytes.length + uptoBulk d + 1
  | (_, d) => uptoBulk d + 1
 end
def uptoSmall : (H : Type) → List (DataW H) → Bool := fun _ ds => decide (uptoBulkAll ds ≤ 1048576)
def OpenSpec.upto (s : _root_.Go.ChangeSpec) : _root_.Go.OpenSpec := { _root_.Go.OpenSpec.ofChange s with cond := some uptoSmall }

/-- 'laws.FnExactReadSwing', WHERE WHAT IT READS IS OF BULK AT MOST 1048576: true; the input reads as it did. -/
def fnExactReadSwingUptoRow : OpenClaim := { program := "ytimnfogjpkhjkaadoor", sum := "7d08fa7b310e3544769aedb169ab49106865a5bb0fbaec6966c1a4c6d5dfcec2", func := "loop.example/g01253/laws.FnExactReadSwing", spec := "fnExactReadSwing", inPlace := ["math.Float32frombits", "math.Float32bits", "internal/bytealg.CountString", "internal/bytealg.IndexByteString", "internal/bytealg.IndexString"], unfollowed := true, recurses := true, named := ["unicode/utf8.first", "unicode/utf8.acceptRanges", "internal/bytealg.MaxLen"], apart := false, laid := [("unicode/utf8.acceptRanges", laid_unicode_utf8_acceptRanges), ("unicode/utf8.first", laid_unicode_utf8_first)], narrowed := true }
def FnExactReadSwingUptoSaid : Prop := fnExactReadSwingUptoRow.holds Tryd.pinned (OpenSpec.upto fnExactReadSwingSpec)

/-- 'laws.FnExactReadPendulum', WHERE WHAT IT READS IS OF BULK AT MOST 1048576: true; the input reads as it did. -/
def fnExactReadPendulumUptoRow : OpenClaim := { program := "ytimnfogjpkhjkaadoor", sum := "7d08fa7b310e3544769aedb169ab49106865a5bb0fbaec6966c1a4c6d5dfcec2", func := "loop.example/g01253/laws.FnExactReadPendulum", spec := "fnExactReadPendulum", inPlace := ["math.Float32frombits", "math.Float32bits", "internal/bytealg.CountString", "internal/bytealg.IndexByteString", "internal/bytealg.IndexString"], unfollowed := true, recurses := true, named := ["unicode/utf8.first", "unicode/utf8.acceptRanges", "internal/bytealg.MaxLen"], apart := false, laid := [("unicode/utf8.acceptRanges", laid_unicode_utf8_acceptRanges), ("unicode/utf8.first", laid_unicode_utf8_first)], narrowed := true }
def FnExactReadPendulumUptoSaid : Prop := fnExactReadPendulumUptoRow.holds Tryd.pinned (OpenSpec.upto fnExactReadPendulumSpec)

/-- 'laws.FnExactReadTop', WHERE WHAT IT READS IS OF BULK AT MOST 1048576: true; the input reads as it did. -/
def fnExactReadTopUptoRow : OpenClaim := { program := "ytimnfogjpkhjkaadoor", sum := "7d08fa7b310e3544769aedb169ab49106865a5bb0fbaec6966c1a4c6d5dfcec2", func := "loop.example/g01253/laws.FnExactReadTop", spec := "fnExactReadTop", inPlace := ["math.Float32frombits", "math.Float32bits", "internal/bytealg.CountString", "internal/bytealg.IndexByteString", "internal/bytealg.IndexString"], unfollowed := true, recurses := true, named := ["unicode/utf8.first", "unicode/utf8.acceptRanges", "internal/bytealg.MaxLen"], apart := false, laid := [("unicode/utf8.acceptRanges", laid_unicode_utf8_acceptRanges), ("unicode/utf8.first", laid_unicode_utf8_first)], narrowed := true }
def FnExactReadTopUptoSaid : Prop := fnExactReadTopUptoRow.holds Tryd.pinned (OpenSpec.upto fnExactReadTopSpec)

/-- 'laws.FnExactReadClocks', WHERE WHAT IT READS IS OF BULK AT MOST 1048576: true; the input reads as it did. -/
def fnExactReadClocksUptoRow : OpenClaim := { program := "ytimnfogjpkhjkaadoor", sum := "7d08fa7b310e3544769aedb169ab49106865a5bb0fbaec6966c1a4c6d5dfcec2", func := "loop.example/g01253/laws.FnExactReadClocks", spec := "fnExactReadClocks", inPlace := ["math.Float32frombits", "math.Float32bits", "internal/bytealg.IndexByteString", "internal/bytealg.IndexString", "internal/bytealg.CountString"], unfollowed := true, recurses := true, named := ["internal/bytealg.MaxLen", "unicode/utf8.first", "unicode/utf8.acceptRanges"], apart := false, laid := [("unicode/utf8.acceptRanges", laid_unicode_utf8_acceptRanges), ("unicode/utf8.first", laid_unicode_utf8_first)], narrowed := true }
def FnExactReadClocksUptoSaid : Prop := fnExactReadClocksUptoRow.holds Tryd.pinned (OpenSpec.upto fnExactReadClocksSpec)

end Rows
end Go.Proofs.YtimnfogjpkhjkaaDoor
