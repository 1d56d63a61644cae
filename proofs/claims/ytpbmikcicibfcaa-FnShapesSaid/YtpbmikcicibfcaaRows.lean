/-
  No cell of these rows narrows 'for every input' (looked for: loops, veiled, ifaces, maps, wideKeys, modest, calm, conditions, laid).
  DERIVED. THE GIVEN ROWS OF THIS SEAT. 7 by the template 'for every input the law returns true; each argument reads behind the call as it read before'; 0 by the template 'total and deterministic' (their statements: YtpbmikcicibfcaaTotals.lean).
  GIVEN WITH THE SEED: the statements are not yours to turn. If you find one false, say at which input.
  Laid BY PROGRAM, IN A SANDBOX (cutbox-rows.mjs): the forced cells as the released guide's own fill.sh prints them over the translation 97c0c7a5f54279e8… (all of the seat's roots in one cut). By AI agents, Wed Nov 11 2026. No macro, syntax, notation, axiom, sorry.
-/
import Derived.Test.YtpbmikcicibfcaaChecked
import GoSem.Claim
import GoSem.ClaimJoined
import GoSem.ClaimMapViews
import Derived.JoinedTies
import Derived.KernelRfl
namespace Go.Proofs.Ytpbmikcicibfcaa
/- THE CELL 'sum', in the pinned program and in every row, IS THE sha256 OF THE DUMP (.gsa) THAT YtpbmikcicibfcaaProg.lean LOADS. Nothing in Lean hashes anything: it is a label: what it is worth is what the hold of that sum in a sandbox is worth. -/
noncomputable def Try.pinned : Pinned := { name := "ytpbmikcicibfcaa", sum := "97c0c7a5f54279e8de446ad9ca9db5cc2b21b3ba3c42ddb6ab07402f4c6afce1", checked := Try.checked }
namespace Rows
def none {H : Type} : Left H := { results := [], args := [] }

/-- 'laws.FnExactOverflowOf': WHATEVER THE INPUT: true; the input reads as it did. -/
def fnExactOverflowOfSpec : ChangeSpec := { name := "fnExactOverflowOf", fn := fun _ => fun
  | [d1, d2, d3] => { results := [.lit (.bool true)], args := [d1, d2, d3] }
  | _ => none }
def fnExactOverflowOfRow : OpenClaim := { program := "ytpbmikcicibfcaa", sum := "97c0c7a5f54279e8de446ad9ca9db5cc2b21b3ba3c42ddb6ab07402f4c6afce1", func := "loop.example/g01149/laws.FnExactOverflowOf", spec := "fnExactOverflowOf", unfollowed := true, recurses := true, apart := false }
def FnExactOverflowOfSaid : Prop := fnExactOverflowOfRow.holds Try.pinned (OpenSpec.ofChange fnExactOverflowOfSpec)

/-- ITS FALSE NEIGHBOUR: 'it returns false'. Refute it at one input. -/
def fnExactOverflowOfWrong : ChangeSpec := { name := "fnExactOverflowOf", fn := fun _ => fun
  | [d1, d2, d3] => { results := [.lit (.bool false)], args := [d1, d2, d3] }
  | _ => none }
def FnExactOverflowOfWrongFalsely : Prop := fnExactOverflowOfRow.holds Try.pinned (OpenSpec.ofChange fnExactOverflowOfWrong)

/-- 'laws.FnExactFullestEdge': WHATEVER THE INPUT: true; the input reads as it did. -/
def fnExactFullestEdgeSpec : ChangeSpec := { name := "fnExactFullestEdge", fn := fun _ => fun
  | [d1, d2, d3] => { results := [.lit (.bool true)], args := [d1, d2, d3] }
  | _ => none }
def fnExactFullestEdgeRow : OpenClaim := { program := "ytpbmikcicibfcaa", sum := "97c0c7a5f54279e8de446ad9ca9db5cc2b21b3ba3c42ddb6ab07402f4c6afce1", func := "loop.example/g01149/laws.FnExactFullestEdge", spec := "fnExactFullestEdge", unfollowed := true, recurses := true, apart := false }
def FnExactFullestEdgeSaid : Prop := fnExactFullestEdgeRow.holds Try.pinned (OpenSpec.ofChange fnExactFullestEdgeSpec)

/-- ITS FALSE NEIGHBOUR: 'it returns false'. Refute it at one input. -/
def fnExactFullestEdgeWrong : ChangeSpec := { name := "fnExactFullestEdge", fn := fun _ => fun
  | [d1, d2, d3] => { results := [.lit (.bool false)], args := [d1, d2, d3] }
  | _ => none }
def FnExactFullestEdgeWrongFalsely : Prop := fnExactFullestEdgeRow.holds Try.pinned (OpenSpec.ofChange fnExactFullestEdgeWrong)

/-- 'laws.FnExactChosenUse': WHATEVER THE INPUT: true; the input reads as it did. -/
def fnExactChosenUseSpec : ChangeSpec := { name := "fnExactChosenUse", fn := fun _ => fun
  | [d1, d2, d3] => { results := [.lit (.bool true)], args := [d1, d2, d3] }
  | _ => none }
def fnExactChosenUseRow : OpenClaim := { program := "ytpbmikcicibfcaa", sum := "97c0c7a5f54279e8de446ad9ca9db5cc2b21b3ba3c42ddb6ab07402f4c6afce1", func := "loop.example/g01149/laws.FnExactChosenUse", spec := "fnExactChosenUse", unfollowed := true, recurses := true, apart := false }
def FnExactChosenUseSaid : Prop := fnExactChosenUseRow.holds Try.pinned (OpenSpec.ofChange fnExactChosenUseSpec)

/-- ITS FALSE NEIGHBOUR: 'it returns false'. Refute it at one input. -/
def fnExactChosenUseWrong : ChangeSpec := { name := "fnExactChosenUse", fn := fun _ => fun
  | [d1, d2, d3] => { results := [.lit (.bool false)], args := [d1, d2, d3] }
  | _ => none }
def FnExactChosenUseWrongFalsely : Prop := fnExactChosenUseRow.holds Try.pinned (OpenSpec.ofChange fnExactChosenUseWrong)

/-- 'laws.FnExactGreedyChoice': WHATEVER THE INPUT: true; the input reads as it did. -/
def fnExactGreedyChoiceSpec : ChangeSpec := { name := "fnExactGreedyChoice", fn := fun _ => fun
  | [d1, d2] => { results := [.lit (.bool true)], args := [d1, d2] }
  | _ => none }
def fnExactGreedyChoiceRow : OpenClaim := { program := "ytpbmikcicibfcaa", sum := "97c0c7a5f54279e8de446ad9ca9db5cc2b21b3ba3c42ddb6ab07402f4c6afce1", func := "loop.example/g01149/laws.FnExactGreedyChoice", spec := "fnExactGreedyChoice", unfollowed := true, recurses := true, apart := false }
def FnExactGreedyChoiceSaid : Prop := fnExactGreedyChoiceRow.holds Try.pinned (OpenSpec.ofChange fnExactGreedyChoiceSpec)

/-- ITS FALSE NEIGHBOUR: 'it returns false'. Refute it at one input. -/
def fnExactGreedyChoiceWrong : ChangeSpec := { name := "fnExactGreedyChoice", fn := fun _ => fun
  | [d1, d2] => { results := [.lit (.bool false)], args := [d1, d2] }
  | _ => none }
def FnExactGreedyChoiceWrongFalsely : Prop := fnExactGreedyChoiceRow.holds Try.pinned (OpenSpec.ofChange fnExactGreedyChoiceWrong)

/-- 'laws.FnExactBestChoice': WHATEVER THE INPUT: true; the input reads as it did. -/
def fnExactBestChoiceSpec : ChangeSpec := { name := "fnExactBestChoice", fn := fun _ => fun
  | [d1, d2] => { results := [.lit (.bool true)], args := [d1, d2] }
  | _ => none }
def fnExactBestChoiceRow : OpenClaim := { program := "ytpbmikcicibfcaa", sum := "97c0c7a5f54279e8de446ad9ca9db5cc2b21b3ba3c42ddb6ab07402f4c6afce1", func := "loop.example/g01149/laws.FnExactBestChoice", spec := "fnExactBestChoice", unfollowed := true, recurses := true, apart := false }
def FnExactBestChoiceSaid : Prop := fnExactBestChoiceRow.holds Try.pinned (OpenSpec.ofChange fnExactBestChoiceSpec)

/-- ITS FALSE NEIGHBOUR: 'it returns false'. Refute it at one input. -/
def fnExactBestChoiceWrong : ChangeSpec := { name := "fnExactBestChoice", fn := fun _ => fun
  | [d1, d2] => { results := [.lit (.bool false)], args := [d1, d2] }
  | _ => none }
def FnExactBestChoiceWrongFalsely : Prop := fnExactBestChoiceRow.holds Try.pinned (OpenSpec.ofChange fnExactBestChoiceWrong)

/-- 'laws.FnRouted': WHATEVER THE INPUT: true; the input reads as it did. -/
def fnRoutedSpec : ChangeSpec := { name := "fnRouted", fn := fun _ => fun
  | [d1, d2] => { results := [.lit (.bool true)], args := [d1, d2] }
  | _ => none }
def fnRoutedRow : OpenClaim := { program := "ytpbmikcicibfcaa", sum := "97c0c7a5f54279e8de446ad9ca9db5cc2b21b3ba3c42ddb6ab07402f4c6afce1", func := "loop.example/g01149/laws.FnRouted", spec := "fnRouted", unfollowed := true, recurses := true, apart := false }
def FnRoutedSaid : Prop := fnRoutedRow.holds Try.pinned (OpenSpec.ofChange fnRoutedSpec)

/-- ITS FALSE NEIGHBOUR: 'it returns false'. Refute it at one input. -/
def fnRoutedWrong : ChangeSpec := { name := "fnRouted", fn := fun _ => fun
  | [d1, d2] => { results := [.lit (.bool false)], args := [d1, d2] }
  | _ => none }
def FnRoutedWrongFalsely : Prop := fnRoutedRow.holds Try.pinned (OpenSpec.ofChange fnRoutedWrong)

/-- 'laws.FnShapes': WHATEVER THE INPUT: true; the input reads as it did. -/
def fnShapesSpec : ChangeSpec := { name := "fnShapes", fn := fun _ => fun
  | [d1, d2] => { results := [.lit (.bool true)], args := [d1, d2] }
  | _ => none }
def fnShapesRow : OpenClaim := { program := "ytpbmikcicibfcaa", sum := "97c0c7a5f54279e8de446ad9ca9db5cc2b21b3ba3c42ddb6ab07402f4c6afce1", func := "loop.example/g01149/laws.FnShapes", spec := "fnShapes", unfollowed := true, recurses := true, apart := false }
def FnShapesSaid : Prop := fnShapesRow.holds Try.pinned (OpenSpec.ofChange fnShapesSpec)

/-- ITS FALSE NEIGHBOUR: 'it returns false'. Refute it at one input. -/
def fnShapesWrong : ChangeSpec := { name := "fnShapes", fn := fun _ => fun
  | [d1, d2] => { results := [.lit (.bool false)], args := [d1, d2] }
  | _ => none }
def FnShapesWrongFalsely : Prop := fnShapesRow.holds Try.pinned (OpenSpec.ofChange fnShapesWrong)

/- THE SECOND FORM. 'bulk': how many values and letters a reading holds, each counted each time it is reached (what is shared counts as often as it is met; a slice's spare places count too). A statement '..UptoSaid' is the law's where the arguments, and the package variables that the reading takes, are together of bulk at most 1048576: NARROWER than '..Said'. Prove '..Said' where nothing that the law and all that it calls make is longer than what came in: it says more and counts as full. Else prove '..UptoSaid'. A law counts once. -/
mutual
def uptoBulk {H : Type} : DataW H → Nat
  | .lit (.string bytes) => bytes.length + 1
  | .lit _ => 1
  | .nil => 1
  | .ptr d => uptoBulk d + 1
  | .slice elems spare => uptoBulkAll elems + uptoBulkAll spare + 1
  | .agg parts => uptoBulkAll parts + 1
  | .iface _ d => uptoBulk d + 1
  | .map entries => uptoBulkEntries entries + 1
  | .held _ => 1
def uptoBulkAll {H : Type} : List (DataW H) → Nat
  | [] => 0
  | d :: r => uptoBulk d + uptoBulkAll r
def uptoBulkEntries {H : Type} : List (Lit × DataW H) → Nat
  | [] => 0
  | x :: r => uptoBulkEntry x + uptoBulkEntries r
def uptoBulkEntry {H : Type} : Lit × DataW H → Nat
  | (.string bytes, d) => bytes.length + uptoBulk d + 1
  | (_, d) => uptoBulk d + 1
 end
def uptoSmall : (H : Type) → List (DataW H) → Bool := fun _ ds => decide (uptoBulkAll ds ≤ 1048576)
def OpenSpec.upto (s : _root_.Go.ChangeSpec) : _root_.Go.OpenSpec := { _root_.Go.OpenSpec.ofChange s with cond := some uptoSmall }

/-- 'laws.FnExactOverflowOf', WHERE WHAT IT READS IS OF BULK AT MOST 1048576: true; the input reads as it did. -/
def fnExactOverflowOfUptoRow : OpenClaim := { program := "ytpbmikcicibfcaa", sum := "97c0c7a5f54279e8de446ad9ca9db5cc2b21b3ba3c42ddb6ab07402f4c6afce1", func := "loop.example/g01149/laws.FnExactOverflowOf", spec := "fnExactOverflowOf", unfollowed := true, recurses := true, apart := false, narrowed := true }
def FnExactOverflowOfUptoSaid : Prop := fnExactOverflowOfUptoRow.holds Try.pinned (OpenSpec.upto fnExactOverflowOfSpec)

/-- 'laws.FnExactFullestEdge', WHERE WHAT IT READS IS OF BULK AT MOST 1048576: true; the input reads as it did. -/
def fnExactFullestEdgeUptoRow : OpenClaim := { program := "ytpbmikcicibfcaa", sum := "97c0c7a5f54279e8de446ad9ca9db5cc2b21b3ba3c42ddb6ab07402f4c6afce1", func := "loop.example/g01149/laws.FnExactFullestEdge", spec := "fnExactFullestEdge", unfollowed := true, recurses := true, apart := false, narrowed := true }
def FnExactFullestEdgeUptoSaid : Prop := fnExactFullestEdgeUptoRow.holds Try.pinned (OpenSpec.upto fnExactFullestEdgeSpec)

/-- 'laws.FnExactChosenUse', WHERE WHAT IT READS IS OF BULK AT MOST 1048576: true; the input reads as it did. -/
def fnExactChosenUseUptoRow : OpenClaim := { program := "ytpbmikcicibfcaa", sum := "97c0c7a5f54279e8de446ad9ca9db5cc2b21b3ba3c42ddb6ab07402f4c6afce1", func := "loop.example/g01149/laws.FnExactChosenUse", spec := "fnExactChosenUse", unfollowed := true, recurses := true, apart := false, narrowed := true }
def FnExactChosenUseUptoSaid : Prop := fnExactChosenUseUptoRow.holds Try.pinned (OpenSpec.upto fnExactChosenUseSpec)

/-- 'laws.FnExactGreedyChoice', WHERE WHAT IT READS IS OF BULK AT MOST 1048576: true; the input reads as it did. -/
def fnExactGreedyChoiceUptoRow : OpenClaim := { program := "ytpbmikcicibfcaa", sum := "97c0c7a5f54279e8de446ad9ca9db5cc2b21b3ba3c42ddb6ab07402f4c6afce1", func := "loop.example/g01149/laws.FnExactGreedyChoice", spec := "fnExactGreedyChoice", unfollowed := true, recurses := true, apart := false, narrowed := true }
def FnExactGreedyChoiceUptoSaid : Prop := fnExactGreedyChoiceUptoRow.holds Try.pinned (OpenSpec.upto fnExactGreedyChoiceSpec)

/-- 'laws.FnExactBestChoice', WHERE WHAT IT READS IS OF BULK AT MOST 1048576: true; the input reads as it did. -/
def fnExactBestChoiceUptoRow : OpenClaim := { program := "ytpbmikcicibfcaa", sum := "97c0c7a5f54279e8de446ad9ca9db5cc2b21b3ba3c42ddb6ab07402f4c6afce1", func := "loop.example/g01149/laws.FnExactBestChoice", spec := "fnExactBestChoice", unfollowed := true, recurses := true, apart := false, narrowed := true }
def FnExactBestChoiceUptoSaid : Prop := fnExactBestChoiceUptoRow.holds Try.pinned (OpenSpec.upto fnExactBestChoiceSpec)

/-- 'laws.FnRouted', WHERE WHAT IT READS IS OF BULK AT MOST 1048576: true; the input reads as it did. -/
def fnRoutedUptoRow : OpenClaim := { program := "ytpbmikcicibfcaa", sum := "97c0c7a5f54279e8de446ad9ca9db5cc2b21b3ba3c42ddb6ab07402f4c6afce1", func := "loop.example/g01149/laws.FnRouted", spec := "fnRouted", unfollowed := true, recurses := true, apart := false, narrowed := true }
def FnRoutedUptoSaid : Prop := fnRoutedUptoRow.holds Try.pinned (OpenSpec.upto fnRoutedSpec)

/-- 'laws.FnShapes', WHERE WHAT IT READS IS OF BULK AT MOST 1048576: true; the input reads as it did. -/
def fnShapesUptoRow : OpenClaim := { program := "ytpbmikcicibfcaa", sum := "97c0c7a5f54279e8de446ad9ca9db5cc2b21b3ba3c42ddb6ab07402f4c6afce1", func := "loop.example/g01149/laws.FnShapes", spec := "fnShapes", unfollowed := true, recurses := true, apart := false, narrowed := true }
def FnShapesUptoSaid : Prop := fnShapesUptoRow.holds Try.pinned (OpenSpec.upto fnShapesSpec)

end Rows
end Go.Proofs.Ytpbmikcicibfcaa
