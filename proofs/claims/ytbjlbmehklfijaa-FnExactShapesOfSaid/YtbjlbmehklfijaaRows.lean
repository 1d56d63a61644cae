/-
  No cell of these rows narrows 'for every input' (looked for: loops, veiled, ifaces, maps, wideKeys, modest, calm, conditions, laid).
  DERIVED. THE GIVEN ROWS OF THIS SEAT. 6 by the template 'for every input the law returns true; each argument reads behind the call as it read before'; 0 by the template 'total and deterministic' (their statements: YtbjlbmehklfijaaTotals.lean).
  GIVEN WITH THE SEED: the statements are not yours to turn. If you find one false, say at which input.
  Laid BY PROGRAM, IN A SANDBOX (cutbox-rows.mjs): the forced cells as the released guide's own fill.sh prints them over the translation 5c06433bcddd3811… (all of the seat's roots in one cut). By AI agents, Wed Nov 11 2026. No macro, syntax, notation, axiom, sorry.
-/
import Derived.Test.YtbjlbmehklfijaaChecked
import GoSem.Claim
import GoSem.ClaimJoined
import GoSem.ClaimMapViews
import Derived.JoinedTies
import Derived.KernelRfl
namespace Go.Proofs.Ytbjlbmehklfijaa
/- THE CELL 'sum', in the pinned program and in every row, IS THE sha256 OF THE DUMP (.gsa) THAT YtbjlbmehklfijaaProg.lean LOADS. Nothing in Lean hashes anything: it is a label: what it is worth is what the hold of that sum in a sandbox is worth. -/
noncomputable def Try.pinned : Pinned := { name := "ytbjlbmehklfijaa", sum := "5c06433bcddd381103f06788762f460b1d4c9aa365d9a31477f47f6ae214ee38", checked := Try.checked }
namespace Rows
def none {H : Type} : Left H := { results := [], args := [] }

/-- 'laws.FnExactValidGrid': WHATEVER THE INPUT: true; the input reads as it did. -/
def fnExactValidGridSpec : ChangeSpec := { name := "fnExactValidGrid", fn := fun _ => fun
  | [d] => { results := [.lit (.bool true)], args := [d] }
  | _ => none }
def fnExactValidGridRow : OpenClaim := { program := "ytbjlbmehklfijaa", sum := "5c06433bcddd381103f06788762f460b1d4c9aa365d9a31477f47f6ae214ee38", func := "loop.example/g01149/laws.FnExactValidGrid", spec := "fnExactValidGrid", unfollowed := true, recurses := true, apart := false }
def FnExactValidGridSaid : Prop := fnExactValidGridRow.holds Try.pinned (OpenSpec.ofChange fnExactValidGridSpec)

/-- ITS FALSE NEIGHBOUR: 'it returns false'. Refute it at one input. -/
def fnExactValidGridWrong : ChangeSpec := { name := "fnExactValidGrid", fn := fun _ => fun
  | [d] => { results := [.lit (.bool false)], args := [d] }
  | _ => none }
def FnExactValidGridWrongFalsely : Prop := fnExactValidGridRow.holds Try.pinned (OpenSpec.ofChange fnExactValidGridWrong)

/-- 'laws.FnExactIsNet': WHATEVER THE INPUT: true; the input reads as it did. -/
def fnExactIsNetSpec : ChangeSpec := { name := "fnExactIsNet", fn := fun _ => fun
  | [d1, d2] => { results := [.lit (.bool true)], args := [d1, d2] }
  | _ => none }
def fnExactIsNetRow : OpenClaim := { program := "ytbjlbmehklfijaa", sum := "5c06433bcddd381103f06788762f460b1d4c9aa365d9a31477f47f6ae214ee38", func := "loop.example/g01149/laws.FnExactIsNet", spec := "fnExactIsNet", unfollowed := true, recurses := true, apart := false }
def FnExactIsNetSaid : Prop := fnExactIsNetRow.holds Try.pinned (OpenSpec.ofChange fnExactIsNetSpec)

/-- ITS FALSE NEIGHBOUR: 'it returns false'. Refute it at one input. -/
def fnExactIsNetWrong : ChangeSpec := { name := "fnExactIsNet", fn := fun _ => fun
  | [d1, d2] => { results := [.lit (.bool false)], args := [d1, d2] }
  | _ => none }
def FnExactIsNetWrongFalsely : Prop := fnExactIsNetRow.holds Try.pinned (OpenSpec.ofChange fnExactIsNetWrong)

/-- 'laws.FnExactEvenGrid': WHATEVER THE INPUT: true; the input reads as it did. -/
def fnExactEvenGridSpec : ChangeSpec := { name := "fnExactEvenGrid", fn := fun _ => fun
  | [d1, d2, d3] => { results := [.lit (.bool true)], args := [d1, d2, d3] }
  | _ => none }
def fnExactEvenGridRow : OpenClaim := { program := "ytbjlbmehklfijaa", sum := "5c06433bcddd381103f06788762f460b1d4c9aa365d9a31477f47f6ae214ee38", func := "loop.example/g01149/laws.FnExactEvenGrid", spec := "fnExactEvenGrid", apart := false }
def FnExactEvenGridSaid : Prop := fnExactEvenGridRow.holds Try.pinned (OpenSpec.ofChange fnExactEvenGridSpec)

/-- ITS FALSE NEIGHBOUR: 'it returns false'. Refute it at one input. -/
def fnExactEvenGridWrong : ChangeSpec := { name := "fnExactEvenGrid", fn := fun _ => fun
  | [d1, d2, d3] => { results := [.lit (.bool false)], args := [d1, d2, d3] }
  | _ => none }
def FnExactEvenGridWrongFalsely : Prop := fnExactEvenGridRow.holds Try.pinned (OpenSpec.ofChange fnExactEvenGridWrong)

/-- 'laws.FnExactWireTotal': WHATEVER THE INPUT: true; the input reads as it did. -/
def fnExactWireTotalSpec : ChangeSpec := { name := "fnExactWireTotal", fn := fun _ => fun
  | [d1, d2] => { results := [.lit (.bool true)], args := [d1, d2] }
  | _ => none }
def fnExactWireTotalRow : OpenClaim := { program := "ytbjlbmehklfijaa", sum := "5c06433bcddd381103f06788762f460b1d4c9aa365d9a31477f47f6ae214ee38", func := "loop.example/g01149/laws.FnExactWireTotal", spec := "fnExactWireTotal", unfollowed := true, recurses := true, apart := false }
def FnExactWireTotalSaid : Prop := fnExactWireTotalRow.holds Try.pinned (OpenSpec.ofChange fnExactWireTotalSpec)

/-- ITS FALSE NEIGHBOUR: 'it returns false'. Refute it at one input. -/
def fnExactWireTotalWrong : ChangeSpec := { name := "fnExactWireTotal", fn := fun _ => fun
  | [d1, d2] => { results := [.lit (.bool false)], args := [d1, d2] }
  | _ => none }
def FnExactWireTotalWrongFalsely : Prop := fnExactWireTotalRow.holds Try.pinned (OpenSpec.ofChange fnExactWireTotalWrong)

/-- 'laws.FnExactCutBound': WHATEVER THE INPUT: true; the input reads as it did. -/
def fnExactCutBoundSpec : ChangeSpec := { name := "fnExactCutBound", fn := fun _ => fun
  | [d1, d2] => { results := [.lit (.bool true)], args := [d1, d2] }
  | _ => none }
def fnExactCutBoundRow : OpenClaim := { program := "ytbjlbmehklfijaa", sum := "5c06433bcddd381103f06788762f460b1d4c9aa365d9a31477f47f6ae214ee38", func := "loop.example/g01149/laws.FnExactCutBound", spec := "fnExactCutBound", unfollowed := true, recurses := true, apart := false }
def FnExactCutBoundSaid : Prop := fnExactCutBoundRow.holds Try.pinned (OpenSpec.ofChange fnExactCutBoundSpec)

/-- ITS FALSE NEIGHBOUR: 'it returns false'. Refute it at one input. -/
def fnExactCutBoundWrong : ChangeSpec := { name := "fnExactCutBound", fn := fun _ => fun
  | [d1, d2] => { results := [.lit (.bool false)], args := [d1, d2] }
  | _ => none }
def FnExactCutBoundWrongFalsely : Prop := fnExactCutBoundRow.holds Try.pinned (OpenSpec.ofChange fnExactCutBoundWrong)

/-- 'laws.FnExactShapesOf': WHATEVER THE INPUT: true; the input reads as it did. -/
def fnExactShapesOfSpec : ChangeSpec := { name := "fnExactShapesOf", fn := fun _ => fun
  | [d1, d2] => { results := [.lit (.bool true)], args := [d1, d2] }
  | _ => none }
def fnExactShapesOfRow : OpenClaim := { program := "ytbjlbmehklfijaa", sum := "5c06433bcddd381103f06788762f460b1d4c9aa365d9a31477f47f6ae214ee38", func := "loop.example/g01149/laws.FnExactShapesOf", spec := "fnExactShapesOf", unfollowed := true, recurses := true, apart := false }
def FnExactShapesOfSaid : Prop := fnExactShapesOfRow.holds Try.pinned (OpenSpec.ofChange fnExactShapesOfSpec)

/-- ITS FALSE NEIGHBOUR: 'it returns false'. Refute it at one input. -/
def fnExactShapesOfWrong : ChangeSpec := { name := "fnExactShapesOf", fn := fun _ => fun
  | [d1, d2] => { results := [.lit (.bool false)], args := [d1, d2] }
  | _ => none }
def FnExactShapesOfWrongFalsely : Prop := fnExactShapesOfRow.holds Try.pinned (OpenSpec.ofChange fnExactShapesOfWrong)

/- THE SECOND FORM. 'bulk': how many values and letters a reading holds, each counted each time it is reached (what is shared counts as often as it is met; a slice's spare places count too). A statement '..UptoSaid' is the law's where the arguments, and the package variables that the reading takes, are together of bulk at most 1048576: NARROWER than '..Said'. Prove '..Said' where nothing that the law and all that it calls make is longer than what came in: it says more and counts as full. Else prove '..UptoSaid'. A law counts once. -/
mutual
def uptoBulk {H : Type} : DataW H → Nat
  | .lit (.string bytes) => bytes.length + 1
  | .lit _ => 1
  | .nil => 1
  | .ptr d => uptoBulk d + 1
  | .slice elems spare => uptoBulkAll elems + uptoBulkAll spare + 1
  | .agg parts => uptoBulkAll parts + 1
  | .iface _ d => uptoBulk d + 1
  | .map entries => uptoBulkEntries entries + 1
  | .held _ => 1
def uptoBulkAll {H : Type} : List (DataW H) → Nat
  | [] => 0
  | d :: r => uptoBulk d + uptoBulkAll r
def uptoBulkEntries {H : Type} : List (Lit × DataW H) → Nat
  | [] => 0
  | x :: r => uptoBulkEntry x + uptoBulkEntries r
def uptoBulkEntry {H : Type} : Lit × DataW H → Nat
  | (.string bytes, d) => bytes.length + uptoBulk d + 1
  | (_, d) => uptoBulk d + 1
 end
def uptoSmall : (H : Type) → List (DataW H) → Bool := fun _ ds => decide (uptoBulkAll ds ≤ 1048576)
def OpenSpec.upto (s : _root_.Go.ChangeSpec) : _root_.Go.OpenSpec := { _root_.Go.OpenSpec.ofChange s with cond := some uptoSmall }

/-- 'laws.FnExactValidGrid', WHERE WHAT IT READS IS OF BULK AT MOST 1048576: true; the input reads as it did. -/
def fnExactValidGridUptoRow : OpenClaim := { program := "ytbjlbmehklfijaa", sum := "5c06433bcddd381103f06788762f460b1d4c9aa365d9a31477f47f6ae214ee38", func := "loop.example/g01149/laws.FnExactValidGrid", spec := "fnExactValidGrid", unfollowed := true, recurses := true, apart := false, narrowed := true }
def FnExactValidGridUptoSaid : Prop := fnExactValidGridUptoRow.holds Try.pinned (OpenSpec.upto fnExactValidGridSpec)

/-- 'laws.FnExactIsNet', WHERE WHAT IT READS IS OF BULK AT MOST 1048576: true; the input reads as it did. -/
def fnExactIsNetUptoRow : OpenClaim := { program := "ytbjlbmehklfijaa", sum := "5c06433bcddd381103f06788762f460b1d4c9aa365d9a31477f47f6ae214ee38", func := "loop.example/g01149/laws.FnExactIsNet", spec := "fnExactIsNet", unfollowed := true, recurses := true, apart := false, narrowed := true }
def FnExactIsNetUptoSaid : Prop := fnExactIsNetUptoRow.holds Try.pinned (OpenSpec.upto fnExactIsNetSpec)

/-- 'laws.FnExactEvenGrid', WHERE WHAT IT READS IS OF BULK AT MOST 1048576: true; the input reads as it did. -/
def fnExactEvenGridUptoRow : OpenClaim := { program := "ytbjlbmehklfijaa", sum := "5c06433bcddd381103f06788762f460b1d4c9aa365d9a31477f47f6ae214ee38", func := "loop.example/g01149/laws.FnExactEvenGrid", spec := "fnExactEvenGrid", apart := false, narrowed := true }
def FnExactEvenGridUptoSaid : Prop := fnExactEvenGridUptoRow.holds Try.pinned (OpenSpec.upto fnExactEvenGridSpec)

/-- 'laws.FnExactWireTotal', WHERE WHAT IT READS IS OF BULK AT MOST 1048576: true; the input reads as it did. -/
def fnExactWireTotalUptoRow : OpenClaim := { program := "ytbjlbmehklfijaa", sum := "5c06433bcddd381103f06788762f460b1d4c9aa365d9a31477f47f6ae214ee38", func := "loop.example/g01149/laws.FnExactWireTotal", spec := "fnExactWireTotal", unfollowed := true, recurses := true, apart := false, narrowed := true }
def FnExactWireTotalUptoSaid : Prop := fnExactWireTotalUptoRow.holds Try.pinned (OpenSpec.upto fnExactWireTotalSpec)

/-- 'laws.FnExactCutBound', WHERE WHAT IT READS IS OF BULK AT MOST 1048576: true; the input reads as it did. -/
def fnExactCutBoundUptoRow : OpenClaim := { program := "ytbjlbmehklfijaa", sum := "5c06433bcddd381103f06788762f460b1d4c9aa365d9a31477f47f6ae214ee38", func := "loop.example/g01149/laws.FnExactCutBound", spec := "fnExactCutBound", unfollowed := true, recurses := true, apart := false, narrowed := true }
def FnExactCutBoundUptoSaid : Prop := fnExactCutBoundUptoRow.holds Try.pinned (OpenSpec.upto fnExactCutBoundSpec)

/-- 'laws.FnExactShapesOf', WHERE WHAT IT READS IS OF BULK AT MOST 1048576: true; the input reads as it did. -/
def fnExactShapesOfUptoRow : OpenClaim := { program := "ytbjlbmehklfijaa", sum := "5c06433bcddd381103f06788762f460b1d4c9aa365d9a31477f47f6ae214ee38", func := "loop.example/g01149/laws.FnExactShapesOf", spec := "fnExactShapesOf", unfollowed := true, recurses := true, apart := false, narrowed := true }
def FnExactShapesOfUptoSaid : Prop := fnExactShapesOfUptoRow.holds Try.pinned (OpenSpec.upto fnExactShapesOfSpec)

end Rows
end Go.Proofs.Ytbjlbmehklfijaa
