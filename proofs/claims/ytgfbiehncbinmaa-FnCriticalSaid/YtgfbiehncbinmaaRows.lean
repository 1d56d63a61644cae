/-
  No cell of these rows narrows 'for every input' (looked for: loops, veiled, ifaces, maps, wideKeys, modest, calm, conditions, laid).
  DERIVED. THE GIVEN ROWS OF THIS SEAT. 5 by the template 'for every input the law returns true; each argument reads behind the call as it read before'; 0 by the template 'total and deterministic' (their statements: YtgfbiehncbinmaaTotals.lean).
  GIVEN WITH THE SEED: the statements are not yours to turn. If you find one false, say at which input.
  Laid BY PROGRAM, IN A SANDBOX (cutbox-rows.mjs): the forced cells as the released guide's own fill.sh prints them over the translation cefcc65e7f751fb5… (all of the seat's roots in one cut). By AI agents, Wed Nov 11 2026. No macro, syntax, notation, axiom, sorry.
-/
import Derived.Test.YtgfbiehncbinmaaChecked
import GoSem.Claim
import GoSem.ClaimJoined
import GoSem.ClaimMapViews
import Derived.JoinedTies
import Derived.KernelRfl
namespace Go.Proofs.Ytgfbiehncbinmaa
/- THE CELL 'sum', in the pinned program and in every row, IS THE sha256 OF THE DUMP (.gsa) THAT YtgfbiehncbinmaaProg.lean LOADS. Nothing in Lean hashes anything: it is a label: what it is worth is what the hold of that sum in a sandbox is worth. -/
noncomputable def Try.pinned : Pinned := { name := "ytgfbiehncbinmaa", sum := "cefcc65e7f751fb5f45f47efaf5f48d9d447f8a15094585bf6620af7acdd96e6", checked := Try.checked }
namespace Rows
def none {H : Type} : Left H := { results := [], args := [] }

/-- 'laws.FnExactRisingRing': WHATEVER THE INPUT: true; the input reads as it did. -/
def fnExactRisingRingSpec : ChangeSpec := { name := "fnExactRisingRing", fn := fun _ => fun
  | [d] => { results := [.lit (.bool true)], args := [d] }
  | _ => none }
def fnExactRisingRingRow : OpenClaim := { program := "ytgfbiehncbinmaa", sum := "cefcc65e7f751fb5f45f47efaf5f48d9d447f8a15094585bf6620af7acdd96e6", func := "loop.example/g01149/laws.FnExactRisingRing", spec := "fnExactRisingRing", unfollowed := true, recurses := true, apart := false }
def FnExactRisingRingSaid : Prop := fnExactRisingRingRow.holds Try.pinned (OpenSpec.ofChange fnExactRisingRingSpec)

/-- ITS FALSE NEIGHBOUR: 'it returns false'. Refute it at one input. -/
def fnExactRisingRingWrong : ChangeSpec := { name := "fnExactRisingRing", fn := fun _ => fun
  | [d] => { results := [.lit (.bool false)], args := [d] }
  | _ => none }
def FnExactRisingRingWrongFalsely : Prop := fnExactRisingRingRow.holds Try.pinned (OpenSpec.ofChange fnExactRisingRingWrong)

/-- 'laws.FnExactCriticalPath': WHATEVER THE INPUT: true; the input reads as it did. -/
def fnExactCriticalPathSpec : ChangeSpec := { name := "fnExactCriticalPath", fn := fun _ => fun
  | [d] => { results := [.lit (.bool true)], args := [d] }
  | _ => none }
def fnExactCriticalPathRow : OpenClaim := { program := "ytgfbiehncbinmaa", sum := "cefcc65e7f751fb5f45f47efaf5f48d9d447f8a15094585bf6620af7acdd96e6", func := "loop.example/g01149/laws.FnExactCriticalPath", spec := "fnExactCriticalPath", unfollowed := true, recurses := true, apart := false }
def FnExactCriticalPathSaid : Prop := fnExactCriticalPathRow.holds Try.pinned (OpenSpec.ofChange fnExactCriticalPathSpec)

/-- ITS FALSE NEIGHBOUR: 'it returns false'. Refute it at one input. -/
def fnExactCriticalPathWrong : ChangeSpec := { name := "fnExactCriticalPath", fn := fun _ => fun
  | [d] => { results := [.lit (.bool false)], args := [d] }
  | _ => none }
def FnExactCriticalPathWrongFalsely : Prop := fnExactCriticalPathRow.holds Try.pinned (OpenSpec.ofChange fnExactCriticalPathWrong)

/-- 'laws.FnPlaces': WHATEVER THE INPUT: true; the input reads as it did. -/
def fnPlacesSpec : ChangeSpec := { name := "fnPlaces", fn := fun _ => fun
  | [d1, d2] => { results := [.lit (.bool true)], args := [d1, d2] }
  | _ => none }
def fnPlacesRow : OpenClaim := { program := "ytgfbiehncbinmaa", sum := "cefcc65e7f751fb5f45f47efaf5f48d9d447f8a15094585bf6620af7acdd96e6", func := "loop.example/g01149/laws.FnPlaces", spec := "fnPlaces", unfollowed := true, recurses := true, apart := false }
def FnPlacesSaid : Prop := fnPlacesRow.holds Try.pinned (OpenSpec.ofChange fnPlacesSpec)

/-- ITS FALSE NEIGHBOUR: 'it returns false'. Refute it at one input. -/
def fnPlacesWrong : ChangeSpec := { name := "fnPlaces", fn := fun _ => fun
  | [d1, d2] => { results := [.lit (.bool false)], args := [d1, d2] }
  | _ => none }
def FnPlacesWrongFalsely : Prop := fnPlacesRow.holds Try.pinned (OpenSpec.ofChange fnPlacesWrong)

/-- 'laws.FnCritical': WHATEVER THE INPUT: true; the input reads as it did. -/
def fnCriticalSpec : ChangeSpec := { name := "fnCritical", fn := fun _ => fun
  | [d1, d2] => { results := [.lit (.bool true)], args := [d1, d2] }
  | _ => none }
def fnCriticalRow : OpenClaim := { program := "ytgfbiehncbinmaa", sum := "cefcc65e7f751fb5f45f47efaf5f48d9d447f8a15094585bf6620af7acdd96e6", func := "loop.example/g01149/laws.FnCritical", spec := "fnCritical", unfollowed := true, recurses := true, apart := false }
def FnCriticalSaid : Prop := fnCriticalRow.holds Try.pinned (OpenSpec.ofChange fnCriticalSpec)

/-- ITS FALSE NEIGHBOUR: 'it returns false'. Refute it at one input. -/
def fnCriticalWrong : ChangeSpec := { name := "fnCritical", fn := fun _ => fun
  | [d1, d2] => { results := [.lit (.bool false)], args := [d1, d2] }
  | _ => none }
def FnCriticalWrongFalsely : Prop := fnCriticalRow.holds Try.pinned (OpenSpec.ofChange fnCriticalWrong)

/-- 'laws.FnPressed': WHATEVER THE INPUT: true; the input reads as it did. -/
def fnPressedSpec : ChangeSpec := { name := "fnPressed", fn := fun _ => fun
  | [d1, d2] => { results := [.lit (.bool true)], args := [d1, d2] }
  | _ => none }
def fnPressedRow : OpenClaim := { program := "ytgfbiehncbinmaa", sum := "cefcc65e7f751fb5f45f47efaf5f48d9d447f8a15094585bf6620af7acdd96e6", func := "loop.example/g01149/laws.FnPressed", spec := "fnPressed", unfollowed := true, recurses := true, apart := false }
def FnPressedSaid : Prop := fnPressedRow.holds Try.pinned (OpenSpec.ofChange fnPressedSpec)

/-- ITS FALSE NEIGHBOUR: 'it returns false'. Refute it at one input. -/
def fnPressedWrong : ChangeSpec := { name := "fnPressed", fn := fun _ => fun
  | [d1, d2] => { results := [.lit (.bool false)], args := [d1, d2] }
  | _ => none }
def FnPressedWrongFalsely : Prop := fnPressedRow.holds Try.pinned (OpenSpec.ofChange fnPressedWrong)

/- THE SECOND FORM. 'bulk': how many values and letters a reading holds, each counted each time it is reached (what is shared counts as often as it is met; a slice's spare places count too). A statement '..UptoSaid' is the law's where the arguments, and the package variables that the reading takes, are together of bulk at most 1048576: NARROWER than '..Said'. Prove '..Said' where nothing that the law and all that it calls make is longer than what came in: it says more and counts as full. Else prove '..UptoSaid'. A law counts once. -/
mutual
def uptoBulk {H : Type} : DataW H → Nat
  | .lit (.string bytes) => bytes.length + 1
  | .lit _ => 1
  | .nil => 1
  | .ptr d => uptoBulk d + 1
  | .slice elems spare => uptoBulkAll elems + uptoBulkAll spare + 1
  | .agg parts => uptoBulkAll parts + 1
  | .iface _ d => uptoBulk d + 1
  | .map entries => uptoBulkEntries entries + 1
  | .held _ => 1
def uptoBulkAll {H : Type} : List (DataW H) → Nat
  | [] => 0
  | d :: r => uptoBulk d + uptoBulkAll r
def uptoBulkEntries {H : Type} : List (Lit × DataW H) → Nat
  | [] => 0
  | x :: r => uptoBulkEntry x + uptoBulkEntries r
def uptoBulkEntry {H : Type} : Lit × DataW H → Nat
  | (.string bytes, d) => bytes.length + uptoBulk d + 1
  | (_, d) => uptoBulk d + 1
 end
def uptoSmall : (H : Type) → List (DataW H) → Bool := fun _ ds => decide (uptoBulkAll ds ≤ 1048576)
def OpenSpec.upto (s : _root_.Go.ChangeSpec) : _root_.Go.OpenSpec := { _root_.Go.OpenSpec.ofChange s with cond := some uptoSmall }

/-- 'laws.FnExactRisingRing', WHERE WHAT IT READS IS OF BULK AT MOST 1048576: true; the input reads as it did. -/
def fnExactRisingRingUptoRow : OpenClaim := { program := "ytgfbiehncbinmaa", sum := "cefcc65e7f751fb5f45f47efaf5f48d9d447f8a15094585bf6620af7acdd96e6", func := "loop.example/g01149/laws.FnExactRisingRing", spec := "fnExactRisingRing", unfollowed := true, recurses := true, apart := false, narrowed := true }
def FnExactRisingRingUptoSaid : Prop := fnExactRisingRingUptoRow.holds Try.pinned (OpenSpec.upto fnExactRisingRingSpec)

/-- 'laws.FnExactCriticalPath', WHERE WHAT IT READS IS OF BULK AT MOST 1048576: true; the input reads as it did. -/
def fnExactCriticalPathUptoRow : OpenClaim := { program := "ytgfbiehncbinmaa", sum := "cefcc65e7f751fb5f45f47efaf5f48d9d447f8a15094585bf6620af7acdd96e6", func := "loop.example/g01149/laws.FnExactCriticalPath", spec := "fnExactCriticalPath", unfollowed := true, recurses := true, apart := false, narrowed := true }
def FnExactCriticalPathUptoSaid : Prop := fnExactCriticalPathUptoRow.holds Try.pinned (OpenSpec.upto fnExactCriticalPathSpec)

/-- 'laws.FnPlaces', WHERE WHAT IT READS IS OF BULK AT MOST 1048576: true; the input reads as it did. -/
def fnPlacesUptoRow : OpenClaim := { program := "ytgfbiehncbinmaa", sum := "cefcc65e7f751fb5f45f47efaf5f48d9d447f8a15094585bf6620af7acdd96e6", func := "loop.example/g01149/laws.FnPlaces", spec := "fnPlaces", unfollowed := true, recurses := true, apart := false, narrowed := true }
def FnPlacesUptoSaid : Prop := fnPlacesUptoRow.holds Try.pinned (OpenSpec.upto fnPlacesSpec)

/-- 'laws.FnCritical', WHERE WHAT IT READS IS OF BULK AT MOST 1048576: true; the input reads as it did. -/
def fnCriticalUptoRow : OpenClaim := { program := "ytgfbiehncbinmaa", sum := "cefcc65e7f751fb5f45f47efaf5f48d9d447f8a15094585bf6620af7acdd96e6", func := "loop.example/g01149/laws.FnCritical", spec := "fnCritical", unfollowed := true, recurses := true, apart := false, narrowed := true }
def FnCriticalUptoSaid : Prop := fnCriticalUptoRow.holds Try.pinned (OpenSpec.upto fnCriticalSpec)

/-- 'laws.FnPressed', WHERE WHAT IT READS IS OF BULK AT MOST 1048576: true; the input reads as it did. -/
def fnPressedUptoRow : OpenClaim := { program := "ytgfbiehncbinmaa", sum := "cefcc65e7f751fb5f45f47efaf5f48d9d447f8a15094585bf6620af7acdd96e6", func := "loop.example/g01149/laws.FnPressed", spec := "fnPressed", unfollowed := true, recurses := true, apart := false, narrowed := true }
def FnPressedUptoSaid : Prop := fnPressedUptoRow.holds Try.pinned (OpenSpec.upto fnPressedSpec)

end Rows
end Go.Proofs.Ytgfbiehncbinmaa
