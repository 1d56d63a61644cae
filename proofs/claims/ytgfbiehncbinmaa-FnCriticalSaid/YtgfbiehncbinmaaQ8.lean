/-
  Chapter 9: pressed shapes; the laws of shapes.
-/
import Derived.Test.YtgfbiehncbinmaaQ6
namespace Go.Sx.U
set_option linter.unusedVariables false
set_option linter.unusedSimpArgs false
set_option maxRecDepth 100000
set_option maxHeartbeats 8000000
open Go Go.Sx Go.Sx.M9 Go.Proofs
set_option maxHeartbeats 2000000
set_option maxRecDepth 100000

/-- Shapes, pressed. -/
def movedAt (xs : List R4) (L : List Int) (i : Nat) : R4 := ⟨L.getD i 0, (xs.getD i default).b, (xs.getD i default).c, (xs.getD i default).d⟩
def moved (xs : List R4) (L : List Int) : List R4 := (List.range xs.length).map (movedAt xs L)
def press? (ap : Int) (xs : List R4) : Option (List R4) := if shapeOk ap xs = true then (leastR xs.length (rulesR ap xs xs.length)).map (moved xs) else none
end Go.Sx.U
