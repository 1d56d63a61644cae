/-
  Chapter 9: latest places.
-/
import Derived.Test.YtgfbiehncbinmaaQ5
import Derived.Test.YtgfbiehncbinmaaM10
namespace Go.Sx.U
set_option linter.unusedVariables false
set_option linter.unusedSimpArgs false
set_option maxRecDepth 100000
set_option maxHeartbeats 8000000
open Go Go.Sx Go.Sx.M9 Go.Proofs
set_option maxHeartbeats 2000000
set_option maxRecDepth 100000

/-! ### The latest places, as rounds -/
/-- The latest places: the round's result, and whether it keeps all rules. -/
def late1 (p w : Int) (rs : List R3) : Option (List Int) := (leastR p (flps rs)).map (comp w)
def lateOk (p w : Int) (rs : List R3) : Bool := match late1 p w rs with
  | some L => placed p rs L
  | none => false
end Go.Sx.U
