/-
  Chapter 9: freedom; the laws of latest places and of freedom.
-/
import Derived.Test.YtgfbiehncbinmaaQ13
namespace Go.Sx.U
set_option linter.unusedVariables false
set_option linter.unusedSimpArgs false
set_option maxRecDepth 100000
set_option maxHeartbeats 8000000
open Go Go.Sx Go.Sx.M9 Go.Proofs
set_option maxHeartbeats 2000000
set_option maxRecDepth 100000

def diffL (A B : List Int) (n : Nat) : List Int := (List.range n).map fun i => A.getD i 0 - B.getD i 0
def free? (p w : Int) (rs : List R3) : Option (List Int) := (late? p w rs).map fun A => diffL A ((leastR p rs).getD []) p.toNat
end Go.Sx.U
