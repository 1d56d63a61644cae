/-
  Chapter 10: exchanges and settling (contracts).
-/
import Derived.Test.YtjojnolcohjebaaK6
namespace Go.Sx.U
set_option linter.unusedVariables false
set_option linter.unusedSimpArgs false
set_option maxRecDepth 100000
set_option maxHeartbeats 8000000
open Go Go.Sx Go.Proofs Go.Sx.M0

abbrev swOk (W : List (List Int)) (o : List Int) (p : Int) : Bool := ordOk W o && (decide (0 ≤ p) && decide (p ≤ (o.length : Int) - 2))
abbrev settled (W : List (List Int)) (o : List Int) : List Int := if ordOk W o = true then settl W o else []
abbrev settledC (W : List (List Int)) (o : List Int) : Int := if ordOk W o = true then coup W (settl W o) [] else 0
theorem bestI_no {W : List (List Int)} {o : List Int} {i : Nat} (h : ¬ 0 < (bestP W o i).1) : bestI W o i = -1 := if_neg h
theorem bestI_yes {W : List (List Int)} {o : List Int} {i : Nat} (h : 0 < (bestP W o i).1) : bestI W o i = ((bestP W o i).2 : Int) := if_pos h
end Go.Sx.U
