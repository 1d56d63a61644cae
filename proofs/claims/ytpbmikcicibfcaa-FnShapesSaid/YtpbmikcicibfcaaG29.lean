/-
  Chapter 8: the best choice: the function that calls itself (contract).
-/
import Derived.Test.YtpbmikcicibfcaaM8Z
import Derived.Test.YtpbmikcicibfcaaG23
import Derived.Test.YtpbmikcicibfcaaM8X
import Derived.Test.YtpbmikcicibfcaaK1
import Derived.Test.YtpbmikcicibfcaaC0
set_option linter.unusedSimpArgs false
namespace Go.Sx.U
set_option linter.unusedVariables false
set_option linter.unusedSimpArgs false
set_option maxRecDepth 100000
set_option maxHeartbeats 8000000
open Go Go.Sx Go.Proofs Go.Sx.M8

/-- All shapes of all nets in one list, and where each net's shapes begin. -/
structure SegsOK (ns : List R4) (segs : List (Nat × Nat)) (xss : List (List R2)) : Prop where
  len : segs.length = ns.length
  at' : ∀ i, i < ns.length → (segs.getD i (0, 0)).2 = sN ns i ∧ ∀ k, k < sN ns i → (segs.getD i (0, 0)).1 + k < xss.length ∧ xss.getD ((segs.getD i (0, 0)).1 + k) [] = shapeOf (ns.getD i default) (k : Int)
end Go.Sx.U
