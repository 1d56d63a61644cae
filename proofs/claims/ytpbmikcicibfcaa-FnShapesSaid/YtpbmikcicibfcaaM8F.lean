/-
  Chapter 8, plain: what FnRouted asks.
-/
import Derived.Test.YtpbmikcicibfcaaM8G
import Derived.Test.YtpbmikcicibfcaaM8W
namespace Go.Sx.M8
set_option linter.unusedVariables false
set_option linter.unusedSimpArgs false
open Go Go.Sx Go.Sx.U

/-- The sums over rows. -/
def rowS (W : List (List Int)) (n : Nat) : Int := ss (fun y => sumI (W.getD y [])) n
/-- What the law asks of a grid and its nets. -/
structure RoutedOK (A V : List (List Int)) (ns : List R4) (w g : Nat) : Prop where
  nets : netsB A V ns = true
  wn : wN A = w
  len : A.length = g
  lenV : V.length = g - 1
  few : pF (sN ns) ns.length ≤ 20000
  one : ∀ i, i < ns.length → 1 ≤ sN ns i ∧ sN ns i ≤ 14
end Go.Sx.M8
