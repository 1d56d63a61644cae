/-
  Chapter 8, plain: all choices in order, by number and by search; the best of them.
-/
import Derived.Test.YtpbmikcicibfcaaM8X
namespace Go.Sx.M8
set_option linter.unusedVariables false
set_option linter.unusedSimpArgs false
open Go Go.Sx Go.Sx.U

/-- How many shapes a net has. -/
def sN (ns : List R4) (i : Nat) : Nat := (shapesR (ns.getD i default)).length
/-- The product of the first ones. -/
def pF (s : Nat → Nat) : Nat → Nat
  | 0 => 1
  | i + 1 => pF s i * s i
end Go.Sx.M8
