/-
  Chapter 8, plain: choices.
-/
import Derived.Test.YtpbmikcicibfcaaM8V
namespace Go.Sx.M8
set_option linter.unusedVariables false
set_option linter.unusedSimpArgs false
open Go Go.Sx Go.Sx.U

def wN (A : List (List Int)) : Nat := (A.getD 0 []).length + 1
end Go.Sx.M8
