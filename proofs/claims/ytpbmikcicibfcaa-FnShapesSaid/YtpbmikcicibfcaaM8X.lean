/-
  Chapter 8, plain: the fullest edge.
-/
import Derived.Test.YtpbmikcicibfcaaM8W
namespace Go.Sx.M8
set_option linter.unusedVariables false
set_option linter.unusedSimpArgs false
open Go Go.Sx Go.Sx.U

/-! ### Uses are not negative -/
structure Nn (U : UU) : Prop where
  a : ∀ y x, 0 ≤ (U.1.getD y []).getD x 0
  u : ∀ y x, 0 ≤ (U.2.getD y []).getD x 0
end Go.Sx.M8
