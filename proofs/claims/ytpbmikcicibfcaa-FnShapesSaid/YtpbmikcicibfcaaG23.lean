/-
  Chapter 8: the fullest edge: the law.
-/
import Derived.Test.YtpbmikcicibfcaaG20
import Derived.Test.YtpbmikcicibfcaaG14
import Derived.Test.YtpbmikcicibfcaaK1
import Derived.Test.YtpbmikcicibfcaaM8X
namespace Go.Sx.U
set_option linter.unusedVariables false
set_option linter.unusedSimpArgs false
set_option maxRecDepth 100000
set_option maxHeartbeats 8000000
open Go Go.Sx Go.Proofs Go.Sx.M8

structure MostOK (R U : List (List Int)) (n : Nat) : Prop where
  hl : U.length = n
  h : R.length ≤ 8 ∧ U.length = R.length ∧ (∀ y, y < R.length → (R.getD y []).length ≤ 8 ∧ (U.getD y []).length = (R.getD y []).length ∧ ∀ x, x < (R.getD y []).length → (0 ≤ (R.getD y []).getD x 0 ∧ (R.getD y []).getD x 0 ≤ 20) ∧ -100000 ≤ (U.getD y []).getD x 0 ∧ (U.getD y []).getD x 0 ≤ 100000)
theorem EachOK.mv {A V : List (List Int)} {U : UU} (he : EachOK A V U) : MostOK V U.2 (A.length - 1) := ⟨he.lv, by have := he.hv; have := he.ha; omega, by rw [he.lv, he.hv], he.rv⟩
/-! ### The functions -/
end Go.Sx.U
