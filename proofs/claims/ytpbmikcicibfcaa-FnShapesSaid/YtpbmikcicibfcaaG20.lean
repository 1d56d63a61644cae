/-
  Chapter 8: overflows, the program's way (contracts).
-/
import Derived.Test.YtpbmikcicibfcaaM8W
import Derived.Test.YtpbmikcicibfcaaG15
import Derived.Test.YtpbmikcicibfcaaG13
import Derived.Test.YtpbmikcicibfcaaG10
import Derived.Test.YtpbmikcicibfcaaG3
import Derived.Test.YtpbmikcicibfcaaG16
namespace Go.Sx.U
set_option linter.unusedVariables false
set_option linter.unusedSimpArgs false
set_option maxRecDepth 100000
set_option maxHeartbeats 8000000
open Go Go.Sx Go.Proofs Go.Sx.M8

/-- What a walk over uses and rooms may rely on. -/
structure EachOK (A V : List (List Int)) (U : UU) : Prop where
  ha : A.length ≤ 8 ∧ 1 ≤ A.length
  la : U.1.length = A.length
  hv : V.length = A.length - 1
  lv : U.2.length = A.length - 1
  ra : ∀ y, y < A.length → (A.getD y []).length ≤ 8 ∧ (U.1.getD y []).length = (A.getD y []).length ∧ ∀ x, x < (A.getD y []).length → (0 ≤ (A.getD y []).getD x 0 ∧ (A.getD y []).getD x 0 ≤ 20) ∧ -100000 ≤ (U.1.getD y []).getD x 0 ∧ (U.1.getD y []).getD x 0 ≤ 100000
  rv : ∀ y, y < V.length → (V.getD y []).length ≤ 8 ∧ (U.2.getD y []).length = (V.getD y []).length ∧ ∀ x, x < (V.getD y []).length → (0 ≤ (V.getD y []).getD x 0 ∧ (V.getD y []).getD x 0 ≤ 20) ∧ -100000 ≤ (U.2.getD y []).getD x 0 ∧ (U.2.getD y []).getD x 0 ≤ 100000
  ba : ∀ y, y ≤ A.length → 0 ≤ overT A U.1 y ∧ overT A U.1 y ≤ 100000 * 8 * y
  bv : ∀ y, y ≤ V.length → 0 ≤ overT V U.2 y ∧ overT V U.2 y ≤ 100000 * 8 * y
  ca : ∀ y, y < A.length → ∀ x, x ≤ (A.getD y []).length → 0 ≤ overR (A.getD y []) (U.1.getD y []) x ∧ overR (A.getD y []) (U.1.getD y []) x ≤ 100000 * x
  cv : ∀ y, y < V.length → ∀ x, x ≤ (V.getD y []).length → 0 ≤ overR (V.getD y []) (U.2.getD y []) x ∧ overR (V.getD y []) (U.2.getD y []) x ≤ 100000 * x
structure OverOK (R U : List (List Int)) (n : Nat) : Prop where
  hl : U.length = n
  h : Side (R.length ≤ 8 ∧ U.length = R.length ∧ (∀ y, y < R.length → (R.getD y []).length ≤ 8 ∧ (U.getD y []).length = (R.getD y []).length ∧ ∀ x, x < (R.getD y []).length → (0 ≤ (R.getD y []).getD x 0 ∧ (R.getD y []).getD x 0 ≤ 20) ∧ -100000 ≤ (U.getD y []).getD x 0 ∧ (U.getD y []).getD x 0 ≤ 100000))
  b : ∀ y, y ≤ R.length → 0 ≤ overT R U y ∧ overT R U y ≤ 100000 * 8 * y
  r : ∀ y, y < R.length → ∀ x, x ≤ (R.getD y []).length → 0 ≤ overR (R.getD y []) (U.getD y []) x ∧ overR (R.getD y []) (U.getD y []) x ≤ 100000 * x
theorem EachOK.a {A V : List (List Int)} {U : UU} (he : EachOK A V U) : OverOK A U.1 A.length := ⟨he.la, ⟨he.ha.1, he.la, he.ra⟩, he.ba, he.ca⟩
theorem EachOK.v {A V : List (List Int)} {U : UU} (he : EachOK A V U) : OverOK V U.2 (A.length - 1) := ⟨he.lv, ⟨by have := he.hv; have := he.ha; omega, by rw [he.lv, he.hv], he.rv⟩, he.bv, he.cv⟩
end Go.Sx.U
