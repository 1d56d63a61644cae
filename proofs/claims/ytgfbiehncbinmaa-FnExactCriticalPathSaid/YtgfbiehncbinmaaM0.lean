/-
  Chapter 10, plain: bundles, orders, shields, coupling.
-/
import Derived.Test.YtgfbiehncbinmaaSd
namespace Go.Sx.M0
set_option linter.unusedVariables false
set_option linter.unusedSimpArgs false
open Go Go.Sx

/-! ### Orders -/
/-! ### Shields -/
/-! ### Coupling -/
/-! ### Orders by bits, by marks -/
theorem not_mem_snoc {n : Int} {xs : List Int} {i : Nat} (hi : i < xs.length) (h : n ∉ xs.take i) (hx : xs.getD i 0 ≠ n) : n ∉ xs.take (i + 1) := by
  rw [take_snoc 0 hi]
  intro hm
  rcases List.mem_append.1 hm with hm | hm
  · exact h hm
  · simp only [List.mem_singleton] at hm; exact hx hm.symm
theorem mem_at {n : Int} {xs : List Int} {i : Nat} (hi : i < xs.length) (hx : xs.getD i 0 = n) : n ∈ xs := by
  rw [← hx, List.getD, List.getElem?_eq_getElem hi]
  exact List.getElem_mem hi
/-! ### Exchanges -/
/-! ### Noise -/
/-! ### Settling -/
/-! ### What the functions answer -/
/-! ### Drawn bundles -/
/-! ### Drawn orders -/
/-! ### What has settled -/
end Go.Sx.M0
