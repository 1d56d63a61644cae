/-
  Contracts of the laws' own helpers, and of small functions, for all seats: numbers, lists of numbers, lists of lists of numbers.
-/
import Derived.Test.YtgfbiehncbinmaaTb
import Derived.Test.YtgfbiehncbinmaaSd
namespace Go.Sx.U
set_option linter.unusedVariables false
set_option linter.unusedSimpArgs false
set_option maxRecDepth 100000
set_option maxHeartbeats 8000000
open Go Go.Sx Go.Proofs

/-! ### Lists of numbers -/
/-! ### Lists of lists of numbers -/
theorem mem_of_getD {α : Type} {xss : List α} {d : α} {i : Nat} (h : i < xss.length) : xss.getD i d ∈ xss := by
  rw [List.getD, List.getElem?_eq_getElem h]; exact List.getElem_mem h
end Go.Sx.U
