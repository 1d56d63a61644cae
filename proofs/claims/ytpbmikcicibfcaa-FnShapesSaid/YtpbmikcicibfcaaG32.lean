/-
  Chapter 8: grids and nets that a test draws (contracts).
-/
import Derived.Test.YtpbmikcicibfcaaM8G
import Derived.Test.YtpbmikcicibfcaaG10
import Derived.Test.YtpbmikcicibfcaaG2
import Derived.Test.YtpbmikcicibfcaaKR1
set_option linter.unusedSimpArgs false
namespace Go.Sx.U
set_option linter.unusedVariables false
set_option linter.unusedSimpArgs false
set_option maxRecDepth 100000
set_option maxHeartbeats 8000000
open Go Go.Sx Go.Proofs Go.Sx.M8

theorem gr_nat {n e : Nat} {W : List (List Int)} (h : GR n e W) (hn : n ≤ 8) (he : e ≤ 8) : natSS W := by
  have hl := h.len
  refine ⟨by omega, fun xs hx => ?_⟩
  obtain ⟨y, hy, rfl⟩ := List.mem_iff_getElem.1 hx
  have := h.row y (by omega)
  rw [List.getD, List.getElem?_eq_getElem hy, Option.getD_some] at this
  omega
end Go.Sx.U
