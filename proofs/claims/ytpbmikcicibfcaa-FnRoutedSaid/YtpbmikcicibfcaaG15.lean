/-
  Chapter 8: the reference's paths through corners (contracts).
-/
import Derived.Test.YtpbmikcicibfcaaM8V
import Derived.Test.YtpbmikcicibfcaaG13
import Derived.Test.YtpbmikcicibfcaaG5
namespace Go.Sx.U
set_option linter.unusedVariables false
set_option linter.unusedSimpArgs false
set_option maxRecDepth 100000
set_option maxHeartbeats 8000000
open Go Go.Sx Go.Proofs Go.Sx.M8

/-! ### Points of a path by its corners -/
theorem path_len (s : List R2) {i : Nat} (h : i + 1 ≤ s.length) : ∃ t, pathL s = linesT s i ++ t := linesT_pre s i (s.length - 1) (by omega)
theorem path_at {s : List R2} (ha : ∀ i, i + 1 < s.length → aligned (s.getD i default) (s.getD (i + 1) default)) {i : Nat} (h : i < s.length) : (pathL s).getD ((linesT s i).length - 1) default = s.getD i default := by
  obtain ⟨t, ht⟩ := path_len s (i := i) (by omega)
  have := linesT_pos s i
  rw [ht, getD_app_l (by omega), linesT_last ha i h]
end Go.Sx.U
