/-
  Chapter 8: the reference's paths through corners (contracts).
-/
import Derived.Test.YtpbmikcicibfcaaM8V
import Derived.Test.YtpbmikcicibfcaaG13
import Derived.Test.YtpbmikcicibfcaaG5
namespace Go.Sx.U
set_option linter.unusedVariables false
set_option linter.unusedSimpArgs false
set_option maxRecDepth 100000
set_option maxHeartbeats 8000000
open Go Go.Sx Go.Proofs Go.Sx.M8

theorem pt_sm {p : R2} (h : ptOk p) : smI p.a ∧ smI p.b := by unfold ptOk at h; omega
theorem path_sm {xs : List R2} (h : PathOK xs) : smL xs := fun i hi => pt_sm (h.pt i hi)
/-! ### Points of a path by its corners -/
theorem path_len (s : List R2) {i : Nat} (h : i + 1 ≤ s.length) : ∃ t, pathL s = linesT s i ++ t := linesT_pre s i (s.length - 1) (by omega)
theorem lines_bd {s : List R2} (hg : GoodShape s) {i : Nat} (h : i < s.length) : (linesT s i).length ≤ 576 := by
  obtain ⟨t, ht⟩ := path_len s (i := i) (by omega)
  have := hg.ok.few
  rw [ht, List.length_append] at this; omega
end Go.Sx.U
