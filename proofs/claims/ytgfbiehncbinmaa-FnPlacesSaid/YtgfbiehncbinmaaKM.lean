/-
  Maps that have only yes: sets.
-/
import Derived.Test.YtgfbiehncbinmaaK1
namespace Go.Sx.U
set_option linter.unusedVariables false
set_option linter.unusedSimpArgs false
set_option maxRecDepth 100000
set_option maxHeartbeats 8000000
open Go Go.Sx Go.Proofs

def yesK (R : List Int) : List (Int × Bool) := R.map fun x => (x, true)
theorem yesK_get (R : List Int) (n : Int) : mgB (yesK R) n = decide (n ∈ R) := by
  unfold mgB
  induction R with
  | nil => simp [yesK, mlk]
  | cons x r ih =>
    simp only [yesK, List.map_cons, mlk] at ih ⊢
    by_cases h : x = n
    · subst h; simp
    · rw [if_neg h, ih]; simp [Ne.symm h]
theorem yesK_put {R : List Int} {n : Int} (h : n ∉ R) : mput (yesK R) n true = yesK (R ++ [n]) := by
  induction R with
  | nil => rfl
  | cons x r ih =>
    simp only [List.mem_cons, not_or] at h
    simp only [yesK, List.map_cons, List.cons_append, mput, if_neg (Ne.symm h.1)] at ih ⊢
    rw [ih h.2]
theorem yesK_del {R : List Int} {n : Int} (h : n ∉ R) : mdel (yesK (R ++ [n])) n = yesK R := by
  induction R with
  | nil => simp [yesK, mdel]
  | cons x r ih =>
    simp only [List.mem_cons, not_or] at h
    simp only [yesK, List.map_cons, List.cons_append, mdel, if_neg (Ne.symm h.1)] at ih ⊢
    rw [ih h.2]
theorem yesK_len (R : List Int) : (yesK R).length = R.length := by simp [yesK]
end Go.Sx.U
