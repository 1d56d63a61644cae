/-
  Chapter 8: shapes of a net: the law.
-/
import Derived.Test.YtpbmikcicibfcaaG13
import Derived.Test.YtpbmikcicibfcaaG11
import Derived.Test.YtpbmikcicibfcaaG4
namespace Go.Sx.U
set_option linter.unusedVariables false
set_option linter.unusedSimpArgs false
set_option maxRecDepth 100000
set_option maxHeartbeats 8000000
open Go Go.Sx Go.Proofs Go.Sx.M8

/-! ### Lists of points -/
/-! ### Marks -/
/-! ### The functions -/
theorem cut4_len (p q r s : R2) : (cut4 p q r s).length ≤ 4 := by unfold cut4; split <;> simp
theorem shapes_small {a b c d : Int} (h : cel a ∧ cel b ∧ cel c ∧ cel d) : (shapesV a b c d).length ≤ 14 ∧ ∀ xs ∈ shapesV a b c d, xs.length ≤ 4 := by
  unfold shapesV
  split
  · refine ⟨by simp, fun xs hx => ?_⟩
    rw [List.mem_singleton.1 hx]
    split <;> simp
  · refine ⟨by simp [shapesX, shapesY]; omega, fun xs hx => ?_⟩
    rcases List.mem_append.1 hx with hx | hx
    · simp only [shapesX, List.mem_map] at hx
      obtain ⟨i, _, rfl⟩ := hx
      exact cut4_len _ _ _ _
    · simp only [shapesY, List.mem_map] at hx
      obtain ⟨i, _, rfl⟩ := hx
      exact cut4_len _ _ _ _
theorem totL_nat {W : List (List Int)} {l : Int} (h0 : 0 ≤ l) (h1 : l ≤ 1048576) (h : 0 ≤ szN W l) : totL W ≤ 1048577 := by
  have := szN_tot h0 h; omega
theorem gin_tot {A V : List (List Int)} (hl : ¬ (if szN A 1048576 < 0 then -1 else szN V (szN A 1048576)) < 0) : totL A ≤ 1048577 ∧ totL V ≤ 1048577 := by
  have hA : 0 ≤ szN A 1048576 := by
    by_cases c : szN A 1048576 < 0
    · rw [if_pos c] at hl; omega
    · omega
  have hV : 0 ≤ szN V (szN A 1048576) := by rw [if_neg (by omega)] at hl; omega
  exact ⟨totL_nat (by omega) (by omega) hA, totL_nat hA (szN_ok (xss := A) (l := 1048576) (by omega) hA).1 hV⟩
end Go.Sx.U
