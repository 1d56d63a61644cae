/-
  Chapter 8: the shapes of a net are all different; how long they are.
-/
import Derived.Test.YtpbmikcicibfcaaM8R
namespace Go.Sx.M8
set_option linter.unusedVariables false
set_option linter.unusedSimpArgs false
open Go Go.Sx

theorem cut4_one (p q r s : R2) : (cut4 p q r s).getD 1 default = q := by unfold cut4; split <;> rfl
theorem shX_one (a b c d : Int) (i : Nat) : (shX a b c d i).getD 1 default = ⟨wk a c (i + 1), b⟩ := cut4_one _ _ _ _
theorem shY_one (a b c d : Int) (i : Nat) : (shY a b c d i).getD 1 default = ⟨a, wk b d (i + 1)⟩ := cut4_one _ _ _ _
theorem shapes_get {a b c d : Int} (h : ¬ (a = c ∨ b = d)) (i : Nat) (hi : i < (shapesV a b c d).length) : ((shapesV a b c d).getD i []).getD 1 default = if i < (c - a).natAbs then ⟨wk a c (i + 1), b⟩ else ⟨a, wk b d (i - (c - a).natAbs + 1)⟩ := by
  rw [shapesV_len, if_neg h] at hi
  unfold lineN at hi
  unfold shapesV
  rw [if_neg h]
  have e : (shapesX a b c d (c - a).natAbs).length = (c - a).natAbs := by simp [shapesX]
  split
  · next hl =>
    have h1 : (shapesX a b c d (c - a).natAbs ++ shapesY a b c d (d - b).natAbs).getD i [] = shX a b c d i := by
      rw [List.getD_eq_getElem?_getD, List.getElem?_append_left (by omega)]
      simp only [shapesX, List.getElem?_map, List.getElem?_range hl, Option.map_some, Option.getD_some]
    rw [h1]
    exact shX_one _ _ _ _ _
  · next hl =>
    have h1 : (shapesX a b c d (c - a).natAbs ++ shapesY a b c d (d - b).natAbs).getD i [] = shY a b c d (i - (c - a).natAbs) := by
      rw [List.getD_eq_getElem?_getD, List.getElem?_append_right (by omega), e]
      simp only [shapesY, List.getElem?_map, List.getElem?_range (show i - (c - a).natAbs < (d - b).natAbs by omega), Option.map_some, Option.getD_some]
    rw [h1]
    exact shY_one _ _ _ _ _
theorem shapes_ne {a b c d : Int} {i k : Nat} (hk : k < i) (hi : i < (shapesV a b c d).length) : (shapesV a b c d).getD i [] ≠ (shapesV a b c d).getD k [] := by
  intro e
  by_cases h : a = c ∨ b = d
  · rw [shapesV_len, if_pos h] at hi
    omega
  · have e1 : ((shapesV a b c d).getD i []).getD 1 default = ((shapesV a b c d).getD k []).getD 1 default := by rw [e]
    rw [shapes_get h i hi, shapes_get h k (by omega)] at e1
    rw [shapesV_len, if_neg h] at hi
    unfold lineN at hi
    split at e1 <;> split at e1
    · injection e1 with e2 _
      have := (wk_inj (by omega) (by omega)).1 e2
      omega
    · omega
    · injection e1 with e2 e3
      exact wk_start (i := k) (by omega) e2.symm
    · injection e1 with e2 e3
      have := (wk_inj (by omega) (by omega)).1 e3
      omega
end Go.Sx.M8
