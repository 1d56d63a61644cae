/-
  Small laws on lists for loops.
-/
import Derived.Test.YtbjlbmehklfijaaSxV2
namespace Go.Sx
set_option linter.unusedVariables false
set_option linter.unusedSimpArgs false

theorem all_succ {α : Type} {xs : List α} {p : α → Bool} {i : Nat} (d : α) (hi : i < xs.length) : (xs.take (i + 1)).all p = ((xs.take i).all p && p (xs.getD i d)) := by
  rw [List.take_succ_eq_append_getElem hi, List.all_append]
  simp [List.getD, List.getElem?_eq_getElem hi]
theorem all_no {α : Type} {xs : List α} {p : α → Bool} {i : Nat} {d : α} (hi : i < xs.length) (h : p (xs.getD i d) = false) : xs.all p = false := by
  rw [List.all_eq_false]
  refine ⟨xs[i], List.getElem_mem hi, ?_⟩
  simpa [List.getD, List.getElem?_eq_getElem hi] using h
theorem any_succ {α : Type} {xs : List α} {p : α → Bool} {i : Nat} (d : α) (hi : i < xs.length) : (xs.take (i + 1)).any p = ((xs.take i).any p || p (xs.getD i d)) := by
  rw [List.take_succ_eq_append_getElem hi, List.any_append]
  simp [List.getD, List.getElem?_eq_getElem hi]
theorem any_yes {α : Type} {xs : List α} {p : α → Bool} {i : Nat} {d : α} (hi : i < xs.length) (h : p (xs.getD i d) = true) : xs.any p = true := by
  rw [List.any_eq_true]
  refine ⟨xs[i], List.getElem_mem hi, ?_⟩
  simpa [List.getD, List.getElem?_eq_getElem hi] using h
theorem take_all {α : Type} {xs : List α} {i : Nat} (h : xs.length ≤ i) : xs.take i = xs := List.take_of_length_le h
theorem getD_map_lt {α β : Type} {xs : List α} {f : α → β} {i : Nat} (hi : i < xs.length) (d : α) (e : β) : (xs.map f).getD i e = f (xs.getD i d) := by
  simp [List.getD, List.getElem?_eq_getElem hi]
theorem take_snoc {α : Type} {xs : List α} {i : Nat} (d : α) (hi : i < xs.length) : xs.take (i + 1) = xs.take i ++ [xs.getD i d] := by
  rw [List.take_succ_eq_append_getElem hi]
  simp [List.getD, List.getElem?_eq_getElem hi]
theorem set_fill {α : Type} (xs : List α) (n i : Nat) (d z : α) (hi : i < xs.length) (hn : xs.length ≤ n) : (xs.take i ++ List.replicate (n - i) z).set i (xs.getD i d) = xs.take (i + 1) ++ List.replicate (n - (i + 1)) z := by
  rw [List.set_append_right _ _ (by simp [List.length_take]; omega), take_snoc d hi]
  have e : i - (xs.take i).length = 0 := by simp [List.length_take]; omega
  rw [e, show n - i = (n - (i + 1)) + 1 by omega, List.replicate_succ, List.set_cons_zero, List.append_assoc]
  rfl
theorem eq_of_all {α : Type} [DecidableEq α] {xs ys : List α} (d : α) (hl : xs.length = ys.length) : ∀ {i : Nat}, i ≤ xs.length → xs.take i = ys.take i → (i < xs.length → (xs.getD i d ≠ ys.getD i d → xs ≠ ys) ∧ (xs.getD i d = ys.getD i d → xs.take (i + 1) = ys.take (i + 1))) ∧ (xs.length ≤ i → xs = ys) := by
  intro i hi h
  refine ⟨fun hlt => ⟨fun hne e => hne (by rw [e]), fun he => ?_⟩, fun hge => ?_⟩
  · rw [take_snoc d hlt, take_snoc d (by omega), h, he]
  · rw [List.take_of_length_le hge, List.take_of_length_le (by omega)] at h
    exact h
theorem any_not_all {α : Type} (xs : List α) (f : α → Bool) : (xs.any fun n => !f n) = !xs.all f := by
  induction xs with
  | nil => rfl
  | cons a xs ih => simp only [List.any_cons, List.all_cons, ih]; cases f a <;> rfl
theorem all_not_any {α : Type} (xs : List α) (f : α → Bool) : (xs.all fun n => !f n) = !xs.any f := by
  induction xs with
  | nil => rfl
  | cons a xs ih => simp only [List.any_cons, List.all_cons, ih]; cases f a <;> rfl
/-- The first place that has a property, as Go tells it. -/
def idxF {α : Type} (p : α → Bool) (xs : List α) : Int := if xs.any p = true then (xs.findIdx p : Int) else -1
theorem idxF_yes {α : Type} {xs : List α} {p : α → Bool} {i : Nat} {d : α} (hi : i < xs.length) (h0 : (xs.take i).any p = false) (h : p (xs.getD i d) = true) : idxF p xs = i := by
  have h1 : xs.any p = true := any_yes hi h
  unfold idxF
  rw [if_pos h1]
  congr 1
  rw [List.findIdx_eq hi]
  refine ⟨by simpa [List.getD, List.getElem?_eq_getElem hi] using h, fun j hj => ?_⟩
  rw [List.any_eq_false] at h0
  have := h0 (xs[j]) (by rw [List.mem_take_iff_getElem]; exact ⟨j, by omega, rfl⟩)
  simpa using this
theorem idxF_no {α : Type} {xs : List α} {p : α → Bool} (h0 : xs.any p = false) : idxF p xs = -1 := by
  unfold idxF; rw [h0]; rfl
theorem idxF_ge {α : Type} {xs : List α} {p : α → Bool} : decide (0 ≤ idxF p xs) = xs.any p := by
  unfold idxF
  cases h : xs.any p <;> simp
theorem getD_set_self {α : Type} {xs : List α} {i : Nat} {v d : α} (h : i < xs.length) : (xs.set i v).getD i d = v := by
  simp [List.getD, h]
end Go.Sx
