/-
  Chapter 10, plain: quiet orders, searched for by a bound.
-/
import Derived.Test.YtjojnolcohjebaaM0Q
namespace Go.Sx.M0
set_option linter.unusedVariables false
set_option linter.unusedSimpArgs false
open Go Go.Sx

def quietB (W : List (List Int)) (m : Int) (x : List Int) : Bool := decide (loud W x ≤ m)
def qFind (W : List (List Int)) (m : Int) (xs : List (List Int)) : Option (List Int) := xs.find? (quietB W m)
theorem qFind_app {W : List (List Int)} {m : Int} {xs ys : List (List Int)} : qFind W m (xs ++ ys) = (qFind W m xs).or (qFind W m ys) := by simp [qFind, List.find?_append]
theorem qFind_none {W : List (List Int)} {m : Int} {xs : List (List Int)} (h : ∀ x ∈ xs, m < loud W x) : qFind W m xs = none := by
  unfold qFind
  rw [List.find?_eq_none]
  intro x hx
  have := h x hx
  simp only [quietB, decide_eq_true_eq]; omega
theorem qFind_some {W : List (List Int)} {m : Int} {xs : List (List Int)} {x : List Int} (h : qFind W m xs = some x) : x ∈ xs ∧ loud W x ≤ m := by
  refine ⟨List.mem_of_find?_eq_some h, ?_⟩
  have := List.find?_some h
  simpa [quietB] using this
theorem qFind_is {W : List (List Int)} {m : Int} {xs : List (List Int)} : (qFind W m xs).isSome = true ↔ ∃ x ∈ xs, loud W x ≤ m := by
  unfold qFind
  rw [List.find?_isSome]
  simp [quietB]
/-- Where a beginning is too loud, nothing behind it is found. -/
theorem qFind_loud {W : List (List Int)} (hW : okW W) {f : Nat} {o : List Int} (hp : PreO W f o) {m : Int} (h : m < loud W o) : qFind W m (allO W.length f o) = none :=
  qFind_none fun x hx => by have := (allO_loud hW f o hp x hx).1; omega
theorem loudT_nn (W : List (List Int)) (o : List Int) : ∀ j, 0 ≤ loudT W o j
  | 0 => Int.le_refl _
  | j + 1 => by have := loudT_nn W o j; simp only [loudT]; omega
/-- The fold finds the first one of the quietest. -/
theorem qFold_find {W : List (List Int)} : ∀ (xs : List (List Int)) (s : QS), 0 ≤ s.2 →
    (qFold W s xs = s ∧ ∀ x ∈ xs, s.2 ≤ loud W x) ∨ ((qFold W s xs).2 < s.2 ∧ qFind W (qFold W s xs).2 xs = some (qFold W s xs).1)
  | [], s, _ => .inl ⟨rfl, by simp⟩
  | x :: xs, s, h0 => by
    by_cases hx : loud W x < s.2
    · have e : qStep W s x = (x, loud W x) := by
        unfold qStep
        rw [if_pos (by simp [hx])]
      have er : qFold W s (x :: xs) = qFold W (x, loud W x) xs := by simp only [qFold, List.foldl_cons, e]
      rw [er]
      right
      by_cases hl : 0 ≤ loud W x
      · rcases qFold_find xs (x, loud W x) hl with ⟨h1, _⟩ | ⟨h1, h2⟩
        · rw [h1]
          refine ⟨hx, ?_⟩
          simp [qFind, quietB]
        · refine ⟨by simp only at h1; omega, ?_⟩
          simp only at h1
          unfold qFind at h2 ⊢
          rw [List.find?_cons_of_neg (by simp only [quietB, decide_eq_true_eq]; omega)]
          exact h2
      · -- a loudness below 0 is taken by every later one; it does not occur
        exact absurd (loudT_nn W x (x.length - 1)) (by unfold loud at hl; exact hl)
    · have e : qStep W s x = s := by
        unfold qStep
        rw [if_neg (by simp only [Bool.or_eq_true, decide_eq_true_eq]; omega)]
      have er : qFold W s (x :: xs) = qFold W s xs := by simp only [qFold, List.foldl_cons, e]
      rw [er]
      rcases qFold_find xs s h0 with ⟨h1, h2⟩ | ⟨h1, h2⟩
      · left
        refine ⟨h1, fun y hy => ?_⟩
        rcases List.mem_cons.1 hy with rfl | hy
        · omega
        · exact h2 y hy
      · right
        refine ⟨h1, ?_⟩
        unfold qFind at h2 ⊢
        rw [List.find?_cons_of_neg (by simp only [quietB, decide_eq_true_eq]; omega)]
        exact h2
theorem loud_nn (W : List (List Int)) (o : List Int) : 0 ≤ loud W o := loudT_nn W o _
theorem quiet_best {W : List (List Int)} {xs : List (List Int)} (hne : xs ≠ []) : 0 ≤ (qFold W ([], -1) xs).2 ∧ (qFold W ([], -1) xs).2 = loud W (qFold W ([], -1) xs).1 ∧ (∀ x ∈ xs, (qFold W ([], -1) xs).2 ≤ loud W x) ∧ qFind W (qFold W ([], -1) xs).2 xs = some (qFold W ([], -1) xs).1 := by
  obtain ⟨g1, g2, g3, _⟩ := qFold_spec (W := W) (P := fun _ => True) (xs := xs) (s := ([], -1)) (fun x _ => ⟨loud_nn W x, trivial⟩) (.inl (by simp)) (.inl hne)
  refine ⟨g2, g1, g3, ?_⟩
  cases xs with
  | nil => exact absurd rfl hne
  | cons x xs =>
    have e : qFold W ([], -1) (x :: xs) = qFold W (x, loud W x) xs := by
      simp only [qFold, List.foldl_cons]
      rw [show qStep W ([], -1) x = (x, loud W x) from if_pos (by simp)]
    rw [e]
    rcases qFold_find xs (x, loud W x) (loud_nn W x) with ⟨h1, _⟩ | ⟨h1, h2⟩
    · rw [h1]; simp [qFind, quietB]
    · unfold qFind at h2 ⊢
      rw [List.find?_cons_of_neg (by simp only [quietB, decide_eq_true_eq]; simp only at h1; omega)]
      exact h2

/-! ### Every order is among them -/
theorem allO_mem {n : Nat} {x : List Int} (hx : isO n x) : ∀ (f k : Nat), k + f = n → x ∈ allO n f (x.take k)
  | 0, k, h => by
    rw [List.take_of_length_le (by rw [hx.1]; omega)]
    simp [allO]
  | f + 1, k, h => by
    have hk : k < x.length := by rw [hx.1]; omega
    have hr := isO_get hx (i := k) (by omega)
    have hnew := isO_new hx hk
    have ih := allO_mem hx f (k + 1) (by omega)
    rw [take_snoc 0 hk] at ih
    simp only [allO, List.mem_flatMap, List.mem_range]
    refine ⟨(x.getD k 0).toNat, by omega, ?_⟩
    rw [show (((x.getD k 0).toNat : Nat) : Int) = x.getD k 0 by omega, if_neg hnew]
    exact ih
def iota (n : Nat) : List Int := (List.range n).map fun i => ((i : Nat) : Int)
theorem iota_isO (n : Nat) : isO n (iota n) := by
  refine ⟨by simp [iota], fun x hx => ?_, ?_⟩
  · simp only [iota, List.mem_map, List.mem_range] at hx
    obtain ⟨i, hi, rfl⟩ := hx
    omega
  · unfold iota
    refine List.Pairwise.map _ (fun a b h => ?_) List.nodup_range
    intro e
    exact h (by exact_mod_cast e)
theorem allO_ne (n : Nat) : allO n n [] ≠ [] := fun e => by
  have := allO_mem (iota_isO n) n 0 (by omega)
  rw [List.take_zero, e] at this
  cases this
end Go.Sx.M0
