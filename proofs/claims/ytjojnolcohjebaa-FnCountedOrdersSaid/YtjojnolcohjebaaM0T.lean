/-
  Chapter 10, plain: what the search goes through are orders.
-/
import Derived.Test.YtjojnolcohjebaaM0S
namespace Go.Sx.M0
set_option linter.unusedVariables false
set_option linter.unusedSimpArgs false
open Go Go.Sx

theorem allO_isO {n : Nat} : ∀ (f : Nat) (o : List Int), o.length + f = n → (∀ x ∈ o, 0 ≤ x ∧ x < (n : Int)) → o.Nodup → ∀ x ∈ allO n f o, isO n x
  | 0, o, hl, hr, hd, x, hx => by
    rw [allO, List.mem_singleton] at hx
    rw [hx]; exact ⟨by omega, hr, hd⟩
  | f + 1, o, hl, hr, hd, x, hx => by
    simp only [allO, List.mem_flatMap, List.mem_range] at hx
    obtain ⟨w, hw, hx⟩ := hx
    split at hx
    · cases hx
    · rename_i hn
      refine allO_isO f (o ++ [(w : Int)]) (by simp; omega) (fun y hy => ?_) ?_ x hx
      · rcases List.mem_append.1 hy with hy | hy
        · exact hr y hy
        · rw [List.mem_singleton.1 hy]; omega
      · rw [List.nodup_append]
        refine ⟨hd, by simp, fun a ha b hb => ?_⟩
        rw [List.mem_singleton.1 hb]
        rintro rfl
        exact hn ha
theorem allO_all {n : Nat} {x : List Int} : x ∈ allO n n [] ↔ isO n x :=
  ⟨fun h => allO_isO n [] (by simp) (by simp) (by simp) x h, fun h => by have := allO_mem h n 0 (by omega); simpa using this⟩
/-- The quietest order: an order, and no order is quieter. -/
theorem quiet_isO (W : List (List Int)) : isO W.length (qFold W ([], -1) (allO W.length W.length [])).1 ∧ (qFold W ([], -1) (allO W.length W.length [])).2 = loud W (qFold W ([], -1) (allO W.length W.length [])).1 ∧ ∀ x, isO W.length x → (qFold W ([], -1) (allO W.length W.length [])).2 ≤ loud W x := by
  have hne : allO W.length W.length [] ≠ [] := List.ne_nil_of_mem (allO_all.2 (iota_isO W.length))
  obtain ⟨_, h2, h3, h4⟩ := quiet_best (W := W) hne
  exact ⟨allO_all.1 (qFind_some h4).1, h2, fun x hx => h3 x (allO_all.2 hx)⟩
end Go.Sx.M0
