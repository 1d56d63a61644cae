/-
  Contracts of the laws' own helpers, and of small functions, for all seats: numbers, lists of numbers, lists of lists of numbers.
-/
import Derived.Test.YtligakfmabjoeaaDoorTb
import Derived.Test.YtligakfmabjoeaaDoorSd
namespace Go.Sx.U
set_option linter.unusedVariables false
set_option linter.unusedSimpArgs false
set_option maxRecDepth 100000
set_option maxHeartbeats 8000000
open Go Go.Sx Go.Proofs

theorem k_in (a b c : Int) : FnIs Tryd.prog 37 [.int .i64 a, .int .i64 b, .int .i64 c] 0 [] (.bool (decide (b ≤ a) && decide (a ≤ c))) 0 [] := by
  refine fn_of_ev tok Tryd.func37 rfl rfl rfl ?_
  repeat' ((conv => whnf); first | done | refine ev_step ?_ | refine ops_step ?_ | refine scan_step ?_ | refine draw_step ?_ | refine each_step ?_ | refine sl_step ?_ | refine hp_step ?_ | refine guard_no (by decide) ?_ | refine guard_go ?_ | refine guard_old ?_ | apply cut_auto | with_reducible exact CutS.mk (Or.inl ⟨rfl, rfl, rfl⟩) | refine CutS.mk (Or.inr (Or.inl (sub_auto ?_))) | exact trivial | refine And.intro ?_ ?_ | refine cond_split ?_ ?_ | apply guess | exact Or.inl rfl | exact Or.inr rfl | exact Side.mk trivial | exact Side.mk (fun h => h) | exact Side.mk (fun h => ⟨h, h⟩) | with_reducible exact Side.mk rfl | with_reducible exact Side.mk ⟨rfl, rfl⟩ | with_reducible exact Side.mk (by assumption) | with_reducible rfl | intro _)
  all_goals try (conv => whnf)
  all_goals simp_all
theorem k_l00In (a b c : Int) : FnIs Tryd.prog 72 [.int .i64 a, .int .i64 b, .int .i64 c] 0 [] (.bool (decide (b ≤ a) && decide (a ≤ c))) 0 [] := by
  refine fn_of_ev tok Tryd.func72 rfl rfl rfl ?_
  repeat' ((conv => whnf); first | done | refine ev_step ?_ | refine ops_step ?_ | refine scan_step ?_ | refine draw_step ?_ | refine each_step ?_ | refine sl_step ?_ | refine hp_step ?_ | refine guard_no (by decide) ?_ | refine guard_go ?_ | refine guard_old ?_ | apply cut_auto | with_reducible exact CutS.mk (Or.inl ⟨rfl, rfl, rfl⟩) | refine CutS.mk (Or.inr (Or.inl (sub_auto ?_))) | exact trivial | refine And.intro ?_ ?_ | refine cond_split ?_ ?_ | apply guess | exact Or.inl rfl | exact Or.inr rfl | exact Side.mk trivial | exact Side.mk (fun h => h) | exact Side.mk (fun h => ⟨h, h⟩) | with_reducible exact Side.mk rfl | with_reducible exact Side.mk ⟨rfl, rfl⟩ | with_reducible exact Side.mk (by assumption) | with_reducible rfl | intro _)
  all_goals try (conv => whnf)
  all_goals simp_all

/-! ### Lists of numbers -/
/-! ### Lists of lists of numbers -/
/-- What is left of a size. -/
def szR : List (List Int) → Int → Int
  | [], l => l
  | r :: rs, l => if l - r.length < 0 then -1 else szR rs (l - r.length)
def szN (xss : List (List Int)) (l : Int) : Int := if l - xss.length < 0 then -1 else szR xss (l - xss.length)
theorem szR_neg : ∀ (xss : List (List Int)) (l : Int), 0 ≤ l → -1 ≤ szR xss l
  | [], l, h => by simp only [szR]; omega
  | r :: rs, l, h => by
    simp only [szR]
    split
    · omega
    · exact szR_neg rs _ (by omega)
theorem szR_le : ∀ (xss : List (List Int)) (l : Int), 0 ≤ l → 0 ≤ szR xss l → szR xss l ≤ l ∧ ∀ xs ∈ xss, (xs.length : Int) ≤ l
  | [], l, h, _ => by simp [szR]
  | r :: rs, l, h, h0 => by
    simp only [szR] at h0 ⊢
    split at h0
    · omega
    · next hlt =>
      rw [if_neg hlt]
      obtain ⟨q1, q2⟩ := szR_le rs _ (by omega) h0
      refine ⟨by omega, fun xs hxs => ?_⟩
      rcases List.mem_cons.1 hxs with rfl | hxs
      · omega
      · have := q2 xs hxs; omega
theorem szN_ok {xss : List (List Int)} {l : Int} (hl : 0 ≤ l) (h : 0 ≤ szN xss l) : szN xss l ≤ l ∧ (xss.length : Int) ≤ l ∧ ∀ xs ∈ xss, (xs.length : Int) ≤ l := by
  unfold szN at h ⊢
  split at h
  · omega
  · next hlt =>
    rw [if_neg hlt]
    obtain ⟨q1, q2⟩ := szR_le xss _ (by omega) h
    exact ⟨by omega, by omega, fun xs hxs => by have := q2 xs hxs; omega⟩
theorem szN_ge {xss : List (List Int)} {l : Int} (hl : 0 ≤ l) : -1 ≤ szN xss l := by
  unfold szN
  split
  · omega
  · exact szR_neg xss _ (by omega)
theorem mem_of_getD {α : Type} {xss : List α} {d : α} {i : Nat} (h : i < xss.length) : xss.getD i d ∈ xss := by
  rw [List.getD, List.getElem?_eq_getElem h]; exact List.getElem_mem h
theorem drop_cons {α : Type} {xss : List α} {d : α} {i : Nat} (h : i < xss.length) : xss.drop i = xss.getD i d :: xss.drop (i + 1) := by
  rw [List.drop_eq_getElem_cons h, List.getD, List.getElem?_eq_getElem h]; rfl
end Go.Sx.U
