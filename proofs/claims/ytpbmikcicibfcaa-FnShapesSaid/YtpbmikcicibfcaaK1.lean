/-
  Contracts of the laws' own helpers, and of small functions, for all seats: numbers, lists of numbers, lists of lists of numbers.
-/
import Derived.Test.YtpbmikcicibfcaaTb
import Derived.Test.YtpbmikcicibfcaaSd
namespace Go.Sx.U
set_option linter.unusedVariables false
set_option linter.unusedSimpArgs false
set_option maxRecDepth 100000
set_option maxHeartbeats 8000000
open Go Go.Sx Go.Proofs

theorem k_in (a b c : Int) : FnIs Try.prog 83 [.int .i64 a, .int .i64 b, .int .i64 c] 0 [] (.bool (decide (b ≤ a) && decide (a ≤ c))) 0 [] := by
  refine fn_of_ev tok Try.func83 rfl rfl rfl ?_
  repeat' ((conv => whnf); first | done | refine ev_step ?_ | refine ops_step ?_ | refine scan_step ?_ | refine draw_step ?_ | refine each_step ?_ | refine sl_step ?_ | refine hp_step ?_ | refine guard_no (by decide) ?_ | refine guard_go ?_ | refine guard_old ?_ | apply cut_auto | with_reducible exact CutS.mk (Or.inl ⟨rfl, rfl, rfl⟩) | refine CutS.mk (Or.inr (sub_auto ?_)) | exact trivial | refine And.intro ?_ ?_ | refine cond_split ?_ ?_ | apply guess | exact Or.inl rfl | exact Or.inr rfl | exact Side.mk trivial | exact Side.mk (fun h => h) | exact Side.mk (fun h => ⟨h, h⟩) | with_reducible exact Side.mk rfl | with_reducible exact Side.mk ⟨rfl, rfl⟩ | with_reducible exact Side.mk (by assumption) | with_reducible rfl | intro _)
  all_goals try (conv => whnf)
  all_goals simp_all
/-! ### Lists of numbers -/
/-! ### Lists of lists of numbers -/
theorem mem_of_getD {α : Type} {xss : List α} {d : α} {i : Nat} (h : i < xss.length) : xss.getD i d ∈ xss := by
  rw [List.getD, List.getElem?_eq_getElem h]; exact List.getElem_mem h
end Go.Sx.U
