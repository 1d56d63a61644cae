/-
  Copies of lists of numbers (contracts).
-/
import Derived.Test.YtgfbiehncbinmaaK1
namespace Go.Sx.U
set_option linter.unusedVariables false
set_option linter.unusedSimpArgs false
set_option maxRecDepth 100000
set_option maxHeartbeats 8000000
open Go Go.Sx Go.Proofs

theorem k_l00Own (xs : List Int) (h : Side (xs.length ≤ 1048577)) : FnIs Try.prog 78 [.sl 0 []] 1 [(0, .flat false (.ints .i64 xs))] (.sl 1 []) 2 [(1, .flat true (.ints .i64 xs))] := by
  have := h.h
  refine fn_of_ev tok Try.func78 rfl rfl rfl ?_
  repeat' ((conv => whnf); first | done | refine ev_step ?_ | refine ops_step ?_ | refine scan_step ?_ | refine draw_step ?_ | refine each_step ?_ | refine sl_step ?_ | refine hp_step ?_ | refine guard_no (by decide) ?_ | refine guard_go ?_ | refine guard_old ?_ | apply cut_auto | with_reducible exact CutS.mk (Or.inl ⟨rfl, rfl, rfl⟩) | refine CutS.mk (Or.inr (Or.inl (sub_auto ?_))) | exact trivial | refine And.intro ?_ ?_ | refine cond_split ?_ ?_ | apply guess | exact Or.inl rfl | exact Or.inr rfl | exact Side.mk trivial | exact Side.mk (fun h => h) | exact Side.mk (fun h => ⟨h, h⟩) | with_reducible exact Side.mk rfl | with_reducible exact Side.mk ⟨rfl, rfl⟩ | with_reducible exact Side.mk (by assumption) | with_reducible rfl | intro _)
  all_goals try (conv => whnf)
  · refine Side.mk ?_
    show (_ : List Int).length ≤ _
    simp; omega
  · rfl
end Go.Sx.U
