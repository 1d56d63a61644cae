/-
  Chapter 8: the uses of a choice: the law.
-/
import Derived.Test.YtpbmikcicibfcaaG23
namespace Go.Sx.U
set_option linter.unusedVariables false
set_option linter.unusedSimpArgs false
set_option maxRecDepth 100000
set_option maxHeartbeats 8000000
open Go Go.Sx Go.Proofs Go.Sx.M8

def useT (A : List (List Int)) (ns : List R4) (ks : List Int) : UU := usedT (wN A) A.length ns ks ks.length
/-- The objects of a grid at names from 6 on. -/
abbrev gridH6 (B W : List (List Int)) : Heap := [(7, .flat true (.rows 6 0 B.length)), (6, .nestI true .i64 B), (9, .flat true (.rows 8 0 W.length)), (8, .nestI true .i64 W)]
theorem k_ChosenUse (A V : List (List Int)) (ns : List R4) (ks : List Int) (h : Side (natSS A ∧ natSS V ∧ ns.length ≤ 1048577 ∧ ks.length ≤ 1048577)) (hx : chB A V ns ks = true) : FnIs Try.prog 23 [.agg [.sl 1 [], .sl 3 []], .sl 4 [], .sl 5 []] 6 ((4, .flat false (.r4 ns)) :: (5, .flat false (.ints .i64 ks)) :: gridH false A V) (.tuple [.agg [.sl 7 [], .sl 9 []], .bool true]) 10 (gridH6 (useT A ns ks).1 (useT A ns ks).2) := by
  have k1 := k_choiceOk A V ns ks h
  rw [hx] at k1
  obtain ⟨q1, q2, q3, q4⟩ := chB_side h.h.1 hx
  have hd := used_dims (chB_ok hx) ks.length (Nat.le_refl _)
  have k2 := k_used A V ns ks ⟨q1, q2, q3, q4⟩ (chB_ok hx)
  unfold gridH6 useT
  rw [hd.a.len, hd.u.len]
  refine fn_of_ev tok Try.func23 rfl rfl rfl ?_
  repeat' ((conv => whnf); first | done | refine ev_step ?_ | refine ops_step ?_ | refine scan_step ?_ | refine draw_step ?_ | refine each_step ?_ | refine sl_step ?_ | refine hp_step ?_ | refine guard_no (by decide) ?_ | refine guard_go ?_ | refine guard_old ?_ | apply cut_auto | with_reducible exact CutS.mk (Or.inl ⟨rfl, rfl, rfl⟩) | refine CutS.mk (Or.inr (sub_auto ?_)) | exact trivial | refine And.intro ?_ ?_ | refine cond_split ?_ ?_ | apply guess | apply FnIs.useF (k1) | apply FnIs.useF (k2) | exact Or.inl rfl | exact Or.inr rfl | exact Side.mk trivial | exact Side.mk (fun h => h) | exact Side.mk (fun h => ⟨h, h⟩) | with_reducible exact Side.mk rfl | with_reducible exact Side.mk ⟨rfl, rfl⟩ | with_reducible exact Side.mk (by assumption) | with_reducible rfl | intro _)
  all_goals try (conv => whnf)
  all_goals try (refine Side.mk ?_; first | (intros; omega) | (intro h1_ h2_; rw [h1_, h2_]; rfl) | (show List.length (_ ++ _) ≤ _; simp only [List.length_append, List.length_cons, List.length_nil, List.length_replicate, List.length_take]; omega) | (simp_all; done) | (simp_all; omega))
  all_goals first | rfl | trace_state
end Go.Sx.U
