/-
  Chapter 8: shapes of a net: the law.
-/
import Derived.Test.YtpbmikcicibfcaaG13
import Derived.Test.YtpbmikcicibfcaaG11
import Derived.Test.YtpbmikcicibfcaaG3
namespace Go.Sx.U
set_option linter.unusedVariables false
set_option linter.unusedSimpArgs false
set_option maxRecDepth 100000
set_option maxHeartbeats 8000000
open Go Go.Sx Go.Proofs Go.Sx.M8

/-! ### Lists of points -/
/-! ### Marks -/
/-! ### The functions -/
theorem net_cel {A V : List (List Int)} {a b c d : Int} (h : (gridB A V && netB A a b c d) = true) : Side (cel a ∧ cel b ∧ cel c ∧ cel d) := by
  simp only [Bool.and_eq_true] at h
  exact ⟨netB_bd h.1 h.2⟩
theorem k_ShapesOf (A V : List (List Int)) (a b c d : Int) (h : Side (natSS A ∧ natSS V)) (hk : (gridB A V && netB A a b c d) = true) : FnIs Try.prog 36 [.agg [.sl 1 [], .sl 3 []], netV a b c d] 4 (gridH false A V) (.tuple [.sl 5 [], .bool true]) 6 [(5, .flat true (.rows 4 0 (shapesV a b c d).length)), (4, .nestR2 true (shapesV a b c d))] := by
  have k1 := k_IsNet A V a b c d h
  have k3 := k_shapes a b c d (net_cel hk)
  rw [hk] at k1
  refine fn_of_ev tok Try.func36 rfl rfl rfl ?_
  repeat' ((conv => whnf); first | done | refine ev_step ?_ | refine ops_step ?_ | refine scan_step ?_ | refine draw_step ?_ | refine each_step ?_ | refine sl_step ?_ | refine hp_step ?_ | refine guard_no (by decide) ?_ | refine guard_go ?_ | refine guard_old ?_ | apply cut_auto | with_reducible exact CutS.mk (Or.inl ⟨rfl, rfl, rfl⟩) | refine CutS.mk (Or.inr (sub_auto ?_)) | exact trivial | refine And.intro ?_ ?_ | refine cond_split ?_ ?_ | apply guess | apply FnIs.useF (k1) | apply FnIs.useF (k3) | exact Or.inl rfl | exact Or.inr rfl | exact Side.mk trivial | exact Side.mk (fun h => h) | exact Side.mk (fun h => ⟨h, h⟩) | with_reducible exact Side.mk rfl | with_reducible exact Side.mk ⟨rfl, rfl⟩ | with_reducible exact Side.mk (by assumption) | with_reducible rfl | intro _)
  all_goals try (conv => whnf)
  all_goals try (refine Side.mk ?_; first | (intros; omega) | (intro h1_ h2_; rw [h1_, h2_]; rfl) | (show List.length (_ ++ _) ≤ _; simp only [List.length_append, List.length_cons, List.length_nil, List.length_replicate, List.length_take]; omega) | (simp_all; done) | (simp_all; omega))
  all_goals first | rfl | trace_state
theorem cut4_len (p q r s : R2) : (cut4 p q r s).length ≤ 4 := by unfold cut4; split <;> simp
theorem shapes_small {a b c d : Int} (h : cel a ∧ cel b ∧ cel c ∧ cel d) : (shapesV a b c d).length ≤ 14 ∧ ∀ xs ∈ shapesV a b c d, xs.length ≤ 4 := by
  unfold shapesV
  split
  · refine ⟨by simp, fun xs hx => ?_⟩
    rw [List.mem_singleton.1 hx]
    split <;> simp
  · refine ⟨by simp [shapesX, shapesY]; omega, fun xs hx => ?_⟩
    rcases List.mem_append.1 hx with hx | hx
    · simp only [shapesX, List.mem_map] at hx
      obtain ⟨i, _, rfl⟩ := hx
      exact cut4_len _ _ _ _
    · simp only [shapesY, List.mem_map] at hx
      obtain ⟨i, _, rfl⟩ := hx
      exact cut4_len _ _ _ _
end Go.Sx.U
