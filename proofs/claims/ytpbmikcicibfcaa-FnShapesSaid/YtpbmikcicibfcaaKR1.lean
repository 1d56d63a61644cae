/-
  The sources of the drawn inputs, as far as the laws ask.
-/
import Derived.Test.YtpbmikcicibfcaaK1
import Derived.Test.YtpbmikcicibfcaaSd
namespace Go.Sx.U
set_option linter.unusedVariables false
set_option linter.unusedSimpArgs false
set_option maxRecDepth 100000
set_option maxHeartbeats 8000000
open Go Go.Sx Go.Proofs

abbrev bytesOk (bs : List Int) : Prop := bs.length ≤ 1048577 ∧ ∀ k ∈ bs, 0 ≤ k ∧ k ≤ 255
theorem k_r8Long (bs cs : List Int) (h : Side (bs.length ≤ 9223372036854775807 ∧ cs.length ≤ 9223372036854775807)) : FnIs Try.prog 33 [.sl 0 [], .sl 1 []] 2 [(0, .flat false (.ints .u8 bs)), (1, .flat false (.ints .u8 cs))] (.bool (decide (48 < (bs.length : Int)) || decide (48 < (cs.length : Int)))) 2 [] := by
  have := h.h
  refine fn_of_ev tok Try.func33 rfl rfl rfl ?_
  repeat' ((conv => whnf); first | done | refine ev_step ?_ | refine ops_step ?_ | refine scan_step ?_ | refine draw_step ?_ | refine each_step ?_ | refine sl_step ?_ | refine hp_step ?_ | refine guard_no (by decide) ?_ | refine guard_go ?_ | refine guard_old ?_ | apply cut_auto | with_reducible exact CutS.mk (Or.inl ⟨rfl, rfl, rfl⟩) | refine CutS.mk (Or.inr (sub_auto ?_)) | exact trivial | refine And.intro ?_ ?_ | refine cond_split ?_ ?_ | apply guess | exact Or.inl rfl | exact Or.inr rfl | exact Side.mk trivial | exact Side.mk (fun h => h) | exact Side.mk (fun h => ⟨h, h⟩) | with_reducible exact Side.mk rfl | with_reducible exact Side.mk ⟨rfl, rfl⟩ | with_reducible exact Side.mk (by assumption) | with_reducible rfl | intro _)
  all_goals try (conv => whnf)
  all_goals try (refine Side.mk ?_; first | (intros; omega) | (intro h1_ h2_; rw [h1_, h2_]; rfl) | (show List.length (_ ++ _) ≤ _; simp only [List.length_append, List.length_cons, List.length_nil, List.length_replicate, List.length_take]; omega) | (simp_all; done) | (simp_all; omega))
  all_goals first | rfl | (simp; done) | trace_state
end Go.Sx.U
