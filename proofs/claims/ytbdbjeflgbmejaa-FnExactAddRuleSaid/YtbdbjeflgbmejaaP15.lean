/-
  Chapter 9: the law of a rule more.
-/
import Derived.Test.YtbdbjeflgbmejaaP9
namespace Go.Sx.U
set_option linter.unusedVariables false
set_option linter.unusedSimpArgs false
set_option maxRecDepth 100000
open Go Go.Sx Go.Sx.M9 Go.Proofs
set_option maxHeartbeats 6000000

theorem c12 (p : Int) (xs : List R3) (a b c : Int) (hp : Side (inI64 p ∧ xs.length ≤ 9223372036854775807 ∧ inI64 a ∧ inI64 b ∧ inI64 c)) : FnIs Try.prog 12 [.agg [.int .i64 p, .sl 0 []], .agg [.int .i64 a, .int .i64 b, .int .i64 c]] 1 [(0, .flat false (.r3 xs))] (.bool true) 1 [] := by
  have hp := hp.h
  have hm := add_len p xs ⟨a, b, c⟩
  refine fn_of_evk [0, 1, 2, 3, 4, 5, 6, 7, 8, 9, 10, 11, 12, 13, 14, 15, 16, 17, 18, 23, 26, 28, 29, 34, 38, 39, 56, 59, 61, 82, 90, 93, 96, 98, 99, 116, 121, 124] tok Try.func12 rfl rfl rfl ?_
  by_cases hl : xs.length ≤ 1048576
  · have e : (if (1048576 : Int) - xs.length < 0 then (-1 : Int) else 1048576 - xs.length) = 1048576 - xs.length := if_neg (by omega)
    repeat' ((conv => whnf); first | done | refine ev_step ?_ | refine ops_step ?_ | refine scan_step ?_ | refine draw_step ?_ | refine each_step ?_ | apply cut_auto | with_reducible exact CutS.mk (Or.inl ⟨rfl, rfl, rfl⟩) | refine CutS.mk (Or.inr (sub_auto ?_)) | exact trivial | refine And.intro ?_ ?_ | (refine cond_split ?_ ?_ <;> intro _ <;> first | (exfalso; first | omega | (simp_all; done) | (simp_all; omega)) | skip) | apply guess | apply FnIs.use (c19 _ _ _ _) | apply FnIs.use (c21 _ _ _) | apply FnIs.use (c46 ⟨a, b, c⟩) | apply FnIs.use (c45 _ _ ⟨a, b, c⟩ _) | apply FnIs.use (c47 _ _ ⟨a, b, c⟩ _) | apply FnIs.use (c23s _ _ _) | apply FnIs.use (c30 _ _ _ _) | apply FnIs.use (c48 _ _ _ _) | exact Or.inl rfl | exact Or.inr rfl | exact Side.mk trivial | exact Side.mk (fun h => h) | exact Side.mk (fun h => ⟨h, h⟩) | with_reducible exact Side.mk rfl | with_reducible exact Side.mk (by assumption) | with_reducible rfl | intro _)
    all_goals try (conv => whnf)
    all_goals try (refine Side.mk ?_; first | (intros; omega) | (simp_all; done) | (simp_all; omega))
    all_goals trace_state
  · have e : (if (1048576 : Int) - xs.length < 0 then (-1 : Int) else 1048576 - xs.length) = -1 := if_pos (by omega)
    repeat' ((conv => whnf); first | done | refine ev_step ?_ | refine ops_step ?_ | refine scan_step ?_ | refine draw_step ?_ | refine each_step ?_ | apply cut_auto | with_reducible exact CutS.mk (Or.inl ⟨rfl, rfl, rfl⟩) | refine CutS.mk (Or.inr (sub_auto ?_)) | exact trivial | refine And.intro ?_ ?_ | (refine cond_split ?_ ?_ <;> intro _ <;> first | (exfalso; first | omega | (simp_all; done) | (simp_all; omega)) | skip) | apply guess | apply FnIs.use (c19 _ _ _ _) | exact Or.inl rfl | exact Or.inr rfl | exact Side.mk trivial | exact Side.mk (fun h => h) | exact Side.mk (fun h => ⟨h, h⟩) | with_reducible exact Side.mk rfl | with_reducible exact Side.mk (by assumption) | with_reducible rfl | intro _)
    all_goals try (conv => whnf)
    all_goals try (refine Side.mk ?_; first | (intros; omega) | (simp_all; done) | (simp_all; omega))
    all_goals trace_state
end Go.Sx.U
