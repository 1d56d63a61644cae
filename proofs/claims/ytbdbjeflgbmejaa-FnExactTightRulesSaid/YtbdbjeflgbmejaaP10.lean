/-
  Chapter 9: the law of tight rules.
-/
import Derived.Test.YtbdbjeflgbmejaaP7
namespace Go.Sx.U
set_option linter.unusedVariables false
set_option linter.unusedSimpArgs false
open Go Go.Sx Go.Sx.M9 Go.Proofs
set_option maxHeartbeats 2000000
set_option maxRecDepth 100000

theorem tight_bd {p : Int} {rs : List R3} {pl : List Int} (h : tight? p rs pl = true) : okPress p rs = true ∧ placed p rs pl = true := by simpa [tight?] using h
theorem c10 (p : Int) (xs : List R3) (ys : List Int) (hp : Side (inI64 p ∧ xs.length ≤ 9223372036854775807 ∧ ys.length ≤ 9223372036854775807)) : FnIs Try.prog 10 [.agg [.int .i64 p, .sl 0 []], .sl 1 []] 2 [(1, .flat false (.ints .i64 ys)), (0, .flat false (.r3 xs))] (.bool true) 2 [] := by
  obtain ⟨hp1, hp2, hp3⟩ := hp.h
  refine fn_of_ev tok Try.func10 rfl rfl rfl ?_
  by_cases hy : ys.length ≤ 1048576
  · by_cases hl : xs.length ≤ 1048576
    · have e : (if (1048576 : Int) - xs.length < 0 then (-1 : Int) else 1048576 - xs.length) = 1048576 - xs.length := if_neg (by omega)
      have ht := tights_len xs ys xs.length
      have hm : (if tight? p xs ys = true then tights xs ys xs.length else []).length ≤ xs.length := by
        split
        · exact ht
        · simp
      repeat' ((conv => whnf); first | done | refine ev_step ?_ | refine ops_step ?_ | refine scan_step ?_ | refine draw_step ?_ | apply cut_auto | with_reducible exact CutS.mk (Or.inl ⟨rfl, rfl, rfl⟩) | refine CutS.mk (Or.inr (sub_auto ?_)) | exact trivial | refine And.intro ?_ ?_ | (refine cond_split ?_ ?_ <;> intro _ <;> first | (exfalso; first | omega | (simp_all; done) | (simp_all; omega)) | skip) | apply guess | apply FnIs.use (c19 _ _ _ _) | apply FnIs.use (c21 _ _ _) | apply FnIs.use (c25 _ _) | apply FnIs.use (c41 _ _ _ _) | apply FnIs.use (c42 _ _ _ _) | apply FnIs.use (c27s _ _) | apply FnIs.use (c23s _ _ _) | apply FnIs.use (c30 _ _ _ _) | apply FnIs.use (c31 _ _ _) | apply FnIs.use (c32 _ _ _) | exact Or.inl rfl | exact Or.inr rfl | exact Side.mk trivial | exact Side.mk (fun h => h) | exact Side.mk (fun h => ⟨h, h⟩) | with_reducible exact Side.mk rfl | with_reducible exact Side.mk (by assumption) | with_reducible rfl | intro _)
      all_goals try (conv => whnf)
      all_goals try (refine Side.mk ?_; first | (intros; omega) | (simp_all; done) | (simp_all; omega))
      all_goals trace_state
    · have e : (if (1048576 : Int) - xs.length < 0 then (-1 : Int) else 1048576 - xs.length) = -1 := if_pos (by omega)
      repeat' ((conv => whnf); first | done | refine ev_step ?_ | refine ops_step ?_ | refine scan_step ?_ | refine draw_step ?_ | apply cut_auto | with_reducible exact CutS.mk (Or.inl ⟨rfl, rfl, rfl⟩) | refine CutS.mk (Or.inr (sub_auto ?_)) | exact trivial | refine And.intro ?_ ?_ | (refine cond_split ?_ ?_ <;> intro _ <;> first | (exfalso; first | omega | (simp_all; done) | (simp_all; omega)) | skip) | apply guess | apply FnIs.use (c19 _ _ _ _) | exact Or.inl rfl | exact Or.inr rfl | exact Side.mk trivial | exact Side.mk (fun h => h) | exact Side.mk (fun h => ⟨h, h⟩) | with_reducible exact Side.mk rfl | with_reducible exact Side.mk (by assumption) | with_reducible rfl | intro _)
      all_goals try (conv => whnf)
      all_goals try (refine Side.mk ?_; first | (intros; omega) | (simp_all; done) | (simp_all; omega))
      all_goals trace_state
  · repeat' ((conv => whnf); first | done | refine ev_step ?_ | refine ops_step ?_ | refine scan_step ?_ | refine draw_step ?_ | apply cut_auto | with_reducible exact CutS.mk (Or.inl ⟨rfl, rfl, rfl⟩) | refine CutS.mk (Or.inr (sub_auto ?_)) | exact trivial | refine And.intro ?_ ?_ | (refine cond_split ?_ ?_ <;> intro _ <;> first | (exfalso; first | omega | (simp_all; done) | (simp_all; omega)) | skip) | apply guess | exact Or.inl rfl | exact Or.inr rfl | exact Side.mk trivial | exact Side.mk (fun h => h) | exact Side.mk (fun h => ⟨h, h⟩) | with_reducible exact Side.mk rfl | with_reducible exact Side.mk (by assumption) | with_reducible rfl | intro _)
    all_goals try (conv => whnf)
    all_goals try (refine Side.mk ?_; first | (intros; omega) | (simp_all; done) | (simp_all; omega))
end Go.Sx.U
