/-
  Chapter 8: valid grids (contracts).
-/
import Derived.Test.YtpbmikcicibfcaaG1
namespace Go.Sx.U
set_option linter.unusedVariables false
set_option linter.unusedSimpArgs false
set_option maxRecDepth 100000
set_option maxHeartbeats 8000000
open Go Go.Sx Go.Proofs Go.Sx.M8

abbrev natSS (W : List (List Int)) : Prop := W.length ≤ 1048577 ∧ ∀ xs ∈ W, xs.length ≤ 1048577
/-- The objects of a grid. -/
abbrev gridH (own : Bool) (A V : List (List Int)) : Heap := [(1, .flat own (.rows 0 0 A.length)), (0, .nestI own .i64 A), (3, .flat own (.rows 2 0 V.length)), (2, .nestI own .i64 V)]
theorem row0_le {A : List (List Int)} (h : natSS A) : (A.getD 0 []).length ≤ 1048577 := by
  by_cases h0 : 0 < A.length
  · exact h.2 _ (mem_of_getD h0)
  · rw [List.getD, List.getElem?_eq_none (by omega)]; simp
theorem k_sizes (A V : List (List Int)) (h : Side (natSS A ∧ 0 < A.length)) : FnIs Try.prog 87 [.ptr 4 [] 0 0] 5 ((4, .flat false (.gen 2 [[.sl 1 [], .sl 3 []]])) :: gridH false A V) (.tuple [.int .i64 (wd A), .int .i64 A.length]) 5 [] := by
  have h0 := row0_le h.h.1
  have h1 := h.h.1.1
  have h2 := h.h.2
  unfold wd
  refine fn_of_ev tok Try.func87 rfl rfl rfl ?_
  repeat' ((conv => whnf); first | done | refine ev_step ?_ | refine ops_step ?_ | refine scan_step ?_ | refine draw_step ?_ | refine each_step ?_ | refine sl_step ?_ | refine hp_step ?_ | refine guard_no (by decide) ?_ | refine guard_go ?_ | refine guard_old ?_ | apply cut_auto | with_reducible exact CutS.mk (Or.inl ⟨rfl, rfl, rfl⟩) | refine CutS.mk (Or.inr (sub_auto ?_)) | exact trivial | refine And.intro ?_ ?_ | (refine cond_split ?_ ?_ <;> intro _ <;> first | (exfalso; first | omega | (simp only [decide_eq_true_eq, decide_eq_false_iff_not, Bool.not_eq_true', Bool.not_eq_false', ne_eq, Bool.not_true, Bool.not_false, cond_true, cond_false, Bool.true_eq_false, Bool.false_eq_true, Bool.and_eq_true, Bool.and_eq_false_iff] at *; omega)) | skip) | apply guess | exact Or.inl rfl | exact Or.inr rfl | exact Side.mk trivial | exact Side.mk (fun h => h) | exact Side.mk (fun h => ⟨h, h⟩) | with_reducible exact Side.mk rfl | with_reducible exact Side.mk ⟨rfl, rfl⟩ | with_reducible exact Side.mk (by assumption) | with_reducible rfl | intro _)
  all_goals try (conv => whnf)
  all_goals try (refine Side.mk ?_; first | (intros; omega) | (intro h1_ h2_; rw [h1_, h2_]; rfl) | (show List.length (_ ++ _) ≤ _; simp only [List.length_append, List.length_cons, List.length_nil, List.length_replicate, List.length_take]; omega) | (simp_all; done) | (simp_all; omega))
  all_goals first | omega | rfl | trace_state
theorem k_ValidGrid (A V : List (List Int)) (h : Side (natSS A ∧ natSS V)) : FnIs Try.prog 44 [.agg [.sl 1 [], .sl 3 []]] 4 (gridH false A V) (.bool (gridB A V)) 4 [] := by
  obtain ⟨h1, h2⟩ := h.h
  have h0 := row0_le h1
  have hA := h1.1
  have hwl : 1 ≤ wd A ∧ wd A ≤ 1048578 := by unfold wd; omega
  refine fn_of_ev tok Try.func44 rfl rfl rfl ?_
  by_cases hl : A.length = 0
  · rw [show gridB A V = false by simp [gridB, hl]]
    repeat' ((conv => whnf); first | done | refine ev_step ?_ | refine ops_step ?_ | refine scan_step ?_ | refine draw_step ?_ | refine each_step ?_ | refine sl_step ?_ | refine hp_step ?_ | refine guard_no (by decide) ?_ | refine guard_go ?_ | refine guard_old ?_ | apply cut_auto | with_reducible exact CutS.mk (Or.inl ⟨rfl, rfl, rfl⟩) | refine CutS.mk (Or.inr (sub_auto ?_)) | exact trivial | refine And.intro ?_ ?_ | (refine cond_split ?_ ?_ <;> intro _ <;> first | (exfalso; first | omega | (simp only [decide_eq_true_eq, decide_eq_false_iff_not, Bool.not_eq_true', Bool.not_eq_false', ne_eq, Bool.not_true, Bool.not_false, cond_true, cond_false, Bool.true_eq_false, Bool.false_eq_true, Bool.and_eq_true, Bool.and_eq_false_iff] at *; omega)) | skip) | apply guess | exact Or.inl rfl | exact Or.inr rfl | exact Side.mk trivial | exact Side.mk (fun h => h) | exact Side.mk (fun h => ⟨h, h⟩) | with_reducible exact Side.mk rfl | with_reducible exact Side.mk ⟨rfl, rfl⟩ | with_reducible exact Side.mk (by assumption) | with_reducible rfl | intro _)
    all_goals try (conv => whnf)
    all_goals try (refine Side.mk ?_; first | (intros; omega) | (intro h1_ h2_; rw [h1_, h2_]; rfl) | (show List.length (_ ++ _) ≤ _; simp only [List.length_append, List.length_cons, List.length_nil, List.length_replicate, List.length_take]; omega) | (simp_all; done) | (simp_all; omega))
    all_goals first | omega | rfl | trace_state
  · have ks := k_sizes A V ⟨⟨h1, by omega⟩⟩
    have k1 := k_roomsOk A A.length (wd A - 1) ⟨h1⟩
    have k2 := k_roomsOk V ((A.length : Int) - 1) (wd A) ⟨h2⟩
    rw [show gridB A V = (decide (wd A ≤ 8) && decide ((A.length : Int) ≤ 8) && okRows A.length (wd A - 1) A && okRows ((A.length : Int) - 1) (wd A) V) by simp [gridB, hl]]
    generalize wd A = w at *
    cases hy : okRows A.length (w - 1) A <;> rw [hy] at k1
    · repeat' ((conv => whnf); first | done | refine ev_step ?_ | refine ops_step ?_ | refine scan_step ?_ | refine draw_step ?_ | refine each_step ?_ | refine sl_step ?_ | refine hp_step ?_ | refine guard_no (by decide) ?_ | refine guard_go ?_ | refine guard_old ?_ | apply cut_auto | with_reducible exact CutS.mk (Or.inl ⟨rfl, rfl, rfl⟩) | refine CutS.mk (Or.inr (sub_auto ?_)) | exact trivial | refine And.intro ?_ ?_ | (refine cond_split ?_ ?_ <;> intro _ <;> first | (exfalso; first | omega | (simp only [decide_eq_true_eq, decide_eq_false_iff_not, Bool.not_eq_true', Bool.not_eq_false', ne_eq, Bool.not_true, Bool.not_false, cond_true, cond_false, Bool.true_eq_false, Bool.false_eq_true, Bool.and_eq_true, Bool.and_eq_false_iff] at *; omega)) | skip) | apply guess | apply FnIs.useF (ks) | refine FnIs.useE (k1) rfl ?_ | refine FnIs.useE (k2) rfl ?_ | exact Or.inl rfl | exact Or.inr rfl | exact Side.mk trivial | exact Side.mk (fun h => h) | exact Side.mk (fun h => ⟨h, h⟩) | with_reducible exact Side.mk rfl | with_reducible exact Side.mk ⟨rfl, rfl⟩ | with_reducible exact Side.mk (by assumption) | with_reducible rfl | intro _)
      all_goals try (conv => whnf)
      all_goals try (refine Side.mk ?_; first | (intros; omega) | (intro h1_ h2_; rw [h1_, h2_]; rfl) | (show List.length (_ ++ _) ≤ _; simp only [List.length_append, List.length_cons, List.length_nil, List.length_replicate, List.length_take]; omega) | (simp_all; done) | (simp_all; omega))
      all_goals first | rfl | (simp_all; done) | (cases decide (w ≤ 8) <;> cases decide ((A.length : Int) ≤ 8) <;> rfl) | trace_state
    · repeat' ((conv => whnf); first | done | refine ev_step ?_ | refine ops_step ?_ | refine scan_step ?_ | refine draw_step ?_ | refine each_step ?_ | refine sl_step ?_ | refine hp_step ?_ | refine guard_no (by decide) ?_ | refine guard_go ?_ | refine guard_old ?_ | apply cut_auto | with_reducible exact CutS.mk (Or.inl ⟨rfl, rfl, rfl⟩) | refine CutS.mk (Or.inr (sub_auto ?_)) | exact trivial | refine And.intro ?_ ?_ | (refine cond_split ?_ ?_ <;> intro _ <;> first | (exfalso; first | omega | (simp only [decide_eq_true_eq, decide_eq_false_iff_not, Bool.not_eq_true', Bool.not_eq_false', ne_eq, Bool.not_true, Bool.not_false, cond_true, cond_false, Bool.true_eq_false, Bool.false_eq_true, Bool.and_eq_true, Bool.and_eq_false_iff] at *; omega)) | skip) | apply guess | apply FnIs.useF (ks) | refine FnIs.useE (k1) rfl ?_ | refine FnIs.useE (k2) rfl ?_ | exact Or.inl rfl | exact Or.inr rfl | exact Side.mk trivial | exact Side.mk (fun h => h) | exact Side.mk (fun h => ⟨h, h⟩) | with_reducible exact Side.mk rfl | with_reducible exact Side.mk ⟨rfl, rfl⟩ | with_reducible exact Side.mk (by assumption) | with_reducible rfl | intro _)
      all_goals try (conv => whnf)
      all_goals try (refine Side.mk ?_; first | (intros; omega) | (intro h1_ h2_; rw [h1_, h2_]; rfl) | (show List.length (_ ++ _) ≤ _; simp only [List.length_append, List.length_cons, List.length_nil, List.length_replicate, List.length_take]; omega) | (simp_all; done) | (simp_all; omega))
      all_goals first | rfl | (cases decide (w ≤ 8) <;> cases decide ((A.length : Int) ≤ 8) <;> cases okRows ((A.length : Int) - 1) w V <;> rfl) | (simp_all; done) | trace_state
abbrev GIn (A V : List (List Int)) : Prop := (A.length ≤ 9223372036854775807 ∧ ∀ xs ∈ A, xs.length ≤ 9223372036854775807 ∧ ∀ k ∈ xs, inI64 k) ∧ V.length ≤ 9223372036854775807 ∧ ∀ xs ∈ V, xs.length ≤ 9223372036854775807 ∧ ∀ k ∈ xs, inI64 k
theorem GIn.sz {A V : List (List Int)} (h : GIn A V) : Side ((0 : Int) ≤ 1048576 ∧ (1048576 : Int) ≤ 1048576 ∧ (A.length ≤ 9223372036854775807 ∧ ∀ xs ∈ A, xs.length ≤ 9223372036854775807) ∧ V.length ≤ 9223372036854775807 ∧ ∀ xs ∈ V, xs.length ≤ 9223372036854775807) :=
  ⟨by omega, by omega, ⟨h.1.1, fun xs hxs => (h.1.2 xs hxs).1⟩, h.2.1, fun xs hxs => (h.2.2 xs hxs).1⟩
end Go.Sx.U
