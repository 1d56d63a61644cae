/-
  Chapter 8: valid grids (contracts).
-/
import Derived.Test.YtpbmikcicibfcaaG1
namespace Go.Sx.U
set_option linter.unusedVariables false
set_option linter.unusedSimpArgs false
set_option maxRecDepth 100000
set_option maxHeartbeats 8000000
open Go Go.Sx Go.Proofs Go.Sx.M8

abbrev natSS (W : List (List Int)) : Prop := W.length ≤ 1048577 ∧ ∀ xs ∈ W, xs.length ≤ 1048577
/-- The objects of a grid. -/
abbrev gridH (own : Bool) (A V : List (List Int)) : Heap := [(1, .flat own (.rows 0 0 A.length)), (0, .nestI own .i64 A), (3, .flat own (.rows 2 0 V.length)), (2, .nestI own .i64 V)]
theorem row0_le {A : List (List Int)} (h : natSS A) : (A.getD 0 []).length ≤ 1048577 := by
  by_cases h0 : 0 < A.length
  · exact h.2 _ (mem_of_getD h0)
  · rw [List.getD, List.getElem?_eq_none (by omega)]; simp
def wdS (A : List (List Int)) : Int := if A.length = 0 then 0 else wd A
theorem k_l08Size (A V : List (List Int)) (h : Side (natSS A)) : FnIs Try.prog 58 [.ptr 4 [] 0 0] 5 ((4, .flat false (.gen 2 [[.sl 1 [], .sl 3 []]])) :: gridH false A V) (.tuple [.int .i64 (wdS A), .int .i64 A.length]) 5 [] := by
  have h0 := row0_le h.h
  have h1 := h.h.1
  refine fn_of_ev tok Try.func58 rfl rfl rfl ?_
  by_cases hl : A.length = 0
  · rw [show wdS A = 0 from if_pos hl]
    repeat' ((conv => whnf); first | done | refine ev_step ?_ | refine ops_step ?_ | refine scan_step ?_ | refine draw_step ?_ | refine each_step ?_ | refine sl_step ?_ | refine hp_step ?_ | refine guard_no (by decide) ?_ | refine guard_go ?_ | refine guard_old ?_ | apply cut_auto | with_reducible exact CutS.mk (Or.inl ⟨rfl, rfl, rfl⟩) | refine CutS.mk (Or.inr (sub_auto ?_)) | exact trivial | refine And.intro ?_ ?_ | (refine cond_split ?_ ?_ <;> intro _ <;> first | (exfalso; first | omega | (simp only [decide_eq_true_eq, decide_eq_false_iff_not, Bool.not_eq_true', Bool.not_eq_false', ne_eq, Bool.not_true, Bool.not_false, cond_true, cond_false, Bool.true_eq_false, Bool.false_eq_true, Bool.and_eq_true, Bool.and_eq_false_iff] at *; omega)) | skip) | apply guess | exact Or.inl rfl | exact Or.inr rfl | exact Side.mk trivial | exact Side.mk (fun h => h) | exact Side.mk (fun h => ⟨h, h⟩) | with_reducible exact Side.mk rfl | with_reducible exact Side.mk ⟨rfl, rfl⟩ | with_reducible exact Side.mk (by assumption) | with_reducible rfl | intro _)
    all_goals try (conv => whnf)
    all_goals try omega
  · rw [show wdS A = wd A from if_neg hl]
    unfold wd
    repeat' ((conv => whnf); first | done | refine ev_step ?_ | refine ops_step ?_ | refine scan_step ?_ | refine draw_step ?_ | refine each_step ?_ | refine sl_step ?_ | refine hp_step ?_ | refine guard_no (by decide) ?_ | refine guard_go ?_ | refine guard_old ?_ | apply cut_auto | with_reducible exact CutS.mk (Or.inl ⟨rfl, rfl, rfl⟩) | refine CutS.mk (Or.inr (sub_auto ?_)) | exact trivial | refine And.intro ?_ ?_ | (refine cond_split ?_ ?_ <;> intro _ <;> first | (exfalso; first | omega | (simp only [decide_eq_true_eq, decide_eq_false_iff_not, Bool.not_eq_true', Bool.not_eq_false', ne_eq, Bool.not_true, Bool.not_false, cond_true, cond_false, Bool.true_eq_false, Bool.false_eq_true, Bool.and_eq_true, Bool.and_eq_false_iff] at *; omega)) | skip) | apply guess | exact Or.inl rfl | exact Or.inr rfl | exact Side.mk trivial | exact Side.mk (fun h => h) | exact Side.mk (fun h => ⟨h, h⟩) | with_reducible exact Side.mk rfl | with_reducible exact Side.mk ⟨rfl, rfl⟩ | with_reducible exact Side.mk (by assumption) | with_reducible rfl | intro _)
    all_goals try (conv => whnf)
    all_goals try (refine Side.mk ?_; first | (intros; omega) | (intro h1_ h2_; rw [h1_, h2_]; rfl) | (show List.length (_ ++ _) ≤ _; simp only [List.length_append, List.length_cons, List.length_nil, List.length_replicate, List.length_take]; omega) | (simp_all; done) | (simp_all; omega))
    all_goals first | omega | rfl | trace_state
theorem k_sizes (A V : List (List Int)) (h : Side (natSS A ∧ 0 < A.length)) : FnIs Try.prog 87 [.ptr 4 [] 0 0] 5 ((4, .flat false (.gen 2 [[.sl 1 [], .sl 3 []]])) :: gridH false A V) (.tuple [.int .i64 (wd A), .int .i64 A.length]) 5 [] := by
  have h0 := row0_le h.h.1
  have h1 := h.h.1.1
  have h2 := h.h.2
  unfold wd
  refine fn_of_ev tok Try.func87 rfl rfl rfl ?_
  repeat' ((conv => whnf); first | done | refine ev_step ?_ | refine ops_step ?_ | refine scan_step ?_ | refine draw_step ?_ | refine each_step ?_ | refine sl_step ?_ | refine hp_step ?_ | refine guard_no (by decide) ?_ | refine guard_go ?_ | refine guard_old ?_ | apply cut_auto | with_reducible exact CutS.mk (Or.inl ⟨rfl, rfl, rfl⟩) | refine CutS.mk (Or.inr (sub_auto ?_)) | exact trivial | refine And.intro ?_ ?_ | (refine cond_split ?_ ?_ <;> intro _ <;> first | (exfalso; first | omega | (simp only [decide_eq_true_eq, decide_eq_false_iff_not, Bool.not_eq_true', Bool.not_eq_false', ne_eq, Bool.not_true, Bool.not_false, cond_true, cond_false, Bool.true_eq_false, Bool.false_eq_true, Bool.and_eq_true, Bool.and_eq_false_iff] at *; omega)) | skip) | apply guess | exact Or.inl rfl | exact Or.inr rfl | exact Side.mk trivial | exact Side.mk (fun h => h) | exact Side.mk (fun h => ⟨h, h⟩) | with_reducible exact Side.mk rfl | with_reducible exact Side.mk ⟨rfl, rfl⟩ | with_reducible exact Side.mk (by assumption) | with_reducible rfl | intro _)
  all_goals try (conv => whnf)
  all_goals try (refine Side.mk ?_; first | (intros; omega) | (intro h1_ h2_; rw [h1_, h2_]; rfl) | (show List.length (_ ++ _) ≤ _; simp only [List.length_append, List.length_cons, List.length_nil, List.length_replicate, List.length_take]; omega) | (simp_all; done) | (simp_all; omega))
  all_goals first | omega | rfl | trace_state
theorem k_l08Is (A V : List (List Int)) (h : Side (natSS A ∧ natSS V)) : FnIs Try.prog 102 [.ptr 4 [] 0 0] 5 ((4, .flat false (.gen 2 [[.sl 1 [], .sl 3 []]])) :: gridH false A V) (.bool (gridB A V)) 5 [] := by
  obtain ⟨h1, h2⟩ := h.h
  have h0 := row0_le h1
  have hA := h1.1
  have hV := h2.1
  have hwl : 1 ≤ wd A ∧ wd A ≤ 1048578 := by unfold wd; omega
  have ks := k_l08Size A V ⟨h1⟩
  refine fn_of_ev tok Try.func102 rfl rfl rfl ?_
  by_cases hl : A.length = 0
  · rw [show wdS A = 0 from if_pos hl] at ks
    have kw := k_l00In 0 1 8
    rw [show (decide ((1 : Int) ≤ 0) && decide ((0 : Int) ≤ 8)) = false by decide] at kw
    rw [show gridB A V = false by simp [gridB, hl]]
    repeat' ((conv => whnf); first | done | refine ev_step ?_ | refine ops_step ?_ | refine scan_step ?_ | refine draw_step ?_ | refine each_step ?_ | refine sl_step ?_ | refine hp_step ?_ | refine guard_no (by decide) ?_ | refine guard_go ?_ | refine guard_old ?_ | apply cut_auto | with_reducible exact CutS.mk (Or.inl ⟨rfl, rfl, rfl⟩) | refine CutS.mk (Or.inr (sub_auto ?_)) | exact trivial | refine And.intro ?_ ?_ | (refine cond_split ?_ ?_ <;> intro _ <;> first | (exfalso; first | omega | (simp only [decide_eq_true_eq, decide_eq_false_iff_not, Bool.not_eq_true', Bool.not_eq_false', ne_eq, Bool.not_true, Bool.not_false, cond_true, cond_false, Bool.true_eq_false, Bool.false_eq_true, Bool.and_eq_true, Bool.and_eq_false_iff] at *; omega)) | skip) | apply guess | apply FnIs.useF (ks) | apply FnIs.useF (kw) | exact Or.inl rfl | exact Or.inr rfl | exact Side.mk trivial | exact Side.mk (fun h => h) | exact Side.mk (fun h => ⟨h, h⟩) | with_reducible exact Side.mk rfl | with_reducible exact Side.mk ⟨rfl, rfl⟩ | with_reducible exact Side.mk (by assumption) | with_reducible rfl | intro _)
    all_goals try (conv => whnf)
    all_goals try (refine Side.mk ?_; first | (intros; omega) | (intro h1_ h2_; rw [h1_, h2_]; rfl) | (show List.length (_ ++ _) ≤ _; simp only [List.length_append, List.length_cons, List.length_nil, List.length_replicate, List.length_take]; omega) | (simp_all; done) | (simp_all; omega))
    all_goals first | rfl | trace_state
  · rw [show wdS A = wd A from if_neg hl] at ks
    have kw := k_l00In (wd A) 1 8
    have kh := k_l00In A.length 1 8
    rw [show (decide ((1 : Int) ≤ A.length) && decide ((A.length : Int) ≤ 8)) = decide ((A.length : Int) ≤ 8) by rw [decide_eq_true (by omega : (1 : Int) ≤ A.length)]; rfl] at kh
    rw [show (decide ((1 : Int) ≤ wd A) && decide (wd A ≤ 8)) = decide (wd A ≤ 8) by rw [decide_eq_true hwl.1]; rfl] at kw
    have k1 := k_l08Rows A A.length (wd A - 1) ⟨⟨hA, by omega⟩⟩
    rw [show gridB A V = (decide (wd A ≤ 8) && decide ((A.length : Int) ≤ 8) && okRows A.length (wd A - 1) A && okRows ((A.length : Int) - 1) (wd A) V) by simp [gridB, hl]]
    have hlen := h1.1
    by_cases c1 : wd A ≤ 8
    · rw [decide_eq_true c1] at kw ⊢
      have k2 := k_l08Rows V ((A.length : Int) - 1) (wd A) ⟨⟨hV, by omega⟩⟩
      generalize wd A = w at *
      cases hx : decide ((A.length : Int) ≤ 8) <;> rw [hx] at kh
      · repeat' ((conv => whnf); first | done | refine ev_step ?_ | refine ops_step ?_ | refine scan_step ?_ | refine draw_step ?_ | refine each_step ?_ | refine sl_step ?_ | refine hp_step ?_ | refine guard_no (by decide) ?_ | refine guard_go ?_ | refine guard_old ?_ | apply cut_auto | with_reducible exact CutS.mk (Or.inl ⟨rfl, rfl, rfl⟩) | refine CutS.mk (Or.inr (sub_auto ?_)) | exact trivial | refine And.intro ?_ ?_ | refine cond_split ?_ ?_ | apply guess | apply FnIs.useF (ks) | refine FnIs.useE (kw) rfl ?_ | refine FnIs.useE (kh) rfl ?_ | refine FnIs.useE (k1) rfl ?_ | refine FnIs.useE (k2) rfl ?_ | exact Or.inl rfl | exact Or.inr rfl | exact Side.mk trivial | exact Side.mk (fun h => h) | exact Side.mk (fun h => ⟨h, h⟩) | with_reducible exact Side.mk rfl | with_reducible exact Side.mk ⟨rfl, rfl⟩ | with_reducible exact Side.mk (by assumption) | with_reducible rfl | intro _)
        all_goals try (conv => whnf)
        all_goals try (refine Side.mk ?_; first | (intros; omega) | (intro h1_ h2_; rw [h1_, h2_]; rfl) | (show List.length (_ ++ _) ≤ _; simp only [List.length_append, List.length_cons, List.length_nil, List.length_replicate, List.length_take]; omega) | (simp_all; done) | (simp_all; omega))
        all_goals first | rfl | trace_state
      · cases hy : okRows A.length (w - 1) A <;> rw [hy] at k1
        · repeat' ((conv => whnf); first | done | refine ev_step ?_ | refine ops_step ?_ | refine scan_step ?_ | refine draw_step ?_ | refine each_step ?_ | refine sl_step ?_ | refine hp_step ?_ | refine guard_no (by decide) ?_ | refine guard_go ?_ | refine guard_old ?_ | apply cut_auto | with_reducible exact CutS.mk (Or.inl ⟨rfl, rfl, rfl⟩) | refine CutS.mk (Or.inr (sub_auto ?_)) | exact trivial | refine And.intro ?_ ?_ | refine cond_split ?_ ?_ | apply guess | apply FnIs.useF (ks) | refine FnIs.useE (kw) rfl ?_ | refine FnIs.useE (kh) rfl ?_ | refine FnIs.useE (k1) rfl ?_ | refine FnIs.useE (k2) rfl ?_ | exact Or.inl rfl | exact Or.inr rfl | exact Side.mk trivial | exact Side.mk (fun h => h) | exact Side.mk (fun h => ⟨h, h⟩) | with_reducible exact Side.mk rfl | with_reducible exact Side.mk ⟨rfl, rfl⟩ | with_reducible exact Side.mk (by assumption) | with_reducible rfl | intro _)
          all_goals try (conv => whnf)
          all_goals try (refine Side.mk ?_; first | (intros; omega) | (intro h1_ h2_; rw [h1_, h2_]; rfl) | (show List.length (_ ++ _) ≤ _; simp only [List.length_append, List.length_cons, List.length_nil, List.length_replicate, List.length_take]; omega) | (simp_all; done) | (simp_all; omega))
          all_goals first | rfl | trace_state
        · repeat' ((conv => whnf); first | done | refine ev_step ?_ | refine ops_step ?_ | refine scan_step ?_ | refine draw_step ?_ | refine each_step ?_ | refine sl_step ?_ | refine hp_step ?_ | refine guard_no (by decide) ?_ | refine guard_go ?_ | refine guard_old ?_ | apply cut_auto | with_reducible exact CutS.mk (Or.inl ⟨rfl, rfl, rfl⟩) | refine CutS.mk (Or.inr (sub_auto ?_)) | exact trivial | refine And.intro ?_ ?_ | refine cond_split ?_ ?_ | apply guess | apply FnIs.useF (ks) | refine FnIs.useE (kw) rfl ?_ | refine FnIs.useE (kh) rfl ?_ | refine FnIs.useE (k1) rfl ?_ | refine FnIs.useE (k2) rfl ?_ | exact Or.inl rfl | exact Or.inr rfl | exact Side.mk trivial | exact Side.mk (fun h => h) | exact Side.mk (fun h => ⟨h, h⟩) | with_reducible exact Side.mk rfl | with_reducible exact Side.mk ⟨rfl, rfl⟩ | with_reducible exact Side.mk (by assumption) | with_reducible rfl | intro _)
          all_goals try (conv => whnf)
          all_goals try (refine Side.mk ?_; first | (intros; omega) | (intro h1_ h2_; rw [h1_, h2_]; rfl) | (show List.length (_ ++ _) ≤ _; simp only [List.length_append, List.length_cons, List.length_nil, List.length_replicate, List.length_take]; omega) | (simp_all; done) | (simp_all; omega))
          all_goals first | rfl | trace_state
    · rw [decide_eq_false c1] at kw ⊢
      generalize wd A = w at *
      repeat' ((conv => whnf); first | done | refine ev_step ?_ | refine ops_step ?_ | refine scan_step ?_ | refine draw_step ?_ | refine each_step ?_ | refine sl_step ?_ | refine hp_step ?_ | refine guard_no (by decide) ?_ | refine guard_go ?_ | refine guard_old ?_ | apply cut_auto | with_reducible exact CutS.mk (Or.inl ⟨rfl, rfl, rfl⟩) | refine CutS.mk (Or.inr (sub_auto ?_)) | exact trivial | refine And.intro ?_ ?_ | refine cond_split ?_ ?_ | apply guess | apply FnIs.useF (ks) | refine FnIs.useE (kw) rfl ?_ | refine FnIs.useE (kh) rfl ?_ | refine FnIs.useE (k1) rfl ?_ | exact Or.inl rfl | exact Or.inr rfl | exact Side.mk trivial | exact Side.mk (fun h => h) | exact Side.mk (fun h => ⟨h, h⟩) | with_reducible exact Side.mk rfl | with_reducible exact Side.mk ⟨rfl, rfl⟩ | with_reducible exact Side.mk (by assumption) | with_reducible rfl | intro _)
      all_goals try (conv => whnf)
      all_goals try (refine Side.mk ?_; first | (intros; omega) | (intro h1_ h2_; rw [h1_, h2_]; rfl) | (show List.length (_ ++ _) ≤ _; simp only [List.length_append, List.length_cons, List.length_nil, List.length_replicate, List.length_take]; omega) | (simp_all; done) | (simp_all; omega))
      all_goals first | rfl | trace_state
theorem k_ValidGrid (A V : List (List Int)) (h : Side (natSS A ∧ natSS V)) : FnIs Try.prog 44 [.agg [.sl 1 [], .sl 3 []]] 4 (gridH false A V) (.bool (gridB A V)) 4 [] := by
  obtain ⟨h1, h2⟩ := h.h
  have h0 := row0_le h1
  have hA := h1.1
  have hwl : 1 ≤ wd A ∧ wd A ≤ 1048578 := by unfold wd; omega
  refine fn_of_ev tok Try.func44 rfl rfl rfl ?_
  by_cases hl : A.length = 0
  · rw [show gridB A V = false by simp [gridB, hl]]
    repeat' ((conv => whnf); first | done | refine ev_step ?_ | refine ops_step ?_ | refine scan_step ?_ | refine draw_step ?_ | refine each_step ?_ | refine sl_step ?_ | refine hp_step ?_ | refine guard_no (by decide) ?_ | refine guard_go ?_ | refine guard_old ?_ | apply cut_auto | with_reducible exact CutS.mk (Or.inl ⟨rfl, rfl, rfl⟩) | refine CutS.mk (Or.inr (sub_auto ?_)) | exact trivial | refine And.intro ?_ ?_ | (refine cond_split ?_ ?_ <;> intro _ <;> first | (exfalso; first | omega | (simp only [decide_eq_true_eq, decide_eq_false_iff_not, Bool.not_eq_true', Bool.not_eq_false', ne_eq, Bool.not_true, Bool.not_false, cond_true, cond_false, Bool.true_eq_false, Bool.false_eq_true, Bool.and_eq_true, Bool.and_eq_false_iff] at *; omega)) | skip) | apply guess | exact Or.inl rfl | exact Or.inr rfl | exact Side.mk trivial | exact Side.mk (fun h => h) | exact Side.mk (fun h => ⟨h, h⟩) | with_reducible exact Side.mk rfl | with_reducible exact Side.mk ⟨rfl, rfl⟩ | with_reducible exact Side.mk (by assumption) | with_reducible rfl | intro _)
    all_goals try (conv => whnf)
    all_goals try (refine Side.mk ?_; first | (intros; omega) | (intro h1_ h2_; rw [h1_, h2_]; rfl) | (show List.length (_ ++ _) ≤ _; simp only [List.length_append, List.length_cons, List.length_nil, List.length_replicate, List.length_take]; omega) | (simp_all; done) | (simp_all; omega))
    all_goals first | omega | rfl | trace_state
  · have ks := k_sizes A V ⟨⟨h1, by omega⟩⟩
    have k1 := k_roomsOk A A.length (wd A - 1) ⟨h1⟩
    have k2 := k_roomsOk V ((A.length : Int) - 1) (wd A) ⟨h2⟩
    rw [show gridB A V = (decide (wd A ≤ 8) && decide ((A.length : Int) ≤ 8) && okRows A.length (wd A - 1) A && okRows ((A.length : Int) - 1) (wd A) V) by simp [gridB, hl]]
    generalize wd A = w at *
    cases hy : okRows A.length (w - 1) A <;> rw [hy] at k1
    · repeat' ((conv => whnf); first | done | refine ev_step ?_ | refine ops_step ?_ | refine scan_step ?_ | refine draw_step ?_ | refine each_step ?_ | refine sl_step ?_ | refine hp_step ?_ | refine guard_no (by decide) ?_ | refine guard_go ?_ | refine guard_old ?_ | apply cut_auto | with_reducible exact CutS.mk (Or.inl ⟨rfl, rfl, rfl⟩) | refine CutS.mk (Or.inr (sub_auto ?_)) | exact trivial | refine And.intro ?_ ?_ | (refine cond_split ?_ ?_ <;> intro _ <;> first | (exfalso; first | omega | (simp only [decide_eq_true_eq, decide_eq_false_iff_not, Bool.not_eq_true', Bool.not_eq_false', ne_eq, Bool.not_true, Bool.not_false, cond_true, cond_false, Bool.true_eq_false, Bool.false_eq_true, Bool.and_eq_true, Bool.and_eq_false_iff] at *; omega)) | skip) | apply guess | apply FnIs.useF (ks) | refine FnIs.useE (k1) rfl ?_ | refine FnIs.useE (k2) rfl ?_ | exact Or.inl rfl | exact Or.inr rfl | exact Side.mk trivial | exact Side.mk (fun h => h) | exact Side.mk (fun h => ⟨h, h⟩) | with_reducible exact Side.mk rfl | with_reducible exact Side.mk ⟨rfl, rfl⟩ | with_reducible exact Side.mk (by assumption) | with_reducible rfl | intro _)
      all_goals try (conv => whnf)
      all_goals try (refine Side.mk ?_; first | (intros; omega) | (intro h1_ h2_; rw [h1_, h2_]; rfl) | (show List.length (_ ++ _) ≤ _; simp only [List.length_append, List.length_cons, List.length_nil, List.length_replicate, List.length_take]; omega) | (simp_all; done) | (simp_all; omega))
      all_goals first | rfl | (simp_all; done) | (cases decide (w ≤ 8) <;> cases decide ((A.length : Int) ≤ 8) <;> rfl) | trace_state
    · repeat' ((conv => whnf); first | done | refine ev_step ?_ | refine ops_step ?_ | refine scan_step ?_ | refine draw_step ?_ | refine each_step ?_ | refine sl_step ?_ | refine hp_step ?_ | refine guard_no (by decide) ?_ | refine guard_go ?_ | refine guard_old ?_ | apply cut_auto | with_reducible exact CutS.mk (Or.inl ⟨rfl, rfl, rfl⟩) | refine CutS.mk (Or.inr (sub_auto ?_)) | exact trivial | refine And.intro ?_ ?_ | (refine cond_split ?_ ?_ <;> intro _ <;> first | (exfalso; first | omega | (simp only [decide_eq_true_eq, decide_eq_false_iff_not, Bool.not_eq_true', Bool.not_eq_false', ne_eq, Bool.not_true, Bool.not_false, cond_true, cond_false, Bool.true_eq_false, Bool.false_eq_true, Bool.and_eq_true, Bool.and_eq_false_iff] at *; omega)) | skip) | apply guess | apply FnIs.useF (ks) | refine FnIs.useE (k1) rfl ?_ | refine FnIs.useE (k2) rfl ?_ | exact Or.inl rfl | exact Or.inr rfl | exact Side.mk trivial | exact Side.mk (fun h => h) | exact Side.mk (fun h => ⟨h, h⟩) | with_reducible exact Side.mk rfl | with_reducible exact Side.mk ⟨rfl, rfl⟩ | with_reducible exact Side.mk (by assumption) | with_reducible rfl | intro _)
      all_goals try (conv => whnf)
      all_goals try (refine Side.mk ?_; first | (intros; omega) | (intro h1_ h2_; rw [h1_, h2_]; rfl) | (show List.length (_ ++ _) ≤ _; simp only [List.length_append, List.length_cons, List.length_nil, List.length_replicate, List.length_take]; omega) | (simp_all; done) | (simp_all; omega))
      all_goals first | rfl | (cases decide (w ≤ 8) <;> cases decide ((A.length : Int) ≤ 8) <;> cases okRows ((A.length : Int) - 1) w V <;> rfl) | (simp_all; done) | trace_state
theorem k_szGrid (A V : List (List Int)) (l : Int) (hl : Side (0 ≤ l ∧ l ≤ 1048576 ∧ (A.length ≤ 9223372036854775807 ∧ ∀ xs ∈ A, xs.length ≤ 9223372036854775807) ∧ V.length ≤ 9223372036854775807 ∧ ∀ xs ∈ V, xs.length ≤ 9223372036854775807)) : FnIs Try.prog 10 [.agg [.sl 1 [], .sl 3 []], .int .i64 l] 4 (gridH false A V) (.int .i64 (if szN A l < 0 then -1 else szN V (szN A l))) 4 [] := by
  obtain ⟨h1, h2, h3, h4⟩ := hl.h
  have hge : -1 ≤ szN A l := szN_ge h1
  have kA := k_szInt64SS A l ⟨⟨h1, h2, h3⟩⟩
  refine fn_of_ev tok Try.func10 rfl rfl rfl ?_
  by_cases hlt : szN A l < 0
  · rw [if_pos hlt]
    repeat' ((conv => whnf); first | done | refine ev_step ?_ | refine ops_step ?_ | refine scan_step ?_ | refine draw_step ?_ | refine each_step ?_ | refine sl_step ?_ | refine hp_step ?_ | refine guard_no (by decide) ?_ | refine guard_go ?_ | refine guard_old ?_ | apply cut_auto | with_reducible exact CutS.mk (Or.inl ⟨rfl, rfl, rfl⟩) | refine CutS.mk (Or.inr (sub_auto ?_)) | exact trivial | refine And.intro ?_ ?_ | (refine cond_split ?_ ?_ <;> intro _ <;> first | (exfalso; first | omega | (simp only [decide_eq_true_eq, decide_eq_false_iff_not, Bool.not_eq_true', Bool.not_eq_false', ne_eq, Bool.not_true, Bool.not_false, cond_true, cond_false, Bool.true_eq_false, Bool.false_eq_true, Bool.and_eq_true, Bool.and_eq_false_iff] at *; omega)) | skip) | apply guess | apply FnIs.useF (kA) | exact Or.inl rfl | exact Or.inr rfl | exact Side.mk trivial | exact Side.mk (fun h => h) | exact Side.mk (fun h => ⟨h, h⟩) | with_reducible exact Side.mk rfl | with_reducible exact Side.mk ⟨rfl, rfl⟩ | with_reducible exact Side.mk (by assumption) | with_reducible rfl | intro _)
    all_goals try (conv => whnf)
    all_goals try (refine Side.mk ?_; first | (intros; omega) | (intro h1_ h2_; rw [h1_, h2_]; rfl) | (show List.length (_ ++ _) ≤ _; simp only [List.length_append, List.length_cons, List.length_nil, List.length_replicate, List.length_take]; omega) | (simp_all; done) | (simp_all; omega))
    all_goals first | omega | rfl | (simp only [decide_eq_true_eq] at *; omega) | trace_state
  · rw [if_neg hlt]
    have hle := (szN_ok (xss := A) (l := l) h1 (by omega)).1
    have kV := k_szInt64SS V (szN A l) ⟨⟨by omega, by omega, h4⟩⟩
    have hge2 : -1 ≤ szN V (szN A l) := szN_ge (by omega)
    repeat' ((conv => whnf); first | done | refine ev_step ?_ | refine ops_step ?_ | refine scan_step ?_ | refine draw_step ?_ | refine each_step ?_ | refine sl_step ?_ | refine hp_step ?_ | refine guard_no (by decide) ?_ | refine guard_go ?_ | refine guard_old ?_ | apply cut_auto | with_reducible exact CutS.mk (Or.inl ⟨rfl, rfl, rfl⟩) | refine CutS.mk (Or.inr (sub_auto ?_)) | exact trivial | refine And.intro ?_ ?_ | (refine cond_split ?_ ?_ <;> intro _ <;> first | (exfalso; first | omega | (simp only [decide_eq_true_eq, decide_eq_false_iff_not, Bool.not_eq_true', Bool.not_eq_false', ne_eq, Bool.not_true, Bool.not_false, cond_true, cond_false, Bool.true_eq_false, Bool.false_eq_true, Bool.and_eq_true, Bool.and_eq_false_iff] at *; omega)) | skip) | apply guess | refine FnIs.useE (kA) rfl ?_ | refine FnIs.useE (kV) rfl ?_ | exact Or.inl rfl | exact Or.inr rfl | exact Side.mk trivial | exact Side.mk (fun h => h) | exact Side.mk (fun h => ⟨h, h⟩) | with_reducible exact Side.mk rfl | with_reducible exact Side.mk ⟨rfl, rfl⟩ | with_reducible exact Side.mk (by assumption) | with_reducible rfl | intro _)
    all_goals try (conv => whnf)
    all_goals try (refine Side.mk ?_; first | (intros; omega) | (intro h1_ h2_; rw [h1_, h2_]; rfl) | (show List.length (_ ++ _) ≤ _; simp only [List.length_append, List.length_cons, List.length_nil, List.length_replicate, List.length_take]; omega) | (simp_all; done) | (simp_all; omega))
    all_goals first | omega | rfl | (simp only [decide_eq_true_eq] at *; omega) | trace_state
theorem k_toGrid (A V : List (List Int)) (h : Side (natSS A ∧ natSS V)) : FnIs Try.prog 13 [.agg [.sl 1 [], .sl 3 []]] 4 (gridH false A V) (.agg [.sl 5 [], .sl 7 []]) 8 [(5, .flat true (.rows 4 0 A.length)), (4, .nestI true .i64 A), (7, .flat true (.rows 6 0 V.length)), (6, .nestI true .i64 V)] := by
  refine fn_of_ev tok Try.func13 rfl rfl rfl ?_
  repeat' ((conv => whnf); first | done | refine ev_step ?_ | refine ops_step ?_ | refine scan_step ?_ | refine draw_step ?_ | refine each_step ?_ | refine sl_step ?_ | refine hp_step ?_ | refine guard_no (by decide) ?_ | refine guard_go ?_ | refine guard_old ?_ | apply cut_auto | with_reducible exact CutS.mk (Or.inl ⟨rfl, rfl, rfl⟩) | refine CutS.mk (Or.inr (sub_auto ?_)) | exact trivial | refine And.intro ?_ ?_ | refine cond_split ?_ ?_ | apply guess | apply FnIs.useF (k_toInt64SS _ _) | exact Or.inl rfl | exact Or.inr rfl | exact Side.mk trivial | exact Side.mk (fun h => h) | exact Side.mk (fun h => ⟨h, h⟩) | with_reducible exact Side.mk rfl | with_reducible exact Side.mk ⟨rfl, rfl⟩ | with_reducible exact Side.mk (by assumption) | with_reducible rfl | intro _)
  all_goals try (conv => whnf)
  all_goals first | rfl | exact h.h.1 | exact h.h.2 | exact ⟨h.h.1⟩ | exact ⟨h.h.2⟩ | trace_state
theorem k_eqGrid (A V B U : List (List Int)) (h : Side (natSS A ∧ natSS V)) : FnIs Try.prog 17 [.agg [.sl 1 [], .sl 3 []], .agg [.sl 5 [], .sl 7 []]] 8 ((5, .flat false (.rows 4 0 B.length)) :: (4, .nestI false .i64 B) :: (7, .flat false (.rows 6 0 U.length)) :: (6, .nestI false .i64 U) :: gridH false A V) (.bool (decide (A = B) && decide (V = U))) 8 [] := by
  refine fn_of_ev tok Try.func17 rfl rfl rfl ?_
  repeat' ((conv => whnf); first | done | refine ev_step ?_ | refine ops_step ?_ | refine scan_step ?_ | refine draw_step ?_ | refine each_step ?_ | refine sl_step ?_ | refine hp_step ?_ | refine guard_no (by decide) ?_ | refine guard_go ?_ | refine guard_old ?_ | apply cut_auto | with_reducible exact CutS.mk (Or.inl ⟨rfl, rfl, rfl⟩) | refine CutS.mk (Or.inr (sub_auto ?_)) | exact trivial | refine And.intro ?_ ?_ | refine cond_split ?_ ?_ | apply guess | apply FnIs.useF (k_eqInt64SS _ _ _) | exact Or.inl rfl | exact Or.inr rfl | exact Side.mk trivial | exact Side.mk (fun h => h) | exact Side.mk (fun h => ⟨h, h⟩) | with_reducible exact Side.mk rfl | with_reducible exact Side.mk ⟨rfl, rfl⟩ | with_reducible exact Side.mk (by assumption) | with_reducible rfl | intro _)
  all_goals try (conv => whnf)
  all_goals first | exact ⟨h.h.1⟩ | exact ⟨h.h.2⟩ | (simp_all; done) | trace_state
theorem k_eqGrid_same (A V : List (List Int)) (h : Side (natSS A ∧ natSS V)) : FnIs Try.prog 17 [.agg [.sl 1 [], .sl 3 []], .agg [.sl 5 [], .sl 7 []]] 8 ((5, .flat false (.rows 4 0 A.length)) :: (4, .nestI false .i64 A) :: (7, .flat false (.rows 6 0 V.length)) :: (6, .nestI false .i64 V) :: gridH false A V) (.bool true) 8 [] := by
  have := k_eqGrid A V A V h
  simpa using this
theorem nat_sz2 {W : List (List Int)} {l : Int} (h0 : 0 ≤ l) (h1 : l ≤ 1048576) (h : 0 ≤ szN W l) : natSS W := by
  obtain ⟨_, q2, q3⟩ := szN_ok h0 h
  exact ⟨by omega, fun xs hxs => by have := q3 xs hxs; omega⟩
abbrev GIn (A V : List (List Int)) : Prop := (A.length ≤ 9223372036854775807 ∧ ∀ xs ∈ A, xs.length ≤ 9223372036854775807 ∧ ∀ k ∈ xs, inI64 k) ∧ V.length ≤ 9223372036854775807 ∧ ∀ xs ∈ V, xs.length ≤ 9223372036854775807 ∧ ∀ k ∈ xs, inI64 k
theorem GIn.sz {A V : List (List Int)} (h : GIn A V) : Side ((0 : Int) ≤ 1048576 ∧ (1048576 : Int) ≤ 1048576 ∧ (A.length ≤ 9223372036854775807 ∧ ∀ xs ∈ A, xs.length ≤ 9223372036854775807) ∧ V.length ≤ 9223372036854775807 ∧ ∀ xs ∈ V, xs.length ≤ 9223372036854775807) :=
  ⟨by omega, by omega, ⟨h.1.1, fun xs hxs => (h.1.2 xs hxs).1⟩, h.2.1, fun xs hxs => (h.2.2 xs hxs).1⟩
end Go.Sx.U
