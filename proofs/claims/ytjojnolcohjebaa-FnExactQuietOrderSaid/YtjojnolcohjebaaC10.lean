/-
  Chapter 10: the quietest order: the law, as a contract.
-/
import Derived.Test.YtjojnolcohjebaaC9
import Derived.Test.YtjojnolcohjebaaK9
namespace Go.Sx.U
set_option linter.unusedVariables false
set_option linter.unusedSimpArgs false
set_option maxRecDepth 100000
set_option maxHeartbeats 8000000
open Go Go.Sx Go.Proofs Go.Sx.M0

theorem quietV_len {W : List (List Int)} (hx : okB W = true) : (quietV W).1.length ≤ 9 := by
  have hW := okB_iff.1 hx
  obtain ⟨_, _, _, b4⟩ := quiet_best (W := W) (allO_ne W.length)
  have := (allO_loud hW W.length [] (pre_nil W) _ (qFind_some b4).1).2.len
  have h2 := hW.1.2
  unfold quietV
  omega
theorem k_FnExactQuietOrder (W : List (List Int)) (hp : Side (BIn W)) : FnIs Try.prog 5 [.agg [.sl 1 []]] 2 [(1, .flat false (.rows 0 0 W.length)), (0, .nestI false .i64 W)] (.bool true) 2 [] := by
  have hb := hp.h
  refine fn_of_evk [0, 1, 2, 3, 4, 5, 6, 7, 8, 9, 10, 11, 12, 13, 14, 15, 16, 21, 50, 55, 76, 84, 87, 108, 113, 116] tok Try.func5 rfl rfl rfl ?_
  by_cases hl : szN W 1048576 < 0
  · repeat' ((conv => whnf); first | done | refine ev_step ?_ | refine ops_step ?_ | refine scan_step ?_ | refine draw_step ?_ | refine each_step ?_ | refine sl_step ?_ | refine hp_step ?_ | refine guard_no (by decide) ?_ | refine guard_go ?_ | apply cut_auto | with_reducible exact CutS.mk (Or.inl ⟨rfl, rfl, rfl⟩) | refine CutS.mk (Or.inr (sub_auto ?_)) | exact trivial | refine And.intro ?_ ?_ | (refine cond_split ?_ ?_ <;> intro _ <;> first | (exfalso; first | omega | (simp only [decide_eq_true_eq, decide_eq_false_iff_not, Bool.not_eq_true', Bool.not_eq_false', ne_eq, Bool.not_true, Bool.not_false, cond_true, cond_false, Bool.true_eq_false, Bool.false_eq_true, Bool.and_eq_true, Bool.and_eq_false_iff] at *; omega)) | skip) | apply guess | apply FnIs.useF (k_szBundle _ _ hb.sz) | exact Or.inl rfl | exact Or.inr rfl | exact Side.mk trivial | exact Side.mk (fun h => h) | exact Side.mk (fun h => ⟨h, h⟩) | with_reducible exact Side.mk rfl | with_reducible exact Side.mk ⟨rfl, rfl⟩ | with_reducible exact Side.mk (by assumption) | with_reducible rfl | intro _)
    all_goals try (conv => whnf)
    all_goals try (refine Side.mk ?_; first | (intros; omega) | (show List.length (_ ++ _) ≤ _; simp only [List.length_append, List.length_cons, List.length_nil, List.length_replicate, List.length_take]; omega) | (simp_all; done) | (simp_all; omega))
    all_goals first | omega | (simp_all; done) | trace_state
  · obtain ⟨h1, h2⟩ := nat_sz hl
    have htot := szN_tot (xss := W) (l := 1048576) (by omega) (by omega)
    have d0 : decide (1 + (totL W : Int) < 0) = false := decide_eq_false (by omega)
    cases hx : okB W
    · have k1 := k_QuietSpec_no W ⟨h1⟩ hx
      have k2 := k_QuietOrder_no W ⟨h1⟩ hx
      repeat' ((conv => whnf); first | done | refine ev_step ?_ | refine ops_step ?_ | refine scan_step ?_ | refine draw_step ?_ | refine each_step ?_ | refine sl_step ?_ | refine hp_step ?_ | refine guard_no (by decide) ?_ | refine guard_go ?_ | apply cut_auto | with_reducible exact CutS.mk (Or.inl ⟨rfl, rfl, rfl⟩) | refine CutS.mk (Or.inr (sub_auto ?_)) | exact trivial | refine And.intro ?_ ?_ | (refine cond_split ?_ ?_ <;> intro _ <;> first | (exfalso; first | omega | (simp only [decide_eq_true_eq, decide_eq_false_iff_not, Bool.not_eq_true', Bool.not_eq_false', ne_eq, Bool.not_true, Bool.not_false, cond_true, cond_false, Bool.true_eq_false, Bool.false_eq_true, Bool.and_eq_true, Bool.and_eq_false_iff] at *; omega)) | skip) | apply guess | apply FnIs.useF (k_szBundle _ _ hb.sz) | apply FnIs.useF (k_toBundle W ⟨⟨h1, h2⟩⟩) | apply FnIs.useF (k1) | apply FnIs.useF (k2) | apply FnIs.useF (k_eqBundle_same W ⟨⟨h1, h2⟩⟩) | apply FnIs.useF (k_markBundle W _ _) | apply FnIs.useF (k_eqInt64S_nil) | apply FnIs.useF (k_markInt64S_nil 1) | apply FnIs.useF (k_heldInt64S_nil 1) | exact Or.inl rfl | exact Or.inr rfl | exact Side.mk trivial | exact Side.mk (fun h => h) | exact Side.mk (fun h => ⟨h, h⟩) | with_reducible exact Side.mk rfl | with_reducible exact Side.mk ⟨rfl, rfl⟩ | with_reducible exact Side.mk (by assumption) | with_reducible rfl | intro _)
      all_goals try (conv => whnf)
      all_goals first | omega | rfl | (refine Side.mk ?_; omega) | (rename_i hq; exfalso; simp at hq; done) | (rename_i hq; exfalso; rw [d0] at hq; simp at hq; done) | trace_state
    · have k1 := k_QuietSpec W ⟨h1⟩ hx
      have k2 := k_QuietOrder W ⟨h1⟩ hx
      have hgl := quietV_len hx
      generalize quietV W = Q at *
      obtain ⟨L, l⟩ := Q
      simp only at hgl k1 k2
      have kb := k_markInt64S L 1 ⟨by omega⟩
      have kh := k_heldInt64S L.length 1 ⟨by omega⟩
      repeat' ((conv => whnf); first | done | refine ev_step ?_ | refine ops_step ?_ | refine scan_step ?_ | refine draw_step ?_ | refine each_step ?_ | refine sl_step ?_ | refine hp_step ?_ | refine guard_no (by decide) ?_ | refine guard_go ?_ | apply cut_auto | with_reducible exact CutS.mk (Or.inl ⟨rfl, rfl, rfl⟩) | refine CutS.mk (Or.inr (sub_auto ?_)) | exact trivial | refine And.intro ?_ ?_ | (refine cond_split ?_ ?_ <;> intro _ <;> first | (exfalso; first | omega | (simp only [decide_eq_true_eq, decide_eq_false_iff_not, Bool.not_eq_true', Bool.not_eq_false', ne_eq, Bool.not_true, Bool.not_false, cond_true, cond_false, Bool.true_eq_false, Bool.false_eq_true, Bool.and_eq_true, Bool.and_eq_false_iff] at *; omega)) | skip) | apply guess | apply FnIs.useF (k_szBundle _ _ hb.sz) | apply FnIs.useF (k_toBundle W ⟨⟨h1, h2⟩⟩) | apply FnIs.useF (k1) | apply FnIs.useF (k2) | apply FnIs.useF (k_eqBundle_same W ⟨⟨h1, h2⟩⟩) | apply FnIs.useF (k_markBundle W _ _) | apply FnIs.useF (kb) | apply FnIs.useF (kh) | apply FnIs.useF (k_eqInt64S_same L ⟨by omega⟩) | exact Or.inl rfl | exact Or.inr rfl | exact Side.mk trivial | exact Side.mk (fun h => h) | exact Side.mk (fun h => ⟨h, h⟩) | with_reducible exact Side.mk rfl | with_reducible exact Side.mk ⟨rfl, rfl⟩ | with_reducible exact Side.mk (by assumption) | with_reducible rfl | intro _)
      all_goals try (conv => whnf)
      all_goals first | omega | rfl | (refine Side.mk ?_; omega) | (rename_i hq; exfalso; simp at hq; done) | (rename_i hq; exfalso; rw [d0] at hq; simp at hq; done) | trace_state
end Go.Sx.U
