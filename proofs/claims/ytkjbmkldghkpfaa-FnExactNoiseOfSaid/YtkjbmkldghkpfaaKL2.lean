/-
  Laws of chapter 10: noise (contract).
-/
import Derived.Test.YtkjbmkldghkpfaaKL1
namespace Go.Sx.U
set_option linter.unusedVariables false
set_option linter.unusedSimpArgs false
set_option maxRecDepth 100000
set_option maxHeartbeats 8000000
open Go Go.Sx Go.Proofs Go.Sx.M0

theorem k_markBundle (W : List (List Int)) (k : Int) (h : Side (totL W ≤ 1048577 ∧ W.length ≤ 1048577 ∧ 0 ≤ k ∧ k ≤ 1000000000)) : FnIs Try.prog 35 [.agg [.sl 1 []], .int .i64 k] 2 [(1, .flat true (.rows 0 0 W.length)), (0, .nestI true .i64 W)] (.int .i64 (k + totL W)) 2 [(1, .flat true (.rows 0 0 W.length)), (0, .nestI true .i64 (marksN k W))] := by
  refine fn_of_ev tok Try.func35 rfl rfl rfl ?_
  repeat' ((conv => whnf); first | done | refine ev_step ?_ | refine ops_step ?_ | refine scan_step ?_ | refine draw_step ?_ | refine each_step ?_ | apply cut_auto | with_reducible exact CutS.mk (Or.inl ⟨rfl, rfl, rfl⟩) | refine CutS.mk (Or.inr (sub_auto ?_)) | exact trivial | refine And.intro ?_ ?_ | refine cond_split ?_ ?_ | apply guess | apply FnIs.useF (k_markInt64SS W k h) | exact Or.inl rfl | exact Or.inr rfl | exact Side.mk trivial | exact Side.mk (fun h => h) | exact Side.mk (fun h => ⟨h, h⟩) | with_reducible exact Side.mk rfl | with_reducible exact Side.mk ⟨rfl, rfl⟩ | with_reducible exact Side.mk (by assumption) | with_reducible rfl | intro _)
  all_goals try (conv => whnf)
  all_goals first | rfl | trace_state
theorem isO_len {W : List (List Int)} {o : List Int} (hx : okB W = true) (hy : isOB W.length o = true) : o.length ≤ 9 := by
  have := (okB_iff.1 hx).1
  have := (isOB_iff.1 hy).1
  omega
theorem noise_len (W : List (List Int)) (o sh : List Int) : (noise W o sh).length = o.length := noiseT_len _ _ _ _
theorem k_FnExactNoiseOf (W : List (List Int)) (o sh : List Int) (hp : Side (BIn W ∧ o.length ≤ 9223372036854775807 ∧ sh.length ≤ 9223372036854775807)) : FnIs Try.prog 7 [.agg [.sl 1 []], .sl 2 [], .sl 3 []] 4 [(3, .flat false (.ints .i64 sh)), (2, .flat false (.ints .i64 o)), (1, .flat false (.rows 0 0 W.length)), (0, .nestI false .i64 W)] (.bool true) 4 [] := by
  obtain ⟨hb, ho, hs⟩ := hp.h
  refine fn_of_evk [0, 1, 2, 3, 6, 7, 8, 9, 10, 11, 12, 13, 14, 15, 16, 17, 18, 19, 22, 25, 30, 62, 67, 72, 77, 99, 107, 110, 129, 134, 137] tok Try.func7 rfl rfl rfl ?_
  by_cases lo : o.length ≤ 1048576
  · by_cases ls : sh.length ≤ 1048576
    · by_cases hl : szN W 1048576 < 0
      · repeat' ((conv => whnf); first | done | refine ev_step ?_ | refine ops_step ?_ | refine scan_step ?_ | refine draw_step ?_ | refine each_step ?_ | apply cut_auto | with_reducible exact CutS.mk (Or.inl ⟨rfl, rfl, rfl⟩) | refine CutS.mk (Or.inr (sub_auto ?_)) | exact trivial | refine And.intro ?_ ?_ | (refine cond_split ?_ ?_ <;> intro _ <;> first | (exfalso; first | omega | (simp only [decide_eq_true_eq, decide_eq_false_iff_not, Bool.not_eq_true', Bool.not_eq_false', ne_eq, Bool.not_true, Bool.not_false, cond_true, cond_false, Bool.true_eq_false, Bool.false_eq_true] at *; omega)) | skip) | apply guess | apply FnIs.useF (k_szBundle _ _ hb.sz) | exact Or.inl rfl | exact Or.inr rfl | exact Side.mk trivial | exact Side.mk (fun h => h) | exact Side.mk (fun h => ⟨h, h⟩) | with_reducible exact Side.mk rfl | with_reducible exact Side.mk ⟨rfl, rfl⟩ | with_reducible exact Side.mk (by assumption) | with_reducible rfl | intro _)
        all_goals try (conv => whnf)
        all_goals try (refine Side.mk ?_; first | (intros; omega) | (simp_all; done) | (simp_all; omega))
        all_goals first | omega | (simp_all; done) | trace_state
      · obtain ⟨h1, h2⟩ := nat_sz hl
        have ht := szN_tot (xss := W) (l := 1048576) (by omega) (by omega)
        have hw := szN_ok (xss := W) (l := 1048576) (by omega) (by omega)
        have k1 := k_NoiseSpec W o sh ⟨⟨h1, by omega, by omega⟩⟩
        have k2 := k_NoiseOf W o sh ⟨⟨h1, by omega, by omega⟩⟩
        have hL : (if layOk W o sh = true then noise W o sh else []).length ≤ 1048577 := by
          split
          · rw [noise_len]; omega
          · simp
        generalize (if layOk W o sh = true then noise W o sh else []) = L at k1 k2 hL
        cases hx : layOk W o sh <;> rw [hx] at k1 k2
        · repeat' ((conv => whnf); first | done | refine ev_step ?_ | refine ops_step ?_ | refine scan_step ?_ | refine draw_step ?_ | refine each_step ?_ | apply cut_auto | with_reducible exact CutS.mk (Or.inl ⟨rfl, rfl, rfl⟩) | refine CutS.mk (Or.inr (sub_auto ?_)) | exact trivial | refine And.intro ?_ ?_ | (refine cond_split ?_ ?_ <;> intro _ <;> first | (exfalso; first | omega | (simp only [decide_eq_true_eq, decide_eq_false_iff_not, Bool.not_eq_true', Bool.not_eq_false', ne_eq, Bool.not_true, Bool.not_false, cond_true, cond_false, Bool.true_eq_false, Bool.false_eq_true] at *; omega)) | skip) | apply guess | apply FnIs.useF (k_szBundle _ _ hb.sz) | apply FnIs.useF (k_toBundle W ⟨⟨h1, h2⟩⟩) | apply FnIs.useF (k_toInt64S _ _) | apply FnIs.useF (k1) | apply FnIs.useF (k2) | apply FnIs.useF (k_eqBundle_same W ⟨⟨h1, h2⟩⟩) | apply FnIs.useF (k_eqInt64S_same _ _) | apply FnIs.useF (k_markBundle W _ _) | apply FnIs.useF (k_markInt64S _ _ _) | apply FnIs.useF (k_heldInt64S _ _ _) | exact Or.inl rfl | exact Or.inr rfl | exact Side.mk trivial | exact Side.mk (fun h => h) | exact Side.mk (fun h => ⟨h, h⟩) | with_reducible exact Side.mk rfl | with_reducible exact Side.mk ⟨rfl, rfl⟩ | with_reducible exact Side.mk (by assumption) | with_reducible rfl | intro _)
          all_goals try (conv => whnf)
          all_goals try (refine Side.mk ?_; first | (intros; omega) | (simp_all; done) | (simp_all; omega))
          all_goals first | omega | (simp_all; done) | trace_state
        · repeat' ((conv => whnf); first | done | refine ev_step ?_ | refine ops_step ?_ | refine scan_step ?_ | refine draw_step ?_ | refine each_step ?_ | apply cut_auto | with_reducible exact CutS.mk (Or.inl ⟨rfl, rfl, rfl⟩) | refine CutS.mk (Or.inr (sub_auto ?_)) | exact trivial | refine And.intro ?_ ?_ | (refine cond_split ?_ ?_ <;> intro _ <;> first | (exfalso; first | omega | (simp only [decide_eq_true_eq, decide_eq_false_iff_not, Bool.not_eq_true', Bool.not_eq_false', ne_eq, Bool.not_true, Bool.not_false, cond_true, cond_false, Bool.true_eq_false, Bool.false_eq_true] at *; omega)) | skip) | apply guess | apply FnIs.useF (k_szBundle _ _ hb.sz) | apply FnIs.useF (k_toBundle W ⟨⟨h1, h2⟩⟩) | apply FnIs.useF (k_toInt64S _ _) | apply FnIs.useF (k1) | apply FnIs.useF (k2) | apply FnIs.useF (k_eqBundle_same W ⟨⟨h1, h2⟩⟩) | apply FnIs.useF (k_eqInt64S_same _ _) | apply FnIs.useF (k_markBundle W _ _) | apply FnIs.useF (k_markInt64S _ _ _) | apply FnIs.useF (k_heldInt64S _ _ _) | exact Or.inl rfl | exact Or.inr rfl | exact Side.mk trivial | exact Side.mk (fun h => h) | exact Side.mk (fun h => ⟨h, h⟩) | with_reducible exact Side.mk rfl | with_reducible exact Side.mk ⟨rfl, rfl⟩ | with_reducible exact Side.mk (by assumption) | with_reducible rfl | intro _)
          all_goals try (conv => whnf)
          all_goals try (refine Side.mk ?_; first | (intros; omega) | (simp_all; done) | (simp_all; omega))
          all_goals first | omega | (simp_all; done) | trace_state
    · repeat' ((conv => whnf); first | done | refine ev_step ?_ | refine ops_step ?_ | refine scan_step ?_ | refine draw_step ?_ | refine each_step ?_ | apply cut_auto | with_reducible exact CutS.mk (Or.inl ⟨rfl, rfl, rfl⟩) | refine CutS.mk (Or.inr (sub_auto ?_)) | exact trivial | refine And.intro ?_ ?_ | (refine cond_split ?_ ?_ <;> intro _ <;> first | (exfalso; first | omega | (simp only [decide_eq_true_eq, decide_eq_false_iff_not, Bool.not_eq_true', Bool.not_eq_false', ne_eq, Bool.not_true, Bool.not_false, cond_true, cond_false, Bool.true_eq_false, Bool.false_eq_true] at *; omega)) | skip) | apply guess | exact Or.inl rfl | exact Or.inr rfl | exact Side.mk trivial | exact Side.mk (fun h => h) | exact Side.mk (fun h => ⟨h, h⟩) | with_reducible exact Side.mk rfl | with_reducible exact Side.mk ⟨rfl, rfl⟩ | with_reducible exact Side.mk (by assumption) | with_reducible rfl | intro _)
      all_goals try (conv => whnf)
      all_goals try (refine Side.mk ?_; first | (intros; omega) | (simp_all; done) | (simp_all; omega))
      all_goals first | omega | (simp_all; done) | trace_state
  · repeat' ((conv => whnf); first | done | refine ev_step ?_ | refine ops_step ?_ | refine scan_step ?_ | refine draw_step ?_ | refine each_step ?_ | apply cut_auto | with_reducible exact CutS.mk (Or.inl ⟨rfl, rfl, rfl⟩) | refine CutS.mk (Or.inr (sub_auto ?_)) | exact trivial | refine And.intro ?_ ?_ | (refine cond_split ?_ ?_ <;> intro _ <;> first | (exfalso; first | omega | (simp only [decide_eq_true_eq, decide_eq_false_iff_not, Bool.not_eq_true', Bool.not_eq_false', ne_eq, Bool.not_true, Bool.not_false, cond_true, cond_false, Bool.true_eq_false, Bool.false_eq_true] at *; omega)) | skip) | apply guess | exact Or.inl rfl | exact Or.inr rfl | exact Side.mk trivial | exact Side.mk (fun h => h) | exact Side.mk (fun h => ⟨h, h⟩) | with_reducible exact Side.mk rfl | with_reducible exact Side.mk ⟨rfl, rfl⟩ | with_reducible exact Side.mk (by assumption) | with_reducible rfl | intro _)
    all_goals try (conv => whnf)
    all_goals try (refine Side.mk ?_; first | (intros; omega) | (simp_all; done) | (simp_all; omega))
    all_goals first | omega | (simp_all; done) | trace_state
theorem k_FnExactSettleOrder (W : List (List Int)) (o : List Int) (hp : Side (BIn W ∧ o.length ≤ 9223372036854775807)) : FnIs Try.prog 8 [.agg [.sl 1 []], .sl 2 []] 3 [(2, .flat false (.ints .i64 o)), (1, .flat false (.rows 0 0 W.length)), (0, .nestI false .i64 W)] (.bool true) 3 [] := by
  obtain ⟨hb, ho⟩ := hp.h
  refine fn_of_evk [0, 1, 2, 4, 5, 6, 7, 8, 9, 10, 11, 12, 13, 14, 15, 16, 17, 18, 19, 22, 27, 61, 66, 71, 95, 103, 106, 129, 134, 137] tok Try.func8 rfl rfl rfl ?_
  by_cases lo : o.length ≤ 1048576
  · by_cases hl : szN W 1048576 < 0
    · repeat' ((conv => whnf); first | done | refine ev_step ?_ | refine ops_step ?_ | refine scan_step ?_ | refine draw_step ?_ | refine each_step ?_ | apply cut_auto | with_reducible exact CutS.mk (Or.inl ⟨rfl, rfl, rfl⟩) | refine CutS.mk (Or.inr (sub_auto ?_)) | exact trivial | refine And.intro ?_ ?_ | (refine cond_split ?_ ?_ <;> intro _ <;> first | (exfalso; first | omega | (simp only [decide_eq_true_eq, decide_eq_false_iff_not, Bool.not_eq_true', Bool.not_eq_false', ne_eq, Bool.not_true, Bool.not_false, cond_true, cond_false, Bool.true_eq_false, Bool.false_eq_true] at *; omega)) | skip) | apply guess | apply FnIs.useF (k_szBundle _ _ hb.sz) | exact Or.inl rfl | exact Or.inr rfl | exact Side.mk trivial | exact Side.mk (fun h => h) | exact Side.mk (fun h => ⟨h, h⟩) | with_reducible exact Side.mk rfl | with_reducible exact Side.mk ⟨rfl, rfl⟩ | with_reducible exact Side.mk (by assumption) | with_reducible rfl | intro _)
      all_goals try (conv => whnf)
      all_goals try (refine Side.mk ?_; first | (intros; omega) | (simp_all; done) | (simp_all; omega))
      all_goals first | omega | (simp_all; done) | (rename_i hz; rw [e0] at hz; simp at hz; done) | trace_state
    · obtain ⟨h1, h2⟩ := nat_sz hl
      have ht := szN_tot (xss := W) (l := 1048576) (by omega) (by omega)
      have hw := szN_ok (xss := W) (l := 1048576) (by omega) (by omega)
      have k1 := k_SettleSpec W o ⟨⟨h1, by omega⟩⟩
      have k2 := k_SettleOrder W o ⟨⟨h1, by omega⟩⟩
      have hL : (settled W o).length ≤ 1048577 := by
        simp only [settled]
        split
        · rename_i hx
          simp only [ordOk, Bool.and_eq_true] at hx
          have := (settle_isO (okB_iff.1 hx.1) (isOB_iff.1 hx.2)).1
          have := (okB_iff.1 hx.1).1
          omega
        · simp
      have e0 : decide ((1 : Int) + totL W + o.length < 0) = false := decide_eq_false (by omega)
      generalize settled W o = L at k1 k2 hL
      generalize settledC W o = c at k1 k2
      cases hx : ordOk W o <;> rw [hx] at k1 k2
      · repeat' ((conv => whnf); first | done | refine ev_step ?_ | refine ops_step ?_ | refine scan_step ?_ | refine draw_step ?_ | refine each_step ?_ | apply cut_auto | with_reducible exact CutS.mk (Or.inl ⟨rfl, rfl, rfl⟩) | refine CutS.mk (Or.inr (sub_auto ?_)) | exact trivial | refine And.intro ?_ ?_ | (refine cond_split ?_ ?_ <;> intro _ <;> first | (exfalso; first | omega | (simp only [decide_eq_true_eq, decide_eq_false_iff_not, Bool.not_eq_true', Bool.not_eq_false', ne_eq, Bool.not_true, Bool.not_false, cond_true, cond_false, Bool.true_eq_false, Bool.false_eq_true] at *; omega)) | skip) | apply guess | apply FnIs.useF (k_szBundle _ _ hb.sz) | apply FnIs.useF (k_toBundle W ⟨⟨h1, h2⟩⟩) | apply FnIs.useF (k_toInt64S _ _) | apply FnIs.useF (k1) | apply FnIs.useF (k2) | apply FnIs.useF (k_eqBundle_same W ⟨⟨h1, h2⟩⟩) | apply FnIs.useF (k_eqInt64S_same _ _) | apply FnIs.useF (k_markBundle W _ _) | apply FnIs.useF (k_markInt64S _ _ _) | apply FnIs.useF (k_heldInt64S _ _ _) | exact Or.inl rfl | exact Or.inr rfl | exact Side.mk trivial | exact Side.mk (fun h => h) | exact Side.mk (fun h => ⟨h, h⟩) | with_reducible exact Side.mk rfl | with_reducible exact Side.mk ⟨rfl, rfl⟩ | with_reducible exact Side.mk (by assumption) | with_reducible rfl | intro _)
        all_goals try (conv => whnf)
        all_goals try (refine Side.mk ?_; first | (intros; omega) | (simp_all; done) | (simp_all; omega))
        all_goals first | omega | (simp_all; done) | (rename_i hz; rw [e0] at hz; simp at hz; done) | trace_state
      · repeat' ((conv => whnf); first | done | refine ev_step ?_ | refine ops_step ?_ | refine scan_step ?_ | refine draw_step ?_ | refine each_step ?_ | apply cut_auto | with_reducible exact CutS.mk (Or.inl ⟨rfl, rfl, rfl⟩) | refine CutS.mk (Or.inr (sub_auto ?_)) | exact trivial | refine And.intro ?_ ?_ | (refine cond_split ?_ ?_ <;> intro _ <;> first | (exfalso; first | omega | (simp only [decide_eq_true_eq, decide_eq_false_iff_not, Bool.not_eq_true', Bool.not_eq_false', ne_eq, Bool.not_true, Bool.not_false, cond_true, cond_false, Bool.true_eq_false, Bool.false_eq_true] at *; omega)) | skip) | apply guess | apply FnIs.useF (k_szBundle _ _ hb.sz) | apply FnIs.useF (k_toBundle W ⟨⟨h1, h2⟩⟩) | apply FnIs.useF (k_toInt64S _ _) | apply FnIs.useF (k1) | apply FnIs.useF (k2) | apply FnIs.useF (k_eqBundle_same W ⟨⟨h1, h2⟩⟩) | apply FnIs.useF (k_eqInt64S_same _ _) | apply FnIs.useF (k_markBundle W _ _) | apply FnIs.useF (k_markInt64S _ _ _) | apply FnIs.useF (k_heldInt64S _ _ _) | exact Or.inl rfl | exact Or.inr rfl | exact Side.mk trivial | exact Side.mk (fun h => h) | exact Side.mk (fun h => ⟨h, h⟩) | with_reducible exact Side.mk rfl | with_reducible exact Side.mk ⟨rfl, rfl⟩ | with_reducible exact Side.mk (by assumption) | with_reducible rfl | intro _)
        all_goals try (conv => whnf)
        all_goals try (refine Side.mk ?_; first | (intros; omega) | (simp_all; done) | (simp_all; omega))
        all_goals first | omega | (simp_all; done) | (rename_i hz; rw [e0] at hz; simp at hz; done) | trace_state
  · repeat' ((conv => whnf); first | done | refine ev_step ?_ | refine ops_step ?_ | refine scan_step ?_ | refine draw_step ?_ | refine each_step ?_ | apply cut_auto | with_reducible exact CutS.mk (Or.inl ⟨rfl, rfl, rfl⟩) | refine CutS.mk (Or.inr (sub_auto ?_)) | exact trivial | refine And.intro ?_ ?_ | (refine cond_split ?_ ?_ <;> intro _ <;> first | (exfalso; first | omega | (simp only [decide_eq_true_eq, decide_eq_false_iff_not, Bool.not_eq_true', Bool.not_eq_false', ne_eq, Bool.not_true, Bool.not_false, cond_true, cond_false, Bool.true_eq_false, Bool.false_eq_true] at *; omega)) | skip) | apply guess | exact Or.inl rfl | exact Or.inr rfl | exact Side.mk trivial | exact Side.mk (fun h => h) | exact Side.mk (fun h => ⟨h, h⟩) | with_reducible exact Side.mk rfl | with_reducible exact Side.mk ⟨rfl, rfl⟩ | with_reducible exact Side.mk (by assumption) | with_reducible rfl | intro _)
    all_goals try (conv => whnf)
    all_goals try (refine Side.mk ?_; first | (intros; omega) | (simp_all; done) | (simp_all; omega))
    all_goals first | omega | (simp_all; done) | (rename_i hz; rw [e0] at hz; simp at hz; done) | trace_state
end Go.Sx.U
