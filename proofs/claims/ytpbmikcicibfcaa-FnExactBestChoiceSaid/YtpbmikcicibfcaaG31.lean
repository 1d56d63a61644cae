/-
  Chapter 8: the best choice: the law.
-/
import Derived.Test.YtpbmikcicibfcaaG30
import Derived.Test.YtpbmikcicibfcaaK9
namespace Go.Sx.U
set_option linter.unusedVariables false
set_option linter.unusedSimpArgs false
set_option maxRecDepth 100000
set_option maxHeartbeats 8000000
open Go Go.Sx Go.Proofs Go.Sx.M8

theorem k_FnExactBestChoice (A V : List (List Int)) (ns : List R4) (hp : Side (GIn A V ∧ ns.length ≤ 9223372036854775807)) : FnIs Try.prog 7 [.agg [.sl 1 [], .sl 3 []], .sl 4 []] 5 [(4, .flat false (.r4 ns)), (3, .flat false (.rows 2 0 V.length)), (2, .nestI false .i64 V), (1, .flat false (.rows 0 0 A.length)), (0, .nestI false .i64 A)] (.bool true) 5 [] := by
  have k0 := k_szGrid A V 1048576 hp.h.1.sz
  have hge : -1 ≤ szN A 1048576 := szN_ge (by omega)
  refine fn_of_evk [0, 1, 2, 4, 5, 6, 7, 8, 9, 10, 11, 12, 13, 14, 15, 16, 17, 18, 19, 24, 29, 63, 68, 73, 97, 105, 108, 131, 136, 139] tok Try.func7 rfl rfl rfl ?_
  by_cases hl : (if szN A 1048576 < 0 then -1 else szN V (szN A 1048576)) < 0
  · generalize (if szN A 1048576 < 0 then -1 else szN V (szN A 1048576)) = z at *
    repeat' ((conv => whnf); first | done | refine ev_step ?_ | refine ops_step ?_ | refine scan_step ?_ | refine draw_step ?_ | refine each_step ?_ | refine sl_step ?_ | refine hp_step ?_ | refine guard_no (by decide) ?_ | refine guard_go ?_ | refine guard_old ?_ | apply cut_auto | with_reducible exact CutS.mk (Or.inl ⟨rfl, rfl, rfl⟩) | refine CutS.mk (Or.inr (sub_auto ?_)) | exact trivial | refine And.intro ?_ ?_ | (refine cond_split ?_ ?_ <;> intro _ <;> first | (exfalso; first | omega | (simp only [decide_eq_true_eq, decide_eq_false_iff_not, Bool.not_eq_true', Bool.not_eq_false', ne_eq, Bool.not_true, Bool.not_false, cond_true, cond_false, Bool.true_eq_false, Bool.false_eq_true, Bool.and_eq_true, Bool.and_eq_false_iff] at *; omega)) | skip) | apply guess | apply FnIs.useF (k0) | exact Or.inl rfl | exact Or.inr rfl | exact Side.mk trivial | exact Side.mk (fun h => h) | exact Side.mk (fun h => ⟨h, h⟩) | with_reducible exact Side.mk rfl | with_reducible exact Side.mk ⟨rfl, rfl⟩ | with_reducible exact Side.mk (by assumption) | with_reducible rfl | intro _)
    all_goals try (conv => whnf)
    all_goals try (refine Side.mk ?_; first | (intros; omega) | (intro h1_ h2_; rw [h1_, h2_]; rfl) | (show List.length (_ ++ _) ≤ _; simp only [List.length_append, List.length_cons, List.length_nil, List.length_replicate, List.length_take]; omega) | (simp_all; done) | (simp_all; omega))
    all_goals first | omega | rfl | (simp_all; done) | trace_state
  · obtain ⟨nA, nV⟩ := gin_nat hl
    obtain ⟨tA, tV⟩ := gin_tot hl
    have hzl : (if szN A 1048576 < 0 then -1 else szN V (szN A 1048576)) ≤ 1048576 := gin_le hl
    generalize (if szN A 1048576 < 0 then -1 else szN V (szN A 1048576)) = z at *
    have kz := k_szNetS ns z ⟨by omega, by omega, hp.h.2⟩
    by_cases hm : z - ns.length < 0
    · rw [if_pos hm] at kz
      repeat' ((conv => whnf); first | done | refine ev_step ?_ | refine ops_step ?_ | refine scan_step ?_ | refine draw_step ?_ | refine each_step ?_ | refine sl_step ?_ | refine hp_step ?_ | refine guard_no (by decide) ?_ | refine guard_go ?_ | refine guard_old ?_ | apply cut_auto | with_reducible exact CutS.mk (Or.inl ⟨rfl, rfl, rfl⟩) | refine CutS.mk (Or.inr (sub_auto ?_)) | exact trivial | refine And.intro ?_ ?_ | (refine cond_split ?_ ?_ <;> intro _ <;> first | (exfalso; first | omega | (simp only [decide_eq_true_eq, decide_eq_false_iff_not, Bool.not_eq_true', Bool.not_eq_false', ne_eq, Bool.not_true, Bool.not_false, cond_true, cond_false, Bool.true_eq_false, Bool.false_eq_true, Bool.and_eq_true, Bool.and_eq_false_iff] at *; omega)) | skip) | apply guess | apply FnIs.useF (k0) | apply FnIs.useF (kz) | exact Or.inl rfl | exact Or.inr rfl | exact Side.mk trivial | exact Side.mk (fun h => h) | exact Side.mk (fun h => ⟨h, h⟩) | with_reducible exact Side.mk rfl | with_reducible exact Side.mk ⟨rfl, rfl⟩ | with_reducible exact Side.mk (by assumption) | with_reducible rfl | intro _)
      all_goals try (conv => whnf)
      all_goals try (refine Side.mk ?_; first | (intros; omega) | (intro h1_ h2_; rw [h1_, h2_]; rfl) | (show List.length (_ ++ _) ≤ _; simp only [List.length_append, List.length_cons, List.length_nil, List.length_replicate, List.length_take]; omega) | (simp_all; done) | (simp_all; omega))
      all_goals first | omega | rfl | (simp_all; done) | trace_state
    · rw [if_neg hm] at kz
      have nn : ns.length ≤ 1048577 := by omega
      have km := k_markGrid A V 1 ⟨tA, nA.1, tV, nV.1, by omega, by omega⟩
      have km2 := k_markNetS ns (1 + totL A + totL V) ⟨nn, by omega, by omega⟩
      have kn := k_toNetS _ ⟨nn⟩
      have d0 : decide (1 + (totL A : Int) + totL V + 4 * ns.length < 0) = false := decide_eq_false (by omega)
      have ke2 := k_eqNetS_same _ ⟨nn⟩
      cases hx : bcOk A V ns
      · have k1 := k_BestSpec8_no A V ns ⟨nA, nV, nn⟩ hx
        have k2 := k_BestChoice_no A V ns ⟨nA, nV, nn⟩ hx
        repeat' ((conv => whnf); first | done | refine ev_step ?_ | refine ops_step ?_ | refine scan_step ?_ | refine draw_step ?_ | refine each_step ?_ | refine sl_step ?_ | refine hp_step ?_ | refine guard_no (by decide) ?_ | refine guard_go ?_ | refine guard_old ?_ | apply cut_auto | with_reducible exact CutS.mk (Or.inl ⟨rfl, rfl, rfl⟩) | refine CutS.mk (Or.inr (sub_auto ?_)) | exact trivial | refine And.intro ?_ ?_ | (refine cond_split ?_ ?_ <;> intro _ <;> first | (exfalso; first | omega | (simp only [decide_eq_true_eq, decide_eq_false_iff_not, Bool.not_eq_true', Bool.not_eq_false', ne_eq, Bool.not_true, Bool.not_false, cond_true, cond_false, Bool.true_eq_false, Bool.false_eq_true, Bool.and_eq_true, Bool.and_eq_false_iff] at *; omega)) | skip) | apply guess | apply FnIs.useF (k0) | apply FnIs.useF (kz) | apply FnIs.useF (k1) | apply FnIs.useF (k2) | apply FnIs.useF (km) | apply FnIs.useF (km2) | apply FnIs.useF (k_toGrid A V ⟨⟨nA, nV⟩⟩) | apply FnIs.useF (kn) | apply FnIs.useF (k_eqGrid_same A V ⟨⟨nA, nV⟩⟩) | apply FnIs.useF (ke2) | apply FnIs.useF (k_eqInt64S_nil) | apply FnIs.useF (k_markInt64S_nil 1) | apply FnIs.useF (k_heldInt64S_nil 1) | exact Or.inl rfl | exact Or.inr rfl | exact Side.mk trivial | exact Side.mk (fun h => h) | exact Side.mk (fun h => ⟨h, h⟩) | with_reducible exact Side.mk rfl | with_reducible exact Side.mk ⟨rfl, rfl⟩ | with_reducible exact Side.mk (by assumption) | with_reducible rfl | intro _)
        all_goals try (conv => whnf)
        all_goals first | omega | rfl | (refine Side.mk ?_; omega) | (rename_i hq; exfalso; simp at hq; done) | (rename_i hq; exfalso; rw [d0] at hq; simp at hq; done) | trace_state
      · have k1 := k_BestSpec8 A V ns ⟨nA, nV, nn⟩ hx
        have k2 := k_BestChoice A V ns ⟨nA, nV, nn⟩ hx
        have hg6 : ns.length ≤ 6 := by
          unfold bcOk at hx
          rw [Bool.and_eq_true] at hx
          exact (netsB_all hx.1).2.1
        have hgl := bT_len (ovF A V ns) (sN ns) ns.length (pF (sN ns) ns.length)
        generalize (bV A V ns (pF (sN ns) ns.length)).1 = L at *
        generalize (bV A V ns (pF (sN ns) ns.length)).2 = l at *
        have kb := k_markInt64S L 1 ⟨by omega⟩
        have kh := k_heldInt64S L.length 1 ⟨by omega⟩
        repeat' ((conv => whnf); first | done | refine ev_step ?_ | refine ops_step ?_ | refine scan_step ?_ | refine draw_step ?_ | refine each_step ?_ | refine sl_step ?_ | refine hp_step ?_ | refine guard_no (by decide) ?_ | refine guard_go ?_ | refine guard_old ?_ | apply cut_auto | with_reducible exact CutS.mk (Or.inl ⟨rfl, rfl, rfl⟩) | refine CutS.mk (Or.inr (sub_auto ?_)) | exact trivial | refine And.intro ?_ ?_ | (refine cond_split ?_ ?_ <;> intro _ <;> first | (exfalso; first | omega | (simp only [decide_eq_true_eq, decide_eq_false_iff_not, Bool.not_eq_true', Bool.not_eq_false', ne_eq, Bool.not_true, Bool.not_false, cond_true, cond_false, Bool.true_eq_false, Bool.false_eq_true, Bool.and_eq_true, Bool.and_eq_false_iff] at *; omega)) | skip) | apply guess | apply FnIs.useF (k0) | apply FnIs.useF (kz) | apply FnIs.useF (k1) | apply FnIs.useF (k2) | apply FnIs.useF (km) | apply FnIs.useF (km2) | apply FnIs.useF (kb) | apply FnIs.useF (kh) | apply FnIs.useF (k_toGrid A V ⟨⟨nA, nV⟩⟩) | apply FnIs.useF (kn) | apply FnIs.useF (k_eqGrid_same A V ⟨⟨nA, nV⟩⟩) | apply FnIs.useF (ke2) | apply FnIs.useF (k_eqInt64S_same L ⟨by omega⟩) | exact Or.inl rfl | exact Or.inr rfl | exact Side.mk trivial | exact Side.mk (fun h => h) | exact Side.mk (fun h => ⟨h, h⟩) | with_reducible exact Side.mk rfl | with_reducible exact Side.mk ⟨rfl, rfl⟩ | with_reducible exact Side.mk (by assumption) | with_reducible rfl | intro _)
        all_goals try (conv => whnf)
        all_goals first | omega | rfl | (refine Side.mk ?_; omega) | (rename_i hq; exfalso; simp at hq; done) | (rename_i hq; exfalso; rw [d0] at hq; simp at hq; done) | trace_state
end Go.Sx.U
