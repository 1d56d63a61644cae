/-
  Chapter 8: the uses of a choice (contracts).
-/
import Derived.Test.YtpbmikcicibfcaaG17
import Derived.Test.YtpbmikcicibfcaaG15
namespace Go.Sx.U
set_option linter.unusedVariables false
set_option linter.unusedSimpArgs false
set_option maxRecDepth 100000
set_option maxHeartbeats 8000000
open Go Go.Sx Go.Proofs Go.Sx.M8

theorem k_unused (A V : List (List Int)) (h : Side (natSS A ∧ gridB A V = true)) : FnIs Try.prog 70 [.ptr 4 [] 0 0] 5 (boxG :: gridH false A V) (.agg [.sl 6 [], .sl 8 []]) 9 [(6, .flat true (.rows 5 0 A.length)), (5, .nestI true .i64 (zeroU (wN A) A.length).1), (8, .flat true (.rows 7 0 (A.length - 1))), (7, .nestI true .i64 (zeroU (wN A) A.length).2)] := by
  obtain ⟨h1, h2⟩ := h.h
  obtain ⟨g1, g2, g3⟩ := gridB_len h2
  have ks := k_sizes A V ⟨⟨h1, g1⟩⟩
  rw [wN_wd] at ks g3
  have hw1 : 1 ≤ wN A := by unfold wN; omega
  have k1 := k_filled A.length (wN A - 1) 0 ⟨by omega⟩
  have k2 := k_filled (A.length - 1) (wN A) 0 ⟨by omega⟩
  rw [show ((wN A - 1 : Nat) : Int) = (wN A : Int) - 1 by omega] at k1
  rw [show ((A.length - 1 : Nat) : Int) = (A.length : Int) - 1 by omega] at k2
  unfold zeroU
  generalize wN A = w at *
  refine fn_of_ev tok Try.func70 rfl rfl rfl ?_
  repeat' ((conv => whnf); first | done | refine ev_step ?_ | refine ops_step ?_ | refine scan_step ?_ | refine draw_step ?_ | refine each_step ?_ | refine sl_step ?_ | refine hp_step ?_ | refine guard_no (by decide) ?_ | refine guard_go ?_ | refine guard_old ?_ | apply cut_auto | with_reducible exact CutS.mk (Or.inl ⟨rfl, rfl, rfl⟩) | refine CutS.mk (Or.inr (sub_auto ?_)) | exact trivial | refine And.intro ?_ ?_ | refine cond_split ?_ ?_ | apply guess | apply FnIs.useF (ks) | refine FnIs.useE (k1) rfl ?_ | refine FnIs.useE (k2) rfl ?_ | exact Or.inl rfl | exact Or.inr rfl | exact Side.mk trivial | exact Side.mk (fun h => h) | exact Side.mk (fun h => ⟨h, h⟩) | with_reducible exact Side.mk rfl | with_reducible exact Side.mk ⟨rfl, rfl⟩ | with_reducible exact Side.mk (by assumption) | with_reducible rfl | intro _)
  all_goals try (conv => whnf)
  all_goals try (refine Side.mk ?_; first | (intros; omega) | (intro h1_ h2_; rw [h1_, h2_]; rfl) | (show List.length (_ ++ _) ≤ _; simp only [List.length_append, List.length_cons, List.length_nil, List.length_replicate, List.length_take]; omega) | (simp_all; done) | (simp_all; omega))
  all_goals first | rfl | omega | trace_state
theorem k_used (A V : List (List Int)) (ns : List R4) (ks : List Int) (hn : Side (natSS A ∧ gridB A V = true ∧ ns.length ≤ 6 ∧ ks.length = ns.length)) (hc : ChoiceOK (wN A) A.length ns ks) : FnIs Try.prog 54 [.ptr 4 [] 0 0, .sl 5 [], .sl 6 []] 7 (boxG :: (5, .flat false (.r4 ns)) :: (6, .flat false (.ints .i64 ks)) :: gridH false A V) (.agg [.sl 8 [], .sl 10 []]) 11 [(8, .flat true (.rows 7 0 A.length)), (7, .nestI true .i64 (usedT (wN A) A.length ns ks ks.length).1), (10, .flat true (.rows 9 0 (A.length - 1))), (9, .nestI true .i64 (usedT (wN A) A.length ns ks ks.length).2)] := by
  obtain ⟨h1, h2, h3, h4⟩ := hn.h
  have ku := k_unused A V ⟨h1, h2⟩
  have hd := fun i hi => used_dims hc (i := i) hi
  have h0 : usedT (wN A) A.length ns ks 0 = zeroU (wN A) A.length := rfl
  have hs : ∀ i, usedT (wN A) A.length ns ks (i + 1) = useE 1 (usedT (wN A) A.length ns ks i) (shapeOf (ns.getD i default) (ks.getD i 0)) := fun i => rfl
  rw [← h0] at ku
  refine fn_of_ev tok Try.func54 rfl rfl rfl ?_
  repeat' ((conv => whnf); first | done | refine ev_step ?_ | refine ops_step ?_ | refine scan_step ?_ | refine draw_step ?_ | refine each_step ?_ | refine sl_step ?_ | refine hp_step ?_ | refine guard_no (by decide) ?_ | refine guard_go ?_ | refine guard_old ?_ | apply cut_auto | with_reducible exact CutS.mk (Or.inl ⟨rfl, rfl, rfl⟩) | refine CutS.mk (Or.inr (sub_auto ?_)) | exact trivial | refine And.intro ?_ ?_ | refine cond_split ?_ ?_ | apply guess | apply FnIs.useF (ku) | exact Or.inl rfl | exact Or.inr rfl | exact Side.mk trivial | exact Side.mk (fun h => h) | exact Side.mk (fun h => ⟨h, h⟩) | with_reducible exact Side.mk rfl | with_reducible exact Side.mk ⟨rfl, rfl⟩ | with_reducible exact Side.mk (by assumption) | with_reducible rfl | intro _)
  all_goals try (conv => whnf)
  all_goals try (refine Side.mk ?_; first | (intros; omega) | (intro h1_ h2_; rw [h1_, h2_]; rfl) | (show List.length (_ ++ _) ≤ _; simp only [List.length_append, List.length_cons, List.length_nil, List.length_replicate, List.length_take]; omega) | (simp_all; done) | (simp_all; omega))
  have hcel := hc.cel
  have hch := hc.ch
  refine loop_at (fun i : Nat => i ≤ ks.length) 13 (fun i => [(14, .int .i64 i)]) (fun i => [(8, .nestI true .i64 (usedT (wN A) A.length ns ks i).1), (10, .nestI true .i64 (usedT (wN A) A.length ns ks i).2)]) (fun i => ks.length - i) 0 (Nat.zero_le _) ?_ (fun i hi => ?_)
  · repeat' ((conv => whnf); first | done | refine ev_step ?_ | refine ops_step ?_ | refine scan_step ?_ | refine draw_step ?_ | refine each_step ?_ | refine sl_step ?_ | refine hp_step ?_ | refine guard_no (by decide) ?_ | refine guard_go ?_ | refine guard_old ?_ | apply cut_auto | with_reducible exact CutS.mk (Or.inl ⟨rfl, rfl, rfl⟩) | refine CutS.mk (Or.inr (sub_auto ?_)) | exact trivial | refine And.intro ?_ ?_ | refine cond_split ?_ ?_ | apply guess | exact Or.inl rfl | exact Or.inr rfl | exact Side.mk trivial | exact Side.mk (fun h => h) | exact Side.mk (fun h => ⟨h, h⟩) | with_reducible exact Side.mk rfl | with_reducible exact Side.mk ⟨rfl, rfl⟩ | with_reducible exact Side.mk (by assumption) | with_reducible rfl | intro _)
    all_goals try (conv => whnf)
    all_goals first | rfl | (simp; done) | trace_state
  · have hdi := hd i hi
    have hsi := hs i
    by_cases hlt : i < ks.length
    · have hci := hcel i (by omega)
      have hki := hch i hlt
      obtain ⟨gs, ws⟩ := shape_good hci hki
      have k1 := k_shapes (ns.getD i default).a (ns.getD i default).b (ns.getD i default).c (ns.getD i default).d ⟨hci.1⟩
      have k2 := k_useShape _ _ _ _ _ 1 hdi gs ws (.inl rfl) ⟨by omega⟩
      unfold shapeOf shapesR at k2 hsi
      unfold shapesR at hki
      clear hd hs h0 hcel hch hdi gs ws hci
      generalize usedT (wN A) A.length ns ks i = W at *
      generalize hW2 : usedT (wN A) A.length ns ks (i + 1) = W2 at *
      generalize shapesV (ns.getD i default).a (ns.getD i default).b (ns.getD i default).c (ns.getD i default).d = S at *
      generalize hkk : ks.getD i 0 = kk at *
      repeat' ((conv => whnf); first | done | refine ev_step ?_ | refine ops_step ?_ | refine scan_step ?_ | refine draw_step ?_ | refine each_step ?_ | refine sl_step ?_ | refine hp_step ?_ | refine guard_no (by decide) ?_ | refine guard_go ?_ | refine guard_old ?_ | apply cut_auto | with_reducible exact CutS.mk (Or.inl ⟨rfl, rfl, rfl⟩) | refine CutS.mk (Or.inr (sub_auto ?_)) | exact trivial | refine And.intro ?_ ?_ | (refine cond_split ?_ ?_ <;> intro _ <;> first | (exfalso; first | omega | (simp only [decide_eq_true_eq, decide_eq_false_iff_not, Bool.not_eq_true', Bool.not_eq_false', ne_eq, Bool.not_true, Bool.not_false, cond_true, cond_false, Bool.true_eq_false, Bool.false_eq_true, Bool.and_eq_true, Bool.and_eq_false_iff] at *; omega)) | skip) | apply guess | apply FnIs.useF (k1) | apply FnIs.useF (k2) | exact Or.inl rfl | exact Or.inr rfl | exact Side.mk trivial | exact Side.mk (fun h => h) | exact Side.mk (fun h => ⟨h, h⟩) | with_reducible exact Side.mk rfl | with_reducible exact Side.mk ⟨rfl, rfl⟩ | with_reducible exact Side.mk (by assumption) | with_reducible rfl | intro _)
      all_goals try (conv => whnf)
      all_goals try simp only [Int.toNat_natCast, hkk] at *
      all_goals try (refine Side.mk ?_; first | (intros; omega) | (intro h1_ h2_; rw [h1_, h2_]; rfl) | (show List.length (_ ++ _) ≤ _; simp only [List.length_append, List.length_cons, List.length_nil, List.length_replicate, List.length_take]; omega) | (simp_all; done) | (simp_all; omega))
      all_goals try omega
      refine ⟨i + 1, by omega, by omega, ?_⟩
      repeat' ((conv => whnf); first | done | refine ev_step ?_ | refine ops_step ?_ | refine scan_step ?_ | refine draw_step ?_ | refine each_step ?_ | refine sl_step ?_ | refine hp_step ?_ | refine guard_no (by decide) ?_ | refine guard_go ?_ | refine guard_old ?_ | apply cut_auto | with_reducible exact CutS.mk (Or.inl ⟨rfl, rfl, rfl⟩) | refine CutS.mk (Or.inr (sub_auto ?_)) | exact trivial | refine And.intro ?_ ?_ | refine cond_split ?_ ?_ | apply guess | exact Or.inl rfl | exact Or.inr rfl | exact Side.mk trivial | exact Side.mk (fun h => h) | exact Side.mk (fun h => ⟨h, h⟩) | with_reducible exact Side.mk rfl | with_reducible exact Side.mk ⟨rfl, rfl⟩ | with_reducible exact Side.mk (by assumption) | with_reducible rfl | intro _)
      all_goals try (conv => whnf)
      all_goals first | rfl | omega | (rw [hW2, hsi]; done) | trace_state
    · obtain rfl : i = ks.length := by omega
      repeat' ((conv => whnf); first | done | refine ev_step ?_ | refine ops_step ?_ | refine scan_step ?_ | refine draw_step ?_ | refine each_step ?_ | refine sl_step ?_ | refine hp_step ?_ | refine guard_no (by decide) ?_ | refine guard_go ?_ | refine guard_old ?_ | apply cut_auto | with_reducible exact CutS.mk (Or.inl ⟨rfl, rfl, rfl⟩) | refine CutS.mk (Or.inr (sub_auto ?_)) | exact trivial | refine And.intro ?_ ?_ | (refine cond_split ?_ ?_ <;> intro _ <;> first | (exfalso; first | omega | (simp only [decide_eq_true_eq, decide_eq_false_iff_not, Bool.not_eq_true', Bool.not_eq_false', ne_eq, Bool.not_true, Bool.not_false, cond_true, cond_false, Bool.true_eq_false, Bool.false_eq_true, Bool.and_eq_true, Bool.and_eq_false_iff] at *; omega)) | skip) | apply guess | exact Or.inl rfl | exact Or.inr rfl | exact Side.mk trivial | exact Side.mk (fun h => h) | exact Side.mk (fun h => ⟨h, h⟩) | with_reducible exact Side.mk rfl | with_reducible exact Side.mk ⟨rfl, rfl⟩ | with_reducible exact Side.mk (by assumption) | with_reducible rfl | intro _)
      all_goals try (conv => whnf)
      all_goals try (refine Side.mk ?_; first | (intros; omega) | (intro h1_ h2_; rw [h1_, h2_]; rfl) | (show List.length (_ ++ _) ≤ _; simp only [List.length_append, List.length_cons, List.length_nil, List.length_replicate, List.length_take]; omega) | (simp_all; done) | (simp_all; omega))
      all_goals first | rfl | omega | trace_state
end Go.Sx.U
