/-
  Chapter 8: the greedy choice: the law.
-/
import Derived.Test.YtpbmikcicibfcaaG24
import Derived.Test.YtpbmikcicibfcaaM8Y
import Derived.Test.YtpbmikcicibfcaaK8
namespace Go.Sx.U
set_option linter.unusedVariables false
set_option linter.unusedSimpArgs false
set_option maxRecDepth 100000
set_option maxHeartbeats 8000000
open Go Go.Sx Go.Proofs Go.Sx.M8

theorem k_GreedySpec_no (A V : List (List Int)) (ns : List R4) (h : Side (natSS A ∧ natSS V ∧ ns.length ≤ 1048577)) (hx : netsB A V ns = false) : FnIs Try.prog 28 [.agg [.sl 1 [], .sl 3 []], .sl 4 []] 5 ((4, .flat false (.r4 ns)) :: gridH false A V) (.tuple [.nilsl, .int .i64 0, .bool false]) 5 [] := by
  have k1 := k_l08Nets A V ns h
  rw [hx] at k1
  refine fn_of_ev tok Try.func28 rfl rfl rfl ?_
  repeat' ((conv => whnf); first | done | refine ev_step ?_ | refine ops_step ?_ | refine scan_step ?_ | refine draw_step ?_ | refine each_step ?_ | refine guard_no (by decide) ?_ | refine guard_go ?_ | apply cut_auto | with_reducible exact CutS.mk (Or.inl ⟨rfl, rfl, rfl⟩) | refine CutS.mk (Or.inr (sub_auto ?_)) | exact trivial | refine And.intro ?_ ?_ | refine cond_split ?_ ?_ | apply guess | apply FnIs.useF (k1) | exact Or.inl rfl | exact Or.inr rfl | exact Side.mk trivial | exact Side.mk (fun h => h) | exact Side.mk (fun h => ⟨h, h⟩) | with_reducible exact Side.mk rfl | with_reducible exact Side.mk ⟨rfl, rfl⟩ | with_reducible exact Side.mk (by assumption) | with_reducible rfl | intro _)
  all_goals try (conv => whnf)
  all_goals try (refine Side.mk ?_; first | (intros; omega) | (show List.length (_ ++ _) ≤ _; simp only [List.length_append, List.length_cons, List.length_nil, List.length_replicate, List.length_take]; omega) | (simp_all; done) | (simp_all; omega))
  all_goals first | rfl | trace_state
theorem k_GreedyChoice_no (A V : List (List Int)) (ns : List R4) (h : Side (natSS A ∧ natSS V ∧ ns.length ≤ 1048577)) (hx : netsB A V ns = false) : FnIs Try.prog 29 [.agg [.sl 1 [], .sl 3 []], .sl 4 []] 5 ((4, .flat false (.r4 ns)) :: gridH false A V) (.tuple [.nilsl, .int .i64 0, .bool false]) 5 [] := by
  have k1 := k_netsOk A V ns h
  rw [hx] at k1
  refine fn_of_ev tok Try.func29 rfl rfl rfl ?_
  repeat' ((conv => whnf); first | done | refine ev_step ?_ | refine ops_step ?_ | refine scan_step ?_ | refine draw_step ?_ | refine each_step ?_ | refine guard_no (by decide) ?_ | refine guard_go ?_ | apply cut_auto | with_reducible exact CutS.mk (Or.inl ⟨rfl, rfl, rfl⟩) | refine CutS.mk (Or.inr (sub_auto ?_)) | exact trivial | refine And.intro ?_ ?_ | refine cond_split ?_ ?_ | apply guess | apply FnIs.useF (k1) | exact Or.inl rfl | exact Or.inr rfl | exact Side.mk trivial | exact Side.mk (fun h => h) | exact Side.mk (fun h => ⟨h, h⟩) | with_reducible exact Side.mk rfl | with_reducible exact Side.mk ⟨rfl, rfl⟩ | with_reducible exact Side.mk (by assumption) | with_reducible rfl | intro _)
  all_goals try (conv => whnf)
  all_goals try (refine Side.mk ?_; first | (intros; omega) | (show List.length (_ ++ _) ≤ _; simp only [List.length_append, List.length_cons, List.length_nil, List.length_replicate, List.length_take]; omega) | (simp_all; done) | (simp_all; omega))
  all_goals first | rfl | trace_state
theorem k_l08OverflowF (A V : List (List Int)) (ns : List R4) (ks : List Int) (hn : Side (natSS A ∧ gridB A V = true ∧ ns.length ≤ 6 ∧ ks.length ≤ ns.length)) (hc : ChoiceOK (wN A) A.length ns ks) : FnIs Try.prog 50 [.ptr 4 [] 0 0, .sl 5 [], .sl 6 []] 7 (boxG :: (5, .flat false (.r4 ns)) :: (6, .flat false (.ints .i64 ks)) :: gridH false A V) (.int .i64 (ovF A V ns ks)) 7 [] := k_l08Overflow A V ns ks hn hc
theorem k_GreedySpec (A V : List (List Int)) (ns : List R4) (h : Side (natSS A ∧ natSS V ∧ ns.length ≤ 1048577)) (hx : netsB A V ns = true) : FnIs Try.prog 28 [.agg [.sl 1 [], .sl 3 []], .sl 4 []] 5 ((4, .flat false (.r4 ns)) :: gridH false A V) (.tuple [.sl 5 [], .int .i64 (gT A V ns ns.length).2, .bool true]) 6 [(5, .flat true (.ints .i64 (gT A V ns ns.length).1))] := by
  have k1 := k_l08Nets A V ns h
  rw [hx] at k1
  obtain ⟨hg, hl, _⟩ := netsB_all hx
  refine fn_of_ev tok Try.func28 rfl rfl rfl ?_
  repeat' ((conv => whnf); first | done | refine ev_step ?_ | refine ops_step ?_ | refine scan_step ?_ | refine draw_step ?_ | refine each_step ?_ | refine guard_no (by decide) ?_ | refine guard_go ?_ | apply cut_auto | with_reducible exact CutS.mk (Or.inl ⟨rfl, rfl, rfl⟩) | refine CutS.mk (Or.inr (sub_auto ?_)) | exact trivial | refine And.intro ?_ ?_ | refine cond_split ?_ ?_ | apply guess | apply FnIs.useF (k1) | exact Or.inl rfl | exact Or.inr rfl | exact Side.mk trivial | exact Side.mk (fun h => h) | exact Side.mk (fun h => ⟨h, h⟩) | with_reducible exact Side.mk rfl | with_reducible exact Side.mk ⟨rfl, rfl⟩ | with_reducible exact Side.mk (by assumption) | with_reducible rfl | intro _)
  all_goals try (conv => whnf)
  all_goals try (refine Side.mk ?_; first | (intros; omega) | (show List.length (_ ++ _) ≤ _; simp only [List.length_append, List.length_cons, List.length_nil, List.length_replicate, List.length_take]; omega) | (simp_all; done) | (simp_all; omega))
  refine loop_at (fun i : Nat => i ≤ ns.length) 7 (fun i => [(7, .sl 6 []), (8, .int .i64 i), (9, .top), (10, .top), (11, .top), (12, .top), (16, .top), (49, .top), (51, .top), (52, .top)]) (fun i => [(6, .flat true (.ints .i64 (gT A V ns i).1))]) (fun i => ns.length - i) 0 (Nat.zero_le _) ?_ (fun i hi => ?_)
  · repeat' ((conv => whnf); first | done | refine ev_step ?_ | refine ops_step ?_ | refine scan_step ?_ | refine draw_step ?_ | refine each_step ?_ | refine guard_no (by decide) ?_ | refine guard_go ?_ | apply cut_auto | with_reducible exact CutS.mk (Or.inl ⟨rfl, rfl, rfl⟩) | refine CutS.mk (Or.inr (sub_auto ?_)) | exact trivial | refine And.intro ?_ ?_ | refine cond_split ?_ ?_ | apply guess | exact Or.inl rfl | exact Or.inr rfl | exact Side.mk trivial | exact Side.mk (fun h => h) | exact Side.mk (fun h => ⟨h, h⟩) | with_reducible exact Side.mk rfl | with_reducible exact Side.mk ⟨rfl, rfl⟩ | with_reducible exact Side.mk (by assumption) | with_reducible rfl | intro _)
    all_goals try (conv => whnf)
    all_goals first | rfl | (simp [gT]; done) | trace_state
  · have hgl := gT_len A V ns i
    by_cases hlt : i < ns.length
    · have ks1 := k_l08Shapes _ _ _ _ (net_sd hx hlt)
      have hs1 : (gT A V ns (i + 1)).1 = (gT A V ns i).1 ++ [((pickT (fun k => ovF A V ns ((gT A V ns i).1 ++ [(k : Int)])) (shapesR (ns.getD i default)).length).1 : Int)] := rfl
      have hcb : ∀ k, k < (shapesR (ns.getD i default)).length → _ := fun k hk => cand_bd hx hlt hk
      have hco : ∀ k, k < (shapesR (ns.getD i default)).length → _ := fun k hk => cand_ok hx hlt hk
      have hsl := (shapes_small (net_sd hx hlt).h).1
      unfold shapesR at hs1 hcb hco
      generalize shapesV (ns.getD i default).a (ns.getD i default).b (ns.getD i default).c (ns.getD i default).d = S at *
      generalize (gT A V ns i).1 = ks at *
      have kf : ∀ k : Nat, k < S.length → FnIs Try.prog 50 [.ptr 4 [] 0 0, .sl 5 [], .sl 6 []] 7 (boxG :: (5, .flat false (.r4 ns)) :: (6, .flat false (.ints .i64 (ks ++ [(k : Int)]))) :: gridH false A V) (.int .i64 (ovF A V ns (ks ++ [(k : Int)]))) 7 [] := fun k hk => k_l08OverflowF A V ns _ ⟨h.h.1, hg, hl, by simp; omega⟩ (hco k hk)
      have ko := k_l00Own ks ⟨by omega⟩
      have hp : ∀ k, k ≤ S.length → -1 ≤ (pickT (fun k => ovF A V ns (ks ++ [(k : Int)])) k).2 ∧ (pickT (fun k => ovF A V ns (ks ++ [(k : Int)])) k).2 ≤ 1000000 := fun k hk => pick_bd k (fun j hj => by have := hcb j (by omega); omega) (by omega)
      have hps : ∀ k, pickT (fun k => ovF A V ns (ks ++ [(k : Int)])) (k + 1) = if (decide ((pickT (fun k => ovF A V ns (ks ++ [(k : Int)])) k).2 < 0) || decide (ovF A V ns (ks ++ [(k : Int)]) < (pickT (fun k => ovF A V ns (ks ++ [(k : Int)])) k).2)) = true then (k, ovF A V ns (ks ++ [(k : Int)])) else pickT (fun k => ovF A V ns (ks ++ [(k : Int)])) k := fun k => rfl
      have hp0 : pickT (fun k => ovF A V ns (ks ++ [(k : Int)])) 0 = (0, -1) := rfl
      generalize pickT (fun k => ovF A V ns (ks ++ [(k : Int)])) = P at *
      clear hco
      repeat' ((conv => whnf); first | done | refine ev_step ?_ | refine ops_step ?_ | refine scan_step ?_ | refine draw_step ?_ | refine each_step ?_ | refine guard_no (by decide) ?_ | refine guard_go ?_ | apply cut_auto | with_reducible exact CutS.mk (Or.inl ⟨rfl, rfl, rfl⟩) | refine CutS.mk (Or.inr (sub_auto ?_)) | exact trivial | refine And.intro ?_ ?_ | (refine cond_split ?_ ?_ <;> intro _ <;> first | (exfalso; first | omega | (simp only [decide_eq_true_eq, decide_eq_false_iff_not, Bool.not_eq_true', Bool.not_eq_false', ne_eq, Bool.not_true, Bool.not_false, cond_true, cond_false, Bool.true_eq_false, Bool.false_eq_true, Bool.and_eq_true, Bool.and_eq_false_iff] at *; omega)) | skip) | apply guess | exact Or.inl rfl | exact Or.inr rfl | exact Side.mk trivial | exact Side.mk (fun h => h) | exact Side.mk (fun h => ⟨h, h⟩) | with_reducible exact Side.mk rfl | with_reducible exact Side.mk ⟨rfl, rfl⟩ | with_reducible exact Side.mk (by assumption) | with_reducible rfl | intro _)
      all_goals try (conv => whnf)
      all_goals try (refine Side.mk ?_; first | (intros; omega) | (show List.length (_ ++ _) ≤ _; simp only [List.length_append, List.length_cons, List.length_nil, List.length_replicate, List.length_take]; omega) | (simp_all; done) | (simp_all; omega))
      all_goals try omega
      refine loop_at (fun k : Nat => k ≤ S.length) 7 (fun k => [(11, .int .i64 k), (9, .int .i64 ((P k).1 : Nat)), (10, .int .i64 (P k).2), (12, .top)]) (fun k => []) (fun k => S.length - k) 0 (Nat.zero_le _) ?_ (fun k hk => ?_)
      · repeat' ((conv => whnf); first | done | refine ev_step ?_ | refine ops_step ?_ | refine scan_step ?_ | refine draw_step ?_ | refine each_step ?_ | refine guard_no (by decide) ?_ | refine guard_go ?_ | apply cut_auto | with_reducible exact CutS.mk (Or.inl ⟨rfl, rfl, rfl⟩) | refine CutS.mk (Or.inr (sub_auto ?_)) | exact trivial | refine And.intro ?_ ?_ | refine cond_split ?_ ?_ | apply guess | exact Or.inl rfl | exact Or.inr rfl | exact Side.mk trivial | exact Side.mk (fun h => h) | exact Side.mk (fun h => ⟨h, h⟩) | with_reducible exact Side.mk rfl | with_reducible exact Side.mk ⟨rfl, rfl⟩ | with_reducible exact Side.mk (by assumption) | with_reducible rfl | intro _)
        all_goals try (conv => whnf)
        all_goals first | rfl | (rw [hp0]; rfl) | (rw [hp0]; done) | trace_state
      · have hpk := hp k hk
        by_cases hkt : k < S.length
        · have kfk := kf k hkt
          have hc := hcb k hkt
          have hpsk := hps k
          generalize ovF A V ns (ks ++ [(k : Int)]) = o at *
          cases hb : (decide ((P k).2 < 0) || decide (o < (P k).2))
          · have hb2 : (bif decide ((P k).2 < 0) then true else decide (o < (P k).2)) = false := by rw [Bool.cond_true_left]; exact hb
            rw [hb, if_neg (by simp)] at hpsk
            repeat' ((conv => whnf); first | done | refine ev_step ?_ | refine ops_step ?_ | refine scan_step ?_ | refine draw_step ?_ | refine each_step ?_ | refine guard_no (by decide) ?_ | refine guard_go ?_ | apply cut_auto | with_reducible exact CutS.mk (Or.inl ⟨rfl, rfl, rfl⟩) | refine CutS.mk (Or.inr (sub_auto ?_)) | exact trivial | refine And.intro ?_ ?_ | (refine cond_split ?_ ?_ <;> intro hq_ <;> first | (exfalso; first | omega | (simp only [hb2, cond_true, cond_false, Bool.not_true, Bool.not_false, Bool.and_true, Bool.true_and, Bool.and_false, Bool.false_and, Bool.or_true, Bool.true_or, Bool.or_false, Bool.false_or, Bool.true_eq_false, Bool.false_eq_true, decide_true, decide_false, reduceCtorEq] at hq_; done) | (rw [decide_eq_false_iff_not] at hq_; omega) | (rw [decide_eq_true_eq] at hq_; omega) | (simp only [hb2, reduceCtorEq] at hq_; done) | exact Bool.noConfusion (Eq.trans (Eq.symm hb2) hq_)) | skip) | apply guess | apply FnIs.useF (ks1) | apply FnIs.useF (ko) | apply FnIs.useF (kfk) | exact Or.inl rfl | exact Or.inr rfl | exact Side.mk trivial | exact Side.mk (fun h => h) | exact Side.mk (fun h => ⟨h, h⟩) | with_reducible exact Side.mk rfl | with_reducible exact Side.mk ⟨rfl, rfl⟩ | with_reducible exact Side.mk (by assumption) | with_reducible rfl | intro _)
            all_goals try (conv => whnf)
            all_goals try simp only [Int.toNat_natCast]
            all_goals try (refine Side.mk ?_; first | (intros; omega) | (show List.length (_ ++ _) ≤ _; simp only [List.length_append, List.length_cons, List.length_nil, List.length_replicate, List.length_take]; omega) | (simp_all; done) | (simp_all; omega))
            all_goals try omega
            refine ⟨k + 1, by omega, by omega, ?_⟩
            repeat' ((conv => whnf); first | done | refine ev_step ?_ | refine ops_step ?_ | refine scan_step ?_ | refine draw_step ?_ | refine each_step ?_ | refine guard_no (by decide) ?_ | refine guard_go ?_ | apply cut_auto | with_reducible exact CutS.mk (Or.inl ⟨rfl, rfl, rfl⟩) | refine CutS.mk (Or.inr (sub_auto ?_)) | exact trivial | refine And.intro ?_ ?_ | refine cond_split ?_ ?_ | apply guess | exact Or.inl rfl | exact Or.inr rfl | exact Side.mk trivial | exact Side.mk (fun h => h) | exact Side.mk (fun h => ⟨h, h⟩) | with_reducible exact Side.mk rfl | with_reducible exact Side.mk ⟨rfl, rfl⟩ | with_reducible exact Side.mk (by assumption) | with_reducible rfl | intro _)
            all_goals try (conv => whnf)
            all_goals first | rfl | omega | (rw [hpsk]; done) | trace_state
          · have hb2 : (bif decide ((P k).2 < 0) then true else decide (o < (P k).2)) = true := by rw [Bool.cond_true_left]; exact hb
            rw [hb, if_pos rfl] at hpsk
            repeat' ((conv => whnf); first | done | refine ev_step ?_ | refine ops_step ?_ | refine scan_step ?_ | refine draw_step ?_ | refine each_step ?_ | refine guard_no (by decide) ?_ | refine guard_go ?_ | apply cut_auto | with_reducible exact CutS.mk (Or.inl ⟨rfl, rfl, rfl⟩) | refine CutS.mk (Or.inr (sub_auto ?_)) | exact trivial | refine And.intro ?_ ?_ | (refine cond_split ?_ ?_ <;> intro hq_ <;> first | (exfalso; first | omega | (simp only [hb2, cond_true, cond_false, Bool.not_true, Bool.not_false, Bool.and_true, Bool.true_and, Bool.and_false, Bool.false_and, Bool.or_true, Bool.true_or, Bool.or_false, Bool.false_or, Bool.true_eq_false, Bool.false_eq_true, decide_true, decide_false, reduceCtorEq] at hq_; done) | (rw [decide_eq_false_iff_not] at hq_; omega) | (rw [decide_eq_true_eq] at hq_; omega) | (simp only [hb2, reduceCtorEq] at hq_; done) | exact Bool.noConfusion (Eq.trans (Eq.symm hb2) hq_)) | skip) | apply guess | apply FnIs.useF (ks1) | apply FnIs.useF (ko) | apply FnIs.useF (kfk) | exact Or.inl rfl | exact Or.inr rfl | exact Side.mk trivial | exact Side.mk (fun h => h) | exact Side.mk (fun h => ⟨h, h⟩) | with_reducible exact Side.mk rfl | with_reducible exact Side.mk ⟨rfl, rfl⟩ | with_reducible exact Side.mk (by assumption) | with_reducible rfl | intro _)
            all_goals try (conv => whnf)
            all_goals try simp only [Int.toNat_natCast]
            all_goals try (refine Side.mk ?_; first | (intros; omega) | (show List.length (_ ++ _) ≤ _; simp only [List.length_append, List.length_cons, List.length_nil, List.length_replicate, List.length_take]; omega) | (simp_all; done) | (simp_all; omega))
            all_goals try omega
            refine ⟨k + 1, by omega, by omega, ?_⟩
            repeat' ((conv => whnf); first | done | refine ev_step ?_ | refine ops_step ?_ | refine scan_step ?_ | refine draw_step ?_ | refine each_step ?_ | refine guard_no (by decide) ?_ | refine guard_go ?_ | apply cut_auto | with_reducible exact CutS.mk (Or.inl ⟨rfl, rfl, rfl⟩) | refine CutS.mk (Or.inr (sub_auto ?_)) | exact trivial | refine And.intro ?_ ?_ | refine cond_split ?_ ?_ | apply guess | exact Or.inl rfl | exact Or.inr rfl | exact Side.mk trivial | exact Side.mk (fun h => h) | exact Side.mk (fun h => ⟨h, h⟩) | with_reducible exact Side.mk rfl | with_reducible exact Side.mk ⟨rfl, rfl⟩ | with_reducible exact Side.mk (by assumption) | with_reducible rfl | intro _)
            all_goals try (conv => whnf)
            all_goals first | rfl | omega | (rw [hpsk]; done) | trace_state
        · obtain rfl : k = S.length := by omega
          repeat' ((conv => whnf); first | done | refine ev_step ?_ | refine ops_step ?_ | refine scan_step ?_ | refine draw_step ?_ | refine each_step ?_ | refine guard_no (by decide) ?_ | refine guard_go ?_ | apply cut_auto | with_reducible exact CutS.mk (Or.inl ⟨rfl, rfl, rfl⟩) | refine CutS.mk (Or.inr (sub_auto ?_)) | exact trivial | refine And.intro ?_ ?_ | (refine cond_split ?_ ?_ <;> intro _ <;> first | (exfalso; first | omega | (simp only [decide_eq_true_eq, decide_eq_false_iff_not, Bool.not_eq_true', Bool.not_eq_false', ne_eq, Bool.not_true, Bool.not_false, cond_true, cond_false, Bool.true_eq_false, Bool.false_eq_true, Bool.and_eq_true, Bool.and_eq_false_iff] at *; omega)) | skip) | apply guess | apply FnIs.useF (ks1) | exact Or.inl rfl | exact Or.inr rfl | exact Side.mk trivial | exact Side.mk (fun h => h) | exact Side.mk (fun h => ⟨h, h⟩) | with_reducible exact Side.mk rfl | with_reducible exact Side.mk ⟨rfl, rfl⟩ | with_reducible exact Side.mk (by assumption) | with_reducible rfl | intro _)
          all_goals try (conv => whnf)
          all_goals try simp only [Int.toNat_natCast]
          all_goals try (refine Side.mk ?_; first | (intros; omega) | (show List.length (_ ++ _) ≤ _; simp only [List.length_append, List.length_cons, List.length_nil, List.length_replicate, List.length_take]; omega) | (simp_all; done) | (simp_all; omega))
          all_goals try omega
          refine ⟨i + 1, by omega, by omega, ?_⟩
          repeat' ((conv => whnf); first | done | refine ev_step ?_ | refine ops_step ?_ | refine scan_step ?_ | refine draw_step ?_ | refine each_step ?_ | refine guard_no (by decide) ?_ | refine guard_go ?_ | apply cut_auto | with_reducible exact CutS.mk (Or.inl ⟨rfl, rfl, rfl⟩) | refine CutS.mk (Or.inr (sub_auto ?_)) | exact trivial | refine And.intro ?_ ?_ | refine cond_split ?_ ?_ | apply guess | exact Or.inl rfl | exact Or.inr rfl | exact Side.mk trivial | exact Side.mk (fun h => h) | exact Side.mk (fun h => ⟨h, h⟩) | with_reducible exact Side.mk rfl | with_reducible exact Side.mk ⟨rfl, rfl⟩ | with_reducible exact Side.mk (by assumption) | with_reducible rfl | intro _)
          all_goals try (conv => whnf)
          all_goals first | rfl | omega | (rw [hs1]; done) | trace_state
    · obtain rfl : i = ns.length := by omega
      have ko := k_l08OverflowF A V ns (gT A V ns ns.length).1 ⟨h.h.1, hg, hl, by omega⟩ (gT_ok hx _ (Nat.le_refl _))
      rw [← gT_ov hx _ (Nat.le_refl _)] at ko
      generalize (gT A V ns ns.length).1 = ks at *
      repeat' ((conv => whnf); first | done | refine ev_step ?_ | refine ops_step ?_ | refine scan_step ?_ | refine draw_step ?_ | refine each_step ?_ | refine guard_no (by decide) ?_ | refine guard_go ?_ | apply cut_auto | with_reducible exact CutS.mk (Or.inl ⟨rfl, rfl, rfl⟩) | refine CutS.mk (Or.inr (sub_auto ?_)) | exact trivial | refine And.intro ?_ ?_ | (refine cond_split ?_ ?_ <;> intro _ <;> first | (exfalso; first | omega | (simp only [decide_eq_true_eq, decide_eq_false_iff_not, Bool.not_eq_true', Bool.not_eq_false', ne_eq, Bool.not_true, Bool.not_false, cond_true, cond_false, Bool.true_eq_false, Bool.false_eq_true, Bool.and_eq_true, Bool.and_eq_false_iff] at *; omega)) | skip) | apply guess | apply FnIs.useF (ko) | exact Or.inl rfl | exact Or.inr rfl | exact Side.mk trivial | exact Side.mk (fun h => h) | exact Side.mk (fun h => ⟨h, h⟩) | with_reducible exact Side.mk rfl | with_reducible exact Side.mk ⟨rfl, rfl⟩ | with_reducible exact Side.mk (by assumption) | with_reducible rfl | intro _)
      all_goals try (conv => whnf)
      all_goals try (refine Side.mk ?_; first | (intros; omega) | (show List.length (_ ++ _) ≤ _; simp only [List.length_append, List.length_cons, List.length_nil, List.length_replicate, List.length_take]; omega) | (simp_all; done) | (simp_all; omega))
      all_goals first | rfl | omega | trace_state
end Go.Sx.U
