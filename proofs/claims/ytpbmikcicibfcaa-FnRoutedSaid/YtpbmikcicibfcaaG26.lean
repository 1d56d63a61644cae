/-
  Chapter 8: the greedy choice, the program's way; the law.
-/
import Derived.Test.YtpbmikcicibfcaaG24
import Derived.Test.YtpbmikcicibfcaaM8Y
import Derived.Test.YtpbmikcicibfcaaK8
namespace Go.Sx.U
set_option linter.unusedVariables false
set_option linter.unusedSimpArgs false
set_option maxRecDepth 100000
set_option maxHeartbeats 8000000
open Go Go.Sx Go.Proofs Go.Sx.M8

theorem k_overflowW (A V : List (List Int)) (W : UU) (o : Int) (he : EachOK A V W) (ho : overV A V W = o) : FnIs Try.prog 55 [.ptr 4 [] 0 0, .ptr 9 [] 0 0] 10 (boxG :: boxU :: (useB A.length W ++ gridH false A V)) (.int .i64 o) 10 [] := by
  rw [← ho]
  exact k_overflow A V W he
theorem k_useBack (w h : Nat) (m : Int) (U : UU) (s : List R2) (hd : Dims w h m U) (hg : GoodShape s) (hw : M8.Way w h (pathL s)) (hm : Side (0 ≤ m ∧ m ≤ 10000)) : FnIs Try.prog 72 [.ptr 4 [] 0 0, .sl 5 [], .int .i64 (-1)] 6 (boxG :: (5, .flat false (.r2 s)) :: useH true h (useE 1 U s)) (.tuple []) 6 [(0, .nestI true .i64 U.1), (2, .nestI true .i64 U.2)] := by
  have := k_useShape w h (m + 576) (useE 1 U s) s (-1) (use_dims hd hg hw (.inl rfl)) hg hw (.inr rfl) ⟨by have := hm.h; omega⟩
  rwa [use_back hd hg hw] at this
theorem k_GreedyChoice (A V : List (List Int)) (ns : List R4) (h : Side (natSS A ∧ natSS V ∧ ns.length ≤ 1048577)) (hx : netsB A V ns = true) : FnIs Try.prog 29 [.agg [.sl 1 [], .sl 3 []], .sl 4 []] 5 ((4, .flat false (.r4 ns)) :: gridH false A V) (.tuple [.sl 5 [], .int .i64 (gT A V ns ns.length).2, .bool true]) 6 [(5, .flat true (.ints .i64 (gT A V ns ns.length).1))] := by
  have k1 := k_netsOk A V ns h
  rw [hx] at k1
  obtain ⟨hg, hl, hnet⟩ := netsB_all hx
  have ku := k_unused A V ⟨h.h.1, hg⟩
  have h0 : usedT (wN A) A.length ns [] 0 = zeroU (wN A) A.length := rfl
  rw [← h0] at ku
  refine fn_of_ev tok Try.func29 rfl rfl rfl ?_
  repeat' ((conv => whnf); first | done | refine ev_step ?_ | refine ops_step ?_ | refine scan_step ?_ | refine draw_step ?_ | refine each_step ?_ | refine sl_step ?_ | refine hp_step ?_ | refine guard_no (by decide) ?_ | refine guard_go ?_ | refine guard_old ?_ | apply cut_auto | with_reducible exact CutS.mk (Or.inl ⟨rfl, rfl, rfl⟩) | refine CutS.mk (Or.inr (sub_auto ?_)) | exact trivial | refine And.intro ?_ ?_ | refine cond_split ?_ ?_ | apply guess | apply FnIs.useF (k1) | apply FnIs.useF (ku) | exact Or.inl rfl | exact Or.inr rfl | exact Side.mk trivial | exact Side.mk (fun h => h) | exact Side.mk (fun h => ⟨h, h⟩) | with_reducible exact Side.mk rfl | with_reducible exact Side.mk ⟨rfl, rfl⟩ | with_reducible exact Side.mk (by assumption) | with_reducible rfl | intro _)
  all_goals try (conv => whnf)
  all_goals try (refine Side.mk ?_; first | (intros; omega) | (intro h1_ h2_; rw [h1_, h2_]; rfl) | (show List.length (_ ++ _) ≤ _; simp only [List.length_append, List.length_cons, List.length_nil, List.length_replicate, List.length_take]; omega) | (simp_all; done) | (simp_all; omega))
  refine loop_at (fun i : Nat => i ≤ ns.length) 12 (fun i => [(8, .sl 10 []), (9, .int .i64 (gT A V ns i).2), (25, .int .i64 i), (11, .top), (12, .top), (13, .top), (14, .top), (15, .top), (16, .top), (22, .top), (58, .top), (60, .top), (61, .top)]) (fun i => [(10, .flat true (.ints .i64 (gT A V ns i).1)), (6, .nestI true .i64 (usedT (wN A) A.length ns (gT A V ns i).1 i).1), (8, .nestI true .i64 (usedT (wN A) A.length ns (gT A V ns i).1 i).2)]) (fun i => ns.length - i) 0 (Nat.zero_le _) ?_ (fun i hi => ?_)
  · repeat' ((conv => whnf); first | done | refine ev_step ?_ | refine ops_step ?_ | refine scan_step ?_ | refine draw_step ?_ | refine each_step ?_ | refine sl_step ?_ | refine hp_step ?_ | refine guard_no (by decide) ?_ | refine guard_go ?_ | refine guard_old ?_ | apply cut_auto | with_reducible exact CutS.mk (Or.inl ⟨rfl, rfl, rfl⟩) | refine CutS.mk (Or.inr (sub_auto ?_)) | exact trivial | refine And.intro ?_ ?_ | refine cond_split ?_ ?_ | apply guess | exact Or.inl rfl | exact Or.inr rfl | exact Side.mk trivial | exact Side.mk (fun h => h) | exact Side.mk (fun h => ⟨h, h⟩) | with_reducible exact Side.mk rfl | with_reducible exact Side.mk ⟨rfl, rfl⟩ | with_reducible exact Side.mk (by assumption) | with_reducible rfl | intro _)
    all_goals try (conv => whnf)
    all_goals first | rfl | (simp [gT]; done) | trace_state
  · have hgl := gT_len A V ns i
    by_cases hlt : i < ns.length
    · have ks1 := k_shapes _ _ _ _ (net_sd hx hlt)
      have hs1 : (gT A V ns (i + 1)).1 = (gT A V ns i).1 ++ [((pickT (fun k => ovF A V ns ((gT A V ns i).1 ++ [(k : Int)])) (shapesR (ns.getD i default)).length).1 : Int)] := rfl
      have hs2 : (gT A V ns (i + 1)).2 = (pickT (fun k => ovF A V ns ((gT A V ns i).1 ++ [(k : Int)])) (shapesR (ns.getD i default)).length).2 := rfl
      have hcb : ∀ k, k < (shapesR (ns.getD i default)).length → _ := fun k hk => cand_bd hx hlt hk
      have hsl := (shapes_small (net_sd hx hlt).h).1
      have hci := netR_cel hg (hnet i hlt)
      have hgood : ∀ k : Nat, k < (shapesR (ns.getD i default)).length → GoodShape (shapeOf (ns.getD i default) k) ∧ M8.Way (wN A) A.length (pathL (shapeOf (ns.getD i default) k)) := fun k hk => shape_good hci ⟨by omega, by omega⟩
      have hov : ∀ k : Nat, overV A V (useE 1 (usedT (wN A) A.length ns (gT A V ns i).1 i) (shapeOf (ns.getD i default) k)) = ovF A V ns ((gT A V ns i).1 ++ [(k : Int)]) := fun k => by
        have := ovF_snoc (A := A) (V := V) (ns := ns) (ks := (gT A V ns i).1) (k := k)
        rw [hgl] at this
        exact this.symm
      have hdm := used_dims (gT_ok hx i (by omega)) i (by omega)
      have hnext : usedT (wN A) A.length ns (gT A V ns (i + 1)).1 (i + 1) = useE 1 (usedT (wN A) A.length ns (gT A V ns i).1 i) (shapeOf (ns.getD i default) ((pickT (fun k => ovF A V ns ((gT A V ns i).1 ++ [(k : Int)])) (shapesR (ns.getD i default)).length).1 : Int)) := by
        have := usedT_snoc (w := wN A) (h := A.length) (ns := ns) (ks := (gT A V ns i).1) (k := ((pickT (fun k => ovF A V ns ((gT A V ns i).1 ++ [(k : Int)])) (shapesR (ns.getD i default)).length).1 : Int))
        rw [hgl] at this
        rw [hs1]
        exact this
      unfold shapeOf at hgood hov hnext
      unfold shapesR at hs1 hs2 hcb hgood hov hnext
      simp only [Int.toNat_natCast] at hgood hov hnext
      have hpos : 0 < (shapesV (ns.getD i default).a (ns.getD i default).b (ns.getD i default).c (ns.getD i default).d).length := shapes_pos
      generalize shapesV (ns.getD i default).a (ns.getD i default).b (ns.getD i default).c (ns.getD i default).d = S at *
      generalize usedT (wN A) A.length ns (gT A V ns i).1 i = W at *
      generalize hW2 : usedT (wN A) A.length ns (gT A V ns (i + 1)).1 (i + 1) = W2 at *
      generalize hk2 : (gT A V ns (i + 1)).1 = ks2 at *
      generalize hl2 : (gT A V ns (i + 1)).2 = l2 at *
      generalize (gT A V ns i).1 = ks at *
      generalize (gT A V ns i).2 = l1 at *
      have hp : ∀ k, k ≤ S.length → -1 ≤ (pickT (fun k => ovF A V ns (ks ++ [(k : Int)])) k).2 ∧ (pickT (fun k => ovF A V ns (ks ++ [(k : Int)])) k).2 ≤ 1000000 := fun k hk => pick_bd k (fun j hj => by have := hcb j (by omega); omega) (by omega)
      have hps : ∀ k, pickT (fun k => ovF A V ns (ks ++ [(k : Int)])) (k + 1) = if (decide ((pickT (fun k => ovF A V ns (ks ++ [(k : Int)])) k).2 < 0) || decide (ovF A V ns (ks ++ [(k : Int)]) < (pickT (fun k => ovF A V ns (ks ++ [(k : Int)])) k).2)) = true then (k, ovF A V ns (ks ++ [(k : Int)])) else pickT (fun k => ovF A V ns (ks ++ [(k : Int)])) k := fun k => rfl
      have hp0 : pickT (fun k => ovF A V ns (ks ++ [(k : Int)])) 0 = (0, -1) := rfl
      have hpl := pick_lt (fun k => ovF A V ns (ks ++ [(k : Int)])) S.length hpos
      generalize pickT (fun k => ovF A V ns (ks ++ [(k : Int)])) = P at *
      repeat' ((conv => whnf); first | done | refine ev_step ?_ | refine ops_step ?_ | refine scan_step ?_ | refine draw_step ?_ | refine each_step ?_ | refine sl_step ?_ | refine hp_step ?_ | refine guard_no (by decide) ?_ | refine guard_go ?_ | refine guard_old ?_ | apply cut_auto | with_reducible exact CutS.mk (Or.inl ⟨rfl, rfl, rfl⟩) | refine CutS.mk (Or.inr (sub_auto ?_)) | exact trivial | refine And.intro ?_ ?_ | (refine cond_split ?_ ?_ <;> intro _ <;> first | (exfalso; first | omega | (simp only [decide_eq_true_eq, decide_eq_false_iff_not, Bool.not_eq_true', Bool.not_eq_false', ne_eq, Bool.not_true, Bool.not_false, cond_true, cond_false, Bool.true_eq_false, Bool.false_eq_true, Bool.and_eq_true, Bool.and_eq_false_iff] at *; omega)) | skip) | apply guess | apply FnIs.useF (ks1) | exact Or.inl rfl | exact Or.inr rfl | exact Side.mk trivial | exact Side.mk (fun h => h) | exact Side.mk (fun h => ⟨h, h⟩) | with_reducible exact Side.mk rfl | with_reducible exact Side.mk ⟨rfl, rfl⟩ | with_reducible exact Side.mk (by assumption) | with_reducible rfl | intro _)
      all_goals try (conv => whnf)
      all_goals try simp only [Int.toNat_natCast]
      all_goals try (refine Side.mk ?_; first | (intros; omega) | (intro h1_ h2_; rw [h1_, h2_]; rfl) | (show List.length (_ ++ _) ≤ _; simp only [List.length_append, List.length_cons, List.length_nil, List.length_replicate, List.length_take]; omega) | (simp_all; done) | (simp_all; omega))
      all_goals try omega

      refine loop_at (fun k : Nat => k ≤ S.length) 15 (fun k => [(32, .int .i64 k), (12, .int .i64 ((P k).1 : Nat)), (13, .int .i64 (P k).2), (14, .top), (15, .top), (16, .top)]) (fun k => [(6, .nestI true .i64 W.1), (8, .nestI true .i64 W.2)]) (fun k => S.length - k) 0 (Nat.zero_le _) ?_ (fun k hk => ?_)
      · repeat' ((conv => whnf); first | done | refine ev_step ?_ | refine ops_step ?_ | refine scan_step ?_ | refine draw_step ?_ | refine each_step ?_ | refine sl_step ?_ | refine hp_step ?_ | refine guard_no (by decide) ?_ | refine guard_go ?_ | refine guard_old ?_ | apply cut_auto | with_reducible exact CutS.mk (Or.inl ⟨rfl, rfl, rfl⟩) | refine CutS.mk (Or.inr (sub_auto ?_)) | exact trivial | refine And.intro ?_ ?_ | refine cond_split ?_ ?_ | apply guess | exact Or.inl rfl | exact Or.inr rfl | exact Side.mk trivial | exact Side.mk (fun h => h) | exact Side.mk (fun h => ⟨h, h⟩) | with_reducible exact Side.mk rfl | with_reducible exact Side.mk ⟨rfl, rfl⟩ | with_reducible exact Side.mk (by assumption) | with_reducible rfl | intro _)
        all_goals try (conv => whnf)
        all_goals first | rfl | (rw [hp0]; rfl) | (rw [hp0]; done) | trace_state
      · have hpk := hp k hk
        by_cases hkt : k < S.length
        · obtain ⟨gs, ws⟩ := hgood k hkt
          have hovk := hov k
          have hc := hcb k hkt
          have hpsk := hps k
          have ka := k_useShape _ _ _ _ _ 1 hdm gs ws (.inl rfl) ⟨by omega⟩
          have kb := k_useBack _ _ _ _ _ hdm gs ws ⟨by omega⟩
          have ko := k_overflowW A V _ _ (each_ok hg (by omega) (use_dims hdm gs ws (.inl rfl))) hovk
          generalize ovF A V ns (ks ++ [(k : Int)]) = o at *
          cases hb : (decide ((P k).2 < 0) || decide (o < (P k).2))
          · have hb2 : (bif decide ((P k).2 < 0) then true else decide (o < (P k).2)) = false := by rw [Bool.cond_true_left]; exact hb
            rw [hb, if_neg (by simp)] at hpsk
            repeat' ((conv => whnf); first | done | refine ev_step ?_ | refine ops_step ?_ | refine scan_step ?_ | refine draw_step ?_ | refine each_step ?_ | refine sl_step ?_ | refine hp_step ?_ | refine guard_no (by decide) ?_ | refine guard_go ?_ | refine guard_old ?_ | apply cut_auto | with_reducible exact CutS.mk (Or.inl ⟨rfl, rfl, rfl⟩) | refine CutS.mk (Or.inr (sub_auto ?_)) | exact trivial | refine And.intro ?_ ?_ | (refine cond_split ?_ ?_ <;> intro hq_ <;> first | (exfalso; first | omega | (simp only [hb2, cond_true, cond_false, Bool.not_true, Bool.not_false, Bool.and_true, Bool.true_and, Bool.and_false, Bool.false_and, Bool.or_true, Bool.true_or, Bool.or_false, Bool.false_or, Bool.true_eq_false, Bool.false_eq_true, decide_true, decide_false, reduceCtorEq] at hq_; done) | (rw [decide_eq_false_iff_not] at hq_; omega) | (rw [decide_eq_true_eq] at hq_; omega) | (simp only [hb2, reduceCtorEq] at hq_; done) | exact Bool.noConfusion (Eq.trans (Eq.symm hb2) hq_)) | skip) | apply guess | refine FnIs.useE (ka) rfl ?_ | refine FnIs.useE (kb) rfl ?_ | apply FnIs.useF (ko) | exact Or.inl rfl | exact Or.inr rfl | exact Side.mk trivial | exact Side.mk (fun h => h) | exact Side.mk (fun h => ⟨h, h⟩) | with_reducible exact Side.mk rfl | with_reducible exact Side.mk ⟨rfl, rfl⟩ | with_reducible exact Side.mk (by assumption) | with_reducible rfl | intro _)
            all_goals try (conv => whnf)
            all_goals try simp only [Int.toNat_natCast]
            all_goals try (refine Side.mk ?_; first | (intros; omega) | (intro h1_ h2_; rw [h1_, h2_]; rfl) | (show List.length (_ ++ _) ≤ _; simp only [List.length_append, List.length_cons, List.length_nil, List.length_replicate, List.length_take]; omega) | (simp_all; done) | (simp_all; omega))
            all_goals try omega
            refine ⟨k + 1, by omega, by omega, ?_⟩
            repeat' ((conv => whnf); first | done | refine ev_step ?_ | refine ops_step ?_ | refine scan_step ?_ | refine draw_step ?_ | refine each_step ?_ | refine sl_step ?_ | refine hp_step ?_ | refine guard_no (by decide) ?_ | refine guard_go ?_ | refine guard_old ?_ | apply cut_auto | with_reducible exact CutS.mk (Or.inl ⟨rfl, rfl, rfl⟩) | refine CutS.mk (Or.inr (sub_auto ?_)) | exact trivial | refine And.intro ?_ ?_ | refine cond_split ?_ ?_ | apply guess | exact Or.inl rfl | exact Or.inr rfl | exact Side.mk trivial | exact Side.mk (fun h => h) | exact Side.mk (fun h => ⟨h, h⟩) | with_reducible exact Side.mk rfl | with_reducible exact Side.mk ⟨rfl, rfl⟩ | with_reducible exact Side.mk (by assumption) | with_reducible rfl | intro _)
            all_goals try (conv => whnf)
            all_goals first | rfl | omega | (rw [hpsk]; done) | trace_state
          · have hb2 : (bif decide ((P k).2 < 0) then true else decide (o < (P k).2)) = true := by rw [Bool.cond_true_left]; exact hb
            rw [hb, if_pos rfl] at hpsk
            repeat' ((conv => whnf); first | done | refine ev_step ?_ | refine ops_step ?_ | refine scan_step ?_ | refine draw_step ?_ | refine each_step ?_ | refine sl_step ?_ | refine hp_step ?_ | refine guard_no (by decide) ?_ | refine guard_go ?_ | refine guard_old ?_ | apply cut_auto | with_reducible exact CutS.mk (Or.inl ⟨rfl, rfl, rfl⟩) | refine CutS.mk (Or.inr (sub_auto ?_)) | exact trivial | refine And.intro ?_ ?_ | (refine cond_split ?_ ?_ <;> intro hq_ <;> first | (exfalso; first | omega | (simp only [hb2, cond_true, cond_false, Bool.not_true, Bool.not_false, Bool.and_true, Bool.true_and, Bool.and_false, Bool.false_and, Bool.or_true, Bool.true_or, Bool.or_false, Bool.false_or, Bool.true_eq_false, Bool.false_eq_true, decide_true, decide_false, reduceCtorEq] at hq_; done) | (rw [decide_eq_false_iff_not] at hq_; omega) | (rw [decide_eq_true_eq] at hq_; omega) | (simp only [hb2, reduceCtorEq] at hq_; done) | exact Bool.noConfusion (Eq.trans (Eq.symm hb2) hq_)) | skip) | apply guess | refine FnIs.useE (ka) rfl ?_ | refine FnIs.useE (kb) rfl ?_ | apply FnIs.useF (ko) | exact Or.inl rfl | exact Or.inr rfl | exact Side.mk trivial | exact Side.mk (fun h => h) | exact Side.mk (fun h => ⟨h, h⟩) | with_reducible exact Side.mk rfl | with_reducible exact Side.mk ⟨rfl, rfl⟩ | with_reducible exact Side.mk (by assumption) | with_reducible rfl | intro _)
            all_goals try (conv => whnf)
            all_goals try simp only [Int.toNat_natCast]
            all_goals try (refine Side.mk ?_; first | (intros; omega) | (intro h1_ h2_; rw [h1_, h2_]; rfl) | (show List.length (_ ++ _) ≤ _; simp only [List.length_append, List.length_cons, List.length_nil, List.length_replicate, List.length_take]; omega) | (simp_all; done) | (simp_all; omega))
            all_goals try omega
            refine ⟨k + 1, by omega, by omega, ?_⟩
            repeat' ((conv => whnf); first | done | refine ev_step ?_ | refine ops_step ?_ | refine scan_step ?_ | refine draw_step ?_ | refine each_step ?_ | refine sl_step ?_ | refine hp_step ?_ | refine guard_no (by decide) ?_ | refine guard_go ?_ | refine guard_old ?_ | apply cut_auto | with_reducible exact CutS.mk (Or.inl ⟨rfl, rfl, rfl⟩) | refine CutS.mk (Or.inr (sub_auto ?_)) | exact trivial | refine And.intro ?_ ?_ | refine cond_split ?_ ?_ | apply guess | exact Or.inl rfl | exact Or.inr rfl | exact Side.mk trivial | exact Side.mk (fun h => h) | exact Side.mk (fun h => ⟨h, h⟩) | with_reducible exact Side.mk rfl | with_reducible exact Side.mk ⟨rfl, rfl⟩ | with_reducible exact Side.mk (by assumption) | with_reducible rfl | intro _)
            all_goals try (conv => whnf)
            all_goals first | rfl | omega | (rw [hpsk]; done) | trace_state
        · obtain rfl : k = S.length := by omega
          obtain ⟨gs, ws⟩ := hgood (P S.length).1 hpl
          have ka := k_useShape _ _ _ _ _ 1 hdm gs ws (.inl rfl) ⟨by omega⟩
          repeat' ((conv => whnf); first | done | refine ev_step ?_ | refine ops_step ?_ | refine scan_step ?_ | refine draw_step ?_ | refine each_step ?_ | refine sl_step ?_ | refine hp_step ?_ | refine guard_no (by decide) ?_ | refine guard_go ?_ | refine guard_old ?_ | apply cut_auto | with_reducible exact CutS.mk (Or.inl ⟨rfl, rfl, rfl⟩) | refine CutS.mk (Or.inr (sub_auto ?_)) | exact trivial | refine And.intro ?_ ?_ | (refine cond_split ?_ ?_ <;> intro _ <;> first | (exfalso; first | omega | (simp only [decide_eq_true_eq, decide_eq_false_iff_not, Bool.not_eq_true', Bool.not_eq_false', ne_eq, Bool.not_true, Bool.not_false, cond_true, cond_false, Bool.true_eq_false, Bool.false_eq_true, Bool.and_eq_true, Bool.and_eq_false_iff] at *; omega)) | skip) | apply guess | apply FnIs.useF (ks1) | apply FnIs.useF (ka) | exact Or.inl rfl | exact Or.inr rfl | exact Side.mk trivial | exact Side.mk (fun h => h) | exact Side.mk (fun h => ⟨h, h⟩) | with_reducible exact Side.mk rfl | with_reducible exact Side.mk ⟨rfl, rfl⟩ | with_reducible exact Side.mk (by assumption) | with_reducible rfl | intro _)
          all_goals try (conv => whnf)
          all_goals try simp only [Int.toNat_natCast]
          all_goals try (refine Side.mk ?_; first | (intros; omega) | (intro h1_ h2_; rw [h1_, h2_]; rfl) | (show List.length (_ ++ _) ≤ _; simp only [List.length_append, List.length_cons, List.length_nil, List.length_replicate, List.length_take]; omega) | (simp_all; done) | (simp_all; omega))
          all_goals try omega
          refine ⟨i + 1, by omega, by omega, ?_⟩
          repeat' ((conv => whnf); first | done | refine ev_step ?_ | refine ops_step ?_ | refine scan_step ?_ | refine draw_step ?_ | refine each_step ?_ | refine sl_step ?_ | refine hp_step ?_ | refine guard_no (by decide) ?_ | refine guard_go ?_ | refine guard_old ?_ | apply cut_auto | with_reducible exact CutS.mk (Or.inl ⟨rfl, rfl, rfl⟩) | refine CutS.mk (Or.inr (sub_auto ?_)) | exact trivial | refine And.intro ?_ ?_ | refine cond_split ?_ ?_ | apply guess | exact Or.inl rfl | exact Or.inr rfl | exact Side.mk trivial | exact Side.mk (fun h => h) | exact Side.mk (fun h => ⟨h, h⟩) | with_reducible exact Side.mk rfl | with_reducible exact Side.mk ⟨rfl, rfl⟩ | with_reducible exact Side.mk (by assumption) | with_reducible rfl | intro _)
          all_goals try (conv => whnf)
          all_goals first | rfl | omega | (rw [hk2, hs1]; done) | (rw [hl2, hs2]; done) | (rw [hk2, hW2, hnext]; done) | (rw [hW2, hnext]; done) | trace_state
    · obtain rfl : i = ns.length := by omega
      repeat' ((conv => whnf); first | done | refine ev_step ?_ | refine ops_step ?_ | refine scan_step ?_ | refine draw_step ?_ | refine each_step ?_ | refine sl_step ?_ | refine hp_step ?_ | refine guard_no (by decide) ?_ | refine guard_go ?_ | refine guard_old ?_ | apply cut_auto | with_reducible exact CutS.mk (Or.inl ⟨rfl, rfl, rfl⟩) | refine CutS.mk (Or.inr (sub_auto ?_)) | exact trivial | refine And.intro ?_ ?_ | (refine cond_split ?_ ?_ <;> intro _ <;> first | (exfalso; first | omega | (simp only [decide_eq_true_eq, decide_eq_false_iff_not, Bool.not_eq_true', Bool.not_eq_false', ne_eq, Bool.not_true, Bool.not_false, cond_true, cond_false, Bool.true_eq_false, Bool.false_eq_true, Bool.and_eq_true, Bool.and_eq_false_iff] at *; omega)) | skip) | apply guess | exact Or.inl rfl | exact Or.inr rfl | exact Side.mk trivial | exact Side.mk (fun h => h) | exact Side.mk (fun h => ⟨h, h⟩) | with_reducible exact Side.mk rfl | with_reducible exact Side.mk ⟨rfl, rfl⟩ | with_reducible exact Side.mk (by assumption) | with_reducible rfl | intro _)
      all_goals try (conv => whnf)
      all_goals try (refine Side.mk ?_; first | (intros; omega) | (intro h1_ h2_; rw [h1_, h2_]; rfl) | (show List.length (_ ++ _) ≤ _; simp only [List.length_append, List.length_cons, List.length_nil, List.length_replicate, List.length_take]; omega) | (simp_all; done) | (simp_all; omega))
      all_goals first | rfl | omega | trace_state
end Go.Sx.U
