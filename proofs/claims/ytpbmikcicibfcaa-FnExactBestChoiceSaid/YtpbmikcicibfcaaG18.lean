/-
  Chapter 8: the uses of a choice (contracts).
-/
import Derived.Test.YtpbmikcicibfcaaG17
import Derived.Test.YtpbmikcicibfcaaG16
namespace Go.Sx.U
set_option linter.unusedVariables false
set_option linter.unusedSimpArgs false
set_option maxRecDepth 100000
set_option maxHeartbeats 8000000
open Go Go.Sx Go.Proofs Go.Sx.M8

theorem k_unused (A V : List (List Int)) (h : Side (natSS A ∧ gridB A V = true)) : FnIs Try.prog 70 [.ptr 4 [] 0 0] 5 (boxG :: gridH false A V) (.agg [.sl 6 [], .sl 8 []]) 9 [(6, .flat true (.rows 5 0 A.length)), (5, .nestI true .i64 (zeroU (wN A) A.length).1), (8, .flat true (.rows 7 0 (A.length - 1))), (7, .nestI true .i64 (zeroU (wN A) A.length).2)] := by
  obtain ⟨h1, h2⟩ := h.h
  obtain ⟨g1, g2, g3⟩ := gridB_len h2
  have ks := k_sizes A V ⟨⟨h1, g1⟩⟩
  rw [wN_wd] at ks g3
  have hw1 : 1 ≤ wN A := by unfold wN; omega
  have k1 := k_filled A.length (wN A - 1) 0 ⟨by omega⟩
  have k2 := k_filled (A.length - 1) (wN A) 0 ⟨by omega⟩
  rw [show ((wN A - 1 : Nat) : Int) = (wN A : Int) - 1 by omega] at k1
  rw [show ((A.length - 1 : Nat) : Int) = (A.length : Int) - 1 by omega] at k2
  unfold zeroU
  generalize wN A = w at *
  refine fn_of_ev tok Try.func70 rfl rfl rfl ?_
  repeat' ((conv => whnf); first | done | refine ev_step ?_ | refine ops_step ?_ | refine scan_step ?_ | refine draw_step ?_ | refine each_step ?_ | refine sl_step ?_ | refine hp_step ?_ | refine guard_no (by decide) ?_ | refine guard_go ?_ | refine guard_old ?_ | apply cut_auto | with_reducible exact CutS.mk (Or.inl ⟨rfl, rfl, rfl⟩) | refine CutS.mk (Or.inr (sub_auto ?_)) | exact trivial | refine And.intro ?_ ?_ | refine cond_split ?_ ?_ | apply guess | apply FnIs.useF (ks) | refine FnIs.useE (k1) rfl ?_ | refine FnIs.useE (k2) rfl ?_ | exact Or.inl rfl | exact Or.inr rfl | exact Side.mk trivial | exact Side.mk (fun h => h) | exact Side.mk (fun h => ⟨h, h⟩) | with_reducible exact Side.mk rfl | with_reducible exact Side.mk ⟨rfl, rfl⟩ | with_reducible exact Side.mk (by assumption) | with_reducible rfl | intro _)
  all_goals try (conv => whnf)
  all_goals try (refine Side.mk ?_; first | (intros; omega) | (intro h1_ h2_; rw [h1_, h2_]; rfl) | (show List.length (_ ++ _) ≤ _; simp only [List.length_append, List.length_cons, List.length_nil, List.length_replicate, List.length_take]; omega) | (simp_all; done) | (simp_all; omega))
  all_goals first | rfl | omega | trace_state
theorem k_l08EvenU (w h : Nat) (hp : Side (1 ≤ w ∧ w ≤ 8 ∧ 1 ≤ h ∧ h ≤ 8)) : FnIs Try.prog 77 [.int .i64 w, .int .i64 h, .int .i64 0] 0 [] (.agg [.sl 1 [], .sl 3 []]) 4 [(1, .flat true (.rows 0 0 h)), (0, .nestI true .i64 (zeroU w h).1), (3, .flat true (.rows 2 0 (h - 1))), (2, .nestI true .i64 (zeroU w h).2)] := by
  have k1 := k_l08Even w h 0 hp
  unfold gridH at k1
  rw [rowsE_len, rowsE_len] at k1
  exact k1
theorem k_l00Min (a b : Int) : FnIs Try.prog 100 [.int .i64 a, .int .i64 b] 0 [] (.int .i64 (min a b)) 0 [] := by
  refine fn_of_ev tok Try.func100 rfl rfl rfl ?_
  repeat' ((conv => whnf); first | done | refine ev_step ?_ | refine ops_step ?_ | refine scan_step ?_ | refine draw_step ?_ | refine each_step ?_ | refine sl_step ?_ | refine hp_step ?_ | refine guard_no (by decide) ?_ | refine guard_go ?_ | refine guard_old ?_ | apply cut_auto | with_reducible exact CutS.mk (Or.inl ⟨rfl, rfl, rfl⟩) | refine CutS.mk (Or.inr (sub_auto ?_)) | exact trivial | refine And.intro ?_ ?_ | (refine cond_split ?_ ?_ <;> intro _ <;> first | (exfalso; first | omega | (simp only [decide_eq_true_eq, decide_eq_false_iff_not, Bool.not_eq_true', Bool.not_eq_false', ne_eq, Bool.not_true, Bool.not_false, cond_true, cond_false, Bool.true_eq_false, Bool.false_eq_true, Bool.and_eq_true, Bool.and_eq_false_iff] at *; omega)) | skip) | apply guess | exact Or.inl rfl | exact Or.inr rfl | exact Side.mk trivial | exact Side.mk (fun h => h) | exact Side.mk (fun h => ⟨h, h⟩) | with_reducible exact Side.mk rfl | with_reducible exact Side.mk ⟨rfl, rfl⟩ | with_reducible exact Side.mk (by assumption) | with_reducible rfl | intro _)
  all_goals try (conv => whnf)
  all_goals first | (simp only [decide_eq_true_eq, decide_eq_false_iff_not] at *; omega) | trace_state
theorem k_l08Use (A V : List (List Int)) (ns : List R4) (ks : List Int) (hn : Side (natSS A ∧ gridB A V = true ∧ ns.length ≤ 6 ∧ ks.length ≤ ns.length)) (hc : ChoiceOK (wN A) A.length ns ks) : FnIs Try.prog 59 [.ptr 4 [] 0 0, .sl 5 [], .sl 6 []] 7 (boxG :: (5, .flat false (.r4 ns)) :: (6, .flat false (.ints .i64 ks)) :: gridH false A V) (.agg [.sl 8 [], .sl 10 []]) 11 [(8, .flat true (.rows 7 0 A.length)), (7, .nestI true .i64 (usedT (wN A) A.length ns ks ks.length).1), (10, .flat true (.rows 9 0 (A.length - 1))), (9, .nestI true .i64 (usedT (wN A) A.length ns ks ks.length).2)] := by
  obtain ⟨h1, h2, h3, h4⟩ := hn.h
  obtain ⟨g1, g2, g3⟩ := gridB_len h2
  have kz := k_l08Size A V ⟨h1⟩
  rw [show wdS A = wd A from if_neg (by omega), wN_wd] at kz
  rw [wN_wd] at g3
  have hw1 : 1 ≤ wN A := by unfold wN; omega
  have ku := k_l08EvenU (wN A) A.length ⟨by omega⟩
  have hd := fun i hi => used_dims hc (i := i) hi
  have h0 : usedT (wN A) A.length ns ks 0 = zeroU (wN A) A.length := rfl
  have hs : ∀ i, usedT (wN A) A.length ns ks (i + 1) = useE 1 (usedT (wN A) A.length ns ks i) (shapeOf (ns.getD i default) (ks.getD i 0)) := fun i => rfl
  rw [← h0] at ku
  have hcel := hc.cel
  have hch := hc.ch
  clear hc
  generalize wN A = w at *
  refine fn_of_ev tok Try.func59 rfl rfl rfl ?_
  repeat' ((conv => whnf); first | done | refine ev_step ?_ | refine ops_step ?_ | refine scan_step ?_ | refine draw_step ?_ | refine each_step ?_ | refine sl_step ?_ | refine hp_step ?_ | refine guard_no (by decide) ?_ | refine guard_go ?_ | refine guard_old ?_ | apply cut_auto | with_reducible exact CutS.mk (Or.inl ⟨rfl, rfl, rfl⟩) | refine CutS.mk (Or.inr (sub_auto ?_)) | exact trivial | refine And.intro ?_ ?_ | refine cond_split ?_ ?_ | apply guess | apply FnIs.useF (kz) | apply FnIs.useF (ku) | exact Or.inl rfl | exact Or.inr rfl | exact Side.mk trivial | exact Side.mk (fun h => h) | exact Side.mk (fun h => ⟨h, h⟩) | with_reducible exact Side.mk rfl | with_reducible exact Side.mk ⟨rfl, rfl⟩ | with_reducible exact Side.mk (by assumption) | with_reducible rfl | intro _)
  all_goals try (conv => whnf)
  all_goals try (refine Side.mk ?_; first | (intros; omega) | (intro h1_ h2_; rw [h1_, h2_]; rfl) | (show List.length (_ ++ _) ≤ _; simp only [List.length_append, List.length_cons, List.length_nil, List.length_replicate, List.length_take]; omega) | (simp_all; done) | (simp_all; omega))
  refine loop_at (fun i : Nat => i ≤ ks.length) 13 (fun i => [(10, .int .i64 i), (11, .top), (12, .top), (13, .top), (14, .top), (15, .top)]) (fun i => [(8, .nestI true .i64 (usedT w A.length ns ks i).1), (10, .nestI true .i64 (usedT w A.length ns ks i).2)]) (fun i => ks.length - i) 0 (Nat.zero_le _) ?_ (fun i hi => ?_)
  · repeat' ((conv => whnf); first | done | refine ev_step ?_ | refine ops_step ?_ | refine scan_step ?_ | refine draw_step ?_ | refine each_step ?_ | refine sl_step ?_ | refine hp_step ?_ | refine guard_no (by decide) ?_ | refine guard_go ?_ | refine guard_old ?_ | apply cut_auto | with_reducible exact CutS.mk (Or.inl ⟨rfl, rfl, rfl⟩) | refine CutS.mk (Or.inr (sub_auto ?_)) | exact trivial | refine And.intro ?_ ?_ | refine cond_split ?_ ?_ | apply guess | exact Or.inl rfl | exact Or.inr rfl | exact Side.mk trivial | exact Side.mk (fun h => h) | exact Side.mk (fun h => ⟨h, h⟩) | with_reducible exact Side.mk rfl | with_reducible exact Side.mk ⟨rfl, rfl⟩ | with_reducible exact Side.mk (by assumption) | with_reducible rfl | intro _)
    all_goals try (conv => whnf)
    all_goals first | rfl | (simp; done) | trace_state
  · have hdi := hd i hi
    have hsi := hs i
    by_cases hlt : i < ks.length
    · have hci := hcel i (by omega)
      have hki := hch i hlt
      obtain ⟨gs, ws⟩ := shape_good hci hki
      have k1 := k_l08Shapes (ns.getD i default).a (ns.getD i default).b (ns.getD i default).c (ns.getD i default).d ⟨hci.1⟩
      have k2 := k_l01Through _ gs
      have hfew := gs.ok.few
      have hone := gs.ok.one
      unfold shapeOf shapesR at k2 hsi ws hfew hone
      unfold shapesR at hki
      unfold useE at hsi
      clear hd hs h0 hcel hch gs hci
      generalize usedT w A.length ns ks i = W at *
      generalize hW2 : usedT w A.length ns ks (i + 1) = W2 at *
      generalize shapesV (ns.getD i default).a (ns.getD i default).b (ns.getD i default).c (ns.getD i default).d = S at *
      generalize hkk : ks.getD i 0 = kk at *
      generalize pathL (S.getD kk.toNat []) = P at *
      repeat' ((conv => whnf); first | done | refine ev_step ?_ | refine ops_step ?_ | refine scan_step ?_ | refine draw_step ?_ | refine each_step ?_ | refine sl_step ?_ | refine hp_step ?_ | refine guard_no (by decide) ?_ | refine guard_go ?_ | refine guard_old ?_ | apply cut_auto | with_reducible exact CutS.mk (Or.inl ⟨rfl, rfl, rfl⟩) | refine CutS.mk (Or.inr (sub_auto ?_)) | exact trivial | refine And.intro ?_ ?_ | (refine cond_split ?_ ?_ <;> intro _ <;> first | (exfalso; first | omega | (simp only [decide_eq_true_eq, decide_eq_false_iff_not, Bool.not_eq_true', Bool.not_eq_false', ne_eq, Bool.not_true, Bool.not_false, cond_true, cond_false, Bool.true_eq_false, Bool.false_eq_true, Bool.and_eq_true, Bool.and_eq_false_iff] at *; omega)) | skip) | apply guess | apply FnIs.useF (k1) | apply FnIs.useF (k2) | exact Or.inl rfl | exact Or.inr rfl | exact Side.mk trivial | exact Side.mk (fun h => h) | exact Side.mk (fun h => ⟨h, h⟩) | with_reducible exact Side.mk rfl | with_reducible exact Side.mk ⟨rfl, rfl⟩ | with_reducible exact Side.mk (by assumption) | with_reducible rfl | intro _)
      all_goals try (conv => whnf)
      all_goals try simp only [Int.toNat_natCast, hkk] at *
      all_goals try (refine Side.mk ?_; first | (intros; omega) | (intro h1_ h2_; rw [h1_, h2_]; rfl) | (show List.length (_ ++ _) ≤ _; simp only [List.length_append, List.length_cons, List.length_nil, List.length_replicate, List.length_take]; omega) | (simp_all; done) | (simp_all; omega))
      all_goals try omega
      have hdk : ∀ k, k + 1 ≤ P.length → Dims w A.length (576 * i + (k : Nat)) (walkE 1 W P k) := fun k hk => walk_dims hdi ws (.inl rfl) k hk
      have hst : ∀ k, walkE 1 W P (k + 1) = stepE 1 (walkE 1 W P k) (P.getD k default) (P.getD (k + 1) default) := fun k => rfl
      refine loop_at (fun k : Nat => k + 1 ≤ P.length) 17 (fun k => [(13, .int .i64 k), (14, .top), (15, .top)]) (fun k => [(8, .nestI true .i64 (walkE 1 W P k).1), (10, .nestI true .i64 (walkE 1 W P k).2)]) (fun k => P.length - k) 0 (by omega) ?_ (fun k hk => ?_)
      · repeat' ((conv => whnf); first | done | refine ev_step ?_ | refine ops_step ?_ | refine scan_step ?_ | refine draw_step ?_ | refine each_step ?_ | refine sl_step ?_ | refine hp_step ?_ | refine guard_no (by decide) ?_ | refine guard_go ?_ | refine guard_old ?_ | apply cut_auto | with_reducible exact CutS.mk (Or.inl ⟨rfl, rfl, rfl⟩) | refine CutS.mk (Or.inr (sub_auto ?_)) | exact trivial | refine And.intro ?_ ?_ | refine cond_split ?_ ?_ | apply guess | exact Or.inl rfl | exact Or.inr rfl | exact Side.mk trivial | exact Side.mk (fun h => h) | exact Side.mk (fun h => ⟨h, h⟩) | with_reducible exact Side.mk rfl | with_reducible exact Side.mk ⟨rfl, rfl⟩ | with_reducible exact Side.mk (by assumption) | with_reducible rfl | intro _)
        all_goals try (conv => whnf)
        all_goals first | rfl | (simp; done) | trace_state
      · have hdj := hdk k hk
        have hsk := hst k
        by_cases hkt : k + 1 < P.length
        · have f1 : ((k : Int) + 1).toNat = k + 1 := by omega
          have hp := ws.1 k (by omega)
          have hq := ws.1 (k + 1) (by omega)
          have hc := step_at hp hq (ws.2 k (by omega))
          clear hdk hst
          generalize walkE 1 W P k = Z at *
          generalize hZ2 : walkE 1 W P (k + 1) = Z2 at *
          generalize hpe : P.getD k default = p at *
          generalize hqe : P.getD (k + 1) default = q at *
          have hqf : P.getD ((k : Int) + 1).toNat default = q := by rw [f1]; exact hqe
          have kx : FnIs Try.prog 100 [.int .i64 (P.getD k default).a, .int .i64 (P.getD ((k : Int) + 1).toNat default).a] 0 [] (.int .i64 (min p.a q.a)) 0 [] := by rw [hqf, hpe]; exact k_l00Min _ _
          have ky : FnIs Try.prog 100 [.int .i64 (P.getD k default).b, .int .i64 (P.getD ((k : Int) + 1).toNat default).b] 0 [] (.int .i64 (min p.b q.b)) 0 [] := by rw [hqf, hpe]; exact k_l00Min _ _
          unfold M8.inG at hp hq
          rcases hc with ⟨q1, q2, q3, _⟩ | ⟨q1, q0, q2, q3⟩
          · have hb := hdj.a.bd _ q2 _ q3
            have hr := hdj.a.each _ q2
            have hle := hdj.a.len
            rw [stepE, if_pos q1] at hsk
            rw [show min p.b q.b = p.b by omega] at ky
            have hcd : decide ((P.getD k default).b = (P.getD ((k : Int) + 1).toNat default).b) = true := by rw [hqf, hpe]; exact decide_eq_true q1
            have hin : inI64 ((Z.1.getD p.b.toNat []).getD (min p.a q.a).toNat 0 + 1) := by omega
            repeat' ((conv => whnf); first | done | refine ev_step ?_ | refine ops_step ?_ | refine scan_step ?_ | refine draw_step ?_ | refine each_step ?_ | refine sl_step ?_ | refine hp_step ?_ | refine guard_no (by decide) ?_ | refine guard_go ?_ | refine guard_old ?_ | apply cut_auto | with_reducible exact CutS.mk (Or.inl ⟨rfl, rfl, rfl⟩) | refine CutS.mk (Or.inr (sub_auto ?_)) | exact trivial | refine And.intro ?_ ?_ | (refine cond_split ?_ ?_ <;> intro hq_ <;> first | (exfalso; first | omega | (simp only [hcd, cond_true, cond_false, Bool.not_true, Bool.not_false, Bool.and_true, Bool.true_and, Bool.and_false, Bool.false_and, Bool.or_true, Bool.true_or, Bool.or_false, Bool.false_or, Bool.true_eq_false, Bool.false_eq_true, decide_true, decide_false, reduceCtorEq] at hq_; done) | (rw [decide_eq_false_iff_not] at hq_; omega) | (rw [decide_eq_true_eq] at hq_; omega) | (simp only [hcd, reduceCtorEq] at hq_; done) | exact Bool.noConfusion (Eq.trans (Eq.symm hcd) hq_)) | skip) | apply guess | refine FnIs.useE (kx) rfl ?_ | refine FnIs.useE (ky) rfl ?_ | exact Or.inl rfl | exact Or.inr rfl | exact Side.mk trivial | exact Side.mk (fun h => h) | exact Side.mk (fun h => ⟨h, h⟩) | with_reducible exact Side.mk rfl | with_reducible exact Side.mk ⟨rfl, rfl⟩ | with_reducible exact Side.mk (by assumption) | with_reducible rfl | intro _)
            all_goals try (conv => whnf)
            all_goals try simp only [Int.toNat_natCast] at *
            all_goals try (refine Side.mk ?_; first | (intros; omega) | (intro h1_ h2_; rw [h1_, h2_]; rfl) | (show List.length (_ ++ _) ≤ _; simp only [List.length_append, List.length_cons, List.length_nil, List.length_replicate, List.length_take]; omega) | (simp_all; done) | (simp_all; omega))
            all_goals try omega
            refine ⟨k + 1, by omega, by omega, ?_⟩
            repeat' ((conv => whnf); first | done | refine ev_step ?_ | refine ops_step ?_ | refine scan_step ?_ | refine draw_step ?_ | refine each_step ?_ | refine sl_step ?_ | refine hp_step ?_ | refine guard_no (by decide) ?_ | refine guard_go ?_ | refine guard_old ?_ | apply cut_auto | with_reducible exact CutS.mk (Or.inl ⟨rfl, rfl, rfl⟩) | refine CutS.mk (Or.inr (sub_auto ?_)) | exact trivial | refine And.intro ?_ ?_ | refine cond_split ?_ ?_ | apply guess | exact Or.inl rfl | exact Or.inr rfl | exact Side.mk trivial | exact Side.mk (fun h => h) | exact Side.mk (fun h => ⟨h, h⟩) | with_reducible exact Side.mk rfl | with_reducible exact Side.mk ⟨rfl, rfl⟩ | with_reducible exact Side.mk (by assumption) | with_reducible rfl | intro _)
            all_goals try (conv => whnf)
            all_goals first | rfl | omega | (rw [hZ2, hsk]; rfl) | (rw [hZ2, hsk]; done) | trace_state
          · have hb := hdj.u.bd _ q2 _ q3
            have hr := hdj.u.each _ q2
            have hle := hdj.u.len
            rw [stepE, if_neg q1] at hsk
            rw [show min p.a q.a = p.a by omega] at kx
            have hcd : decide ((P.getD k default).b = (P.getD ((k : Int) + 1).toNat default).b) = false := by rw [hqf, hpe]; exact decide_eq_false q1
            have hin : inI64 ((Z.2.getD (min p.b q.b).toNat []).getD p.a.toNat 0 + 1) := by omega
            repeat' ((conv => whnf); first | done | refine ev_step ?_ | refine ops_step ?_ | refine scan_step ?_ | refine draw_step ?_ | refine each_step ?_ | refine sl_step ?_ | refine hp_step ?_ | refine guard_no (by decide) ?_ | refine guard_go ?_ | refine guard_old ?_ | apply cut_auto | with_reducible exact CutS.mk (Or.inl ⟨rfl, rfl, rfl⟩) | refine CutS.mk (Or.inr (sub_auto ?_)) | exact trivial | refine And.intro ?_ ?_ | (refine cond_split ?_ ?_ <;> intro hq_ <;> first | (exfalso; first | omega | (simp only [hcd, cond_true, cond_false, Bool.not_true, Bool.not_false, Bool.and_true, Bool.true_and, Bool.and_false, Bool.false_and, Bool.or_true, Bool.true_or, Bool.or_false, Bool.false_or, Bool.true_eq_false, Bool.false_eq_true, decide_true, decide_false, reduceCtorEq] at hq_; done) | (rw [decide_eq_false_iff_not] at hq_; omega) | (rw [decide_eq_true_eq] at hq_; omega) | (simp only [hcd, reduceCtorEq] at hq_; done) | exact Bool.noConfusion (Eq.trans (Eq.symm hcd) hq_)) | skip) | apply guess | refine FnIs.useE (kx) rfl ?_ | refine FnIs.useE (ky) rfl ?_ | exact Or.inl rfl | exact Or.inr rfl | exact Side.mk trivial | exact Side.mk (fun h => h) | exact Side.mk (fun h => ⟨h, h⟩) | with_reducible exact Side.mk rfl | with_reducible exact Side.mk ⟨rfl, rfl⟩ | with_reducible exact Side.mk (by assumption) | with_reducible rfl | intro _)
            all_goals try (conv => whnf)
            all_goals try simp only [Int.toNat_natCast] at *
            all_goals try (refine Side.mk ?_; first | (intros; omega) | (intro h1_ h2_; rw [h1_, h2_]; rfl) | (show List.length (_ ++ _) ≤ _; simp only [List.length_append, List.length_cons, List.length_nil, List.length_replicate, List.length_take]; omega) | (simp_all; done) | (simp_all; omega))
            all_goals try omega
            refine ⟨k + 1, by omega, by omega, ?_⟩
            repeat' ((conv => whnf); first | done | refine ev_step ?_ | refine ops_step ?_ | refine scan_step ?_ | refine draw_step ?_ | refine each_step ?_ | refine sl_step ?_ | refine hp_step ?_ | refine guard_no (by decide) ?_ | refine guard_go ?_ | refine guard_old ?_ | apply cut_auto | with_reducible exact CutS.mk (Or.inl ⟨rfl, rfl, rfl⟩) | refine CutS.mk (Or.inr (sub_auto ?_)) | exact trivial | refine And.intro ?_ ?_ | refine cond_split ?_ ?_ | apply guess | exact Or.inl rfl | exact Or.inr rfl | exact Side.mk trivial | exact Side.mk (fun h => h) | exact Side.mk (fun h => ⟨h, h⟩) | with_reducible exact Side.mk rfl | with_reducible exact Side.mk ⟨rfl, rfl⟩ | with_reducible exact Side.mk (by assumption) | with_reducible rfl | intro _)
            all_goals try (conv => whnf)
            all_goals first | rfl | omega | (rw [hZ2, hsk]; rfl) | (rw [hZ2, hsk]; done) | trace_state
        · obtain rfl : k = P.length - 1 := by omega
          repeat' ((conv => whnf); first | done | refine ev_step ?_ | refine ops_step ?_ | refine scan_step ?_ | refine draw_step ?_ | refine each_step ?_ | refine sl_step ?_ | refine hp_step ?_ | refine guard_no (by decide) ?_ | refine guard_go ?_ | refine guard_old ?_ | apply cut_auto | with_reducible exact CutS.mk (Or.inl ⟨rfl, rfl, rfl⟩) | refine CutS.mk (Or.inr (sub_auto ?_)) | exact trivial | refine And.intro ?_ ?_ | (refine cond_split ?_ ?_ <;> intro _ <;> first | (exfalso; first | omega | (simp only [decide_eq_true_eq, decide_eq_false_iff_not, Bool.not_eq_true', Bool.not_eq_false', ne_eq, Bool.not_true, Bool.not_false, cond_true, cond_false, Bool.true_eq_false, Bool.false_eq_true, Bool.and_eq_true, Bool.and_eq_false_iff] at *; omega)) | skip) | apply guess | exact Or.inl rfl | exact Or.inr rfl | exact Side.mk trivial | exact Side.mk (fun h => h) | exact Side.mk (fun h => ⟨h, h⟩) | with_reducible exact Side.mk rfl | with_reducible exact Side.mk ⟨rfl, rfl⟩ | with_reducible exact Side.mk (by assumption) | with_reducible rfl | intro _)
          all_goals try (conv => whnf)
          all_goals try (refine Side.mk ?_; first | (intros; omega) | (intro h1_ h2_; rw [h1_, h2_]; rfl) | (show List.length (_ ++ _) ≤ _; simp only [List.length_append, List.length_cons, List.length_nil, List.length_replicate, List.length_take]; omega) | (simp_all; done) | (simp_all; omega))
          all_goals try omega
          refine ⟨i + 1, by omega, by omega, ?_⟩
          repeat' ((conv => whnf); first | done | refine ev_step ?_ | refine ops_step ?_ | refine scan_step ?_ | refine draw_step ?_ | refine each_step ?_ | refine sl_step ?_ | refine hp_step ?_ | refine guard_no (by decide) ?_ | refine guard_go ?_ | refine guard_old ?_ | apply cut_auto | with_reducible exact CutS.mk (Or.inl ⟨rfl, rfl, rfl⟩) | refine CutS.mk (Or.inr (sub_auto ?_)) | exact trivial | refine And.intro ?_ ?_ | refine cond_split ?_ ?_ | apply guess | exact Or.inl rfl | exact Or.inr rfl | exact Side.mk trivial | exact Side.mk (fun h => h) | exact Side.mk (fun h => ⟨h, h⟩) | with_reducible exact Side.mk rfl | with_reducible exact Side.mk ⟨rfl, rfl⟩ | with_reducible exact Side.mk (by assumption) | with_reducible rfl | intro _)
          all_goals try (conv => whnf)
          all_goals first | rfl | omega | (rw [hW2, hsi]; done) | trace_state
    · obtain rfl : i = ks.length := by omega
      repeat' ((conv => whnf); first | done | refine ev_step ?_ | refine ops_step ?_ | refine scan_step ?_ | refine draw_step ?_ | refine each_step ?_ | refine sl_step ?_ | refine hp_step ?_ | refine guard_no (by decide) ?_ | refine guard_go ?_ | refine guard_old ?_ | apply cut_auto | with_reducible exact CutS.mk (Or.inl ⟨rfl, rfl, rfl⟩) | refine CutS.mk (Or.inr (sub_auto ?_)) | exact trivial | refine And.intro ?_ ?_ | (refine cond_split ?_ ?_ <;> intro _ <;> first | (exfalso; first | omega | (simp only [decide_eq_true_eq, decide_eq_false_iff_not, Bool.not_eq_true', Bool.not_eq_false', ne_eq, Bool.not_true, Bool.not_false, cond_true, cond_false, Bool.true_eq_false, Bool.false_eq_true, Bool.and_eq_true, Bool.and_eq_false_iff] at *; omega)) | skip) | apply guess | exact Or.inl rfl | exact Or.inr rfl | exact Side.mk trivial | exact Side.mk (fun h => h) | exact Side.mk (fun h => ⟨h, h⟩) | with_reducible exact Side.mk rfl | with_reducible exact Side.mk ⟨rfl, rfl⟩ | with_reducible exact Side.mk (by assumption) | with_reducible rfl | intro _)
      all_goals try (conv => whnf)
      all_goals try (refine Side.mk ?_; first | (intros; omega) | (intro h1_ h2_; rw [h1_, h2_]; rfl) | (show List.length (_ ++ _) ≤ _; simp only [List.length_append, List.length_cons, List.length_nil, List.length_replicate, List.length_take]; omega) | (simp_all; done) | (simp_all; omega))
      all_goals first | rfl | omega | trace_state
end Go.Sx.U
