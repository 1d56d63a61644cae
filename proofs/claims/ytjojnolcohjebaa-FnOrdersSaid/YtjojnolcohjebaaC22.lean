/-
  Chapter 10: the program's best order, and its best order between two wires.
-/
import Derived.Test.YtjojnolcohjebaaC21
import Derived.Test.YtjojnolcohjebaaC15A
namespace Go.Sx.U
set_option linter.unusedVariables false
set_option linter.unusedSimpArgs false
set_option maxRecDepth 100000
set_option maxHeartbeats 8000000
open Go Go.Sx Go.Proofs Go.Sx.M0

theorem k_wires (W : List (List Int)) (hW : W.length ≤ 9) : FnIs Try.prog 72 [.ptr 0 [] 0 0] 3 [(0, .flat false (.gen 1 [[.sl 2 []]])), (2, .flat false (.rows 1 0 W.length)), (1, .nestI false .i64 W)] (.sl 3 []) 4 [(3, .flat true (.ints .i64 (natL (List.range W.length))))] := by
  refine fn_of_ev tok Try.func72 rfl rfl rfl ?_
  repeat' ((conv => whnf); first | done | refine ev_step ?_ | refine ops_step ?_ | refine scan_step ?_ | refine draw_step ?_ | refine each_step ?_ | refine sl_step ?_ | refine hp_step ?_ | refine guard_no (by decide) ?_ | refine guard_go ?_ | refine guard_old ?_ | apply cut_auto | with_reducible exact CutS.mk (Or.inl ⟨rfl, rfl, rfl⟩) | refine CutS.mk (Or.inr (sub_auto ?_)) | exact trivial | refine And.intro ?_ ?_ | (refine cond_split ?_ ?_ <;> intro _ <;> first | (exfalso; first | omega | (simp only [decide_eq_true_eq, decide_eq_false_iff_not, Bool.not_eq_true', Bool.not_eq_false', ne_eq, Bool.not_true, Bool.not_false, cond_true, cond_false, Bool.true_eq_false, Bool.false_eq_true, Bool.and_eq_true, Bool.and_eq_false_iff] at *; omega)) | skip) | apply guess | exact Or.inl rfl | exact Or.inr rfl | exact Side.mk trivial | exact Side.mk (fun h => h) | exact Side.mk (fun h => ⟨h, h⟩) | with_reducible exact Side.mk rfl | with_reducible exact Side.mk ⟨rfl, rfl⟩ | with_reducible exact Side.mk (by assumption) | with_reducible rfl | intro _)
  all_goals try (conv => whnf)
  all_goals try (refine Side.mk ?_; first | (intros; omega) | (intro h1_ h2_; rw [h1_, h2_]; rfl) | (show List.length (_ ++ _) ≤ _; simp only [List.length_append, List.length_cons, List.length_nil, List.length_replicate, List.length_take]; omega) | (simp_all; done) | (simp_all; omega))
  refine loop_at (fun j : Nat => j ≤ W.length) 4 (fun j => [(11, .int .i64 j), (3, .sl 3 []), (4, .top), (5, .top), (12, .top), (13, .top), (14, .top), (15, .top), (16, .top), (17, .top), (18, .top)]) (fun j => [(3, .flat true (.ints .i64 (natL (List.range j))))]) (fun j => W.length - j) 0 (Nat.zero_le _) ?_ (fun j hj => ?_)
  · repeat' ((conv => whnf); first | done | refine ev_step ?_ | refine ops_step ?_ | refine scan_step ?_ | refine draw_step ?_ | refine each_step ?_ | refine sl_step ?_ | refine hp_step ?_ | refine guard_no (by decide) ?_ | refine guard_go ?_ | refine guard_old ?_ | apply cut_auto | with_reducible exact CutS.mk (Or.inl ⟨rfl, rfl, rfl⟩) | refine CutS.mk (Or.inr (sub_auto ?_)) | exact trivial | refine And.intro ?_ ?_ | refine cond_split ?_ ?_ | apply guess | exact Or.inl rfl | exact Or.inr rfl | exact Side.mk trivial | exact Side.mk (fun h => h) | exact Side.mk (fun h => ⟨h, h⟩) | with_reducible exact Side.mk rfl | with_reducible exact Side.mk ⟨rfl, rfl⟩ | with_reducible exact Side.mk (by assumption) | with_reducible rfl | intro _)
    all_goals try (conv => whnf)
    all_goals first | rfl | trace_state
  · have hl : (natL (List.range j)).length = j := by rw [natL_len, List.length_range]
    have hs : natL (List.range (j + 1)) = natL (List.range j) ++ [(j : Int)] := by rw [List.range_succ, natL_snoc]
    by_cases hj2 : j < W.length
    · repeat' ((conv => whnf); first | done | refine ev_step ?_ | refine ops_step ?_ | refine scan_step ?_ | refine draw_step ?_ | refine each_step ?_ | refine sl_step ?_ | refine hp_step ?_ | refine guard_no (by decide) ?_ | refine guard_go ?_ | refine guard_old ?_ | apply cut_auto | with_reducible exact CutS.mk (Or.inl ⟨rfl, rfl, rfl⟩) | refine CutS.mk (Or.inr (sub_auto ?_)) | exact trivial | refine And.intro ?_ ?_ | (refine cond_split ?_ ?_ <;> intro _ <;> first | (exfalso; first | omega | (simp only [decide_eq_true_eq, decide_eq_false_iff_not, Bool.not_eq_true', Bool.not_eq_false', ne_eq, Bool.not_true, Bool.not_false, cond_true, cond_false, Bool.true_eq_false, Bool.false_eq_true, Bool.and_eq_true, Bool.and_eq_false_iff] at *; omega)) | skip) | apply guess | exact Or.inl rfl | exact Or.inr rfl | exact Side.mk trivial | exact Side.mk (fun h => h) | exact Side.mk (fun h => ⟨h, h⟩) | with_reducible exact Side.mk rfl | with_reducible exact Side.mk ⟨rfl, rfl⟩ | with_reducible exact Side.mk (by assumption) | with_reducible rfl | intro _)
      all_goals try (conv => whnf)
      all_goals try (refine Side.mk ?_; first | (intros; omega) | (intro h1_ h2_; rw [h1_, h2_]; rfl) | (show List.length (_ ++ _) ≤ _; simp only [List.length_append, List.length_cons, List.length_nil, List.length_replicate, List.length_take]; omega) | (simp_all; done) | (simp_all; omega))
      all_goals try omega
      refine ⟨j + 1, by omega, by omega, ?_⟩
      repeat' ((conv => whnf); first | done | refine ev_step ?_ | refine ops_step ?_ | refine scan_step ?_ | refine draw_step ?_ | refine each_step ?_ | refine sl_step ?_ | refine hp_step ?_ | refine guard_no (by decide) ?_ | refine guard_go ?_ | refine guard_old ?_ | apply cut_auto | with_reducible exact CutS.mk (Or.inl ⟨rfl, rfl, rfl⟩) | refine CutS.mk (Or.inr (sub_auto ?_)) | exact trivial | refine And.intro ?_ ?_ | refine cond_split ?_ ?_ | apply guess | exact Or.inl rfl | exact Or.inr rfl | exact Side.mk trivial | exact Side.mk (fun h => h) | exact Side.mk (fun h => ⟨h, h⟩) | with_reducible exact Side.mk rfl | with_reducible exact Side.mk ⟨rfl, rfl⟩ | with_reducible exact Side.mk (by assumption) | with_reducible rfl | intro _)
      all_goals try (conv => whnf)
      all_goals first | rfl | omega | (rw [hs]; done) | (rw [hs]; rfl) | trace_state
    · obtain rfl : j = W.length := by omega
      repeat' ((conv => whnf); first | done | refine ev_step ?_ | refine ops_step ?_ | refine scan_step ?_ | refine draw_step ?_ | refine each_step ?_ | refine sl_step ?_ | refine hp_step ?_ | refine guard_no (by decide) ?_ | refine guard_go ?_ | refine guard_old ?_ | apply cut_auto | with_reducible exact CutS.mk (Or.inl ⟨rfl, rfl, rfl⟩) | refine CutS.mk (Or.inr (sub_auto ?_)) | exact trivial | refine And.intro ?_ ?_ | (refine cond_split ?_ ?_ <;> intro _ <;> first | (exfalso; first | omega | (simp only [decide_eq_true_eq, decide_eq_false_iff_not, Bool.not_eq_true', Bool.not_eq_false', ne_eq, Bool.not_true, Bool.not_false, cond_true, cond_false, Bool.true_eq_false, Bool.false_eq_true, Bool.and_eq_true, Bool.and_eq_false_iff] at *; omega)) | skip) | apply guess | exact Or.inl rfl | exact Or.inr rfl | exact Side.mk trivial | exact Side.mk (fun h => h) | exact Side.mk (fun h => ⟨h, h⟩) | with_reducible exact Side.mk rfl | with_reducible exact Side.mk ⟨rfl, rfl⟩ | with_reducible exact Side.mk (by assumption) | with_reducible rfl | intro _)
      all_goals try (conv => whnf)
      all_goals try (refine Side.mk ?_; first | (intros; omega) | (intro h1_ h2_; rw [h1_, h2_]; rfl) | (show List.length (_ ++ _) ≤ _; simp only [List.length_append, List.length_cons, List.length_nil, List.length_replicate, List.length_take]; omega) | (simp_all; done) | (simp_all; omega))
      all_goals first | rfl | omega | trace_state
theorem bo_cond (W : List (List Int)) (c : Int) : (bif !okB W then true else !(decide (0 ≤ c) && decide (c ≤ (W.length : Int) - 1))) = !decide (boP W c) := by
  have e : decide (boP W c) = (okB W && (decide (0 ≤ c) && decide (c ≤ (W.length : Int) - 1))) := by
    rw [Bool.eq_iff_iff]; simp [okB]
  rw [e]
  cases okB W <;> cases decide (0 ≤ c) <;> cases decide (c ≤ (W.length : Int) - 1) <;> rfl
theorem k_BestOrder_no (W : List (List Int)) (c : Int) (h : Side (W.length ≤ 1048577)) (hx : ¬ boP W c) : FnIs Try.prog 32 [.agg [.sl 1 []], .int .i64 c] 2 [(1, .flat false (.rows 0 0 W.length)), (0, .nestI false .i64 W)] (.tuple [.nilsl, .int .i64 0, .bool false]) 2 [] := by
  have hl := h.h
  have k1 := k_ValidBundle W h
  have k2 := k_in c 0 ((W.length : Int) - 1)
  have hc := bo_cond W c
  rw [decide_eq_false hx] at hc
  refine fn_of_ev tok Try.func32 rfl rfl rfl ?_
  repeat' ((conv => whnf); first | done | refine ev_step ?_ | refine ops_step ?_ | refine scan_step ?_ | refine draw_step ?_ | refine each_step ?_ | refine sl_step ?_ | refine hp_step ?_ | refine guard_no (by decide) ?_ | refine guard_go ?_ | refine guard_old ?_ | apply cut_auto | with_reducible exact CutS.mk (Or.inl ⟨rfl, rfl, rfl⟩) | refine CutS.mk (Or.inr (sub_auto ?_)) | exact trivial | refine And.intro ?_ ?_ | (refine cond_split ?_ ?_ <;> intro hq_ <;> first | (exfalso; first | omega | (simp only [hc, cond_true, cond_false, Bool.not_true, Bool.not_false, Bool.and_true, Bool.true_and, Bool.and_false, Bool.false_and, Bool.or_true, Bool.true_or, Bool.or_false, Bool.false_or, Bool.true_eq_false, Bool.false_eq_true, decide_true, decide_false, reduceCtorEq] at hq_; done) | (rw [decide_eq_false_iff_not] at hq_; omega) | (rw [decide_eq_true_eq] at hq_; omega) | (simp only [hc, reduceCtorEq] at hq_; done) | exact Bool.noConfusion (Eq.trans (Eq.symm hc) hq_)) | skip) | apply guess | apply FnIs.useF (k1) | apply FnIs.useS (k2) | exact Or.inl rfl | exact Or.inr rfl | exact Side.mk trivial | exact Side.mk (fun h => h) | exact Side.mk (fun h => ⟨h, h⟩) | with_reducible exact Side.mk rfl | with_reducible exact Side.mk ⟨rfl, rfl⟩ | with_reducible exact Side.mk (by assumption) | with_reducible rfl | intro _)
  all_goals try (conv => whnf)
  all_goals try (refine Side.mk ?_; first | (intros; omega) | (intro h1_ h2_; rw [h1_, h2_]; rfl) | (show List.length (_ ++ _) ≤ _; simp only [List.length_append, List.length_cons, List.length_nil, List.length_replicate, List.length_take]; omega) | (simp_all; done) | (simp_all; omega))
  all_goals first | rfl | omega | trace_state
theorem k_BestOrder (W : List (List Int)) (c : Int) (h : Side (W.length ≤ 1048577)) (hx : boP W c) : FnIs Try.prog 32 [.agg [.sl 1 []], .int .i64 c] 2 [(1, .flat false (.rows 0 0 W.length)), (0, .nestI false .i64 W)] (.tuple [.sl 2 [], .int .i64 (begL W (-1) c.toNat (-1)), .bool true]) 3 [(2, .flat true (.ints .i64 (folO W (-1) c.toNat (-1))))] := by
  have hl := h.h
  have k1 := k_ValidBundle W h
  have k2 := k_in c 0 ((W.length : Int) - 1)
  have hc := bo_cond W c
  rw [decide_eq_true hx] at hc
  have hn := hx.1.1
  have k3 := k_wires W hn.2
  have k4 := k_order W hx.1 (-1) c.toNat (-1) (List.range W.length) 0 [] (by omega) (bo_nn hx) (fun x hx => (List.not_mem_nil hx).elim) (by rw [List.length_range]; omega)
    (fun i hi => by rw [List.length_range] at hi; simp [List.getD, hi])
    (fun v => ⟨fun h => ⟨v, by rw [List.length_range]; exact h.1, by simp [List.getD, h.1]⟩, fun ⟨i, hi, he⟩ => by
      rw [List.length_range] at hi
      have : i = v := by simpa [List.getD, hi] using he
      exact ⟨by omega, by omega⟩⟩)
    (fun i j hij hj => by
      rw [List.length_range] at hj
      have hi : i < W.length := by omega
      simp [List.getD, hj, hi]
      exact hij)
  rw [show ((c.toNat : Nat) : Int) = c by omega] at k4
  generalize folO W (-1) c.toNat (-1) = q at k4 ⊢
  generalize begL W (-1) c.toNat (-1) = v at k4 ⊢
  refine fn_of_ev tok Try.func32 rfl rfl rfl ?_
  repeat' ((conv => whnf); first | done | refine ev_step ?_ | refine ops_step ?_ | refine scan_step ?_ | refine draw_step ?_ | refine each_step ?_ | refine sl_step ?_ | refine hp_step ?_ | refine guard_no (by decide) ?_ | refine guard_go ?_ | refine guard_old ?_ | apply cut_auto | with_reducible exact CutS.mk (Or.inl ⟨rfl, rfl, rfl⟩) | refine CutS.mk (Or.inr (sub_auto ?_)) | exact trivial | refine And.intro ?_ ?_ | (refine cond_split ?_ ?_ <;> intro hq_ <;> first | (exfalso; first | omega | (simp only [hc, cond_true, cond_false, Bool.not_true, Bool.not_false, Bool.and_true, Bool.true_and, Bool.and_false, Bool.false_and, Bool.or_true, Bool.true_or, Bool.or_false, Bool.false_or, Bool.true_eq_false, Bool.false_eq_true, decide_true, decide_false, reduceCtorEq] at hq_; done) | (rw [decide_eq_false_iff_not] at hq_; omega) | (rw [decide_eq_true_eq] at hq_; omega) | (simp only [hc, reduceCtorEq] at hq_; done) | exact Bool.noConfusion (Eq.trans (Eq.symm hc) hq_)) | skip) | apply guess | apply FnIs.useF (k1) | apply FnIs.useS (k2) | apply FnIs.useF (k3) | apply FnEx.useF (k4) | exact Or.inl rfl | exact Or.inr rfl | exact Side.mk trivial | exact Side.mk (fun h => h) | exact Side.mk (fun h => ⟨h, h⟩) | with_reducible exact Side.mk rfl | with_reducible exact Side.mk ⟨rfl, rfl⟩ | with_reducible exact Side.mk (by assumption) | with_reducible rfl | intro _)
  all_goals try (conv => whnf)
  all_goals try (refine Side.mk ?_; first | (intros; omega) | (intro h1_ h2_; rw [h1_, h2_]; rfl) | (show List.length (_ ++ _) ≤ _; simp only [List.length_append, List.length_cons, List.length_nil, List.length_replicate, List.length_take]; omega) | (simp_all; done) | (simp_all; omega))
  all_goals first | rfl | omega | trace_state
theorem bb_cond2 (W : List (List Int)) (f l : Int) : (bif bif bif !okB W then true else !(decide (0 ≤ f) && decide (f ≤ (W.length : Int) - 1)) then true else !(decide (0 ≤ l) && decide (l ≤ (W.length : Int) - 1)) then true else !(decide (f = l) == decide ((W.length : Int) - 1 = 0))) = !decide (bbP W f l) := by
  have e : decide (bbP W f l) = (okB W && ((decide (0 ≤ f) && decide (f ≤ (W.length : Int) - 1)) && ((decide (0 ≤ l) && decide (l ≤ (W.length : Int) - 1)) && decide (f = l ↔ W.length = 1)))) := by
    rw [Bool.eq_iff_iff]; simp [okB]
  have e2 : (decide (f = l) == decide ((W.length : Int) - 1 = 0)) = decide (f = l ↔ W.length = 1) := by
    have : (W.length : Int) - 1 = 0 ↔ W.length = 1 := by omega
    by_cases h1 : f = l <;> by_cases h2 : W.length = 1 <;> simp [h1, h2, this]
  rw [e, e2]
  cases okB W <;> cases decide (0 ≤ f) <;> cases decide (f ≤ (W.length : Int) - 1) <;> cases decide (0 ≤ l) <;> cases decide (l ≤ (W.length : Int) - 1) <;> rfl
theorem k_Between_no (W : List (List Int)) (f l : Int) (h : Side (W.length ≤ 1048577)) (hx : ¬ bbP W f l) : FnIs Try.prog 30 [.agg [.sl 1 []], .int .i64 f, .int .i64 l] 2 [(1, .flat false (.rows 0 0 W.length)), (0, .nestI false .i64 W)] (.tuple [.nilsl, .int .i64 0, .bool false]) 2 [] := by
  have hl := h.h
  have k1 := k_ValidBundle W h
  have hc := bb_cond2 W f l
  rw [decide_eq_false hx] at hc
  refine fn_of_ev tok Try.func30 rfl rfl rfl ?_
  repeat' ((conv => whnf); first | done | refine ev_step ?_ | refine ops_step ?_ | refine scan_step ?_ | refine draw_step ?_ | refine each_step ?_ | refine sl_step ?_ | refine hp_step ?_ | refine guard_no (by decide) ?_ | refine guard_go ?_ | refine guard_old ?_ | apply cut_auto | with_reducible exact CutS.mk (Or.inl ⟨rfl, rfl, rfl⟩) | refine CutS.mk (Or.inr (sub_auto ?_)) | exact trivial | refine And.intro ?_ ?_ | (refine cond_split ?_ ?_ <;> intro hq_ <;> first | (exfalso; first | omega | (simp only [hc, cond_true, cond_false, Bool.not_true, Bool.not_false, Bool.and_true, Bool.true_and, Bool.and_false, Bool.false_and, Bool.or_true, Bool.true_or, Bool.or_false, Bool.false_or, Bool.true_eq_false, Bool.false_eq_true, decide_true, decide_false, reduceCtorEq] at hq_; done) | (rw [decide_eq_false_iff_not] at hq_; omega) | (rw [decide_eq_true_eq] at hq_; omega) | (simp only [hc, reduceCtorEq] at hq_; done) | exact Bool.noConfusion (Eq.trans (Eq.symm hc) hq_)) | skip) | apply guess | apply FnIs.useF (k1) | apply FnIs.useS (k_in _ _ _) | exact Or.inl rfl | exact Or.inr rfl | exact Side.mk trivial | exact Side.mk (fun h => h) | exact Side.mk (fun h => ⟨h, h⟩) | with_reducible exact Side.mk rfl | with_reducible exact Side.mk ⟨rfl, rfl⟩ | with_reducible exact Side.mk (by assumption) | with_reducible rfl | intro _)
  all_goals try (conv => whnf)
  all_goals try (refine Side.mk ?_; first | (intros; omega) | (intro h1_ h2_; rw [h1_, h2_]; rfl) | (show List.length (_ ++ _) ≤ _; simp only [List.length_append, List.length_cons, List.length_nil, List.length_replicate, List.length_take]; omega) | (simp_all; done) | (simp_all; omega))
  all_goals first | rfl | omega | trace_state
theorem k_Between (W : List (List Int)) (f l : Int) (h : Side (W.length ≤ 1048577)) (hx : bbP W f l) : FnIs Try.prog 30 [.agg [.sl 1 []], .int .i64 f, .int .i64 l] 2 [(1, .flat false (.rows 0 0 W.length)), (0, .nestI false .i64 W)] (.tuple [.sl 2 [], .int .i64 (begL W l 0 f), .bool true]) 3 [(2, .flat true (.ints .i64 (folO W l 0 f)))] := by
  have hl := h.h
  have k1 := k_ValidBundle W h
  have hc := bb_cond2 W f l
  rw [decide_eq_true hx] at hc
  have hn := hx.1.1
  have hf := hx.2.1
  have k4 := k_order W hx.1 l 0 f [f.toNat] 0 [] (by omega) (bb_nn hx) (fun x hx => (List.not_mem_nil hx).elim) (by simp)
    (fun i hi => by
      have : i = 0 := by simpa using hi
      subst this
      simp
      omega)
    (fun v => ⟨fun h => ⟨0, by simp, by simp; omega⟩, fun ⟨i, hi, he⟩ => by
      have : i = 0 := by simpa using hi
      subst this
      have : f.toNat = v := by simpa using he
      exact ⟨by omega, by omega⟩⟩)
    (fun i j hij hj => by
      have : j = 0 := by simpa using hj
      omega)
  rw [show natL [f.toNat] = [f] by simp [natL]; omega] at k4
  generalize folO W l 0 f = q at k4 ⊢
  generalize begL W l 0 f = v at k4 ⊢
  refine fn_of_ev tok Try.func30 rfl rfl rfl ?_
  repeat' ((conv => whnf); first | done | refine ev_step ?_ | refine ops_step ?_ | refine scan_step ?_ | refine draw_step ?_ | refine each_step ?_ | refine sl_step ?_ | refine hp_step ?_ | refine guard_no (by decide) ?_ | refine guard_go ?_ | refine guard_old ?_ | apply cut_auto | with_reducible exact CutS.mk (Or.inl ⟨rfl, rfl, rfl⟩) | refine CutS.mk (Or.inr (sub_auto ?_)) | exact trivial | refine And.intro ?_ ?_ | (refine cond_split ?_ ?_ <;> intro hq_ <;> first | (exfalso; first | omega | (simp only [hc, cond_true, cond_false, Bool.not_true, Bool.not_false, Bool.and_true, Bool.true_and, Bool.and_false, Bool.false_and, Bool.or_true, Bool.true_or, Bool.or_false, Bool.false_or, Bool.true_eq_false, Bool.false_eq_true, decide_true, decide_false, reduceCtorEq] at hq_; done) | (rw [decide_eq_false_iff_not] at hq_; omega) | (rw [decide_eq_true_eq] at hq_; omega) | (simp only [hc, reduceCtorEq] at hq_; done) | exact Bool.noConfusion (Eq.trans (Eq.symm hc) hq_)) | skip) | apply guess | apply FnIs.useF (k1) | apply FnIs.useS (k_in _ _ _) | apply FnEx.useF (k4) | exact Or.inl rfl | exact Or.inr rfl | exact Side.mk trivial | exact Side.mk (fun h => h) | exact Side.mk (fun h => ⟨h, h⟩) | with_reducible exact Side.mk rfl | with_reducible exact Side.mk ⟨rfl, rfl⟩ | with_reducible exact Side.mk (by assumption) | with_reducible rfl | intro _)
  all_goals try (conv => whnf)
  all_goals try (refine Side.mk ?_; first | (intros; omega) | (intro h1_ h2_; rw [h1_, h2_]; rfl) | (show List.length (_ ++ _) ≤ _; simp only [List.length_append, List.length_cons, List.length_nil, List.length_replicate, List.length_take]; omega) | (simp_all; done) | (simp_all; omega))
  all_goals first | rfl | omega | trace_state
end Go.Sx.U
