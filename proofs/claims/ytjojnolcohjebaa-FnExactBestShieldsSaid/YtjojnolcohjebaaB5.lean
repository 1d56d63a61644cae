/-
  FnExactBestShields, as a contract.
-/
import Derived.Test.YtjojnolcohjebaaB4
set_option linter.unusedSimpArgs false
namespace Go.Sx.U
set_option linter.unusedVariables false
set_option linter.unusedSimpArgs false
open Go Go.Sx Go.Proofs Go.Sx.M0

set_option maxRecDepth 100000 in
set_option maxHeartbeats 4000000 in
theorem k_FnExactBestShields (W : List (List Int)) (o : List Int) (c : Int) (hp : Side (BIn W ∧ o.length ≤ 9223372036854775807 ∧ inI64 c)) : FnIs Try.prog 6 [.agg [.sl 1 []], .sl 2 [], .int .i64 c] 3 [(2, .flat false (.ints .i64 o)), (1, .flat false (.rows 0 0 W.length)), (0, .nestI false .i64 W)] (.bool true) 3 [] := by
  obtain ⟨hb, ho, hc⟩ := hp.h
  refine fn_of_evk [0, 1, 2, 3, 6, 7, 8, 9, 10, 11, 12, 13, 14, 15, 16, 17, 18, 19, 20, 21, 24, 29, 65, 70, 75, 99, 107, 110, 134, 139, 142] tok Try.func6 rfl rfl rfl ?_
  by_cases lo : o.length ≤ 1048576
  · by_cases hl : szN W 1048576 < 0
    · repeat' ((conv => whnf); first | done | refine ev_step ?_ | refine ops_step ?_ | refine scan_step ?_ | refine draw_step ?_ | refine each_step ?_ | refine sl_step ?_ | refine hp_step ?_ | refine guard_no (by decide) ?_ | refine guard_go ?_ | apply cut_auto | with_reducible exact CutS.mk (Or.inl ⟨rfl, rfl, rfl⟩) | refine CutS.mk (Or.inr (sub_auto ?_)) | exact trivial | refine And.intro ?_ ?_ | (refine cond_split ?_ ?_ <;> intro _ <;> first | (exfalso; first | omega | (simp only [decide_eq_true_eq, decide_eq_false_iff_not, Bool.not_eq_true', Bool.not_eq_false', ne_eq, Bool.not_true, Bool.not_false, cond_true, cond_false, Bool.true_eq_false, Bool.false_eq_true, Bool.and_eq_true, Bool.and_eq_false_iff] at *; omega)) | skip) | apply guess | apply FnIs.useF (k_szBundle _ _ hb.sz) | exact Or.inl rfl | exact Or.inr rfl | exact Side.mk trivial | exact Side.mk (fun h => h) | exact Side.mk (fun h => ⟨h, h⟩) | with_reducible exact Side.mk rfl | with_reducible exact Side.mk ⟨rfl, rfl⟩ | with_reducible exact Side.mk (by assumption) | with_reducible rfl | intro _)
      all_goals try (conv => whnf)
      all_goals try (refine Side.mk ?_; first | (intros; omega) | (show List.length (_ ++ _) ≤ _; simp only [List.length_append, List.length_cons, List.length_nil, List.length_replicate, List.length_take]; omega) | (simp_all; done) | (simp_all; omega))
      all_goals first | omega | (simp_all; done) | trace_state
    · obtain ⟨h1, h2⟩ := nat_sz hl
      have ht := szN_tot (xss := W) (l := 1048576) (by omega) (by omega)
      have hw := szN_ok (xss := W) (l := 1048576) (by omega) (by omega)
      have e0 : decide ((1 : Int) + totL W + o.length < 0) = false := decide_eq_false (by omega)
      cases hx : bsOk W o c with
      | false =>
        have k1 := k_ShieldsSpec_no W o c ⟨⟨h1, by omega⟩⟩ hx
        have k2 := k_BestShields_no W o c ⟨⟨h1, by omega⟩⟩ hx
        repeat' ((conv => whnf); first | done | refine ev_step ?_ | refine ops_step ?_ | refine scan_step ?_ | refine draw_step ?_ | refine each_step ?_ | refine sl_step ?_ | refine hp_step ?_ | refine guard_no (by decide) ?_ | refine guard_go ?_ | apply cut_auto | with_reducible exact CutS.mk (Or.inl ⟨rfl, rfl, rfl⟩) | refine CutS.mk (Or.inr (sub_auto ?_)) | exact trivial | refine And.intro ?_ ?_ | (refine cond_split ?_ ?_ <;> intro hq_ <;> first | (exfalso; first | omega | (simp only [e0, cond_true, cond_false, Bool.not_true, Bool.not_false, Bool.and_true, Bool.true_and, Bool.and_false, Bool.false_and, Bool.or_true, Bool.true_or, Bool.or_false, Bool.false_or, Bool.true_eq_false, Bool.false_eq_true, decide_true, decide_false, reduceCtorEq] at hq_; done) | (rw [decide_eq_false_iff_not] at hq_; omega) | (rw [decide_eq_true_eq] at hq_; omega) | (simp only [e0, reduceCtorEq] at hq_; done) | exact Bool.noConfusion (Eq.trans (Eq.symm e0) hq_)) | skip) | apply guess | apply FnIs.useF (k_szBundle _ _ hb.sz) | apply FnIs.useF (k_toBundle W ⟨⟨h1, h2⟩⟩) | apply FnIs.useF (k_toInt64S _ _) | apply FnIs.useF (k1) | apply FnIs.useF (k2) | apply FnIs.useF (k_eqBundle_same W ⟨⟨h1, h2⟩⟩) | refine FnIs.useG (k_eqInt64S_nil) rfl ?_ | apply FnIs.useF (k_eqInt64S_same _ _) | apply FnIs.useF (k_markBundle W _ _) | refine FnIs.useG (k_markInt64S_nil 1) rfl ?_ | apply FnIs.useF (k_markInt64S _ _ _) | apply FnIs.useF (k_heldInt64S_nil 1) | exact Or.inl rfl | exact Or.inr rfl | exact Side.mk trivial | exact Side.mk (fun h => h) | exact Side.mk (fun h => ⟨h, h⟩) | with_reducible exact Side.mk rfl | with_reducible exact Side.mk ⟨rfl, rfl⟩ | with_reducible exact Side.mk (by assumption) | with_reducible rfl | intro _)
        all_goals try (conv => whnf)
        all_goals try (refine Side.mk ?_; first | (intros; omega) | (show List.length (_ ++ _) ≤ _; simp only [List.length_append, List.length_cons, List.length_nil, List.length_replicate, List.length_take]; omega) | (simp_all; done) | (simp_all; omega))
        all_goals first | omega | rfl | (refine Side.mk ?_; omega) | (rename_i hq; exfalso; simp at hq; done) | (rename_i hq; exfalso; rw [e0] at hq; simp at hq; done) | (rename_i hq; exfalso; simp at hq; omega) | trace_state
      | true =>
        simp only [bsOk, Bool.and_eq_true, decide_eq_true_eq] at hx
        obtain ⟨n, rfl⟩ : ∃ n : Nat, c = (n : Int) := ⟨c.toNat, by omega⟩
        have k1 := k_ShieldsSpec W o n ⟨⟨hx.1.1, hx.1.2, by omega⟩⟩
        have k2 := k_BestShields W o n ⟨⟨hx.1.1, hx.1.2, by omega⟩⟩
        have hL : (BsRes W o n).1.length ≤ 1048577 := by
          have := bs_len W o n (2 ^ (o.length - 1))
          simp only [BsRes]
          omega
        generalize BsRes W o n = Q at k1 k2 hL
        obtain ⟨L, l⟩ := Q
        simp only at k1 k2 hL
        have f1 : (bif bif !true then true else decide (l ≠ l) then true else !true == true) = false := by simp
        have f2 : (bif bif bif decide ((1 : Int) + totL W + o.length < 0) then true else !true then true else decide (l ≠ l) then true else !true == true) = false := by rw [e0]; simp
        repeat' ((conv => whnf); first | done | refine ev_step ?_ | refine ops_step ?_ | refine scan_step ?_ | refine draw_step ?_ | refine each_step ?_ | refine sl_step ?_ | refine hp_step ?_ | refine guard_no (by decide) ?_ | refine guard_go ?_ | apply cut_auto | with_reducible exact CutS.mk (Or.inl ⟨rfl, rfl, rfl⟩) | refine CutS.mk (Or.inr (sub_auto ?_)) | exact trivial | refine And.intro ?_ ?_ | (refine cond_split ?_ ?_ <;> intro hq_ <;> first | (exfalso; first | omega | (simp only [f1, f2, cond_true, cond_false, Bool.not_true, Bool.not_false, Bool.and_true, Bool.true_and, Bool.and_false, Bool.false_and, Bool.or_true, Bool.true_or, Bool.or_false, Bool.false_or, Bool.true_eq_false, Bool.false_eq_true, decide_true, decide_false, reduceCtorEq] at hq_; done) | (rw [decide_eq_false_iff_not] at hq_; omega) | (rw [decide_eq_true_eq] at hq_; omega) | (simp only [f1, f2, reduceCtorEq] at hq_; done) | exact Bool.noConfusion (Eq.trans (Eq.symm f1) hq_) | exact Bool.noConfusion (Eq.trans (Eq.symm f2) hq_)) | skip) | apply guess | apply FnIs.useF (k_szBundle _ _ hb.sz) | apply FnIs.useF (k_toBundle W ⟨⟨h1, h2⟩⟩) | apply FnIs.useF (k_toInt64S _ _) | apply FnIs.useF (k1) | apply FnIs.useF (k2) | apply FnIs.useF (k_eqBundle_same W ⟨⟨h1, h2⟩⟩) | apply FnIs.useF (k_eqInt64S_same _ _) | apply FnIs.useF (k_markBundle W _ _) | apply FnIs.useF (k_markInt64S _ _ _) | apply FnIs.useF (k_heldInt64S _ _ _) | exact Or.inl rfl | exact Or.inr rfl | exact Side.mk trivial | exact Side.mk (fun h => h) | exact Side.mk (fun h => ⟨h, h⟩) | with_reducible exact Side.mk rfl | with_reducible exact Side.mk ⟨rfl, rfl⟩ | with_reducible exact Side.mk (by assumption) | with_reducible rfl | intro _)
        all_goals try (conv => whnf)
        all_goals try (refine Side.mk ?_; first | (intros; omega) | (show List.length (_ ++ _) ≤ _; simp only [List.length_append, List.length_cons, List.length_nil, List.length_replicate, List.length_take]; omega) | (simp_all; done) | (simp_all; omega))
        all_goals first | omega | rfl | (refine Side.mk ?_; omega) | (rename_i hq; exfalso; simp at hq; done) | (rename_i hq; exfalso; rw [e0] at hq; simp at hq; done) | (rename_i hq; exfalso; simp at hq; omega) | trace_state
  · repeat' ((conv => whnf); first | done | refine ev_step ?_ | refine ops_step ?_ | refine scan_step ?_ | refine draw_step ?_ | refine each_step ?_ | refine sl_step ?_ | refine hp_step ?_ | refine guard_no (by decide) ?_ | refine guard_go ?_ | apply cut_auto | with_reducible exact CutS.mk (Or.inl ⟨rfl, rfl, rfl⟩) | refine CutS.mk (Or.inr (sub_auto ?_)) | exact trivial | refine And.intro ?_ ?_ | (refine cond_split ?_ ?_ <;> intro _ <;> first | (exfalso; first | omega | (simp only [decide_eq_true_eq, decide_eq_false_iff_not, Bool.not_eq_true', Bool.not_eq_false', ne_eq, Bool.not_true, Bool.not_false, cond_true, cond_false, Bool.true_eq_false, Bool.false_eq_true, Bool.and_eq_true, Bool.and_eq_false_iff] at *; omega)) | skip) | apply guess | exact Or.inl rfl | exact Or.inr rfl | exact Side.mk trivial | exact Side.mk (fun h => h) | exact Side.mk (fun h => ⟨h, h⟩) | with_reducible exact Side.mk rfl | with_reducible exact Side.mk ⟨rfl, rfl⟩ | with_reducible exact Side.mk (by assumption) | with_reducible rfl | intro _)
    all_goals try (conv => whnf)
    all_goals try (refine Side.mk ?_; first | (intros; omega) | (show List.length (_ ++ _) ≤ _; simp only [List.length_append, List.length_cons, List.length_nil, List.length_replicate, List.length_take]; omega) | (simp_all; done) | (simp_all; omega))
    all_goals first | omega | (simp_all; done) | trace_state
end Go.Sx.U
