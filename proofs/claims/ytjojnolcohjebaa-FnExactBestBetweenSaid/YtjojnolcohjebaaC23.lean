/-
  Chapter 10: the best order, and the best order between two wires: the laws.
-/
import Derived.Test.YtjojnolcohjebaaC22
import Derived.Test.YtjojnolcohjebaaK9
import Derived.Test.YtjojnolcohjebaaKL2
namespace Go.Sx.U
set_option linter.unusedVariables false
set_option linter.unusedSimpArgs false
set_option maxRecDepth 100000
set_option maxHeartbeats 8000000
open Go Go.Sx Go.Proofs Go.Sx.M0

theorem fol_len (W : List (List Int)) (e : Int) : ∀ (f m l : Nat) (K : List Nat), (fol W e f m l K).length ≤ f
  | 0, _, _, _ => Nat.le_refl _
  | f + 1, m, l, K => by
    simp only [fol]
    split
    · exact Nat.zero_le _
    · have := fol_len W e f (m ||| 2 ^ (by assumption : Nat)) (by assumption) (nxtK W e K m l (by assumption))
      simp only [List.length_cons]
      omega
theorem folO_len {W : List (List Int)} (h : 1 ≤ W.length) (e : Int) (cnt : Nat) (first : Int) : (folO W e cnt first).length ≤ W.length := by
  unfold folO
  split
  · exact Nat.zero_le _
  · rename_i w _
    have := fol_len W e (W.length - 1) (2 ^ w) w [cnt]
    simp only [List.length_cons]
    omega
theorem k_FnExactBestOrder (W : List (List Int)) (c : Int) (hp : Side (BIn W ∧ inI64 c)) : FnIs Try.prog 8 [.agg [.sl 1 []], .int .i64 c] 2 [(1, .flat false (.rows 0 0 W.length)), (0, .nestI false .i64 W)] (.bool true) 2 [] := by
  obtain ⟨hb, hs⟩ := hp.h
  refine fn_of_evk [0, 1, 2, 4, 5, 6, 7, 8, 9, 10, 11, 12, 13, 14, 15, 16, 17, 18, 23, 54, 59, 80, 88, 91, 113, 118, 121] tok Try.func8 rfl rfl rfl ?_
  by_cases hl : szN W 1048576 < 0
  · repeat' ((conv => whnf); first | done | refine ev_step ?_ | refine ops_step ?_ | refine scan_step ?_ | refine draw_step ?_ | refine each_step ?_ | refine sl_step ?_ | refine hp_step ?_ | refine guard_no (by decide) ?_ | refine guard_go ?_ | refine guard_old ?_ | apply cut_auto | with_reducible exact CutS.mk (Or.inl ⟨rfl, rfl, rfl⟩) | refine CutS.mk (Or.inr (sub_auto ?_)) | exact trivial | refine And.intro ?_ ?_ | (refine cond_split ?_ ?_ <;> intro _ <;> first | (exfalso; first | omega | (simp only [decide_eq_true_eq, decide_eq_false_iff_not, Bool.not_eq_true', Bool.not_eq_false', ne_eq, Bool.not_true, Bool.not_false, cond_true, cond_false, Bool.true_eq_false, Bool.false_eq_true, Bool.and_eq_true, Bool.and_eq_false_iff] at *; omega)) | skip) | apply guess | apply FnIs.useF (k_szBundle _ _ hb.sz) | exact Or.inl rfl | exact Or.inr rfl | exact Side.mk trivial | exact Side.mk (fun h => h) | exact Side.mk (fun h => ⟨h, h⟩) | with_reducible exact Side.mk rfl | with_reducible exact Side.mk ⟨rfl, rfl⟩ | with_reducible exact Side.mk (by assumption) | with_reducible rfl | intro _)
    all_goals try (conv => whnf)
    all_goals try (refine Side.mk ?_; first | (intros; omega) | (intro h1_ h2_; rw [h1_, h2_]; rfl) | (show List.length (_ ++ _) ≤ _; simp only [List.length_append, List.length_cons, List.length_nil, List.length_replicate, List.length_take]; omega) | (simp_all; done) | (simp_all; omega))
    all_goals first | omega | (simp_all; done) | trace_state
  · obtain ⟨h1, h2⟩ := nat_sz hl
    have htot := szN_tot (xss := W) (l := 1048576) (by omega) (by omega)
    have d0 : decide (1 + (totL W : Int) < 0) = false := decide_eq_false (by omega)
    by_cases hx : boP W c
    · have k1 := k_BestSpec W c ⟨⟨h1, hs⟩⟩ hx
      have k2 := k_BestOrder W c ⟨h1⟩ hx
      have hgl := folO_len hx.1.1.1 (-1) c.toNat (-1)
      have hw9 := hx.1.1.2
      generalize folO W (-1) c.toNat (-1) = L at k1 k2 hgl
      generalize begL W (-1) c.toNat (-1) = l at k1 k2
      have kb := k_markInt64S L 1 ⟨by omega⟩
      have kh := k_heldInt64S L.length 1 ⟨by omega⟩
      have f1 : (bif bif !true then true else decide (l ≠ l) then true else !true == true) = false := by simp
      have f2 : (bif bif bif decide ((1 : Int) + totL W < 0) then true else !true then true else decide (l ≠ l) then true else !true == true) = false := by rw [d0]; simp
      repeat' ((conv => whnf); first | done | refine ev_step ?_ | refine ops_step ?_ | refine scan_step ?_ | refine draw_step ?_ | refine each_step ?_ | refine sl_step ?_ | refine hp_step ?_ | refine guard_no (by decide) ?_ | refine guard_go ?_ | refine guard_old ?_ | apply cut_auto | with_reducible exact CutS.mk (Or.inl ⟨rfl, rfl, rfl⟩) | refine CutS.mk (Or.inr (sub_auto ?_)) | exact trivial | refine And.intro ?_ ?_ | (refine cond_split ?_ ?_ <;> intro hq_ <;> first | (exfalso; first | omega | (simp only [f1, f2, d0, cond_true, cond_false, Bool.not_true, Bool.not_false, Bool.and_true, Bool.true_and, Bool.and_false, Bool.false_and, Bool.or_true, Bool.true_or, Bool.or_false, Bool.false_or, Bool.true_eq_false, Bool.false_eq_true, decide_true, decide_false, reduceCtorEq] at hq_; done) | (rw [decide_eq_false_iff_not] at hq_; omega) | (rw [decide_eq_true_eq] at hq_; omega) | (simp only [f1, f2, d0, reduceCtorEq] at hq_; done) | exact Bool.noConfusion (Eq.trans (Eq.symm f1) hq_) | exact Bool.noConfusion (Eq.trans (Eq.symm f2) hq_) | exact Bool.noConfusion (Eq.trans (Eq.symm d0) hq_)) | skip) | apply guess | apply FnIs.useF (k_szBundle _ _ hb.sz) | apply FnIs.useF (k_toBundle W ⟨⟨h1, h2⟩⟩) | apply FnIs.useF (k1) | apply FnIs.useF (k2) | apply FnIs.useF (k_eqBundle_same W ⟨⟨h1, h2⟩⟩) | apply FnIs.useF (k_markBundle W _ _) | apply FnIs.useF (kb) | apply FnIs.useF (kh) | apply FnIs.useF (k_eqInt64S_same L ⟨by omega⟩) | exact Or.inl rfl | exact Or.inr rfl | exact Side.mk trivial | exact Side.mk (fun h => h) | exact Side.mk (fun h => ⟨h, h⟩) | with_reducible exact Side.mk rfl | with_reducible exact Side.mk ⟨rfl, rfl⟩ | with_reducible exact Side.mk (by assumption) | with_reducible rfl | intro _)
      all_goals try (conv => whnf)
      all_goals first | omega | rfl | (refine Side.mk ?_; omega) | (rename_i hq; exfalso; simp at hq; done) | (rename_i hq; exfalso; rw [d0] at hq; simp at hq; done) | trace_state
    · have k1 := k_BestSpec_no W c ⟨⟨h1, hs⟩⟩ hx
      have k2 := k_BestOrder_no W c ⟨h1⟩ hx
      repeat' ((conv => whnf); first | done | refine ev_step ?_ | refine ops_step ?_ | refine scan_step ?_ | refine draw_step ?_ | refine each_step ?_ | refine sl_step ?_ | refine hp_step ?_ | refine guard_no (by decide) ?_ | refine guard_go ?_ | refine guard_old ?_ | apply cut_auto | with_reducible exact CutS.mk (Or.inl ⟨rfl, rfl, rfl⟩) | refine CutS.mk (Or.inr (sub_auto ?_)) | exact trivial | refine And.intro ?_ ?_ | (refine cond_split ?_ ?_ <;> intro hq_ <;> first | (exfalso; first | omega | (simp only [d0, cond_true, cond_false, Bool.not_true, Bool.not_false, Bool.and_true, Bool.true_and, Bool.and_false, Bool.false_and, Bool.or_true, Bool.true_or, Bool.or_false, Bool.false_or, Bool.true_eq_false, Bool.false_eq_true, decide_true, decide_false, reduceCtorEq] at hq_; done) | (rw [decide_eq_false_iff_not] at hq_; omega) | (rw [decide_eq_true_eq] at hq_; omega) | (simp only [d0, reduceCtorEq] at hq_; done) | exact Bool.noConfusion (Eq.trans (Eq.symm d0) hq_)) | skip) | apply guess | apply FnIs.useF (k_szBundle _ _ hb.sz) | apply FnIs.useF (k_toBundle W ⟨⟨h1, h2⟩⟩) | apply FnIs.useF (k1) | apply FnIs.useF (k2) | apply FnIs.useF (k_eqBundle_same W ⟨⟨h1, h2⟩⟩) | apply FnIs.useF (k_markBundle W _ _) | apply FnIs.useF (k_eqInt64S_nil) | apply FnIs.useF (k_markInt64S_nil 1) | apply FnIs.useF (k_heldInt64S_nil 1) | exact Or.inl rfl | exact Or.inr rfl | exact Side.mk trivial | exact Side.mk (fun h => h) | exact Side.mk (fun h => ⟨h, h⟩) | with_reducible exact Side.mk rfl | with_reducible exact Side.mk ⟨rfl, rfl⟩ | with_reducible exact Side.mk (by assumption) | with_reducible rfl | intro _)
      all_goals try (conv => whnf)
      all_goals first | omega | rfl | (refine Side.mk ?_; omega) | (rename_i hq; exfalso; simp at hq; done) | (rename_i hq; exfalso; rw [d0] at hq; simp at hq; done) | trace_state
theorem k_FnExactBestBetween (W : List (List Int)) (f g : Int) (hp : Side (BIn W ∧ inI64 f ∧ inI64 g)) : FnIs Try.prog 7 [.agg [.sl 1 []], .int .i64 f, .int .i64 g] 2 [(1, .flat false (.rows 0 0 W.length)), (0, .nestI false .i64 W)] (.bool true) 2 [] := by
  obtain ⟨hb, hs⟩ := hp.h
  refine fn_of_evk [0, 1, 2, 3, 6, 7, 8, 9, 10, 11, 12, 13, 14, 15, 16, 17, 18, 19, 20, 25, 58, 63, 84, 92, 95, 118, 123, 126] tok Try.func7 rfl rfl rfl ?_
  by_cases hl : szN W 1048576 < 0
  · repeat' ((conv => whnf); first | done | refine ev_step ?_ | refine ops_step ?_ | refine scan_step ?_ | refine draw_step ?_ | refine each_step ?_ | refine sl_step ?_ | refine hp_step ?_ | refine guard_no (by decide) ?_ | refine guard_go ?_ | refine guard_old ?_ | apply cut_auto | with_reducible exact CutS.mk (Or.inl ⟨rfl, rfl, rfl⟩) | refine CutS.mk (Or.inr (sub_auto ?_)) | exact trivial | refine And.intro ?_ ?_ | (refine cond_split ?_ ?_ <;> intro _ <;> first | (exfalso; first | omega | (simp only [decide_eq_true_eq, decide_eq_false_iff_not, Bool.not_eq_true', Bool.not_eq_false', ne_eq, Bool.not_true, Bool.not_false, cond_true, cond_false, Bool.true_eq_false, Bool.false_eq_true, Bool.and_eq_true, Bool.and_eq_false_iff] at *; omega)) | skip) | apply guess | apply FnIs.useF (k_szBundle _ _ hb.sz) | exact Or.inl rfl | exact Or.inr rfl | exact Side.mk trivial | exact Side.mk (fun h => h) | exact Side.mk (fun h => ⟨h, h⟩) | with_reducible exact Side.mk rfl | with_reducible exact Side.mk ⟨rfl, rfl⟩ | with_reducible exact Side.mk (by assumption) | with_reducible rfl | intro _)
    all_goals try (conv => whnf)
    all_goals try (refine Side.mk ?_; first | (intros; omega) | (intro h1_ h2_; rw [h1_, h2_]; rfl) | (show List.length (_ ++ _) ≤ _; simp only [List.length_append, List.length_cons, List.length_nil, List.length_replicate, List.length_take]; omega) | (simp_all; done) | (simp_all; omega))
    all_goals first | omega | (simp_all; done) | trace_state
  · obtain ⟨h1, h2⟩ := nat_sz hl
    have htot := szN_tot (xss := W) (l := 1048576) (by omega) (by omega)
    have d0 : decide (1 + (totL W : Int) < 0) = false := decide_eq_false (by omega)
    by_cases hx : bbP W f g
    · have k1 := k_BetwSpec W f g ⟨⟨h1, hs⟩⟩ hx
      have k2 := k_Between W f g ⟨h1⟩ hx
      have hgl := folO_len hx.1.1.1 g 0 f
      have hw9 := hx.1.1.2
      generalize folO W g 0 f = L at k1 k2 hgl
      generalize begL W g 0 f = l at k1 k2
      have kb := k_markInt64S L 1 ⟨by omega⟩
      have kh := k_heldInt64S L.length 1 ⟨by omega⟩
      have f1 : (bif bif !true then true else decide (l ≠ l) then true else !true == true) = false := by simp
      have f2 : (bif bif bif decide ((1 : Int) + totL W < 0) then true else !true then true else decide (l ≠ l) then true else !true == true) = false := by rw [d0]; simp
      repeat' ((conv => whnf); first | done | refine ev_step ?_ | refine ops_step ?_ | refine scan_step ?_ | refine draw_step ?_ | refine each_step ?_ | refine sl_step ?_ | refine hp_step ?_ | refine guard_no (by decide) ?_ | refine guard_go ?_ | refine guard_old ?_ | apply cut_auto | with_reducible exact CutS.mk (Or.inl ⟨rfl, rfl, rfl⟩) | refine CutS.mk (Or.inr (sub_auto ?_)) | exact trivial | refine And.intro ?_ ?_ | (refine cond_split ?_ ?_ <;> intro hq_ <;> first | (exfalso; first | omega | (simp only [f1, f2, d0, cond_true, cond_false, Bool.not_true, Bool.not_false, Bool.and_true, Bool.true_and, Bool.and_false, Bool.false_and, Bool.or_true, Bool.true_or, Bool.or_false, Bool.false_or, Bool.true_eq_false, Bool.false_eq_true, decide_true, decide_false, reduceCtorEq] at hq_; done) | (rw [decide_eq_false_iff_not] at hq_; omega) | (rw [decide_eq_true_eq] at hq_; omega) | (simp only [f1, f2, d0, reduceCtorEq] at hq_; done) | exact Bool.noConfusion (Eq.trans (Eq.symm f1) hq_) | exact Bool.noConfusion (Eq.trans (Eq.symm f2) hq_) | exact Bool.noConfusion (Eq.trans (Eq.symm d0) hq_)) | skip) | apply guess | apply FnIs.useF (k_szBundle _ _ hb.sz) | apply FnIs.useF (k_toBundle W ⟨⟨h1, h2⟩⟩) | apply FnIs.useF (k1) | apply FnIs.useF (k2) | apply FnIs.useF (k_eqBundle_same W ⟨⟨h1, h2⟩⟩) | apply FnIs.useF (k_markBundle W _ _) | apply FnIs.useF (kb) | apply FnIs.useF (kh) | apply FnIs.useF (k_eqInt64S_same L ⟨by omega⟩) | exact Or.inl rfl | exact Or.inr rfl | exact Side.mk trivial | exact Side.mk (fun h => h) | exact Side.mk (fun h => ⟨h, h⟩) | with_reducible exact Side.mk rfl | with_reducible exact Side.mk ⟨rfl, rfl⟩ | with_reducible exact Side.mk (by assumption) | with_reducible rfl | intro _)
      all_goals try (conv => whnf)
      all_goals first | omega | rfl | (refine Side.mk ?_; omega) | (rename_i hq; exfalso; simp at hq; done) | (rename_i hq; exfalso; rw [d0] at hq; simp at hq; done) | trace_state
    · have k1 := k_BetwSpec_no W f g ⟨⟨h1, hs⟩⟩ hx
      have k2 := k_Between_no W f g ⟨h1⟩ hx
      repeat' ((conv => whnf); first | done | refine ev_step ?_ | refine ops_step ?_ | refine scan_step ?_ | refine draw_step ?_ | refine each_step ?_ | refine sl_step ?_ | refine hp_step ?_ | refine guard_no (by decide) ?_ | refine guard_go ?_ | refine guard_old ?_ | apply cut_auto | with_reducible exact CutS.mk (Or.inl ⟨rfl, rfl, rfl⟩) | refine CutS.mk (Or.inr (sub_auto ?_)) | exact trivial | refine And.intro ?_ ?_ | (refine cond_split ?_ ?_ <;> intro hq_ <;> first | (exfalso; first | omega | (simp only [d0, cond_true, cond_false, Bool.not_true, Bool.not_false, Bool.and_true, Bool.true_and, Bool.and_false, Bool.false_and, Bool.or_true, Bool.true_or, Bool.or_false, Bool.false_or, Bool.true_eq_false, Bool.false_eq_true, decide_true, decide_false, reduceCtorEq] at hq_; done) | (rw [decide_eq_false_iff_not] at hq_; omega) | (rw [decide_eq_true_eq] at hq_; omega) | (simp only [d0, reduceCtorEq] at hq_; done) | exact Bool.noConfusion (Eq.trans (Eq.symm d0) hq_)) | skip) | apply guess | apply FnIs.useF (k_szBundle _ _ hb.sz) | apply FnIs.useF (k_toBundle W ⟨⟨h1, h2⟩⟩) | apply FnIs.useF (k1) | apply FnIs.useF (k2) | apply FnIs.useF (k_eqBundle_same W ⟨⟨h1, h2⟩⟩) | apply FnIs.useF (k_markBundle W _ _) | apply FnIs.useF (k_eqInt64S_nil) | apply FnIs.useF (k_markInt64S_nil 1) | apply FnIs.useF (k_heldInt64S_nil 1) | exact Or.inl rfl | exact Or.inr rfl | exact Side.mk trivial | exact Side.mk (fun h => h) | exact Side.mk (fun h => ⟨h, h⟩) | with_reducible exact Side.mk rfl | with_reducible exact Side.mk ⟨rfl, rfl⟩ | with_reducible exact Side.mk (by assumption) | with_reducible rfl | intro _)
      all_goals try (conv => whnf)
      all_goals first | omega | rfl | (refine Side.mk ?_; omega) | (rename_i hq; exfalso; simp at hq; done) | (rename_i hq; exfalso; rw [d0] at hq; simp at hq; done) | trace_state
end Go.Sx.U
