/-
  FnExactPictureOf, as a contract.
-/
import Derived.Test.YtligakfmabjoeaaJ2
set_option linter.unusedSimpArgs false
namespace Go.Sx.U
set_option linter.unusedVariables false
set_option linter.unusedSimpArgs false
open Go Go.Sx Go.Proofs

theorem k_FnExactPictureOf (xs : List R2) (w h : Int) (hp : Side (xs.length ≤ 9223372036854775807 ∧ inI64 w ∧ inI64 h)) : FnIs Try.prog 3 [.sl 0 [], .int .i64 w, .int .i64 h] 1 [(0, .flat false (.r2 xs))] (.bool true) 1 [] := by
  obtain ⟨hl, _⟩ := hp.h
  have ks := k_szPointSH xs 1048576 ⟨by omega, by omega, hl⟩
  refine fn_of_evk [0, 1, 2, 6, 7, 8, 9, 10, 11, 12, 17, 42, 47] tok Try.func3 rfl rfl rfl ?_
  by_cases c1 : (1048576 : Int) - xs.length < 0
  · rw [if_pos c1] at ks
    repeat' ((conv => whnf); first | done | refine ev_step ?_ | refine ops_step ?_ | refine scan_step ?_ | refine draw_step ?_ | refine each_step ?_ | refine sl_step ?_ | refine hp_step ?_ | refine guard_no (by decide) ?_ | refine guard_go ?_ | apply cut_auto | with_reducible exact CutS.mk (Or.inl ⟨rfl, rfl, rfl⟩) | refine CutS.mk (Or.inr (sub_auto ?_)) | exact trivial | refine And.intro ?_ ?_ | (refine cond_split ?_ ?_ <;> intro _ <;> first | (exfalso; first | omega | (simp only [decide_eq_true_eq, decide_eq_false_iff_not, Bool.not_eq_true', Bool.not_eq_false', ne_eq, Bool.not_true, Bool.not_false, cond_true, cond_false, Bool.true_eq_false, Bool.false_eq_true, Bool.and_eq_true, Bool.and_eq_false_iff] at *; omega)) | skip) | apply guess | apply FnIs.useF (ks) | exact Or.inl rfl | exact Or.inr rfl | exact Side.mk trivial | exact Side.mk (fun h => h) | exact Side.mk (fun h => ⟨h, h⟩) | with_reducible exact Side.mk rfl | with_reducible exact Side.mk ⟨rfl, rfl⟩ | with_reducible exact Side.mk (by assumption) | with_reducible rfl | intro _)
    all_goals try (conv => whnf)
    all_goals first | rfl | omega | (simp at hq_; done) | trace_state
  · rw [if_neg c1] at ks
    have hn : xs.length ≤ 1048577 := by omega
    cases c2 : (ptsB xs && (decide (1 ≤ w) && decide (w ≤ 40)) && (decide (1 ≤ h) && decide (h ≤ 40)))
    · have f1 : (!(ByteArray.empty.toList == ByteArray.empty.toList)) = false := by simp
      repeat' ((conv => whnf); first | done | refine ev_step ?_ | refine ops_step ?_ | refine scan_step ?_ | refine draw_step ?_ | refine each_step ?_ | refine sl_step ?_ | refine hp_step ?_ | refine guard_no (by decide) ?_ | refine guard_go ?_ | apply cut_auto | with_reducible exact CutS.mk (Or.inl ⟨rfl, rfl, rfl⟩) | refine CutS.mk (Or.inr (sub_auto ?_)) | exact trivial | refine And.intro ?_ ?_ | (refine cond_split ?_ ?_ <;> intro hq_ <;> first | (exfalso; first | omega | (simp only [f1, cond_true, cond_false, Bool.not_true, Bool.not_false, Bool.and_true, Bool.true_and, Bool.and_false, Bool.false_and, Bool.or_true, Bool.true_or, Bool.or_false, Bool.false_or, Bool.true_eq_false, Bool.false_eq_true, decide_true, decide_false, reduceCtorEq] at hq_; done) | (rw [decide_eq_false_iff_not] at hq_; omega) | (rw [decide_eq_true_eq] at hq_; omega) | (simp only [f1, reduceCtorEq] at hq_; done) | exact Bool.noConfusion (Eq.trans (Eq.symm f1) hq_)) | skip) | apply guess | apply FnIs.useF (ks) | apply FnIs.useF (k_toPointSH xs ⟨hn⟩) | apply FnIs.useF (k_specPicNo xs w h ⟨hn, c2⟩) | apply FnIs.useF (k_PicNo xs w h ⟨hn, c2⟩) | apply FnIs.useF (k_eqPointSH_same xs ⟨hn⟩) | exact Or.inl rfl | exact Or.inr rfl | exact Side.mk trivial | exact Side.mk (fun h => h) | exact Side.mk (fun h => ⟨h, h⟩) | with_reducible exact Side.mk rfl | with_reducible exact Side.mk ⟨rfl, rfl⟩ | with_reducible exact Side.mk (by assumption) | with_reducible rfl | intro _)
      all_goals try (conv => whnf)
      all_goals first | rfl | omega | (simp at hq_; done) | trace_state
    · simp only [Bool.and_eq_true, decide_eq_true_eq] at c2
      obtain ⟨⟨c3, c4⟩, c5⟩ := c2
      have ew : (w.toNat : Int) = w := by omega
      have eh : (h.toNat : Int) = h := by omega
      have kS := k_specPicOk xs w.toNat h.toNat ⟨c3, by omega, by omega⟩
      have kI := k_PicOk xs w.toNat h.toNat ⟨c3, by omega, by omega⟩
      rw [ew, eh] at kS kI
      have f1 : (!((strOfNums (picT xs w.toNat h h.toNat)).toList == (strOfNums (picT xs w.toNat h h.toNat)).toList)) = false := by simp
      repeat' ((conv => whnf); first | done | refine ev_step ?_ | refine ops_step ?_ | refine scan_step ?_ | refine draw_step ?_ | refine each_step ?_ | refine sl_step ?_ | refine hp_step ?_ | refine guard_no (by decide) ?_ | refine guard_go ?_ | apply cut_auto | with_reducible exact CutS.mk (Or.inl ⟨rfl, rfl, rfl⟩) | refine CutS.mk (Or.inr (sub_auto ?_)) | exact trivial | refine And.intro ?_ ?_ | (refine cond_split ?_ ?_ <;> intro hq_ <;> first | (exfalso; first | omega | (simp only [f1, cond_true, cond_false, Bool.not_true, Bool.not_false, Bool.and_true, Bool.true_and, Bool.and_false, Bool.false_and, Bool.or_true, Bool.true_or, Bool.or_false, Bool.false_or, Bool.true_eq_false, Bool.false_eq_true, decide_true, decide_false, reduceCtorEq] at hq_; done) | (rw [decide_eq_false_iff_not] at hq_; omega) | (rw [decide_eq_true_eq] at hq_; omega) | (simp only [f1, reduceCtorEq] at hq_; done) | exact Bool.noConfusion (Eq.trans (Eq.symm f1) hq_)) | skip) | apply guess | apply FnIs.useF (ks) | apply FnIs.useF (k_toPointSH xs ⟨hn⟩) | apply FnIs.useF (kS) | apply FnIs.useF (kI) | apply FnIs.useF (k_eqPointSH_same xs ⟨hn⟩) | exact Or.inl rfl | exact Or.inr rfl | exact Side.mk trivial | exact Side.mk (fun h => h) | exact Side.mk (fun h => ⟨h, h⟩) | with_reducible exact Side.mk rfl | with_reducible exact Side.mk ⟨rfl, rfl⟩ | with_reducible exact Side.mk (by assumption) | with_reducible rfl | intro _)
      all_goals try (conv => whnf)
      all_goals first | rfl | omega | (simp at hq_; done) | trace_state
end Go.Sx.U
