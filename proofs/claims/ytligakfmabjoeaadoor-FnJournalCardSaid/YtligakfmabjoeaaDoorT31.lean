/-
  FnExactJournalOf, as a contract.
-/
import Derived.Test.YtligakfmabjoeaaDoorT30
import Derived.Test.YtligakfmabjoeaaDoorH1
set_option linter.unusedSimpArgs false
namespace Go.Sx.U
set_option linter.unusedVariables false
set_option linter.unusedSimpArgs false
set_option maxRecDepth 100000
set_option maxHeartbeats 8000000
open Go Go.Sx Go.Proofs

abbrev SIn (L : List ByteArray) : Prop := L.length ≤ 9223372036854775807 ∧ ∀ s ∈ L, s.size ≤ 9223372036854775807
theorem strs_nat {L : List ByteArray} (h : ¬ szNS L 1048576 < 0) : L.length ≤ 1048577 ∧ ∀ s ∈ L, s.size ≤ 1048577 := by
  obtain ⟨p1, p2, p3⟩ := szNS_ok (xs := L) (l := 1048576) (by omega) (by omega)
  exact ⟨by omega, fun s hs => by have := p3 s hs; omega⟩
theorem k_eqStringSH_same (xs : List ByteArray) (hp : Side (xs.length ≤ 1048577)) : FnIs Tryd.prog 10 [.sl 0 [], .sl 1 []] 2 [(0, .flat false (.strs xs)), (1, .flat false (.strs xs))] (.bool true) 2 [] := by
  have := k_eqStringSH xs xs hp
  rwa [decide_eq_true rfl] at this
theorem k_FnExactJournalOf (L : List ByteArray) (hp : Side (SIn L)) : FnIs Tryd.prog 3 [.sl 0 []] 1 [(0, .flat false (.strs L))] (.bool true) 1 [] := by
  have hb := hp.h
  have ks := k_szStringSH L 1048576 ⟨by omega, by omega, hb.1, hb.2⟩
  refine fn_of_ev tok Tryd.func3 rfl rfl rfl ?_
  by_cases c1 : szNS L 1048576 < 0
  · repeat' ((conv => whnf); first | done | refine ev_step ?_ | refine ops_step ?_ | refine scan_step ?_ | refine draw_step ?_ | refine each_step ?_ | refine sl_step ?_ | refine hp_step ?_ | refine guard_no (by decide) ?_ | refine guard_go ?_ | refine guard_old ?_ | apply cut_auto | with_reducible exact CutS.mk (Or.inl ⟨rfl, rfl, rfl⟩) | refine CutS.mk (Or.inr (Or.inl (sub_auto ?_))) | exact trivial | refine And.intro ?_ ?_ | (refine cond_split ?_ ?_ <;> intro _ <;> first | (exfalso; first | omega | (simp only [decide_eq_true_eq, decide_eq_false_iff_not, Bool.not_eq_true', Bool.not_eq_false', ne_eq, Bool.not_true, Bool.not_false, cond_true, cond_false, Bool.true_eq_false, Bool.false_eq_true, Bool.and_eq_true, Bool.and_eq_false_iff] at *; omega)) | skip) | apply guess | apply FnIs.useF (ks) | exact Or.inl rfl | exact Or.inr rfl | exact Side.mk trivial | exact Side.mk (fun h => h) | exact Side.mk (fun h => ⟨h, h⟩) | with_reducible exact Side.mk rfl | with_reducible exact Side.mk ⟨rfl, rfl⟩ | with_reducible exact Side.mk (by assumption) | with_reducible rfl | intro _)
    all_goals try (conv => whnf)
    all_goals first | rfl | omega | trace_state
  · have hn := strs_nat c1
    have f1 : (bif (!((jourV L).toList == (jourV L).toList)) then true else (!(jokB L == jokB L))) = false := by simp
    repeat' ((conv => whnf); first | done | refine ev_step ?_ | refine ops_step ?_ | refine scan_step ?_ | refine draw_step ?_ | refine each_step ?_ | refine sl_step ?_ | refine hp_step ?_ | refine guard_no (by decide) ?_ | refine guard_go ?_ | refine guard_old ?_ | apply cut_auto | with_reducible exact CutS.mk (Or.inl ⟨rfl, rfl, rfl⟩) | refine CutS.mk (Or.inr (Or.inl (sub_auto ?_))) | exact trivial | refine And.intro ?_ ?_ | (refine cond_split ?_ ?_ <;> intro hq_ <;> first | (exfalso; first | omega | (simp only [f1, cond_true, cond_false, Bool.not_true, Bool.not_false, Bool.and_true, Bool.true_and, Bool.and_false, Bool.false_and, Bool.or_true, Bool.true_or, Bool.or_false, Bool.false_or, Bool.true_eq_false, Bool.false_eq_true, decide_true, decide_false, reduceCtorEq] at hq_; done) | (rw [decide_eq_false_iff_not] at hq_; omega) | (rw [decide_eq_true_eq] at hq_; omega) | (simp only [f1, reduceCtorEq] at hq_; done) | exact Bool.noConfusion (Eq.trans (Eq.symm f1) hq_)) | skip) | apply guess | apply FnIs.useF (ks) | apply FnIs.useF (k_toStringSH L ⟨hn.1⟩) | apply FnIs.useF (k_specJournalOf L ⟨hn⟩) | apply FnIs.useF (k_JournalOf L ⟨hn⟩) | apply FnIs.useF (k_eqStringSH_same L ⟨hn.1⟩) | exact Or.inl rfl | exact Or.inr rfl | exact Side.mk trivial | exact Side.mk (fun h => h) | exact Side.mk (fun h => ⟨h, h⟩) | with_reducible exact Side.mk rfl | with_reducible exact Side.mk ⟨rfl, rfl⟩ | with_reducible exact Side.mk (by assumption) | with_reducible rfl | intro _)
    all_goals try (conv => whnf)
    all_goals first | rfl | omega | trace_state
end Go.Sx.U
