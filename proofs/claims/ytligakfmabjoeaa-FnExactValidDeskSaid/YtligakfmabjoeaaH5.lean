/-
  FnExactValidDesk, as a contract.
-/
import Derived.Test.YtligakfmabjoeaaH4
set_option linter.unusedSimpArgs false
namespace Go.Sx.U
set_option linter.unusedVariables false
set_option linter.unusedSimpArgs false
open Go Go.Sx Go.Proofs

abbrev DIn (N : List ByteArray) (L : List (List R2)) : Prop := (N.length ≤ 9223372036854775807 ∧ ∀ s ∈ N, s.size ≤ 9223372036854775807) ∧ L.length ≤ 9223372036854775807 ∧ ∀ xs ∈ L, xs.length ≤ 9223372036854775807 ∧ ∀ k ∈ xs, inI64 k.a ∧ inI64 k.b
theorem desk_nat {N : List ByteArray} {L : List (List R2)} (h1 : ¬ szNS N 1048576 < 0) (h2 : ¬ szNP L (szNS N 1048576) < 0) : natD N L := by
  obtain ⟨p1, p2, p3⟩ := szNS_ok (xs := N) (l := 1048576) (by omega) (by omega)
  obtain ⟨q1, q2, q3⟩ := szNP_ok (xss := L) (l := szNS N 1048576) (by omega) (by omega)
  exact ⟨⟨by omega, fun s hs => by have := p3 s hs; omega⟩, by omega, fun xs hxs => by have := q3 xs hxs; omega⟩
theorem k_FnExactValidDesk (N : List ByteArray) (L : List (List R2)) (hp : Side (DIn N L)) : FnIs Try.prog 4 [deskV 0 2] 3 [(2, .flat false (.rows 1 0 L.length)), (1, .nestR2 false L), (0, .flat false (.strs N))] (.bool true) 3 [] := by
  have hb := hp.h
  have ks := k_szDeskH N L 1048576 ⟨by omega, by omega, hb.1, hb.2.1, fun xs hxs => (hb.2.2 xs hxs).1⟩
  refine fn_of_evk [0, 1, 2, 3, 4, 5, 6, 11, 21, 26] tok Try.func4 rfl rfl rfl ?_
  by_cases c1 : szNS N 1048576 < 0
  · rw [if_pos c1] at ks
    repeat' ((conv => whnf); first | done | refine ev_step ?_ | refine ops_step ?_ | refine scan_step ?_ | refine draw_step ?_ | refine each_step ?_ | refine sl_step ?_ | refine hp_step ?_ | refine guard_no (by decide) ?_ | refine guard_go ?_ | apply cut_auto | with_reducible exact CutS.mk (Or.inl ⟨rfl, rfl, rfl⟩) | refine CutS.mk (Or.inr (sub_auto ?_)) | exact trivial | refine And.intro ?_ ?_ | (refine cond_split ?_ ?_ <;> intro _ <;> first | (exfalso; first | omega | (simp only [decide_eq_true_eq, decide_eq_false_iff_not, Bool.not_eq_true', Bool.not_eq_false', ne_eq, Bool.not_true, Bool.not_false, cond_true, cond_false, Bool.true_eq_false, Bool.false_eq_true, Bool.and_eq_true, Bool.and_eq_false_iff] at *; omega)) | skip) | apply guess | apply FnIs.useF (ks) | exact Or.inl rfl | exact Or.inr rfl | exact Side.mk trivial | exact Side.mk (fun h => h) | exact Side.mk (fun h => ⟨h, h⟩) | with_reducible exact Side.mk rfl | with_reducible exact Side.mk ⟨rfl, rfl⟩ | with_reducible exact Side.mk (by assumption) | with_reducible rfl | intro _)
    all_goals try (conv => whnf)
    all_goals first | rfl | omega | trace_state
  · rw [if_neg c1] at ks
    by_cases c2 : szNP L (szNS N 1048576) < 0
    · rw [if_pos c2] at ks
      repeat' ((conv => whnf); first | done | refine ev_step ?_ | refine ops_step ?_ | refine scan_step ?_ | refine draw_step ?_ | refine each_step ?_ | refine sl_step ?_ | refine hp_step ?_ | refine guard_no (by decide) ?_ | refine guard_go ?_ | apply cut_auto | with_reducible exact CutS.mk (Or.inl ⟨rfl, rfl, rfl⟩) | refine CutS.mk (Or.inr (sub_auto ?_)) | exact trivial | refine And.intro ?_ ?_ | (refine cond_split ?_ ?_ <;> intro _ <;> first | (exfalso; first | omega | (simp only [decide_eq_true_eq, decide_eq_false_iff_not, Bool.not_eq_true', Bool.not_eq_false', ne_eq, Bool.not_true, Bool.not_false, cond_true, cond_false, Bool.true_eq_false, Bool.false_eq_true, Bool.and_eq_true, Bool.and_eq_false_iff] at *; omega)) | skip) | apply guess | apply FnIs.useF (ks) | exact Or.inl rfl | exact Or.inr rfl | exact Side.mk trivial | exact Side.mk (fun h => h) | exact Side.mk (fun h => ⟨h, h⟩) | with_reducible exact Side.mk rfl | with_reducible exact Side.mk ⟨rfl, rfl⟩ | with_reducible exact Side.mk (by assumption) | with_reducible rfl | intro _)
      all_goals try (conv => whnf)
      all_goals first | rfl | omega | trace_state
    · rw [if_neg c2] at ks
      have hn := desk_nat c1 c2
      have f1 : (!(deskB N L == deskB N L)) = false := by simp
      repeat' ((conv => whnf); first | done | refine ev_step ?_ | refine ops_step ?_ | refine scan_step ?_ | refine draw_step ?_ | refine each_step ?_ | refine sl_step ?_ | refine hp_step ?_ | refine guard_no (by decide) ?_ | refine guard_go ?_ | apply cut_auto | with_reducible exact CutS.mk (Or.inl ⟨rfl, rfl, rfl⟩) | refine CutS.mk (Or.inr (sub_auto ?_)) | exact trivial | refine And.intro ?_ ?_ | (refine cond_split ?_ ?_ <;> intro hq_ <;> first | (exfalso; first | omega | (simp only [f1, cond_true, cond_false, Bool.not_true, Bool.not_false, Bool.and_true, Bool.true_and, Bool.and_false, Bool.false_and, Bool.or_true, Bool.true_or, Bool.or_false, Bool.false_or, Bool.true_eq_false, Bool.false_eq_true, decide_true, decide_false, reduceCtorEq] at hq_; done) | (rw [decide_eq_false_iff_not] at hq_; omega) | (rw [decide_eq_true_eq] at hq_; omega) | (simp only [f1, reduceCtorEq] at hq_; done) | exact Bool.noConfusion (Eq.trans (Eq.symm f1) hq_)) | skip) | apply guess | apply FnIs.useF (ks) | apply FnIs.useF (k_toDeskH N L ⟨hn⟩) | apply FnIs.useF (k_specValidDeskH N L ⟨hn⟩) | apply FnIs.useF (k_ValidDeskH N L ⟨hn⟩) | apply FnIs.useF (k_eqDeskH N L ⟨hn⟩) | exact Or.inl rfl | exact Or.inr rfl | exact Side.mk trivial | exact Side.mk (fun h => h) | exact Side.mk (fun h => ⟨h, h⟩) | with_reducible exact Side.mk rfl | with_reducible exact Side.mk ⟨rfl, rfl⟩ | with_reducible exact Side.mk (by assumption) | with_reducible rfl | intro _)
      all_goals try (conv => whnf)
      all_goals first | rfl | omega | trace_state
end Go.Sx.U
