/-
  FnExactValidBundle, as a contract.
-/
import Derived.Test.YtkjbmkldghkpfaaK3
namespace Go.Sx.U
set_option linter.unusedVariables false
set_option linter.unusedSimpArgs false
set_option maxRecDepth 100000
set_option maxHeartbeats 8000000
open Go Go.Sx Go.Proofs Go.Sx.M0

theorem nat_sz {W : List (List Int)} (h : ¬ szN W 1048576 < 0) : W.length ≤ 1048577 ∧ ∀ xs ∈ W, xs.length ≤ 1048577 := by
  obtain ⟨_, q2, q3⟩ := szN_ok (xss := W) (l := 1048576) (by omega) (by omega)
  exact ⟨by omega, fun xs hxs => by have := q3 xs hxs; omega⟩
abbrev BIn (W : List (List Int)) : Prop := W.length ≤ 9223372036854775807 ∧ ∀ xs ∈ W, xs.length ≤ 9223372036854775807 ∧ ∀ k ∈ xs, inI64 k
theorem BIn.sz {W : List (List Int)} (h : BIn W) : Side ((0 : Int) ≤ 1048576 ∧ (1048576 : Int) ≤ 1048576 ∧ W.length ≤ 9223372036854775807 ∧ ∀ xs ∈ W, xs.length ≤ 9223372036854775807) := ⟨by omega, by omega, h.1, fun xs hxs => (h.2 xs hxs).1⟩
theorem k_FnExactValidBundle (W : List (List Int)) (hp : Side (BIn W)) : FnIs Try.prog 3 [.agg [.sl 1 []]] 2 [(1, .flat false (.rows 0 0 W.length)), (0, .nestI false .i64 W)] (.bool true) 2 [] := by
  refine fn_of_ev tok Try.func3 rfl rfl rfl ?_
  by_cases hl : szN W 1048576 < 0
  · repeat' ((conv => whnf); first | done | refine ev_step ?_ | refine ops_step ?_ | refine scan_step ?_ | refine draw_step ?_ | refine each_step ?_ | apply cut_auto | with_reducible exact CutS.mk (Or.inl ⟨rfl, rfl, rfl⟩) | refine CutS.mk (Or.inr (sub_auto ?_)) | exact trivial | refine And.intro ?_ ?_ | (refine cond_split ?_ ?_ <;> intro _ <;> first | (exfalso; first | omega | (simp only [decide_eq_true_eq, decide_eq_false_iff_not, Bool.not_eq_true', Bool.not_eq_false', ne_eq, Bool.not_true, Bool.not_false, cond_true, cond_false, Bool.true_eq_false, Bool.false_eq_true] at *; omega)) | skip) | apply guess | apply FnIs.useF (k_szBundle _ _ hp.h.sz) | exact Or.inl rfl | exact Or.inr rfl | exact Side.mk trivial | exact Side.mk (fun h => h) | exact Side.mk (fun h => ⟨h, h⟩) | with_reducible exact Side.mk rfl | with_reducible exact Side.mk ⟨rfl, rfl⟩ | with_reducible exact Side.mk (by assumption) | with_reducible rfl | intro _)
    all_goals try (conv => whnf)
    all_goals try (refine Side.mk ?_; first | (intros; omega) | (simp_all; done) | (simp_all; omega))
    all_goals first | omega | simp_all
  · obtain ⟨h1, h2⟩ := nat_sz hl
    repeat' ((conv => whnf); first | done | refine ev_step ?_ | refine ops_step ?_ | refine scan_step ?_ | refine draw_step ?_ | refine each_step ?_ | apply cut_auto | with_reducible exact CutS.mk (Or.inl ⟨rfl, rfl, rfl⟩) | refine CutS.mk (Or.inr (sub_auto ?_)) | exact trivial | refine And.intro ?_ ?_ | (refine cond_split ?_ ?_ <;> intro _ <;> first | (exfalso; first | omega | (simp only [decide_eq_true_eq, decide_eq_false_iff_not, Bool.not_eq_true', Bool.not_eq_false', ne_eq, Bool.not_true, Bool.not_false, cond_true, cond_false, Bool.true_eq_false, Bool.false_eq_true] at *; omega)) | skip) | apply guess | apply FnIs.useF (k_szBundle _ _ hp.h.sz) | apply FnIs.useF (k_toBundle W ⟨⟨h1, h2⟩⟩) | apply FnIs.useF (k_specValidBundle W ⟨h1⟩) | apply FnIs.useF (k_ValidBundle W ⟨h1⟩) | apply FnIs.useF (k_eqBundle_same W ⟨⟨h1, h2⟩⟩) | exact Or.inl rfl | exact Or.inr rfl | exact Side.mk trivial | exact Side.mk (fun h => h) | exact Side.mk (fun h => ⟨h, h⟩) | with_reducible exact Side.mk rfl | with_reducible exact Side.mk ⟨rfl, rfl⟩ | with_reducible exact Side.mk (by assumption) | with_reducible rfl | intro _)
    all_goals try (conv => whnf)
    all_goals try (refine Side.mk ?_; first | (intros; omega) | (simp_all; done) | (simp_all; omega))
    all_goals try simp_all
    all_goals trace_state
end Go.Sx.U
