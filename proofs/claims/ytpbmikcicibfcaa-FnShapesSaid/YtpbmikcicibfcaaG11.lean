/-
  Chapter 8: grids of one number, the law.
-/
import Derived.Test.YtpbmikcicibfcaaG10
namespace Go.Sx.U
set_option linter.unusedVariables false
set_option linter.unusedSimpArgs false
set_option maxRecDepth 100000
set_option maxHeartbeats 8000000
open Go Go.Sx Go.Proofs Go.Sx.M8

theorem k_EvenGrid (w h : Nat) (r : Int) (hk : Side ((1 ≤ w ∧ w ≤ 8) ∧ (1 ≤ h ∧ h ≤ 8) ∧ 0 ≤ r ∧ r ≤ 20)) : FnIs Try.prog 41 [.int .i64 w, .int .i64 h, .int .i64 r] 0 [] (.tuple [.agg [.sl 1 [], .sl 3 []], .bool true]) 4 (gridH true (rowsE h (w - 1) r) (rowsE (h - 1) w r)) := by
  obtain ⟨h1, h2, h3⟩ := hk.h
  have k1 := k_in w 1 8
  have k2 := k_in h 1 8
  have k3 := k_in r 0 20
  rw [decide_eq_true (by omega), decide_eq_true (by omega)] at k1 k2 k3
  obtain ⟨w', rfl⟩ : ∃ w' : Nat, w = w' + 1 := ⟨w - 1, by omega⟩
  obtain ⟨h', rfl⟩ : ∃ h' : Nat, h = h' + 1 := ⟨h - 1, by omega⟩
  have e1 : ((w' + 1 : Nat) : Int) - 1 = w' := by omega
  have e2 : ((h' + 1 : Nat) : Int) - 1 = h' := by omega
  have k4 := k_filled (h' + 1) w' r ⟨by omega⟩
  have k5 := k_filled h' (w' + 1) r ⟨by omega⟩
  rw [← e1] at k4
  rw [← e2] at k5
  refine fn_of_ev tok Try.func41 rfl rfl rfl ?_
  repeat' ((conv => whnf); first | done | refine ev_step ?_ | refine ops_step ?_ | refine scan_step ?_ | refine draw_step ?_ | refine each_step ?_ | refine sl_step ?_ | refine hp_step ?_ | refine guard_no (by decide) ?_ | refine guard_go ?_ | refine guard_old ?_ | apply cut_auto | with_reducible exact CutS.mk (Or.inl ⟨rfl, rfl, rfl⟩) | refine CutS.mk (Or.inr (sub_auto ?_)) | exact trivial | refine And.intro ?_ ?_ | (refine cond_split ?_ ?_ <;> intro _ <;> first | (exfalso; first | omega | (simp only [decide_eq_true_eq, decide_eq_false_iff_not, Bool.not_eq_true', Bool.not_eq_false', ne_eq, Bool.not_true, Bool.not_false, cond_true, cond_false, Bool.true_eq_false, Bool.false_eq_true, Bool.and_eq_true, Bool.and_eq_false_iff] at *; omega)) | skip) | apply guess | refine FnIs.useE (k1) rfl ?_ | refine FnIs.useE (k2) rfl ?_ | refine FnIs.useE (k3) rfl ?_ | refine FnIs.useE (k4) rfl ?_ | refine FnIs.useE (k5) rfl ?_ | exact Or.inl rfl | exact Or.inr rfl | exact Side.mk trivial | exact Side.mk (fun h => h) | exact Side.mk (fun h => ⟨h, h⟩) | with_reducible exact Side.mk rfl | with_reducible exact Side.mk ⟨rfl, rfl⟩ | with_reducible exact Side.mk (by assumption) | with_reducible rfl | intro _)
  all_goals try (conv => whnf)
  all_goals try (refine Side.mk ?_; first | (intros; omega) | (intro h1_ h2_; rw [h1_, h2_]; rfl) | (show List.length (_ ++ _) ≤ _; simp only [List.length_append, List.length_cons, List.length_nil, List.length_replicate, List.length_take]; omega) | (simp_all; done) | (simp_all; omega))
  all_goals first | rfl | (rw [rowsE_len]; done) | (rw [rowsE_len]; rfl) | trace_state
end Go.Sx.U
