/-
  Chapter 8: the uses of a choice: the law.
-/
import Derived.Test.YtpbmikcicibfcaaG23
namespace Go.Sx.U
set_option linter.unusedVariables false
set_option linter.unusedSimpArgs false
set_option maxRecDepth 100000
set_option maxHeartbeats 8000000
open Go Go.Sx Go.Proofs Go.Sx.M8

def marks4 (k : Int) (n : Nat) : List R4 := (List.range n).map fun i => ⟨k + 4 * (i : Nat), k + 4 * (i : Nat) + 1, k + 4 * (i : Nat) + 1 + 1, k + 4 * (i : Nat) + 1 + 1 + 1⟩
theorem marks4_length (k : Int) (n : Nat) : (marks4 k n).length = n := by simp [marks4]
theorem marks4_fill {k : Int} {xs : List R4} {i : Nat} (v : R4) (hv : v = ⟨k + 4 * (i : Nat), k + 4 * (i : Nat) + 1, k + 4 * (i : Nat) + 1 + 1, k + 4 * (i : Nat) + 1 + 1 + 1⟩) (h : i < xs.length) : (marks4 k i ++ xs.drop i).set i v = marks4 k (i + 1) ++ xs.drop (i + 1) := by
  subst hv
  rw [List.set_append_right _ _ (by simp [marks4]), marks4_length, Nat.sub_self, List.drop_eq_getElem_cons h, List.set_cons_zero]
  simp [marks4, List.range_succ]
theorem k_markNetS (xs : List R4) (k : Int) (h : Side (xs.length ≤ 1048577 ∧ 0 ≤ k ∧ k ≤ 1099511627776)) : FnIs Try.prog 25 [.sl 0 [], .int .i64 k] 1 [(0, .flat true (.r4 xs))] (.int .i64 (k + 4 * xs.length)) 1 [(0, .flat true (.r4 (marks4 k xs.length)))] := by
  obtain ⟨h1, h2, h3⟩ := h.h
  refine fn_of_ev tok Try.func25 rfl rfl rfl ?_
  repeat' ((conv => whnf); first | done | refine ev_step ?_ | refine ops_step ?_ | refine scan_step ?_ | refine draw_step ?_ | refine each_step ?_ | refine sl_step ?_ | refine hp_step ?_ | refine guard_no (by decide) ?_ | refine guard_go ?_ | refine guard_old ?_ | apply cut_auto | with_reducible exact CutS.mk (Or.inl ⟨rfl, rfl, rfl⟩) | refine CutS.mk (Or.inr (sub_auto ?_)) | exact trivial | refine And.intro ?_ ?_ | refine cond_split ?_ ?_ | apply guess | exact Or.inl rfl | exact Or.inr rfl | exact Side.mk trivial | exact Side.mk (fun h => h) | exact Side.mk (fun h => ⟨h, h⟩) | with_reducible exact Side.mk rfl | with_reducible exact Side.mk ⟨rfl, rfl⟩ | with_reducible exact Side.mk (by assumption) | with_reducible rfl | intro _)
  all_goals try (conv => whnf)
  refine loop_at (fun i : Nat => i ≤ xs.length) 1 (fun i => [(5, .int .i64 i), (1, .int .i64 (k + 4 * i))]) (fun i => [(0, .flat true (.r4 (marks4 k i ++ xs.drop i)))]) (fun i => xs.length - i) 0 (Nat.zero_le _) ?_ (fun i hi => ?_)
  · repeat' ((conv => whnf); first | done | refine ev_step ?_ | refine ops_step ?_ | refine scan_step ?_ | refine draw_step ?_ | refine each_step ?_ | refine sl_step ?_ | refine hp_step ?_ | refine guard_no (by decide) ?_ | refine guard_go ?_ | refine guard_old ?_ | apply cut_auto | with_reducible exact CutS.mk (Or.inl ⟨rfl, rfl, rfl⟩) | refine CutS.mk (Or.inr (sub_auto ?_)) | exact trivial | refine And.intro ?_ ?_ | refine cond_split ?_ ?_ | apply guess | exact Or.inl rfl | exact Or.inr rfl | exact Side.mk trivial | exact Side.mk (fun h => h) | exact Side.mk (fun h => ⟨h, h⟩) | with_reducible exact Side.mk rfl | with_reducible exact Side.mk ⟨rfl, rfl⟩ | with_reducible exact Side.mk (by assumption) | with_reducible rfl | intro _)
    all_goals try (conv => whnf)
    all_goals first | rfl | simp [marks4]
  · have hl : (marks4 k i ++ xs.drop i).length = xs.length := by simp [marks4]; omega
    by_cases hlt : i < xs.length
    · repeat' ((conv => whnf); first | done | refine ev_step ?_ | refine ops_step ?_ | refine scan_step ?_ | refine draw_step ?_ | refine each_step ?_ | refine sl_step ?_ | refine hp_step ?_ | refine guard_no (by decide) ?_ | refine guard_go ?_ | refine guard_old ?_ | apply cut_auto | with_reducible exact CutS.mk (Or.inl ⟨rfl, rfl, rfl⟩) | refine CutS.mk (Or.inr (sub_auto ?_)) | exact trivial | refine And.intro ?_ ?_ | (refine cond_split ?_ ?_ <;> intro _ <;> first | (exfalso; first | omega | (simp_all; done) | (simp_all; omega)) | skip) | apply guess | exact Or.inl rfl | exact Or.inr rfl | exact Side.mk trivial | exact Side.mk (fun h => h) | exact Side.mk (fun h => ⟨h, h⟩) | with_reducible exact Side.mk rfl | with_reducible exact Side.mk ⟨rfl, rfl⟩ | with_reducible exact Side.mk (by assumption) | with_reducible rfl | intro _)
      all_goals try (conv => whnf)
      all_goals try simp only [Int.toNat_natCast] at *
      all_goals try (refine Side.mk ?_; first | (intros; omega) | (intro h1_ h2_; rw [h1_, h2_]; rfl) | (show List.length (_ ++ _) ≤ _; simp only [List.length_append, List.length_cons, List.length_nil, List.length_replicate, List.length_take]; omega) | (simp_all; done) | (simp_all; omega))
      refine ⟨i + 1, by omega, by omega, ?_⟩
      have hi' : i < (marks4 k i ++ xs.drop i).length := by omega
      simp only [List.set_set, getD_set_self, List.length_set, hi']
      repeat' ((conv => whnf); first | done | refine ev_step ?_ | refine ops_step ?_ | refine scan_step ?_ | refine draw_step ?_ | refine each_step ?_ | refine sl_step ?_ | refine hp_step ?_ | refine guard_no (by decide) ?_ | refine guard_go ?_ | refine guard_old ?_ | apply cut_auto | with_reducible exact CutS.mk (Or.inl ⟨rfl, rfl, rfl⟩) | refine CutS.mk (Or.inr (sub_auto ?_)) | exact trivial | refine And.intro ?_ ?_ | refine cond_split ?_ ?_ | apply guess | exact Or.inl rfl | exact Or.inr rfl | exact Side.mk trivial | exact Side.mk (fun h => h) | exact Side.mk (fun h => ⟨h, h⟩) | with_reducible exact Side.mk rfl | with_reducible exact Side.mk ⟨rfl, rfl⟩ | with_reducible exact Side.mk (by assumption) | with_reducible rfl | intro _)
      all_goals try (conv => whnf)
      all_goals first | rfl | omega | (rw [marks4_fill _ rfl hlt]) | trace_state
    · repeat' ((conv => whnf); first | done | refine ev_step ?_ | refine ops_step ?_ | refine scan_step ?_ | refine draw_step ?_ | refine each_step ?_ | refine sl_step ?_ | refine hp_step ?_ | refine guard_no (by decide) ?_ | refine guard_go ?_ | refine guard_old ?_ | apply cut_auto | with_reducible exact CutS.mk (Or.inl ⟨rfl, rfl, rfl⟩) | refine CutS.mk (Or.inr (sub_auto ?_)) | exact trivial | refine And.intro ?_ ?_ | (refine cond_split ?_ ?_ <;> intro _ <;> first | (exfalso; first | omega | (simp_all; done) | (simp_all; omega)) | skip) | apply guess | exact Or.inl rfl | exact Or.inr rfl | exact Side.mk trivial | exact Side.mk (fun h => h) | exact Side.mk (fun h => ⟨h, h⟩) | with_reducible exact Side.mk rfl | with_reducible exact Side.mk ⟨rfl, rfl⟩ | with_reducible exact Side.mk (by assumption) | with_reducible rfl | intro _)
      all_goals try (conv => whnf)
      all_goals try (refine Side.mk ?_; first | (intros; omega) | (intro h1_ h2_; rw [h1_, h2_]; rfl) | (show List.length (_ ++ _) ≤ _; simp only [List.length_append, List.length_cons, List.length_nil, List.length_replicate, List.length_take]; omega) | (simp_all; done) | (simp_all; omega))
      · omega
      · rw [show i = xs.length by omega, List.drop_length, List.append_nil]
end Go.Sx.U
