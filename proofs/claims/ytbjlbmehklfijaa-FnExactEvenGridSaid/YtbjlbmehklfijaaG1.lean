/-
  Chapter 8: grids (contracts).
-/
import Derived.Test.YtbjlbmehklfijaaM8
namespace Go.Sx.U
set_option linter.unusedVariables false
set_option linter.unusedSimpArgs false
set_option maxRecDepth 100000
set_option maxHeartbeats 8000000
open Go Go.Sx Go.Proofs Go.Sx.M8

theorem k_room (n : Int) : FnIs Try.prog 70 [.int .i64 n] 0 [] (.bool (!inR n)) 0 [] := by
  refine fn_of_ev tok Try.func70 rfl rfl rfl ?_
  repeat' ((conv => whnf); first | done | refine ev_step ?_ | refine ops_step ?_ | refine scan_step ?_ | refine draw_step ?_ | refine each_step ?_ | refine guard_no (by decide) ?_ | refine guard_go ?_ | apply cut_auto | with_reducible exact CutS.mk (Or.inl ⟨rfl, rfl, rfl⟩) | refine CutS.mk (Or.inr (sub_auto ?_)) | exact trivial | refine And.intro ?_ ?_ | refine cond_split ?_ ?_ | apply guess | apply FnIs.useF (k_in _ _ _) | exact Or.inl rfl | exact Or.inr rfl | exact Side.mk trivial | exact Side.mk (fun h => h) | exact Side.mk (fun h => ⟨h, h⟩) | with_reducible exact Side.mk rfl | with_reducible exact Side.mk ⟨rfl, rfl⟩ | with_reducible exact Side.mk (by assumption) | with_reducible rfl | intro _)
  all_goals try (conv => whnf)
  all_goals rfl
theorem k_IdxRoom (xs : List Int) (h : Side (xs.length ≤ 1048577)) : FnIs Try.prog 87 [.sl 0 [], .func 70 []] 1 [(0, .flat false (.ints .i64 xs))] (.int .i64 (idxF (fun n => !inR n) xs)) 1 [] := by
  have := h.h
  refine fn_of_ev tok Try.func87 rfl rfl rfl ?_
  repeat' ((conv => whnf); first | done | refine ev_step ?_ | refine ops_step ?_ | refine scan_step ?_ | refine draw_step ?_ | refine each_step ?_ | refine guard_no (by decide) ?_ | refine guard_go ?_ | apply cut_auto | with_reducible exact CutS.mk (Or.inl ⟨rfl, rfl, rfl⟩) | refine CutS.mk (Or.inr (sub_auto ?_)) | exact trivial | refine And.intro ?_ ?_ | refine cond_split ?_ ?_ | apply guess | exact Or.inl rfl | exact Or.inr rfl | exact Side.mk trivial | exact Side.mk (fun h => h) | exact Side.mk (fun h => ⟨h, h⟩) | with_reducible exact Side.mk rfl | with_reducible exact Side.mk ⟨rfl, rfl⟩ | with_reducible exact Side.mk (by assumption) | with_reducible rfl | intro _)
  all_goals try (conv => whnf)
  refine loop_at (fun i : Nat => i ≤ xs.length ∧ (xs.take i).any (fun n => !inR n) = false) 1 (fun i => [(8, .int .i64 i), (5, .top)]) (fun _ => []) (fun i => xs.length - i) 0 ⟨Nat.zero_le _, rfl⟩ ?_ (fun i hi => ?_)
  · repeat' ((conv => whnf); first | done | refine ev_step ?_ | refine ops_step ?_ | refine scan_step ?_ | refine draw_step ?_ | refine each_step ?_ | refine guard_no (by decide) ?_ | refine guard_go ?_ | apply cut_auto | with_reducible exact CutS.mk (Or.inl ⟨rfl, rfl, rfl⟩) | refine CutS.mk (Or.inr (sub_auto ?_)) | exact trivial | refine And.intro ?_ ?_ | refine cond_split ?_ ?_ | apply guess | exact Or.inl rfl | exact Or.inr rfl | exact Side.mk trivial | exact Side.mk (fun h => h) | exact Side.mk (fun h => ⟨h, h⟩) | with_reducible exact Side.mk rfl | with_reducible exact Side.mk ⟨rfl, rfl⟩ | with_reducible exact Side.mk (by assumption) | with_reducible rfl | intro _)
    all_goals try (conv => whnf)
    all_goals rfl
  · obtain ⟨hi1, hi2⟩ := hi
    by_cases hlt : i < xs.length
    · have k1 := k_room (xs.getD i 0)
      cases hb : (!inR (xs.getD i 0)) <;> rw [hb] at k1
      · repeat' ((conv => whnf); first | done | refine ev_step ?_ | refine ops_step ?_ | refine scan_step ?_ | refine draw_step ?_ | refine each_step ?_ | refine guard_no (by decide) ?_ | refine guard_go ?_ | apply cut_auto | with_reducible exact CutS.mk (Or.inl ⟨rfl, rfl, rfl⟩) | refine CutS.mk (Or.inr (sub_auto ?_)) | exact trivial | refine And.intro ?_ ?_ | (refine cond_split ?_ ?_ <;> intro _ <;> first | (exfalso; first | omega | (simp only [decide_eq_true_eq, decide_eq_false_iff_not, Bool.not_eq_true', Bool.not_eq_false', ne_eq, Bool.not_true, Bool.not_false, cond_true, cond_false, Bool.true_eq_false, Bool.false_eq_true] at *; omega)) | skip) | apply guess | apply FnIs.useF (k1) | exact Or.inl rfl | exact Or.inr rfl | exact Side.mk trivial | exact Side.mk (fun h => h) | exact Side.mk (fun h => ⟨h, h⟩) | with_reducible exact Side.mk rfl | with_reducible exact Side.mk ⟨rfl, rfl⟩ | with_reducible exact Side.mk (by assumption) | with_reducible rfl | intro _)
        all_goals try (conv => whnf)
        all_goals try simp only [Int.toNat_natCast]
        all_goals try (refine Side.mk ?_; first | (intros; omega) | (simp_all; done) | (simp_all; omega))
        refine ⟨i + 1, ⟨by omega, by rw [any_succ 0 hlt, hi2, hb]; rfl⟩, by omega, ?_⟩
        repeat' ((conv => whnf); first | done | refine ev_step ?_ | refine ops_step ?_ | refine scan_step ?_ | refine draw_step ?_ | refine each_step ?_ | refine guard_no (by decide) ?_ | refine guard_go ?_ | apply cut_auto | with_reducible exact CutS.mk (Or.inl ⟨rfl, rfl, rfl⟩) | refine CutS.mk (Or.inr (sub_auto ?_)) | exact trivial | refine And.intro ?_ ?_ | refine cond_split ?_ ?_ | apply guess | exact Or.inl rfl | exact Or.inr rfl | exact Side.mk trivial | exact Side.mk (fun h => h) | exact Side.mk (fun h => ⟨h, h⟩) | with_reducible exact Side.mk rfl | with_reducible exact Side.mk ⟨rfl, rfl⟩ | with_reducible exact Side.mk (by assumption) | with_reducible rfl | intro _)
        all_goals try (conv => whnf)
        all_goals first | rfl | omega
      · repeat' ((conv => whnf); first | done | refine ev_step ?_ | refine ops_step ?_ | refine scan_step ?_ | refine draw_step ?_ | refine each_step ?_ | refine guard_no (by decide) ?_ | refine guard_go ?_ | apply cut_auto | with_reducible exact CutS.mk (Or.inl ⟨rfl, rfl, rfl⟩) | refine CutS.mk (Or.inr (sub_auto ?_)) | exact trivial | refine And.intro ?_ ?_ | (refine cond_split ?_ ?_ <;> intro _ <;> first | (exfalso; first | omega | (simp only [decide_eq_true_eq, decide_eq_false_iff_not, Bool.not_eq_true', Bool.not_eq_false', ne_eq, Bool.not_true, Bool.not_false, cond_true, cond_false, Bool.true_eq_false, Bool.false_eq_true] at *; omega)) | skip) | apply guess | apply FnIs.useF (k1) | exact Or.inl rfl | exact Or.inr rfl | exact Side.mk trivial | exact Side.mk (fun h => h) | exact Side.mk (fun h => ⟨h, h⟩) | with_reducible exact Side.mk rfl | with_reducible exact Side.mk ⟨rfl, rfl⟩ | with_reducible exact Side.mk (by assumption) | with_reducible rfl | intro _)
        all_goals try (conv => whnf)
        all_goals try simp only [Int.toNat_natCast]
        all_goals try (refine Side.mk ?_; first | (intros; omega) | (simp_all; done) | (simp_all; omega))
        exact idxF_yes (d := 0) hlt hi2 hb
    · repeat' ((conv => whnf); first | done | refine ev_step ?_ | refine ops_step ?_ | refine scan_step ?_ | refine draw_step ?_ | refine each_step ?_ | refine guard_no (by decide) ?_ | refine guard_go ?_ | apply cut_auto | with_reducible exact CutS.mk (Or.inl ⟨rfl, rfl, rfl⟩) | refine CutS.mk (Or.inr (sub_auto ?_)) | exact trivial | refine And.intro ?_ ?_ | (refine cond_split ?_ ?_ <;> intro _ <;> first | (exfalso; first | omega | (simp only [decide_eq_true_eq, decide_eq_false_iff_not, Bool.not_eq_true', Bool.not_eq_false', ne_eq, Bool.not_true, Bool.not_false, cond_true, cond_false, Bool.true_eq_false, Bool.false_eq_true] at *; omega)) | skip) | apply guess | exact Or.inl rfl | exact Or.inr rfl | exact Side.mk trivial | exact Side.mk (fun h => h) | exact Side.mk (fun h => ⟨h, h⟩) | with_reducible exact Side.mk rfl | with_reducible exact Side.mk ⟨rfl, rfl⟩ | with_reducible exact Side.mk (by assumption) | with_reducible rfl | intro _)
      all_goals try (conv => whnf)
      rw [take_all (by omega)] at hi2
      exact idxF_no hi2
theorem k_HasRoom (xs : List Int) (h : Side (xs.length ≤ 1048577)) : FnIs Try.prog 69 [.sl 0 [], .func 70 []] 1 [(0, .flat false (.ints .i64 xs))] (.bool (xs.any (fun n => !inR n))) 1 [] := by
  refine fn_of_ev tok Try.func69 rfl rfl rfl ?_
  repeat' ((conv => whnf); first | done | refine ev_step ?_ | refine ops_step ?_ | refine scan_step ?_ | refine draw_step ?_ | refine each_step ?_ | refine guard_no (by decide) ?_ | refine guard_go ?_ | apply cut_auto | with_reducible exact CutS.mk (Or.inl ⟨rfl, rfl, rfl⟩) | refine CutS.mk (Or.inr (sub_auto ?_)) | exact trivial | refine And.intro ?_ ?_ | refine cond_split ?_ ?_ | apply guess | apply FnIs.useF (k_IdxRoom _ h) | exact Or.inl rfl | exact Or.inr rfl | exact Side.mk trivial | exact Side.mk (fun h => h) | exact Side.mk (fun h => ⟨h, h⟩) | with_reducible exact Side.mk rfl | with_reducible exact Side.mk ⟨rfl, rfl⟩ | with_reducible exact Side.mk (by assumption) | with_reducible rfl | intro _)
  all_goals try (conv => whnf)
  all_goals exact idxF_ge.symm
theorem k_badRow (r : List Int) (e : Int) (h : Side (r.length ≤ 1048577)) : FnIs Try.prog 68 [.sl 0 [], .ptr 1 [] 0 0] 2 [(0, .flat false (.ints .i64 r)), (1, .flat false (.gen 1 [[.int .i64 e]]))] (.bool (badRow e r)) 2 [] := by
  refine fn_of_ev tok Try.func68 rfl rfl rfl ?_
  repeat' ((conv => whnf); first | done | refine ev_step ?_ | refine ops_step ?_ | refine scan_step ?_ | refine draw_step ?_ | refine each_step ?_ | refine guard_no (by decide) ?_ | refine guard_go ?_ | apply cut_auto | with_reducible exact CutS.mk (Or.inl ⟨rfl, rfl, rfl⟩) | refine CutS.mk (Or.inr (sub_auto ?_)) | exact trivial | refine And.intro ?_ ?_ | refine cond_split ?_ ?_ | apply guess | apply FnIs.useF (k_HasRoom _ h) | exact Or.inl rfl | exact Or.inr rfl | exact Side.mk trivial | exact Side.mk (fun h => h) | exact Side.mk (fun h => ⟨h, h⟩) | with_reducible exact Side.mk rfl | with_reducible exact Side.mk ⟨rfl, rfl⟩ | with_reducible exact Side.mk (by assumption) | with_reducible rfl | intro _)
  all_goals try (conv => whnf)
  all_goals first | rfl | (unfold badRow; cases decide ((r.length : Int) ≠ e) <;> rfl) | trace_state
theorem k_IdxRow (xss : List (List Int)) (e : Int) (h : Side (xss.length ≤ 1048577 ∧ ∀ xs ∈ xss, xs.length ≤ 1048577)) : FnIs Try.prog 86 [.sl 1 [], .func 68 [.ptr 2 [] 0 0]] 3 [(1, .flat false (.rows 0 0 xss.length)), (0, .nestI false .i64 xss), (2, .flat false (.gen 1 [[.int .i64 e]]))] (.int .i64 (idxF (badRow e) xss)) 3 [] := by
  obtain ⟨h1, h2⟩ := h.h
  refine fn_of_ev tok Try.func86 rfl rfl rfl ?_
  repeat' ((conv => whnf); first | done | refine ev_step ?_ | refine ops_step ?_ | refine scan_step ?_ | refine draw_step ?_ | refine each_step ?_ | refine guard_no (by decide) ?_ | refine guard_go ?_ | apply cut_auto | with_reducible exact CutS.mk (Or.inl ⟨rfl, rfl, rfl⟩) | refine CutS.mk (Or.inr (sub_auto ?_)) | exact trivial | refine And.intro ?_ ?_ | refine cond_split ?_ ?_ | apply guess | exact Or.inl rfl | exact Or.inr rfl | exact Side.mk trivial | exact Side.mk (fun h => h) | exact Side.mk (fun h => ⟨h, h⟩) | with_reducible exact Side.mk rfl | with_reducible exact Side.mk ⟨rfl, rfl⟩ | with_reducible exact Side.mk (by assumption) | with_reducible rfl | intro _)
  all_goals try (conv => whnf)
  refine loop_at (fun i : Nat => i ≤ xss.length ∧ (xss.take i).any (badRow e) = false) 3 (fun i => [(8, .int .i64 i), (5, .top)]) (fun _ => []) (fun i => xss.length - i) 0 ⟨Nat.zero_le _, rfl⟩ ?_ (fun i hi => ?_)
  · repeat' ((conv => whnf); first | done | refine ev_step ?_ | refine ops_step ?_ | refine scan_step ?_ | refine draw_step ?_ | refine each_step ?_ | refine guard_no (by decide) ?_ | refine guard_go ?_ | apply cut_auto | with_reducible exact CutS.mk (Or.inl ⟨rfl, rfl, rfl⟩) | refine CutS.mk (Or.inr (sub_auto ?_)) | exact trivial | refine And.intro ?_ ?_ | refine cond_split ?_ ?_ | apply guess | exact Or.inl rfl | exact Or.inr rfl | exact Side.mk trivial | exact Side.mk (fun h => h) | exact Side.mk (fun h => ⟨h, h⟩) | with_reducible exact Side.mk rfl | with_reducible exact Side.mk ⟨rfl, rfl⟩ | with_reducible exact Side.mk (by assumption) | with_reducible rfl | intro _)
    all_goals try (conv => whnf)
    all_goals rfl
  · obtain ⟨hi1, hi2⟩ := hi
    by_cases hlt : i < xss.length
    · have k1 := k_badRow (xss.getD i []) e ⟨h2 _ (mem_of_getD (d := []) hlt)⟩
      cases hb : badRow e (xss.getD i []) <;> rw [hb] at k1
      · repeat' ((conv => whnf); first | done | refine ev_step ?_ | refine ops_step ?_ | refine scan_step ?_ | refine draw_step ?_ | refine each_step ?_ | refine guard_no (by decide) ?_ | refine guard_go ?_ | apply cut_auto | with_reducible exact CutS.mk (Or.inl ⟨rfl, rfl, rfl⟩) | refine CutS.mk (Or.inr (sub_auto ?_)) | exact trivial | refine And.intro ?_ ?_ | (refine cond_split ?_ ?_ <;> intro _ <;> first | (exfalso; first | omega | (simp only [decide_eq_true_eq, decide_eq_false_iff_not, Bool.not_eq_true', Bool.not_eq_false', ne_eq, Bool.not_true, Bool.not_false, cond_true, cond_false, Bool.true_eq_false, Bool.false_eq_true] at *; omega)) | skip) | apply guess | apply FnIs.useF (k1) | exact Or.inl rfl | exact Or.inr rfl | exact Side.mk trivial | exact Side.mk (fun h => h) | exact Side.mk (fun h => ⟨h, h⟩) | with_reducible exact Side.mk rfl | with_reducible exact Side.mk ⟨rfl, rfl⟩ | with_reducible exact Side.mk (by assumption) | with_reducible rfl | intro _)
        all_goals try (conv => whnf)
        all_goals try simp only [Int.toNat_natCast]
        all_goals try (refine Side.mk ?_; first | (intros; omega) | (simp_all; done) | (simp_all; omega))
        all_goals try omega
        refine ⟨i + 1, ⟨by omega, by rw [any_succ [] hlt, hi2, hb]; rfl⟩, by omega, ?_⟩
        repeat' ((conv => whnf); first | done | refine ev_step ?_ | refine ops_step ?_ | refine scan_step ?_ | refine draw_step ?_ | refine each_step ?_ | refine guard_no (by decide) ?_ | refine guard_go ?_ | apply cut_auto | with_reducible exact CutS.mk (Or.inl ⟨rfl, rfl, rfl⟩) | refine CutS.mk (Or.inr (sub_auto ?_)) | exact trivial | refine And.intro ?_ ?_ | refine cond_split ?_ ?_ | apply guess | exact Or.inl rfl | exact Or.inr rfl | exact Side.mk trivial | exact Side.mk (fun h => h) | exact Side.mk (fun h => ⟨h, h⟩) | with_reducible exact Side.mk rfl | with_reducible exact Side.mk ⟨rfl, rfl⟩ | with_reducible exact Side.mk (by assumption) | with_reducible rfl | intro _)
        all_goals try (conv => whnf)
        all_goals first | rfl | omega
      · repeat' ((conv => whnf); first | done | refine ev_step ?_ | refine ops_step ?_ | refine scan_step ?_ | refine draw_step ?_ | refine each_step ?_ | refine guard_no (by decide) ?_ | refine guard_go ?_ | apply cut_auto | with_reducible exact CutS.mk (Or.inl ⟨rfl, rfl, rfl⟩) | refine CutS.mk (Or.inr (sub_auto ?_)) | exact trivial | refine And.intro ?_ ?_ | (refine cond_split ?_ ?_ <;> intro _ <;> first | (exfalso; first | omega | (simp only [decide_eq_true_eq, decide_eq_false_iff_not, Bool.not_eq_true', Bool.not_eq_false', ne_eq, Bool.not_true, Bool.not_false, cond_true, cond_false, Bool.true_eq_false, Bool.false_eq_true] at *; omega)) | skip) | apply guess | apply FnIs.useF (k1) | exact Or.inl rfl | exact Or.inr rfl | exact Side.mk trivial | exact Side.mk (fun h => h) | exact Side.mk (fun h => ⟨h, h⟩) | with_reducible exact Side.mk rfl | with_reducible exact Side.mk ⟨rfl, rfl⟩ | with_reducible exact Side.mk (by assumption) | with_reducible rfl | intro _)
        all_goals try (conv => whnf)
        all_goals try simp only [Int.toNat_natCast]
        all_goals try (refine Side.mk ?_; first | (intros; omega) | (simp_all; done) | (simp_all; omega))
        all_goals try omega
        exact idxF_yes (d := []) hlt hi2 hb
    · repeat' ((conv => whnf); first | done | refine ev_step ?_ | refine ops_step ?_ | refine scan_step ?_ | refine draw_step ?_ | refine each_step ?_ | refine guard_no (by decide) ?_ | refine guard_go ?_ | apply cut_auto | with_reducible exact CutS.mk (Or.inl ⟨rfl, rfl, rfl⟩) | refine CutS.mk (Or.inr (sub_auto ?_)) | exact trivial | refine And.intro ?_ ?_ | (refine cond_split ?_ ?_ <;> intro _ <;> first | (exfalso; first | omega | (simp only [decide_eq_true_eq, decide_eq_false_iff_not, Bool.not_eq_true', Bool.not_eq_false', ne_eq, Bool.not_true, Bool.not_false, cond_true, cond_false, Bool.true_eq_false, Bool.false_eq_true] at *; omega)) | skip) | apply guess | exact Or.inl rfl | exact Or.inr rfl | exact Side.mk trivial | exact Side.mk (fun h => h) | exact Side.mk (fun h => ⟨h, h⟩) | with_reducible exact Side.mk rfl | with_reducible exact Side.mk ⟨rfl, rfl⟩ | with_reducible exact Side.mk (by assumption) | with_reducible rfl | intro _)
      all_goals try (conv => whnf)
      rw [take_all (by omega)] at hi2
      exact idxF_no hi2
theorem k_HasRow (xss : List (List Int)) (e : Int) (h : Side (xss.length ≤ 1048577 ∧ ∀ xs ∈ xss, xs.length ≤ 1048577)) : FnIs Try.prog 67 [.sl 1 [], .func 68 [.ptr 2 [] 0 0]] 3 [(1, .flat false (.rows 0 0 xss.length)), (0, .nestI false .i64 xss), (2, .flat false (.gen 1 [[.int .i64 e]]))] (.bool (xss.any (badRow e))) 3 [] := by
  refine fn_of_ev tok Try.func67 rfl rfl rfl ?_
  repeat' ((conv => whnf); first | done | refine ev_step ?_ | refine ops_step ?_ | refine scan_step ?_ | refine draw_step ?_ | refine each_step ?_ | refine guard_no (by decide) ?_ | refine guard_go ?_ | apply cut_auto | with_reducible exact CutS.mk (Or.inl ⟨rfl, rfl, rfl⟩) | refine CutS.mk (Or.inr (sub_auto ?_)) | exact trivial | refine And.intro ?_ ?_ | refine cond_split ?_ ?_ | apply guess | apply FnIs.useF (k_IdxRow _ _ h) | exact Or.inl rfl | exact Or.inr rfl | exact Side.mk trivial | exact Side.mk (fun h => h) | exact Side.mk (fun h => ⟨h, h⟩) | with_reducible exact Side.mk rfl | with_reducible exact Side.mk ⟨rfl, rfl⟩ | with_reducible exact Side.mk (by assumption) | with_reducible rfl | intro _)
  all_goals try (conv => whnf)
  all_goals exact idxF_ge.symm
theorem k_roomsOk (xss : List (List Int)) (m e : Int) (h : Side (xss.length ≤ 1048577 ∧ ∀ xs ∈ xss, xs.length ≤ 1048577)) : FnIs Try.prog 37 [.sl 1 [], .int .i64 m, .int .i64 e] 2 [(1, .flat false (.rows 0 0 xss.length)), (0, .nestI false .i64 xss)] (.bool (okRows m e xss)) 2 [] := by
  have := h.h
  refine fn_of_ev tok Try.func37 rfl rfl rfl ?_
  repeat' ((conv => whnf); first | done | refine ev_step ?_ | refine ops_step ?_ | refine scan_step ?_ | refine draw_step ?_ | refine each_step ?_ | refine guard_no (by decide) ?_ | refine guard_go ?_ | apply cut_auto | with_reducible exact CutS.mk (Or.inl ⟨rfl, rfl, rfl⟩) | refine CutS.mk (Or.inr (sub_auto ?_)) | exact trivial | refine And.intro ?_ ?_ | refine cond_split ?_ ?_ | apply guess | apply FnIs.useF (k_HasRow _ e h) | exact Or.inl rfl | exact Or.inr rfl | exact Side.mk trivial | exact Side.mk (fun h => h) | exact Side.mk (fun h => ⟨h, h⟩) | with_reducible exact Side.mk rfl | with_reducible exact Side.mk ⟨rfl, rfl⟩ | with_reducible exact Side.mk (by assumption) | with_reducible rfl | intro _)
  all_goals try (conv => whnf)
  all_goals try (refine Side.mk ?_; first | (intros; omega) | (simp_all; done) | (simp_all; omega))
  all_goals first | rfl | (unfold okRows; cases decide ((xss.length : Int) = m) <;> rfl) | trace_state
theorem k_l08Rows (xss : List (List Int)) (m e : Int) (h : Side (xss.length ≤ 1048577 ∧ e ≤ 1048577)) : FnIs Try.prog 65 [.sl 1 [], .int .i64 m, .int .i64 e] 2 [(1, .flat false (.rows 0 0 xss.length)), (0, .nestI false .i64 xss)] (.bool (okRows m e xss)) 2 [] := by
  obtain ⟨h1, h2⟩ := h.h
  refine fn_of_ev tok Try.func65 rfl rfl rfl ?_
  by_cases hl : (xss.length : Int) = m
  · repeat' ((conv => whnf); first | done | refine ev_step ?_ | refine ops_step ?_ | refine scan_step ?_ | refine draw_step ?_ | refine each_step ?_ | refine guard_no (by decide) ?_ | refine guard_go ?_ | apply cut_auto | with_reducible exact CutS.mk (Or.inl ⟨rfl, rfl, rfl⟩) | refine CutS.mk (Or.inr (sub_auto ?_)) | exact trivial | refine And.intro ?_ ?_ | (refine cond_split ?_ ?_ <;> intro _ <;> first | (exfalso; first | omega | (simp only [decide_eq_true_eq, decide_eq_false_iff_not, Bool.not_eq_true', Bool.not_eq_false', ne_eq, Bool.not_true, Bool.not_false, cond_true, cond_false, Bool.true_eq_false, Bool.false_eq_true] at *; omega)) | skip) | apply guess | exact Or.inl rfl | exact Or.inr rfl | exact Side.mk trivial | exact Side.mk (fun h => h) | exact Side.mk (fun h => ⟨h, h⟩) | with_reducible exact Side.mk rfl | with_reducible exact Side.mk ⟨rfl, rfl⟩ | with_reducible exact Side.mk (by assumption) | with_reducible rfl | intro _)
    all_goals try (conv => whnf)
    all_goals try omega
    refine loop_at (fun i : Nat => i ≤ xss.length ∧ (xss.take i).any (badRow e) = false) 2 (fun i => [(7, .int .i64 i), (8, .top)]) (fun _ => []) (fun i => xss.length - i) 0 ⟨Nat.zero_le _, rfl⟩ ?_ (fun i hi => ?_)
    · repeat' ((conv => whnf); first | done | refine ev_step ?_ | refine ops_step ?_ | refine scan_step ?_ | refine draw_step ?_ | refine each_step ?_ | refine guard_no (by decide) ?_ | refine guard_go ?_ | apply cut_auto | with_reducible exact CutS.mk (Or.inl ⟨rfl, rfl, rfl⟩) | refine CutS.mk (Or.inr (sub_auto ?_)) | exact trivial | refine And.intro ?_ ?_ | refine cond_split ?_ ?_ | apply guess | exact Or.inl rfl | exact Or.inr rfl | exact Side.mk trivial | exact Side.mk (fun h => h) | exact Side.mk (fun h => ⟨h, h⟩) | with_reducible exact Side.mk rfl | with_reducible exact Side.mk ⟨rfl, rfl⟩ | with_reducible exact Side.mk (by assumption) | with_reducible rfl | intro _)
      all_goals try (conv => whnf)
      all_goals rfl
    · obtain ⟨hi1, hi2⟩ := hi
      by_cases hlt : i < xss.length
      · by_cases hle : ((xss.getD i []).length : Int) = e
        · repeat' ((conv => whnf); first | done | refine ev_step ?_ | refine ops_step ?_ | refine scan_step ?_ | refine draw_step ?_ | refine each_step ?_ | refine guard_no (by decide) ?_ | refine guard_go ?_ | apply cut_auto | with_reducible exact CutS.mk (Or.inl ⟨rfl, rfl, rfl⟩) | refine CutS.mk (Or.inr (sub_auto ?_)) | exact trivial | refine And.intro ?_ ?_ | (refine cond_split ?_ ?_ <;> intro _ <;> first | (exfalso; first | omega | (simp only [decide_eq_true_eq, decide_eq_false_iff_not, Bool.not_eq_true', Bool.not_eq_false', ne_eq, Bool.not_true, Bool.not_false, cond_true, cond_false, Bool.true_eq_false, Bool.false_eq_true] at *; omega)) | skip) | apply guess | exact Or.inl rfl | exact Or.inr rfl | exact Side.mk trivial | exact Side.mk (fun h => h) | exact Side.mk (fun h => ⟨h, h⟩) | with_reducible exact Side.mk rfl | with_reducible exact Side.mk ⟨rfl, rfl⟩ | with_reducible exact Side.mk (by assumption) | with_reducible rfl | intro _)
          all_goals try (conv => whnf)
          all_goals try simp only [Int.toNat_natCast, decide_eq_true_eq, decide_eq_false_iff_not, ne_eq, Classical.not_not] at *
          all_goals try (refine Side.mk ?_; first | (intros; omega) | (simp_all; done) | (simp_all; omega))
          all_goals try omega
          refine loop_at (fun k : Nat => k ≤ (xss.getD i []).length ∧ ((xss.getD i []).take k).any (fun n => !inR n) = false) 2 (fun k => [(8, .int .i64 k)]) (fun _ => []) (fun k => (xss.getD i []).length - k) 0 ⟨Nat.zero_le _, rfl⟩ ?_ (fun k hk => ?_)
          · repeat' ((conv => whnf); first | done | refine ev_step ?_ | refine ops_step ?_ | refine scan_step ?_ | refine draw_step ?_ | refine each_step ?_ | refine guard_no (by decide) ?_ | refine guard_go ?_ | apply cut_auto | with_reducible exact CutS.mk (Or.inl ⟨rfl, rfl, rfl⟩) | refine CutS.mk (Or.inr (sub_auto ?_)) | exact trivial | refine And.intro ?_ ?_ | refine cond_split ?_ ?_ | apply guess | exact Or.inl rfl | exact Or.inr rfl | exact Side.mk trivial | exact Side.mk (fun h => h) | exact Side.mk (fun h => ⟨h, h⟩) | with_reducible exact Side.mk rfl | with_reducible exact Side.mk ⟨rfl, rfl⟩ | with_reducible exact Side.mk (by assumption) | with_reducible rfl | intro _)
            all_goals try (conv => whnf)
            all_goals rfl
          · obtain ⟨hk1, hk2⟩ := hk
            by_cases hkt : k < (xss.getD i []).length
            · have k1 := k_l00In ((xss.getD i []).getD k 0) 0 20
              cases hb : (decide (0 ≤ (xss.getD i []).getD k 0) && decide ((xss.getD i []).getD k 0 ≤ 20)) <;> rw [hb] at k1
              · repeat' ((conv => whnf); first | done | refine ev_step ?_ | refine ops_step ?_ | refine scan_step ?_ | refine draw_step ?_ | refine each_step ?_ | refine guard_no (by decide) ?_ | refine guard_go ?_ | apply cut_auto | with_reducible exact CutS.mk (Or.inl ⟨rfl, rfl, rfl⟩) | refine CutS.mk (Or.inr (sub_auto ?_)) | exact trivial | refine And.intro ?_ ?_ | (refine cond_split ?_ ?_ <;> intro _ <;> first | (exfalso; first | omega | (simp only [decide_eq_true_eq, decide_eq_false_iff_not, Bool.not_eq_true', Bool.not_eq_false', ne_eq, Bool.not_true, Bool.not_false, cond_true, cond_false, Bool.true_eq_false, Bool.false_eq_true] at *; omega)) | skip) | apply guess | apply FnIs.useF (k1) | exact Or.inl rfl | exact Or.inr rfl | exact Side.mk trivial | exact Side.mk (fun h => h) | exact Side.mk (fun h => ⟨h, h⟩) | with_reducible exact Side.mk rfl | with_reducible exact Side.mk ⟨rfl, rfl⟩ | with_reducible exact Side.mk (by assumption) | with_reducible rfl | intro _)
                all_goals try (conv => whnf)
                all_goals try simp only [Int.toNat_natCast, decide_eq_true_eq, decide_eq_false_iff_not, ne_eq, Classical.not_not] at *
                all_goals try (refine Side.mk ?_; first | (intros; omega) | (simp_all; done) | (simp_all; omega))
                all_goals try omega
                exact okRows_bad hlt (badRow_at hkt hb)
              · repeat' ((conv => whnf); first | done | refine ev_step ?_ | refine ops_step ?_ | refine scan_step ?_ | refine draw_step ?_ | refine each_step ?_ | refine guard_no (by decide) ?_ | refine guard_go ?_ | apply cut_auto | with_reducible exact CutS.mk (Or.inl ⟨rfl, rfl, rfl⟩) | refine CutS.mk (Or.inr (sub_auto ?_)) | exact trivial | refine And.intro ?_ ?_ | (refine cond_split ?_ ?_ <;> intro _ <;> first | (exfalso; first | omega | (simp only [decide_eq_true_eq, decide_eq_false_iff_not, Bool.not_eq_true', Bool.not_eq_false', ne_eq, Bool.not_true, Bool.not_false, cond_true, cond_false, Bool.true_eq_false, Bool.false_eq_true] at *; omega)) | skip) | apply guess | apply FnIs.useF (k1) | exact Or.inl rfl | exact Or.inr rfl | exact Side.mk trivial | exact Side.mk (fun h => h) | exact Side.mk (fun h => ⟨h, h⟩) | with_reducible exact Side.mk rfl | with_reducible exact Side.mk ⟨rfl, rfl⟩ | with_reducible exact Side.mk (by assumption) | with_reducible rfl | intro _)
                all_goals try (conv => whnf)
                all_goals try simp only [Int.toNat_natCast, decide_eq_true_eq, decide_eq_false_iff_not, ne_eq, Classical.not_not] at *
                all_goals try (refine Side.mk ?_; first | (intros; omega) | (simp_all; done) | (simp_all; omega))
                all_goals try omega
                refine ⟨k + 1, ⟨by omega, by rw [any_succ 0 hkt, hk2, show inR ((xss.getD i []).getD k 0) = true from hb]; rfl⟩, by omega, ?_⟩
                repeat' ((conv => whnf); first | done | refine ev_step ?_ | refine ops_step ?_ | refine scan_step ?_ | refine draw_step ?_ | refine each_step ?_ | refine guard_no (by decide) ?_ | refine guard_go ?_ | apply cut_auto | with_reducible exact CutS.mk (Or.inl ⟨rfl, rfl, rfl⟩) | refine CutS.mk (Or.inr (sub_auto ?_)) | exact trivial | refine And.intro ?_ ?_ | refine cond_split ?_ ?_ | apply guess | exact Or.inl rfl | exact Or.inr rfl | exact Side.mk trivial | exact Side.mk (fun h => h) | exact Side.mk (fun h => ⟨h, h⟩) | with_reducible exact Side.mk rfl | with_reducible exact Side.mk ⟨rfl, rfl⟩ | with_reducible exact Side.mk (by assumption) | with_reducible rfl | intro _)
                all_goals try (conv => whnf)
                all_goals first | rfl | omega
            · repeat' ((conv => whnf); first | done | refine ev_step ?_ | refine ops_step ?_ | refine scan_step ?_ | refine draw_step ?_ | refine each_step ?_ | refine guard_no (by decide) ?_ | refine guard_go ?_ | apply cut_auto | with_reducible exact CutS.mk (Or.inl ⟨rfl, rfl, rfl⟩) | refine CutS.mk (Or.inr (sub_auto ?_)) | exact trivial | refine And.intro ?_ ?_ | (refine cond_split ?_ ?_ <;> intro _ <;> first | (exfalso; first | omega | (simp only [decide_eq_true_eq, decide_eq_false_iff_not, Bool.not_eq_true', Bool.not_eq_false', ne_eq, Bool.not_true, Bool.not_false, cond_true, cond_false, Bool.true_eq_false, Bool.false_eq_true] at *; omega)) | skip) | apply guess | exact Or.inl rfl | exact Or.inr rfl | exact Side.mk trivial | exact Side.mk (fun h => h) | exact Side.mk (fun h => ⟨h, h⟩) | with_reducible exact Side.mk rfl | with_reducible exact Side.mk ⟨rfl, rfl⟩ | with_reducible exact Side.mk (by assumption) | with_reducible rfl | intro _)
              all_goals try (conv => whnf)
              all_goals try (refine Side.mk ?_; first | (intros; omega) | (simp_all; done) | (simp_all; omega))
              all_goals try omega
              rw [take_all (by omega)] at hk2
              refine ⟨i + 1, ⟨by omega, by rw [any_succ [] hlt, hi2, badRow_no hle hk2]; rfl⟩, by omega, ?_⟩
              repeat' ((conv => whnf); first | done | refine ev_step ?_ | refine ops_step ?_ | refine scan_step ?_ | refine draw_step ?_ | refine each_step ?_ | refine guard_no (by decide) ?_ | refine guard_go ?_ | apply cut_auto | with_reducible exact CutS.mk (Or.inl ⟨rfl, rfl, rfl⟩) | refine CutS.mk (Or.inr (sub_auto ?_)) | exact trivial | refine And.intro ?_ ?_ | refine cond_split ?_ ?_ | apply guess | exact Or.inl rfl | exact Or.inr rfl | exact Side.mk trivial | exact Side.mk (fun h => h) | exact Side.mk (fun h => ⟨h, h⟩) | with_reducible exact Side.mk rfl | with_reducible exact Side.mk ⟨rfl, rfl⟩ | with_reducible exact Side.mk (by assumption) | with_reducible rfl | intro _)
              all_goals try (conv => whnf)
              all_goals first | rfl | omega
        · repeat' ((conv => whnf); first | done | refine ev_step ?_ | refine ops_step ?_ | refine scan_step ?_ | refine draw_step ?_ | refine each_step ?_ | refine guard_no (by decide) ?_ | refine guard_go ?_ | apply cut_auto | with_reducible exact CutS.mk (Or.inl ⟨rfl, rfl, rfl⟩) | refine CutS.mk (Or.inr (sub_auto ?_)) | exact trivial | refine And.intro ?_ ?_ | (refine cond_split ?_ ?_ <;> intro _ <;> first | (exfalso; first | omega | (simp only [decide_eq_true_eq, decide_eq_false_iff_not, Bool.not_eq_true', Bool.not_eq_false', ne_eq, Bool.not_true, Bool.not_false, cond_true, cond_false, Bool.true_eq_false, Bool.false_eq_true] at *; omega)) | skip) | apply guess | exact Or.inl rfl | exact Or.inr rfl | exact Side.mk trivial | exact Side.mk (fun h => h) | exact Side.mk (fun h => ⟨h, h⟩) | with_reducible exact Side.mk rfl | with_reducible exact Side.mk ⟨rfl, rfl⟩ | with_reducible exact Side.mk (by assumption) | with_reducible rfl | intro _)
          all_goals try (conv => whnf)
          all_goals try simp only [Int.toNat_natCast, decide_eq_true_eq, decide_eq_false_iff_not, ne_eq, Classical.not_not] at *
          all_goals try (refine Side.mk ?_; first | (intros; omega) | (simp_all; done) | (simp_all; omega))
          all_goals try omega
          exact okRows_bad hlt (badRow_len hle)
      · repeat' ((conv => whnf); first | done | refine ev_step ?_ | refine ops_step ?_ | refine scan_step ?_ | refine draw_step ?_ | refine each_step ?_ | refine guard_no (by decide) ?_ | refine guard_go ?_ | apply cut_auto | with_reducible exact CutS.mk (Or.inl ⟨rfl, rfl, rfl⟩) | refine CutS.mk (Or.inr (sub_auto ?_)) | exact trivial | refine And.intro ?_ ?_ | (refine cond_split ?_ ?_ <;> intro _ <;> first | (exfalso; first | omega | (simp only [decide_eq_true_eq, decide_eq_false_iff_not, Bool.not_eq_true', Bool.not_eq_false', ne_eq, Bool.not_true, Bool.not_false, cond_true, cond_false, Bool.true_eq_false, Bool.false_eq_true] at *; omega)) | skip) | apply guess | exact Or.inl rfl | exact Or.inr rfl | exact Side.mk trivial | exact Side.mk (fun h => h) | exact Side.mk (fun h => ⟨h, h⟩) | with_reducible exact Side.mk rfl | with_reducible exact Side.mk ⟨rfl, rfl⟩ | with_reducible exact Side.mk (by assumption) | with_reducible rfl | intro _)
        all_goals try (conv => whnf)
        all_goals try (refine Side.mk ?_; first | (intros; omega) | (simp_all; done) | (simp_all; omega))
        all_goals try omega
        rw [take_all (by omega)] at hi2
        exact okRows_yes hl hi2
  · repeat' ((conv => whnf); first | done | refine ev_step ?_ | refine ops_step ?_ | refine scan_step ?_ | refine draw_step ?_ | refine each_step ?_ | refine guard_no (by decide) ?_ | refine guard_go ?_ | apply cut_auto | with_reducible exact CutS.mk (Or.inl ⟨rfl, rfl, rfl⟩) | refine CutS.mk (Or.inr (sub_auto ?_)) | exact trivial | refine And.intro ?_ ?_ | (refine cond_split ?_ ?_ <;> intro _ <;> first | (exfalso; first | omega | (simp only [decide_eq_true_eq, decide_eq_false_iff_not, Bool.not_eq_true', Bool.not_eq_false', ne_eq, Bool.not_true, Bool.not_false, cond_true, cond_false, Bool.true_eq_false, Bool.false_eq_true] at *; omega)) | skip) | apply guess | exact Or.inl rfl | exact Or.inr rfl | exact Side.mk trivial | exact Side.mk (fun h => h) | exact Side.mk (fun h => ⟨h, h⟩) | with_reducible exact Side.mk rfl | with_reducible exact Side.mk ⟨rfl, rfl⟩ | with_reducible exact Side.mk (by assumption) | with_reducible rfl | intro _)
    all_goals try (conv => whnf)
    all_goals try omega
    exact okRows_len hl
end Go.Sx.U
