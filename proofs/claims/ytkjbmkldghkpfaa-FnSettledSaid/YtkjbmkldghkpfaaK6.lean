/-
  Chapter 10: layouts' coupling, noise, gains, settling (contracts).
-/
import Derived.Test.YtkjbmkldghkpfaaK5
namespace Go.Sx.U
set_option linter.unusedVariables false
set_option linter.unusedSimpArgs false
set_option maxRecDepth 100000
set_option maxHeartbeats 8000000
open Go Go.Sx Go.Proofs Go.Sx.M0

theorem k_CouplingSpec (W : List (List Int)) (o sh : List Int) (h : Side (W.length ≤ 1048577 ∧ o.length ≤ 1048577 ∧ sh.length ≤ 1048577)) : FnIs Try.prog 29 [.agg [.sl 1 []], .sl 2 [], .sl 3 []] 4 [(1, .flat false (.rows 0 0 W.length)), (0, .nestI false .i64 W), (2, .flat false (.ints .i64 o)), (3, .flat false (.ints .i64 sh))] (.tuple [.int .i64 (if layOk W o sh = true then coup W o sh else 0), .bool (layOk W o sh)]) 4 [] := by
  have k1 := k_l10Layout W o sh h
  refine fn_of_ev tok Try.func29 rfl rfl rfl ?_
  cases hx : layOk W o sh with
  | false =>
    rw [show (okB W && isOB W.length o && risesB sh 1 (o.length - 1)) = false from hx] at k1
    repeat' ((conv => whnf); first | done | refine ev_step ?_ | refine ops_step ?_ | refine scan_step ?_ | refine draw_step ?_ | refine each_step ?_ | apply cut_auto | with_reducible exact CutS.mk (Or.inl ⟨rfl, rfl, rfl⟩) | refine CutS.mk (Or.inr (sub_auto ?_)) | exact trivial | refine And.intro ?_ ?_ | refine cond_split ?_ ?_ | apply guess | apply FnIs.useF (k1) | exact Or.inl rfl | exact Or.inr rfl | exact Side.mk trivial | exact Side.mk (fun h => h) | exact Side.mk (fun h => ⟨h, h⟩) | with_reducible exact Side.mk rfl | with_reducible exact Side.mk ⟨rfl, rfl⟩ | with_reducible exact Side.mk (by assumption) | with_reducible rfl | intro _)
    all_goals try (conv => whnf)
    all_goals first | rfl | done | trace_state
  | true =>
    rw [show (okB W && isOB W.length o && risesB sh 1 (o.length - 1)) = true from hx] at k1
    simp only [layOk, Bool.and_eq_true] at hx
    repeat' ((conv => whnf); first | done | refine ev_step ?_ | refine ops_step ?_ | refine scan_step ?_ | refine draw_step ?_ | refine each_step ?_ | apply cut_auto | with_reducible exact CutS.mk (Or.inl ⟨rfl, rfl, rfl⟩) | refine CutS.mk (Or.inr (sub_auto ?_)) | exact trivial | refine And.intro ?_ ?_ | refine cond_split ?_ ?_ | apply guess | apply FnIs.useF (k1) | apply FnIs.useF (k_l10Coupling W o sh ⟨⟨hx.1.1, hx.1.2, h.h.2.2⟩⟩) | exact Or.inl rfl | exact Or.inr rfl | exact Side.mk trivial | exact Side.mk (fun h => h) | exact Side.mk (fun h => ⟨h, h⟩) | with_reducible exact Side.mk rfl | with_reducible exact Side.mk ⟨rfl, rfl⟩ | with_reducible exact Side.mk (by assumption) | with_reducible rfl | intro _)
    all_goals try (conv => whnf)
    all_goals first | rfl | done | trace_state
theorem k_CouplingOf (W : List (List Int)) (o sh : List Int) (h : Side (W.length ≤ 1048577 ∧ o.length ≤ 1048577 ∧ sh.length ≤ 1048577)) : FnIs Try.prog 30 [.agg [.sl 1 []], .sl 2 [], .sl 3 []] 4 [(1, .flat false (.rows 0 0 W.length)), (0, .nestI false .i64 W), (2, .flat false (.ints .i64 o)), (3, .flat false (.ints .i64 sh))] (.tuple [.int .i64 (if layOk W o sh = true then coup W o sh else 0), .bool (layOk W o sh)]) 4 [] := by
  have k1 := k_IsLayout W o sh h
  refine fn_of_ev tok Try.func30 rfl rfl rfl ?_
  cases hx : layOk W o sh with
  | false =>
    rw [show (okB W && isOB W.length o && risesB sh 1 (o.length - 1)) = false from hx] at k1
    repeat' ((conv => whnf); first | done | refine ev_step ?_ | refine ops_step ?_ | refine scan_step ?_ | refine draw_step ?_ | refine each_step ?_ | apply cut_auto | with_reducible exact CutS.mk (Or.inl ⟨rfl, rfl, rfl⟩) | refine CutS.mk (Or.inr (sub_auto ?_)) | exact trivial | refine And.intro ?_ ?_ | refine cond_split ?_ ?_ | apply guess | apply FnIs.useF (k1) | exact Or.inl rfl | exact Or.inr rfl | exact Side.mk trivial | exact Side.mk (fun h => h) | exact Side.mk (fun h => ⟨h, h⟩) | with_reducible exact Side.mk rfl | with_reducible exact Side.mk ⟨rfl, rfl⟩ | with_reducible exact Side.mk (by assumption) | with_reducible rfl | intro _)
    all_goals try (conv => whnf)
    all_goals first | rfl | done | trace_state
  | true =>
    rw [show (okB W && isOB W.length o && risesB sh 1 (o.length - 1)) = true from hx] at k1
    simp only [layOk, Bool.and_eq_true] at hx
    repeat' ((conv => whnf); first | done | refine ev_step ?_ | refine ops_step ?_ | refine scan_step ?_ | refine draw_step ?_ | refine each_step ?_ | apply cut_auto | with_reducible exact CutS.mk (Or.inl ⟨rfl, rfl, rfl⟩) | refine CutS.mk (Or.inr (sub_auto ?_)) | exact trivial | refine And.intro ?_ ?_ | refine cond_split ?_ ?_ | apply guess | apply FnIs.useF (k1) | apply FnIs.useF (k_coupling W o sh ⟨⟨hx.1.1, hx.1.2, h.h.2.2⟩⟩) | exact Or.inl rfl | exact Or.inr rfl | exact Side.mk trivial | exact Side.mk (fun h => h) | exact Side.mk (fun h => ⟨h, h⟩) | with_reducible exact Side.mk rfl | with_reducible exact Side.mk ⟨rfl, rfl⟩ | with_reducible exact Side.mk (by assumption) | with_reducible rfl | intro _)
    all_goals try (conv => whnf)
    all_goals first | rfl | done | trace_state
theorem k_NoiseSpec (W : List (List Int)) (o sh : List Int) (h : Side (W.length ≤ 1048577 ∧ o.length ≤ 1048577 ∧ sh.length ≤ 1048577)) : FnIs Try.prog 33 [.agg [.sl 1 []], .sl 2 [], .sl 3 []] 4 [(1, .flat false (.rows 0 0 W.length)), (0, .nestI false .i64 W), (2, .flat false (.ints .i64 o)), (3, .flat false (.ints .i64 sh))] (.tuple [.sl 4 [], .bool (layOk W o sh)]) 5 [(4, .flat true (.ints .i64 (if layOk W o sh = true then noise W o sh else [])))] := by
  have k1 := k_l10Layout W o sh h
  refine fn_of_ev tok Try.func33 rfl rfl rfl ?_
  cases hx : layOk W o sh with
  | false =>
    rw [show (okB W && isOB W.length o && risesB sh 1 (o.length - 1)) = false from hx] at k1
    rw [if_neg (by simp)]
    repeat' ((conv => whnf); first | done | refine ev_step ?_ | refine ops_step ?_ | refine scan_step ?_ | refine draw_step ?_ | refine each_step ?_ | apply cut_auto | with_reducible exact CutS.mk (Or.inl ⟨rfl, rfl, rfl⟩) | refine CutS.mk (Or.inr (sub_auto ?_)) | exact trivial | refine And.intro ?_ ?_ | refine cond_split ?_ ?_ | apply guess | apply FnIs.useF (k1) | exact Or.inl rfl | exact Or.inr rfl | exact Side.mk trivial | exact Side.mk (fun h => h) | exact Side.mk (fun h => ⟨h, h⟩) | with_reducible exact Side.mk rfl | with_reducible exact Side.mk ⟨rfl, rfl⟩ | with_reducible exact Side.mk (by assumption) | with_reducible rfl | intro _)
    all_goals try (conv => whnf)
    all_goals first | rfl | done | trace_state
  | true =>
    rw [show (okB W && isOB W.length o && risesB sh 1 (o.length - 1)) = true from hx] at k1
    simp only [layOk, Bool.and_eq_true] at hx
    rw [if_pos rfl]
    repeat' ((conv => whnf); first | done | refine ev_step ?_ | refine ops_step ?_ | refine scan_step ?_ | refine draw_step ?_ | refine each_step ?_ | apply cut_auto | with_reducible exact CutS.mk (Or.inl ⟨rfl, rfl, rfl⟩) | refine CutS.mk (Or.inr (sub_auto ?_)) | exact trivial | refine And.intro ?_ ?_ | refine cond_split ?_ ?_ | apply guess | apply FnIs.useF (k1) | apply FnIs.useF (k_l10Noise W o sh ⟨⟨hx.1.1, hx.1.2, h.h.2.2⟩⟩) | exact Or.inl rfl | exact Or.inr rfl | exact Side.mk trivial | exact Side.mk (fun h => h) | exact Side.mk (fun h => ⟨h, h⟩) | with_reducible exact Side.mk rfl | with_reducible exact Side.mk ⟨rfl, rfl⟩ | with_reducible exact Side.mk (by assumption) | with_reducible rfl | intro _)
    all_goals try (conv => whnf)
    all_goals first | rfl | done | trace_state
theorem k_NoiseOf (W : List (List Int)) (o sh : List Int) (h : Side (W.length ≤ 1048577 ∧ o.length ≤ 1048577 ∧ sh.length ≤ 1048577)) : FnIs Try.prog 34 [.agg [.sl 1 []], .sl 2 [], .sl 3 []] 4 [(1, .flat false (.rows 0 0 W.length)), (0, .nestI false .i64 W), (2, .flat false (.ints .i64 o)), (3, .flat false (.ints .i64 sh))] (.tuple [.sl 4 [], .bool (layOk W o sh)]) 5 [(4, .flat true (.ints .i64 (if layOk W o sh = true then noise W o sh else [])))] := by
  have k1 := k_IsLayout W o sh h
  refine fn_of_ev tok Try.func34 rfl rfl rfl ?_
  cases hx : layOk W o sh with
  | false =>
    rw [show (okB W && isOB W.length o && risesB sh 1 (o.length - 1)) = false from hx] at k1
    rw [if_neg (by simp)]
    repeat' ((conv => whnf); first | done | refine ev_step ?_ | refine ops_step ?_ | refine scan_step ?_ | refine draw_step ?_ | refine each_step ?_ | apply cut_auto | with_reducible exact CutS.mk (Or.inl ⟨rfl, rfl, rfl⟩) | refine CutS.mk (Or.inr (sub_auto ?_)) | exact trivial | refine And.intro ?_ ?_ | refine cond_split ?_ ?_ | apply guess | apply FnIs.useF (k1) | exact Or.inl rfl | exact Or.inr rfl | exact Side.mk trivial | exact Side.mk (fun h => h) | exact Side.mk (fun h => ⟨h, h⟩) | with_reducible exact Side.mk rfl | with_reducible exact Side.mk ⟨rfl, rfl⟩ | with_reducible exact Side.mk (by assumption) | with_reducible rfl | intro _)
    all_goals try (conv => whnf)
    all_goals first | rfl | done | trace_state
  | true =>
    rw [show (okB W && isOB W.length o && risesB sh 1 (o.length - 1)) = true from hx] at k1
    simp only [layOk, Bool.and_eq_true] at hx
    rw [if_pos rfl]
    repeat' ((conv => whnf); first | done | refine ev_step ?_ | refine ops_step ?_ | refine scan_step ?_ | refine draw_step ?_ | refine each_step ?_ | apply cut_auto | with_reducible exact CutS.mk (Or.inl ⟨rfl, rfl, rfl⟩) | refine CutS.mk (Or.inr (sub_auto ?_)) | exact trivial | refine And.intro ?_ ?_ | refine cond_split ?_ ?_ | apply guess | apply FnIs.useF (k1) | apply FnIs.useF (k_noise W o sh ⟨⟨hx.1.1, hx.1.2, h.h.2.2⟩⟩) | exact Or.inl rfl | exact Or.inr rfl | exact Side.mk trivial | exact Side.mk (fun h => h) | exact Side.mk (fun h => ⟨h, h⟩) | with_reducible exact Side.mk rfl | with_reducible exact Side.mk ⟨rfl, rfl⟩ | with_reducible exact Side.mk (by assumption) | with_reducible rfl | intro _)
    all_goals try (conv => whnf)
    all_goals first | rfl | done | trace_state
theorem k_l00Own (xs : List Int) (h : Side (xs.length ≤ 1048577)) : FnIs Try.prog 75 [.sl 0 []] 1 [(0, .flat false (.ints .i64 xs))] (.sl 1 []) 2 [(1, .flat true (.ints .i64 xs))] := by
  have := h.h
  refine fn_of_ev tok Try.func75 rfl rfl rfl ?_
  repeat' ((conv => whnf); first | done | refine ev_step ?_ | refine ops_step ?_ | refine scan_step ?_ | refine draw_step ?_ | refine each_step ?_ | apply cut_auto | with_reducible exact CutS.mk (Or.inl ⟨rfl, rfl, rfl⟩) | refine CutS.mk (Or.inr (sub_auto ?_)) | exact trivial | refine And.intro ?_ ?_ | refine cond_split ?_ ?_ | apply guess | exact Or.inl rfl | exact Or.inr rfl | exact Side.mk trivial | exact Side.mk (fun h => h) | exact Side.mk (fun h => ⟨h, h⟩) | with_reducible exact Side.mk rfl | with_reducible exact Side.mk ⟨rfl, rfl⟩ | with_reducible exact Side.mk (by assumption) | with_reducible rfl | intro _)
  all_goals try (conv => whnf)
  · refine Side.mk ?_
    show (_ : List Int).length ≤ _
    simp; omega
  · rfl
theorem k_Clone (xs : List Int) (h : Side (xs.length ≤ 1048577)) : FnIs Try.prog 77 [.sl 0 []] 1 [(0, .flat false (.ints .i64 xs))] (.sl 1 []) 2 [(1, .flat true (.ints .i64 xs))] := by
  have := h.h
  refine fn_of_ev tok Try.func77 rfl rfl rfl ?_
  repeat' ((conv => whnf); first | done | refine ev_step ?_ | refine ops_step ?_ | refine scan_step ?_ | refine draw_step ?_ | refine each_step ?_ | apply cut_auto | with_reducible exact CutS.mk (Or.inl ⟨rfl, rfl, rfl⟩) | refine CutS.mk (Or.inr (sub_auto ?_)) | exact trivial | refine And.intro ?_ ?_ | refine cond_split ?_ ?_ | apply guess | exact Or.inl rfl | exact Or.inr rfl | exact Side.mk trivial | exact Side.mk (fun h => h) | exact Side.mk (fun h => ⟨h, h⟩) | with_reducible exact Side.mk rfl | with_reducible exact Side.mk ⟨rfl, rfl⟩ | with_reducible exact Side.mk (by assumption) | with_reducible rfl | intro _)
  all_goals try (conv => whnf)
  · rename_i b hb hb2
    simp only [Cnd.holds] at hb
    exact List.eq_nil_of_length_eq_zero (hb trivial hb2)
  · refine Side.mk ?_
    show (_ : List Int).length ≤ _
    simp; omega
  · rfl
theorem k_l10Swapped (o : List Int) (p : Nat) (h : Side (o.length ≤ 1048577 ∧ p + 1 < o.length)) : FnIs Try.prog 76 [.sl 0 [], .int .i64 p] 1 [(0, .flat false (.ints .i64 o))] (.sl 1 []) 2 [(1, .flat true (.ints .i64 (exch o p)))] := by
  obtain ⟨h1, h2⟩ := h.h
  have e2 : ((p : Int) + 1).toNat = p + 1 := by omega
  refine fn_of_ev tok Try.func76 rfl rfl rfl ?_
  repeat' ((conv => whnf); first | done | refine ev_step ?_ | refine ops_step ?_ | refine scan_step ?_ | refine draw_step ?_ | refine each_step ?_ | apply cut_auto | with_reducible exact CutS.mk (Or.inl ⟨rfl, rfl, rfl⟩) | refine CutS.mk (Or.inr (sub_auto ?_)) | exact trivial | refine And.intro ?_ ?_ | refine cond_split ?_ ?_ | apply guess | apply FnIs.useF (k_l00Own o ⟨h1⟩) | exact Or.inl rfl | exact Or.inr rfl | exact Side.mk trivial | exact Side.mk (fun h => h) | exact Side.mk (fun h => ⟨h, h⟩) | with_reducible exact Side.mk rfl | with_reducible exact Side.mk ⟨rfl, rfl⟩ | with_reducible exact Side.mk (by assumption) | with_reducible rfl | intro _)
  all_goals try (conv => whnf)
  all_goals try simp only [e2, Int.toNat_natCast, List.length_set] at *
  all_goals try (refine Side.mk ?_; first | (intros; omega) | (simp_all; done) | (simp_all; omega))
  all_goals first | rfl | omega | trace_state
theorem k_exchanged (o : List Int) (p : Nat) (h : Side (o.length ≤ 1048577 ∧ p + 1 < o.length)) : FnIs Try.prog 78 [.sl 0 [], .int .i64 p] 1 [(0, .flat false (.ints .i64 o))] (.sl 1 []) 2 [(1, .flat true (.ints .i64 (exch o p)))] := by
  obtain ⟨h1, h2⟩ := h.h
  have e2 : ((p : Int) + 1).toNat = p + 1 := by omega
  refine fn_of_ev tok Try.func78 rfl rfl rfl ?_
  repeat' ((conv => whnf); first | done | refine ev_step ?_ | refine ops_step ?_ | refine scan_step ?_ | refine draw_step ?_ | refine each_step ?_ | apply cut_auto | with_reducible exact CutS.mk (Or.inl ⟨rfl, rfl, rfl⟩) | refine CutS.mk (Or.inr (sub_auto ?_)) | exact trivial | refine And.intro ?_ ?_ | refine cond_split ?_ ?_ | apply guess | apply FnIs.useF (k_Clone o ⟨h1⟩) | exact Or.inl rfl | exact Or.inr rfl | exact Side.mk trivial | exact Side.mk (fun h => h) | exact Side.mk (fun h => ⟨h, h⟩) | with_reducible exact Side.mk rfl | with_reducible exact Side.mk ⟨rfl, rfl⟩ | with_reducible exact Side.mk (by assumption) | with_reducible rfl | intro _)
  all_goals try (conv => whnf)
  all_goals try simp only [e2, Int.toNat_natCast, List.length_set] at *
  all_goals try (refine Side.mk ?_; first | (intros; omega) | (simp_all; done) | (simp_all; omega))
  all_goals first | rfl | omega | trace_state
theorem k_l10Gain (W : List (List Int)) (o : List Int) (p : Nat) (h : Side (okB W = true ∧ isOB W.length o = true ∧ p + 1 < o.length)) : FnIs Try.prog 70 [.ptr 0 [] 0 0, .sl 3 [], .int .i64 p] 4 [(0, .flat false (.gen 1 [[.sl 2 []]])), (2, .flat false (.rows 1 0 W.length)), (1, .nestI false .i64 W), (3, .flat false (.ints .i64 o))] (.int .i64 (gain W o p)) 4 [] := by
  obtain ⟨h1, h2, h3⟩ := h.h
  have hW := okB_iff.1 h1
  have ho := isOB_iff.1 h2
  have hl := ho.1
  have hn := hW.1
  have hx := exch_isO ho h3
  have b1 := coup_bd hW ho []
  have b2 := coup_bd hW hx []
  refine fn_of_ev tok Try.func70 rfl rfl rfl ?_
  repeat' ((conv => whnf); first | done | refine ev_step ?_ | refine ops_step ?_ | refine scan_step ?_ | refine draw_step ?_ | refine each_step ?_ | apply cut_auto | with_reducible exact CutS.mk (Or.inl ⟨rfl, rfl, rfl⟩) | refine CutS.mk (Or.inr (sub_auto ?_)) | exact trivial | refine And.intro ?_ ?_ | refine cond_split ?_ ?_ | apply guess | apply FnIs.useF (k_l10Swapped o p ⟨⟨by omega, h3⟩⟩) | apply FnIs.useF (k_l10Coupling W _ _ _) | exact Or.inl rfl | exact Or.inr rfl | exact Side.mk trivial | exact Side.mk (fun h => h) | exact Side.mk (fun h => ⟨h, h⟩) | with_reducible exact Side.mk rfl | with_reducible exact Side.mk ⟨rfl, rfl⟩ | with_reducible exact Side.mk (by assumption) | with_reducible rfl | intro _)
  all_goals try (conv => whnf)
  all_goals first | exact ⟨⟨h1, h2, by simp⟩⟩ | exact ⟨⟨h1, isOB_iff.2 hx, by simp⟩⟩ | skip
  all_goals try (refine Side.mk ?_; first | (intros; omega) | (simp_all; done) | (simp_all; omega))
  all_goals first | rfl | omega | trace_state
theorem k_swapGain (W : List (List Int)) (o : List Int) (p : Nat) (h : Side (okB W = true ∧ isOB W.length o = true ∧ p + 1 < o.length)) : FnIs Try.prog 71 [.ptr 0 [] 0 0, .sl 3 [], .int .i64 p] 4 [(0, .flat false (.gen 1 [[.sl 2 []]])), (2, .flat false (.rows 1 0 W.length)), (1, .nestI false .i64 W), (3, .flat false (.ints .i64 o))] (.int .i64 (gain W o p)) 4 [] := by
  obtain ⟨h1, h2, h3⟩ := h.h
  have hW := okB_iff.1 h1
  have ho := isOB_iff.1 h2
  have hl := ho.1
  have hn := hW.1
  have hx := exch_isO ho h3
  have b1 := coup_bd hW ho []
  have b2 := coup_bd hW hx []
  refine fn_of_ev tok Try.func71 rfl rfl rfl ?_
  repeat' ((conv => whnf); first | done | refine ev_step ?_ | refine ops_step ?_ | refine scan_step ?_ | refine draw_step ?_ | refine each_step ?_ | apply cut_auto | with_reducible exact CutS.mk (Or.inl ⟨rfl, rfl, rfl⟩) | refine CutS.mk (Or.inr (sub_auto ?_)) | exact trivial | refine And.intro ?_ ?_ | refine cond_split ?_ ?_ | apply guess | apply FnIs.useF (k_exchanged o p ⟨⟨by omega, h3⟩⟩) | apply FnIs.useF (k_coupling W _ _ _) | exact Or.inl rfl | exact Or.inr rfl | exact Side.mk trivial | exact Side.mk (fun h => h) | exact Side.mk (fun h => ⟨h, h⟩) | with_reducible exact Side.mk rfl | with_reducible exact Side.mk ⟨rfl, rfl⟩ | with_reducible exact Side.mk (by assumption) | with_reducible rfl | intro _)
  all_goals try (conv => whnf)
  all_goals first | exact ⟨⟨h1, h2, by simp⟩⟩ | exact ⟨⟨h1, isOB_iff.2 hx, by simp⟩⟩ | skip
  all_goals try (refine Side.mk ?_; first | (intros; omega) | (simp_all; done) | (simp_all; omega))
  all_goals first | rfl | omega | trace_state
end Go.Sx.U
