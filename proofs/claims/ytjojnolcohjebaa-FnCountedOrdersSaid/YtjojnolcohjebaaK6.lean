/-
  Chapter 10: layouts' coupling, noise, gains, settling (contracts).
-/
import Derived.Test.YtjojnolcohjebaaK8
import Derived.Test.YtjojnolcohjebaaK5
namespace Go.Sx.U
set_option linter.unusedVariables false
set_option linter.unusedSimpArgs false
set_option maxRecDepth 100000
set_option maxHeartbeats 8000000
open Go Go.Sx Go.Proofs Go.Sx.M0

theorem k_CouplingOf (W : List (List Int)) (o sh : List Int) (h : Side (W.length ≤ 1048577 ∧ o.length ≤ 1048577 ∧ sh.length ≤ 1048577)) : FnIs Try.prog 37 [.agg [.sl 1 []], .sl 2 [], .sl 3 []] 4 [(1, .flat false (.rows 0 0 W.length)), (0, .nestI false .i64 W), (2, .flat false (.ints .i64 o)), (3, .flat false (.ints .i64 sh))] (.tuple [.int .i64 (if layOk W o sh = true then coup W o sh else 0), .bool (layOk W o sh)]) 4 [] := by
  have k1 := k_IsLayout W o sh h
  refine fn_of_ev tok Try.func37 rfl rfl rfl ?_
  cases hx : layOk W o sh with
  | false =>
    rw [show (okB W && isOB W.length o && risesB sh 1 (o.length - 1)) = false from hx] at k1
    repeat' ((conv => whnf); first | done | refine ev_step ?_ | refine ops_step ?_ | refine scan_step ?_ | refine draw_step ?_ | refine each_step ?_ | refine sl_step ?_ | refine hp_step ?_ | refine guard_no (by decide) ?_ | refine guard_go ?_ | refine guard_old ?_ | apply cut_auto | with_reducible exact CutS.mk (Or.inl ⟨rfl, rfl, rfl⟩) | refine CutS.mk (Or.inr (sub_auto ?_)) | exact trivial | refine And.intro ?_ ?_ | refine cond_split ?_ ?_ | apply guess | apply FnIs.useF (k1) | exact Or.inl rfl | exact Or.inr rfl | exact Side.mk trivial | exact Side.mk (fun h => h) | exact Side.mk (fun h => ⟨h, h⟩) | with_reducible exact Side.mk rfl | with_reducible exact Side.mk ⟨rfl, rfl⟩ | with_reducible exact Side.mk (by assumption) | with_reducible rfl | intro _)
    all_goals try (conv => whnf)
    all_goals first | rfl | done | trace_state
  | true =>
    rw [show (okB W && isOB W.length o && risesB sh 1 (o.length - 1)) = true from hx] at k1
    simp only [layOk, Bool.and_eq_true] at hx
    repeat' ((conv => whnf); first | done | refine ev_step ?_ | refine ops_step ?_ | refine scan_step ?_ | refine draw_step ?_ | refine each_step ?_ | refine sl_step ?_ | refine hp_step ?_ | refine guard_no (by decide) ?_ | refine guard_go ?_ | refine guard_old ?_ | apply cut_auto | with_reducible exact CutS.mk (Or.inl ⟨rfl, rfl, rfl⟩) | refine CutS.mk (Or.inr (sub_auto ?_)) | exact trivial | refine And.intro ?_ ?_ | refine cond_split ?_ ?_ | apply guess | apply FnIs.useF (k1) | apply FnIs.useF (k_coupling W o sh ⟨⟨hx.1.1, hx.1.2, h.h.2.2⟩⟩) | exact Or.inl rfl | exact Or.inr rfl | exact Side.mk trivial | exact Side.mk (fun h => h) | exact Side.mk (fun h => ⟨h, h⟩) | with_reducible exact Side.mk rfl | with_reducible exact Side.mk ⟨rfl, rfl⟩ | with_reducible exact Side.mk (by assumption) | with_reducible rfl | intro _)
    all_goals try (conv => whnf)
    all_goals first | rfl | done | trace_state
theorem k_NoiseOf (W : List (List Int)) (o sh : List Int) (h : Side (W.length ≤ 1048577 ∧ o.length ≤ 1048577 ∧ sh.length ≤ 1048577)) : FnIs Try.prog 35 [.agg [.sl 1 []], .sl 2 [], .sl 3 []] 4 [(1, .flat false (.rows 0 0 W.length)), (0, .nestI false .i64 W), (2, .flat false (.ints .i64 o)), (3, .flat false (.ints .i64 sh))] (.tuple [.sl 4 [], .bool (layOk W o sh)]) 5 [(4, .flat true (.ints .i64 (if layOk W o sh = true then noise W o sh else [])))] := by
  have k1 := k_IsLayout W o sh h
  refine fn_of_ev tok Try.func35 rfl rfl rfl ?_
  cases hx : layOk W o sh with
  | false =>
    rw [show (okB W && isOB W.length o && risesB sh 1 (o.length - 1)) = false from hx] at k1
    rw [if_neg (by simp)]
    repeat' ((conv => whnf); first | done | refine ev_step ?_ | refine ops_step ?_ | refine scan_step ?_ | refine draw_step ?_ | refine each_step ?_ | refine sl_step ?_ | refine hp_step ?_ | refine guard_no (by decide) ?_ | refine guard_go ?_ | refine guard_old ?_ | apply cut_auto | with_reducible exact CutS.mk (Or.inl ⟨rfl, rfl, rfl⟩) | refine CutS.mk (Or.inr (sub_auto ?_)) | exact trivial | refine And.intro ?_ ?_ | refine cond_split ?_ ?_ | apply guess | apply FnIs.useF (k1) | exact Or.inl rfl | exact Or.inr rfl | exact Side.mk trivial | exact Side.mk (fun h => h) | exact Side.mk (fun h => ⟨h, h⟩) | with_reducible exact Side.mk rfl | with_reducible exact Side.mk ⟨rfl, rfl⟩ | with_reducible exact Side.mk (by assumption) | with_reducible rfl | intro _)
    all_goals try (conv => whnf)
    all_goals first | rfl | done | trace_state
  | true =>
    rw [show (okB W && isOB W.length o && risesB sh 1 (o.length - 1)) = true from hx] at k1
    simp only [layOk, Bool.and_eq_true] at hx
    rw [if_pos rfl]
    repeat' ((conv => whnf); first | done | refine ev_step ?_ | refine ops_step ?_ | refine scan_step ?_ | refine draw_step ?_ | refine each_step ?_ | refine sl_step ?_ | refine hp_step ?_ | refine guard_no (by decide) ?_ | refine guard_go ?_ | refine guard_old ?_ | apply cut_auto | with_reducible exact CutS.mk (Or.inl ⟨rfl, rfl, rfl⟩) | refine CutS.mk (Or.inr (sub_auto ?_)) | exact trivial | refine And.intro ?_ ?_ | refine cond_split ?_ ?_ | apply guess | apply FnIs.useF (k1) | apply FnIs.useF (k_noise W o sh ⟨⟨hx.1.1, hx.1.2, h.h.2.2⟩⟩) | exact Or.inl rfl | exact Or.inr rfl | exact Side.mk trivial | exact Side.mk (fun h => h) | exact Side.mk (fun h => ⟨h, h⟩) | with_reducible exact Side.mk rfl | with_reducible exact Side.mk ⟨rfl, rfl⟩ | with_reducible exact Side.mk (by assumption) | with_reducible rfl | intro _)
    all_goals try (conv => whnf)
    all_goals first | rfl | done | trace_state
end Go.Sx.U
