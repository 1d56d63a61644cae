/-
  The best shields: both ways, and the law (contracts).
-/
import Derived.Test.YtjojnolcohjebaaB2
import Derived.Test.YtjojnolcohjebaaB3
import Derived.Test.YtjojnolcohjebaaK9
import Derived.Test.YtjojnolcohjebaaKL2
set_option linter.unusedSimpArgs false
namespace Go.Sx.U
set_option linter.unusedVariables false
set_option linter.unusedSimpArgs false
open Go Go.Sx Go.Proofs Go.Sx.M0

abbrev bsOk (W : List (List Int)) (o : List Int) (c : Int) : Bool := (okB W && isOB W.length o) && (decide (0 ≤ c) && decide (c ≤ (o.length : Int) - 1))
theorem k_BestShields_no (W : List (List Int)) (o : List Int) (c : Int) (h : Side (W.length ≤ 1048577 ∧ o.length ≤ 1048577)) (hx : bsOk W o c = false) : FnIs Try.prog 28 [.agg [.sl 1 []], .sl 2 [], .int .i64 c] 3 [(1, .flat false (.rows 0 0 W.length)), (0, .nestI false .i64 W), (2, .flat false (.ints .i64 o))] (.tuple [.nilsl, .int .i64 0, .bool false]) 3 [] := by
  have hh := h.h
  have k0 := k_orderOk W o h
  have kin := k_in c 0 ((o.length : Int) - 1)
  refine fn_of_ev tok Try.func28 rfl rfl rfl ?_
  cases hy : okB W && isOB W.length o with
  | false =>
    rw [hy] at k0
    repeat' ((conv => whnf); first | done | refine ev_step ?_ | refine ops_step ?_ | refine scan_step ?_ | refine draw_step ?_ | refine each_step ?_ | refine sl_step ?_ | refine hp_step ?_ | refine guard_no (by decide) ?_ | refine guard_go ?_ | apply cut_auto | with_reducible exact CutS.mk (Or.inl ⟨rfl, rfl, rfl⟩) | refine CutS.mk (Or.inr (sub_auto ?_)) | exact trivial | refine And.intro ?_ ?_ | refine cond_split ?_ ?_ | apply guess | apply FnIs.useF (k0) | apply FnIs.useF (kin) | exact Or.inl rfl | exact Or.inr rfl | exact Side.mk trivial | exact Side.mk (fun h => h) | exact Side.mk (fun h => ⟨h, h⟩) | with_reducible exact Side.mk rfl | with_reducible exact Side.mk ⟨rfl, rfl⟩ | with_reducible exact Side.mk (by assumption) | with_reducible rfl | intro _)
    all_goals try (conv => whnf)
    all_goals try (refine Side.mk ?_; first | (intros; omega) | (show List.length (_ ++ _) ≤ _; simp only [List.length_append, List.length_cons, List.length_nil, List.length_replicate, List.length_take]; omega) | (simp_all; done) | (simp_all; omega))
    all_goals first | rfl | trace_state
  | true =>
    rw [hy] at k0
    have hz : (decide ((0 : Int) ≤ c) && decide (c ≤ (o.length : Int) - 1)) = false := by
      simp only [bsOk, hy, Bool.true_and] at hx
      exact hx
    rw [hz] at kin
    repeat' ((conv => whnf); first | done | refine ev_step ?_ | refine ops_step ?_ | refine scan_step ?_ | refine draw_step ?_ | refine each_step ?_ | refine sl_step ?_ | refine hp_step ?_ | refine guard_no (by decide) ?_ | refine guard_go ?_ | apply cut_auto | with_reducible exact CutS.mk (Or.inl ⟨rfl, rfl, rfl⟩) | refine CutS.mk (Or.inr (sub_auto ?_)) | exact trivial | refine And.intro ?_ ?_ | refine cond_split ?_ ?_ | apply guess | apply FnIs.useF (k0) | apply FnIs.useF (kin) | exact Or.inl rfl | exact Or.inr rfl | exact Side.mk trivial | exact Side.mk (fun h => h) | exact Side.mk (fun h => ⟨h, h⟩) | with_reducible exact Side.mk rfl | with_reducible exact Side.mk ⟨rfl, rfl⟩ | with_reducible exact Side.mk (by assumption) | with_reducible rfl | intro _)
    all_goals try (conv => whnf)
    all_goals try (refine Side.mk ?_; intros; omega)
    all_goals try (refine Side.mk ?_; first | (intros; omega) | (show List.length (_ ++ _) ≤ _; simp only [List.length_append, List.length_cons, List.length_nil, List.length_replicate, List.length_take]; omega) | (simp_all; done) | (simp_all; omega))
    all_goals first | rfl | omega | trace_state
theorem k_ShieldsSpec_no (W : List (List Int)) (o : List Int) (c : Int) (h : Side (W.length ≤ 1048577 ∧ o.length ≤ 1048577)) (hx : bsOk W o c = false) : FnIs Try.prog 26 [.agg [.sl 1 []], .sl 2 [], .int .i64 c] 3 [(1, .flat false (.rows 0 0 W.length)), (0, .nestI false .i64 W), (2, .flat false (.ints .i64 o))] (.tuple [.nilsl, .int .i64 0, .bool false]) 3 [] := by
  have hh := h.h
  have k0 := k_l10Order W o h
  have kc := k_l10Count W c ⟨hh.1⟩
  refine fn_of_ev tok Try.func26 rfl rfl rfl ?_
  cases hy : okB W && isOB W.length o with
  | false =>
    rw [hy] at k0
    repeat' ((conv => whnf); first | done | refine ev_step ?_ | refine ops_step ?_ | refine scan_step ?_ | refine draw_step ?_ | refine each_step ?_ | refine sl_step ?_ | refine hp_step ?_ | refine guard_no (by decide) ?_ | refine guard_go ?_ | apply cut_auto | with_reducible exact CutS.mk (Or.inl ⟨rfl, rfl, rfl⟩) | refine CutS.mk (Or.inr (sub_auto ?_)) | exact trivial | refine And.intro ?_ ?_ | refine cond_split ?_ ?_ | apply guess | apply FnIs.useF (k0) | apply FnIs.useS (kc) | exact Or.inl rfl | exact Or.inr rfl | exact Side.mk trivial | exact Side.mk (fun h => h) | exact Side.mk (fun h => ⟨h, h⟩) | with_reducible exact Side.mk rfl | with_reducible exact Side.mk ⟨rfl, rfl⟩ | with_reducible exact Side.mk (by assumption) | with_reducible rfl | intro _)
    all_goals try (conv => whnf)
    all_goals try (refine Side.mk ?_; first | (intros; omega) | (show List.length (_ ++ _) ≤ _; simp only [List.length_append, List.length_cons, List.length_nil, List.length_replicate, List.length_take]; omega) | (simp_all; done) | (simp_all; omega))
    all_goals first | rfl | trace_state
  | true =>
    rw [hy] at k0
    have hz : (okB W && (decide ((0 : Int) ≤ c) && decide (c ≤ (W.length : Int) - 1))) = false := by
      simp only [bsOk, hy, Bool.true_and] at hx
      simp only [Bool.and_eq_true] at hy
      rw [(isOB_iff.1 hy.2).1] at hx
      rw [hx, Bool.and_false]
    rw [hz] at kc
    repeat' ((conv => whnf); first | done | refine ev_step ?_ | refine ops_step ?_ | refine scan_step ?_ | refine draw_step ?_ | refine each_step ?_ | refine sl_step ?_ | refine hp_step ?_ | refine guard_no (by decide) ?_ | refine guard_go ?_ | apply cut_auto | with_reducible exact CutS.mk (Or.inl ⟨rfl, rfl, rfl⟩) | refine CutS.mk (Or.inr (sub_auto ?_)) | exact trivial | refine And.intro ?_ ?_ | refine cond_split ?_ ?_ | apply guess | apply FnIs.useF (k0) | apply FnIs.useS (kc) | exact Or.inl rfl | exact Or.inr rfl | exact Side.mk trivial | exact Side.mk (fun h => h) | exact Side.mk (fun h => ⟨h, h⟩) | with_reducible exact Side.mk rfl | with_reducible exact Side.mk ⟨rfl, rfl⟩ | with_reducible exact Side.mk (by assumption) | with_reducible rfl | intro _)
    all_goals try (conv => whnf)
    all_goals try (refine Side.mk ?_; first | (intros; omega) | (show List.length (_ ++ _) ≤ _; simp only [List.length_append, List.length_cons, List.length_nil, List.length_replicate, List.length_take]; omega) | (simp_all; done) | (simp_all; omega))
    all_goals first | rfl | omega | trace_state
theorem k_ShieldsSpec (W : List (List Int)) (o : List Int) (c : Nat) (h : Side (okB W = true ∧ isOB W.length o = true ∧ c + 1 ≤ o.length)) : FnIs Try.prog 26 [.agg [.sl 1 []], .sl 2 [], .int .i64 c] 3 [(1, .flat false (.rows 0 0 W.length)), (0, .nestI false .i64 W), (2, .flat false (.ints .i64 o))] (.tuple [.sl 3 [], .int .i64 (BsRes W o c).2, .bool true]) 4 [(3, .flat true (.ints .i64 (BsRes W o c).1))] := by
  obtain ⟨h1, h2, h3⟩ := h.h
  have hW := okB_iff.1 h1
  have ho := isOB_iff.1 h2
  have hl := ho.1
  have hn := hW.1
  have k0 := k_l10Order W o ⟨⟨by omega, by omega⟩⟩
  rw [h1, h2, Bool.true_and] at k0
  have kc := k_l10Count W (c : Int) ⟨by omega⟩
  rw [h1, show (decide ((0 : Int) ≤ (c : Int)) && decide ((c : Int) ≤ (W.length : Int) - 1)) = true by simp only [Bool.and_eq_true, decide_eq_true_eq]; omega, Bool.true_and] at kc
  have k1 := k_l10Shields W o c h
  have hgl := greT_len (cst W o) (o.length - 1) c
  have k2 := k_l10Coupling W o (greT (cst W o) (o.length - 1) c) ⟨⟨h1, h2, by omega⟩⟩
  unfold BsRes
  rw [bs_eq hW ho (show c ≤ o.length - 1 by omega)]
  generalize greT (cst W o) (o.length - 1) c = L at *
  refine fn_of_ev tok Try.func26 rfl rfl rfl ?_
  repeat' ((conv => whnf); first | done | refine ev_step ?_ | refine ops_step ?_ | refine scan_step ?_ | refine draw_step ?_ | refine each_step ?_ | refine sl_step ?_ | refine hp_step ?_ | refine guard_no (by decide) ?_ | refine guard_go ?_ | apply cut_auto | with_reducible exact CutS.mk (Or.inl ⟨rfl, rfl, rfl⟩) | refine CutS.mk (Or.inr (sub_auto ?_)) | exact trivial | refine And.intro ?_ ?_ | refine cond_split ?_ ?_ | apply guess | apply FnIs.useF (k0) | apply FnIs.useS (kc) | apply FnIs.useF (k1) | apply FnIs.useF (k2) | exact Or.inl rfl | exact Or.inr rfl | exact Side.mk trivial | exact Side.mk (fun h => h) | exact Side.mk (fun h => ⟨h, h⟩) | with_reducible exact Side.mk rfl | with_reducible exact Side.mk ⟨rfl, rfl⟩ | with_reducible exact Side.mk (by assumption) | with_reducible rfl | intro _)
  all_goals try (conv => whnf)
  all_goals try (refine Side.mk ?_; first | (intros; omega) | (show List.length (_ ++ _) ≤ _; simp only [List.length_append, List.length_cons, List.length_nil, List.length_replicate, List.length_take]; omega) | (simp_all; done) | (simp_all; omega))
  all_goals first | rfl | omega | trace_state
end Go.Sx.U
