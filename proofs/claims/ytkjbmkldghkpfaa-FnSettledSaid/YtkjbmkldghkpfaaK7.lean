/-
  Chapter 10: exchanges and settling (contracts).
-/
import Derived.Test.YtkjbmkldghkpfaaK6
namespace Go.Sx.U
set_option linter.unusedVariables false
set_option linter.unusedSimpArgs false
set_option maxRecDepth 100000
set_option maxHeartbeats 8000000
open Go Go.Sx Go.Proofs Go.Sx.M0

abbrev swOk (W : List (List Int)) (o : List Int) (p : Int) : Bool := ordOk W o && (decide (0 ≤ p) && decide (p ≤ (o.length : Int) - 2))
theorem k_SwapSpec (W : List (List Int)) (o : List Int) (p : Int) (h : Side (W.length ≤ 1048577 ∧ o.length ≤ 1048577)) : FnIs Try.prog 31 [.agg [.sl 1 []], .sl 2 [], .int .i64 p] 3 [(1, .flat false (.rows 0 0 W.length)), (0, .nestI false .i64 W), (2, .flat false (.ints .i64 o))] (.tuple [.int .i64 (if swOk W o p = true then gain W o p.toNat else 0), .bool (swOk W o p)]) 3 [] := by
  have hs := h.h
  have k1 := k_l10Order W o h
  have k2 := k_l00In p 0 (o.length - 2)
  refine fn_of_ev tok Try.func31 rfl rfl rfl ?_
  cases hx : ordOk W o with
  | false =>
    rw [show (okB W && isOB W.length o) = false from hx] at k1
    simp only [swOk, hx, Bool.false_and, Bool.false_eq_true, if_false]
    repeat' ((conv => whnf); first | done | refine ev_step ?_ | refine ops_step ?_ | refine scan_step ?_ | refine draw_step ?_ | refine each_step ?_ | apply cut_auto | with_reducible exact CutS.mk (Or.inl ⟨rfl, rfl, rfl⟩) | refine CutS.mk (Or.inr (sub_auto ?_)) | exact trivial | refine And.intro ?_ ?_ | refine cond_split ?_ ?_ | apply guess | apply FnIs.useF (k1) | apply FnIs.useF (k2) | exact Or.inl rfl | exact Or.inr rfl | exact Side.mk trivial | exact Side.mk (fun h => h) | exact Side.mk (fun h => ⟨h, h⟩) | with_reducible exact Side.mk rfl | with_reducible exact Side.mk ⟨rfl, rfl⟩ | with_reducible exact Side.mk (by assumption) | with_reducible rfl | intro _)
    all_goals try (conv => whnf)
    all_goals try (refine Side.mk ?_; first | (intros; omega) | (simp_all; done) | (simp_all; omega))
    all_goals first | rfl | done | trace_state
  | true =>
    rw [show (okB W && isOB W.length o) = true from hx] at k1
    cases hy : (decide (0 ≤ p) && decide (p ≤ (o.length : Int) - 2)) with
    | false =>
      rw [hy] at k2
      simp only [swOk, hx, hy, Bool.and_false, Bool.false_eq_true, if_false]
      repeat' ((conv => whnf); first | done | refine ev_step ?_ | refine ops_step ?_ | refine scan_step ?_ | refine draw_step ?_ | refine each_step ?_ | apply cut_auto | with_reducible exact CutS.mk (Or.inl ⟨rfl, rfl, rfl⟩) | refine CutS.mk (Or.inr (sub_auto ?_)) | exact trivial | refine And.intro ?_ ?_ | refine cond_split ?_ ?_ | apply guess | apply FnIs.useF (k1) | apply FnIs.useF (k2) | exact Or.inl rfl | exact Or.inr rfl | exact Side.mk trivial | exact Side.mk (fun h => h) | exact Side.mk (fun h => ⟨h, h⟩) | with_reducible exact Side.mk rfl | with_reducible exact Side.mk ⟨rfl, rfl⟩ | with_reducible exact Side.mk (by assumption) | with_reducible rfl | intro _)
      all_goals try (conv => whnf)
      all_goals try (refine Side.mk ?_; first | (intros; omega) | (simp_all; done) | (simp_all; omega))
      all_goals first | rfl | done | trace_state
    | true =>
      rw [hy] at k2
      simp only [ordOk, Bool.and_eq_true, decide_eq_true_eq] at hx hy
      obtain ⟨q, rfl⟩ : ∃ q : Nat, p = q := ⟨p.toNat, by omega⟩
      simp only [swOk, ordOk, hx, k2, Bool.and_self, Bool.true_and, if_true, Int.toNat_natCast]
      rw [show (decide ((0 : Int) ≤ q) && decide ((q : Int) ≤ (o.length : Int) - 2)) = true by simp only [Bool.and_eq_true, decide_eq_true_eq]; exact hy]
      rw [if_pos rfl]
      repeat' ((conv => whnf); first | done | refine ev_step ?_ | refine ops_step ?_ | refine scan_step ?_ | refine draw_step ?_ | refine each_step ?_ | apply cut_auto | with_reducible exact CutS.mk (Or.inl ⟨rfl, rfl, rfl⟩) | refine CutS.mk (Or.inr (sub_auto ?_)) | exact trivial | refine And.intro ?_ ?_ | refine cond_split ?_ ?_ | apply guess | apply FnIs.useF (k1) | apply FnIs.useF (k2) | apply FnIs.useF (k_l10Gain W o q ⟨⟨hx.1, hx.2, by omega⟩⟩) | exact Or.inl rfl | exact Or.inr rfl | exact Side.mk trivial | exact Side.mk (fun h => h) | exact Side.mk (fun h => ⟨h, h⟩) | with_reducible exact Side.mk rfl | with_reducible exact Side.mk ⟨rfl, rfl⟩ | with_reducible exact Side.mk (by assumption) | with_reducible rfl | intro _)
      all_goals try (conv => whnf)
      all_goals try (refine Side.mk ?_; first | (intros; omega) | (simp_all; done) | (simp_all; omega))
      all_goals first | rfl | done | trace_state
theorem k_SwapGain (W : List (List Int)) (o : List Int) (p : Int) (h : Side (W.length ≤ 1048577 ∧ o.length ≤ 1048577)) : FnIs Try.prog 32 [.agg [.sl 1 []], .sl 2 [], .int .i64 p] 3 [(1, .flat false (.rows 0 0 W.length)), (0, .nestI false .i64 W), (2, .flat false (.ints .i64 o))] (.tuple [.int .i64 (if swOk W o p = true then gain W o p.toNat else 0), .bool (swOk W o p)]) 3 [] := by
  have hs := h.h
  have k1 := k_orderOk W o h
  have k2 := k_in p 0 (o.length - 2)
  refine fn_of_ev tok Try.func32 rfl rfl rfl ?_
  cases hx : ordOk W o with
  | false =>
    rw [show (okB W && isOB W.length o) = false from hx] at k1
    simp only [swOk, hx, Bool.false_and, Bool.false_eq_true, if_false]
    repeat' ((conv => whnf); first | done | refine ev_step ?_ | refine ops_step ?_ | refine scan_step ?_ | refine draw_step ?_ | refine each_step ?_ | apply cut_auto | with_reducible exact CutS.mk (Or.inl ⟨rfl, rfl, rfl⟩) | refine CutS.mk (Or.inr (sub_auto ?_)) | exact trivial | refine And.intro ?_ ?_ | refine cond_split ?_ ?_ | apply guess | apply FnIs.useF (k1) | apply FnIs.useF (k2) | exact Or.inl rfl | exact Or.inr rfl | exact Side.mk trivial | exact Side.mk (fun h => h) | exact Side.mk (fun h => ⟨h, h⟩) | with_reducible exact Side.mk rfl | with_reducible exact Side.mk ⟨rfl, rfl⟩ | with_reducible exact Side.mk (by assumption) | with_reducible rfl | intro _)
    all_goals try (conv => whnf)
    all_goals try (refine Side.mk ?_; first | (intros; omega) | (simp_all; done) | (simp_all; omega))
    all_goals first | rfl | done | trace_state
  | true =>
    rw [show (okB W && isOB W.length o) = true from hx] at k1
    cases hy : (decide (0 ≤ p) && decide (p ≤ (o.length : Int) - 2)) with
    | false =>
      rw [hy] at k2
      simp only [swOk, hx, hy, Bool.and_false, Bool.false_eq_true, if_false]
      repeat' ((conv => whnf); first | done | refine ev_step ?_ | refine ops_step ?_ | refine scan_step ?_ | refine draw_step ?_ | refine each_step ?_ | apply cut_auto | with_reducible exact CutS.mk (Or.inl ⟨rfl, rfl, rfl⟩) | refine CutS.mk (Or.inr (sub_auto ?_)) | exact trivial | refine And.intro ?_ ?_ | refine cond_split ?_ ?_ | apply guess | apply FnIs.useF (k1) | apply FnIs.useF (k2) | exact Or.inl rfl | exact Or.inr rfl | exact Side.mk trivial | exact Side.mk (fun h => h) | exact Side.mk (fun h => ⟨h, h⟩) | with_reducible exact Side.mk rfl | with_reducible exact Side.mk ⟨rfl, rfl⟩ | with_reducible exact Side.mk (by assumption) | with_reducible rfl | intro _)
      all_goals try (conv => whnf)
      all_goals try (refine Side.mk ?_; first | (intros; omega) | (simp_all; done) | (simp_all; omega))
      all_goals first | rfl | done | trace_state
    | true =>
      rw [hy] at k2
      simp only [ordOk, Bool.and_eq_true, decide_eq_true_eq] at hx hy
      obtain ⟨q, rfl⟩ : ∃ q : Nat, p = q := ⟨p.toNat, by omega⟩
      simp only [swOk, ordOk, hx, k2, Bool.and_self, Bool.true_and, if_true, Int.toNat_natCast]
      rw [show (decide ((0 : Int) ≤ q) && decide ((q : Int) ≤ (o.length : Int) - 2)) = true by simp only [Bool.and_eq_true, decide_eq_true_eq]; exact hy]
      rw [if_pos rfl]
      repeat' ((conv => whnf); first | done | refine ev_step ?_ | refine ops_step ?_ | refine scan_step ?_ | refine draw_step ?_ | refine each_step ?_ | apply cut_auto | with_reducible exact CutS.mk (Or.inl ⟨rfl, rfl, rfl⟩) | refine CutS.mk (Or.inr (sub_auto ?_)) | exact trivial | refine And.intro ?_ ?_ | refine cond_split ?_ ?_ | apply guess | apply FnIs.useF (k1) | apply FnIs.useF (k2) | apply FnIs.useF (k_swapGain W o q ⟨⟨hx.1, hx.2, by omega⟩⟩) | exact Or.inl rfl | exact Or.inr rfl | exact Side.mk trivial | exact Side.mk (fun h => h) | exact Side.mk (fun h => ⟨h, h⟩) | with_reducible exact Side.mk rfl | with_reducible exact Side.mk ⟨rfl, rfl⟩ | with_reducible exact Side.mk (by assumption) | with_reducible rfl | intro _)
      all_goals try (conv => whnf)
      all_goals try (refine Side.mk ?_; first | (intros; omega) | (simp_all; done) | (simp_all; omega))
      all_goals first | rfl | done | trace_state
abbrev settled (W : List (List Int)) (o : List Int) : List Int := if ordOk W o = true then settl W o else []
abbrev settledC (W : List (List Int)) (o : List Int) : Int := if ordOk W o = true then coup W (settl W o) [] else 0
theorem bestI_no {W : List (List Int)} {o : List Int} {i : Nat} (h : ¬ 0 < (bestP W o i).1) : bestI W o i = -1 := if_neg h
theorem bestI_yes {W : List (List Int)} {o : List Int} {i : Nat} (h : 0 < (bestP W o i).1) : bestI W o i = ((bestP W o i).2 : Int) := if_pos h
theorem k_SettleSpec (W : List (List Int)) (o : List Int) (h : Side (W.length ≤ 1048577 ∧ o.length ≤ 1048577)) : FnIs Try.prog 38 [.agg [.sl 1 []], .sl 2 []] 3 [(1, .flat false (.rows 0 0 W.length)), (0, .nestI false .i64 W), (2, .flat false (.ints .i64 o))] (.tuple [.sl 3 [], .int .i64 (settledC W o), .bool (ordOk W o)]) 4 [(3, .flat true (.ints .i64 (settled W o)))] := by
  have hs := h.h
  have k1 := k_l10Order W o h
  refine fn_of_ev tok Try.func38 rfl rfl rfl ?_
  cases hx : ordOk W o with
  | false =>
    rw [show (okB W && isOB W.length o) = false from hx] at k1
    simp only [settled, settledC, hx, Bool.false_eq_true, if_false]
    repeat' ((conv => whnf); first | done | refine ev_step ?_ | refine ops_step ?_ | refine scan_step ?_ | refine draw_step ?_ | refine each_step ?_ | apply cut_auto | with_reducible exact CutS.mk (Or.inl ⟨rfl, rfl, rfl⟩) | refine CutS.mk (Or.inr (sub_auto ?_)) | exact trivial | refine And.intro ?_ ?_ | refine cond_split ?_ ?_ | apply guess | apply FnIs.useF (k1) | exact Or.inl rfl | exact Or.inr rfl | exact Side.mk trivial | exact Side.mk (fun h => h) | exact Side.mk (fun h => ⟨h, h⟩) | with_reducible exact Side.mk rfl | with_reducible exact Side.mk ⟨rfl, rfl⟩ | with_reducible exact Side.mk (by assumption) | with_reducible rfl | intro _)
    all_goals try (conv => whnf)
    all_goals first | rfl | done | trace_state
  | true =>
    rw [show (okB W && isOB W.length o) = true from hx] at k1
    simp only [settled, settledC, hx, if_true]
    simp only [ordOk, Bool.and_eq_true] at hx
    have hW := okB_iff.1 hx.1
    have ho := isOB_iff.1 hx.2
    have hn := hW.1
    repeat' ((conv => whnf); first | done | refine ev_step ?_ | refine ops_step ?_ | refine scan_step ?_ | refine draw_step ?_ | refine each_step ?_ | apply cut_auto | with_reducible exact CutS.mk (Or.inl ⟨rfl, rfl, rfl⟩) | refine CutS.mk (Or.inr (sub_auto ?_)) | exact trivial | refine And.intro ?_ ?_ | refine cond_split ?_ ?_ | apply guess | apply FnIs.useF (k1) | apply FnIs.useF (k_l00Own o ⟨hs.2⟩) | exact Or.inl rfl | exact Or.inr rfl | exact Side.mk trivial | exact Side.mk (fun h => h) | exact Side.mk (fun h => ⟨h, h⟩) | with_reducible exact Side.mk rfl | with_reducible exact Side.mk ⟨rfl, rfl⟩ | with_reducible exact Side.mk (by assumption) | with_reducible rfl | intro _)
    all_goals try (conv => whnf)
    refine loop_at (fun q : List Int => isO W.length q ∧ settl W q = settl W o) 5 (fun q => [(7, .sl 4 []), (16, .top), (8, .top), (9, .top), (10, .top), (11, .top)]) (fun q => [(4, .flat true (.ints .i64 q))]) (fun q => (coup W q []).toNat) o ⟨ho, rfl⟩ ?_ (fun q hq => ?_)
    · repeat' ((conv => whnf); first | done | refine ev_step ?_ | refine ops_step ?_ | refine scan_step ?_ | refine draw_step ?_ | refine each_step ?_ | apply cut_auto | with_reducible exact CutS.mk (Or.inl ⟨rfl, rfl, rfl⟩) | refine CutS.mk (Or.inr (sub_auto ?_)) | exact trivial | refine And.intro ?_ ?_ | refine cond_split ?_ ?_ | apply guess | exact Or.inl rfl | exact Or.inr rfl | exact Side.mk trivial | exact Side.mk (fun h => h) | exact Side.mk (fun h => ⟨h, h⟩) | with_reducible exact Side.mk rfl | with_reducible exact Side.mk ⟨rfl, rfl⟩ | with_reducible exact Side.mk (by assumption) | with_reducible rfl | intro _)
      all_goals try (conv => whnf)
      all_goals rfl
    · obtain ⟨hq, he⟩ := hq
      have hql := hq.1
      have hc0 := coup_bd hW hq []
      repeat' ((conv => whnf); first | done | refine ev_step ?_ | refine ops_step ?_ | refine scan_step ?_ | refine draw_step ?_ | refine each_step ?_ | apply cut_auto | with_reducible exact CutS.mk (Or.inl ⟨rfl, rfl, rfl⟩) | refine CutS.mk (Or.inr (sub_auto ?_)) | exact trivial | refine And.intro ?_ ?_ | refine cond_split ?_ ?_ | apply guess | exact Or.inl rfl | exact Or.inr rfl | exact Side.mk trivial | exact Side.mk (fun h => h) | exact Side.mk (fun h => ⟨h, h⟩) | with_reducible exact Side.mk rfl | with_reducible exact Side.mk ⟨rfl, rfl⟩ | with_reducible exact Side.mk (by assumption) | with_reducible rfl | intro _)
      all_goals try (conv => whnf)
      refine loop_at (fun i : Nat => i + 1 ≤ q.length) 5 (fun i => [(10, .int .i64 i), (9, .int .i64 (bestP W q i).1), (8, .int .i64 (bestI W q i)), (11, .top)]) (fun i => []) (fun i => q.length - i) 0 (by omega) ?_ (fun i hi => ?_)
      · repeat' ((conv => whnf); first | done | refine ev_step ?_ | refine ops_step ?_ | refine scan_step ?_ | refine draw_step ?_ | refine each_step ?_ | apply cut_auto | with_reducible exact CutS.mk (Or.inl ⟨rfl, rfl, rfl⟩) | refine CutS.mk (Or.inr (sub_auto ?_)) | exact trivial | refine And.intro ?_ ?_ | refine cond_split ?_ ?_ | apply guess | exact Or.inl rfl | exact Or.inr rfl | exact Side.mk trivial | exact Side.mk (fun h => h) | exact Side.mk (fun h => ⟨h, h⟩) | with_reducible exact Side.mk rfl | with_reducible exact Side.mk ⟨rfl, rfl⟩ | with_reducible exact Side.mk (by assumption) | with_reducible rfl | intro _)
        all_goals try (conv => whnf)
        all_goals first | rfl | simp [bestP, bestI]
      · by_cases hlt : i + 1 < q.length
        · have kg := k_l10Gain W q i ⟨⟨hx.1, isOB_iff.2 hq, hlt⟩⟩
          have hge := bestP_ge W q i
          repeat' ((conv => whnf); first | done | refine ev_step ?_ | refine ops_step ?_ | refine scan_step ?_ | refine draw_step ?_ | refine each_step ?_ | apply cut_auto | with_reducible exact CutS.mk (Or.inl ⟨rfl, rfl, rfl⟩) | refine CutS.mk (Or.inr (sub_auto ?_)) | exact trivial | refine And.intro ?_ ?_ | (refine cond_split ?_ ?_ <;> intro _ <;> first | (exfalso; first | omega | (simp only [decide_eq_true_eq, decide_eq_false_iff_not, Bool.not_eq_true', Bool.not_eq_false', ne_eq, Bool.not_true, Bool.not_false, cond_true, cond_false, Bool.true_eq_false, Bool.false_eq_true] at *; omega)) | skip) | apply guess | apply FnIs.useF (kg) | exact Or.inl rfl | exact Or.inr rfl | exact Side.mk trivial | exact Side.mk (fun h => h) | exact Side.mk (fun h => ⟨h, h⟩) | with_reducible exact Side.mk rfl | with_reducible exact Side.mk ⟨rfl, rfl⟩ | with_reducible exact Side.mk (by assumption) | with_reducible rfl | intro _)
          all_goals try (conv => whnf)
          all_goals try (refine Side.mk ?_; first | (intros; omega) | (simp_all; done) | (simp_all; omega))
          all_goals try omega
          · rename_i hg
            simp only [decide_eq_true_eq] at hg
            refine ⟨i + 1, by omega, by omega, ?_⟩
            have e1 : bestP W q (i + 1) = (gain W q i, i) := by simp only [bestP]; rw [if_pos hg]
            repeat' ((conv => whnf); first | done | refine ev_step ?_ | refine ops_step ?_ | refine scan_step ?_ | refine draw_step ?_ | refine each_step ?_ | apply cut_auto | with_reducible exact CutS.mk (Or.inl ⟨rfl, rfl, rfl⟩) | refine CutS.mk (Or.inr (sub_auto ?_)) | exact trivial | refine And.intro ?_ ?_ | refine cond_split ?_ ?_ | apply guess | exact Or.inl rfl | exact Or.inr rfl | exact Side.mk trivial | exact Side.mk (fun h => h) | exact Side.mk (fun h => ⟨h, h⟩) | with_reducible exact Side.mk rfl | with_reducible exact Side.mk ⟨rfl, rfl⟩ | with_reducible exact Side.mk (by assumption) | with_reducible rfl | intro _)
            all_goals try (conv => whnf)
            all_goals first | rfl | omega | (rw [e1]; done) | (rw [bestI, e1, if_pos (by simp only; omega)]; done) | trace_state
          · rename_i hg
            simp only [decide_eq_false_iff_not] at hg
            refine ⟨i + 1, by omega, by omega, ?_⟩
            have e1 : bestP W q (i + 1) = bestP W q i := by simp only [bestP]; rw [if_neg hg]
            repeat' ((conv => whnf); first | done | refine ev_step ?_ | refine ops_step ?_ | refine scan_step ?_ | refine draw_step ?_ | refine each_step ?_ | apply cut_auto | with_reducible exact CutS.mk (Or.inl ⟨rfl, rfl, rfl⟩) | refine CutS.mk (Or.inr (sub_auto ?_)) | exact trivial | refine And.intro ?_ ?_ | refine cond_split ?_ ?_ | apply guess | exact Or.inl rfl | exact Or.inr rfl | exact Side.mk trivial | exact Side.mk (fun h => h) | exact Side.mk (fun h => ⟨h, h⟩) | with_reducible exact Side.mk rfl | with_reducible exact Side.mk ⟨rfl, rfl⟩ | with_reducible exact Side.mk (by assumption) | with_reducible rfl | intro _)
            all_goals try (conv => whnf)
            all_goals first | rfl | omega | (rw [e1]; done) | (rw [bestI, bestI, e1]; done) | trace_state
        · obtain rfl : i = q.length - 1 := by omega
          by_cases hb : 0 < (bestP W q (q.length - 1)).1
          · obtain ⟨s1, s2, s3⟩ := settle_step hW hq hb
            rw [bestI_yes hb]
            have kx := k_l10Swapped q (bestP W q (q.length - 1)).2 ⟨⟨by omega, s3⟩⟩
            have b2 := coup_bd hW (exch_isO hq s3) []
            repeat' ((conv => whnf); first | done | refine ev_step ?_ | refine ops_step ?_ | refine scan_step ?_ | refine draw_step ?_ | refine each_step ?_ | apply cut_auto | with_reducible exact CutS.mk (Or.inl ⟨rfl, rfl, rfl⟩) | refine CutS.mk (Or.inr (sub_auto ?_)) | exact trivial | refine And.intro ?_ ?_ | (refine cond_split ?_ ?_ <;> intro _ <;> first | (exfalso; first | omega | (simp only [decide_eq_true_eq, decide_eq_false_iff_not, Bool.not_eq_true', Bool.not_eq_false', ne_eq, Bool.not_true, Bool.not_false, cond_true, cond_false, Bool.true_eq_false, Bool.false_eq_true] at *; omega)) | skip) | apply guess | apply FnIs.useF (kx) | exact Or.inl rfl | exact Or.inr rfl | exact Side.mk trivial | exact Side.mk (fun h => h) | exact Side.mk (fun h => ⟨h, h⟩) | with_reducible exact Side.mk rfl | with_reducible exact Side.mk ⟨rfl, rfl⟩ | with_reducible exact Side.mk (by assumption) | with_reducible rfl | intro _)
            all_goals try (conv => whnf)
            all_goals try (refine Side.mk ?_; first | (intros; omega) | (simp_all; done) | (simp_all; omega))
            all_goals try omega
            refine ⟨exch q (bestP W q (q.length - 1)).2, ⟨exch_isO hq s3, s1.trans he⟩, by omega, ?_⟩
            repeat' ((conv => whnf); first | done | refine ev_step ?_ | refine ops_step ?_ | refine scan_step ?_ | refine draw_step ?_ | refine each_step ?_ | apply cut_auto | with_reducible exact CutS.mk (Or.inl ⟨rfl, rfl, rfl⟩) | refine CutS.mk (Or.inr (sub_auto ?_)) | exact trivial | refine And.intro ?_ ?_ | refine cond_split ?_ ?_ | apply guess | exact Or.inl rfl | exact Or.inr rfl | exact Side.mk trivial | exact Side.mk (fun h => h) | exact Side.mk (fun h => ⟨h, h⟩) | with_reducible exact Side.mk rfl | with_reducible exact Side.mk ⟨rfl, rfl⟩ | with_reducible exact Side.mk (by assumption) | with_reducible rfl | intro _)
            all_goals try (conv => whnf)
            all_goals first | rfl | omega | trace_state
          · rw [bestI_no hb]
            have hse := settle_none hb
            have kc := k_l10Coupling W q [] ⟨⟨hx.1, isOB_iff.2 hq, by simp⟩⟩
            rw [← he, hse]
            repeat' ((conv => whnf); first | done | refine ev_step ?_ | refine ops_step ?_ | refine scan_step ?_ | refine draw_step ?_ | refine each_step ?_ | apply cut_auto | with_reducible exact CutS.mk (Or.inl ⟨rfl, rfl, rfl⟩) | refine CutS.mk (Or.inr (sub_auto ?_)) | exact trivial | refine And.intro ?_ ?_ | (refine cond_split ?_ ?_ <;> intro _ <;> first | (exfalso; first | omega | (simp only [decide_eq_true_eq, decide_eq_false_iff_not, Bool.not_eq_true', Bool.not_eq_false', ne_eq, Bool.not_true, Bool.not_false, cond_true, cond_false, Bool.true_eq_false, Bool.false_eq_true] at *; omega)) | skip) | apply guess | apply FnIs.useF (kc) | exact Or.inl rfl | exact Or.inr rfl | exact Side.mk trivial | exact Side.mk (fun h => h) | exact Side.mk (fun h => ⟨h, h⟩) | with_reducible exact Side.mk rfl | with_reducible exact Side.mk ⟨rfl, rfl⟩ | with_reducible exact Side.mk (by assumption) | with_reducible rfl | intro _)
            all_goals try (conv => whnf)
            all_goals try (refine Side.mk ?_; first | (intros; omega) | (simp_all; done) | (simp_all; omega))
            all_goals first | rfl | omega | trace_state
theorem k_SettleOrder (W : List (List Int)) (o : List Int) (h : Side (W.length ≤ 1048577 ∧ o.length ≤ 1048577)) : FnIs Try.prog 39 [.agg [.sl 1 []], .sl 2 []] 3 [(1, .flat false (.rows 0 0 W.length)), (0, .nestI false .i64 W), (2, .flat false (.ints .i64 o))] (.tuple [.sl 3 [], .int .i64 (settledC W o), .bool (ordOk W o)]) 4 [(3, .flat true (.ints .i64 (settled W o)))] := by
  have hs := h.h
  have k1 := k_orderOk W o h
  refine fn_of_ev tok Try.func39 rfl rfl rfl ?_
  cases hx : ordOk W o with
  | false =>
    rw [show (okB W && isOB W.length o) = false from hx] at k1
    simp only [settled, settledC, hx, Bool.false_eq_true, if_false]
    repeat' ((conv => whnf); first | done | refine ev_step ?_ | refine ops_step ?_ | refine scan_step ?_ | refine draw_step ?_ | refine each_step ?_ | apply cut_auto | with_reducible exact CutS.mk (Or.inl ⟨rfl, rfl, rfl⟩) | refine CutS.mk (Or.inr (sub_auto ?_)) | exact trivial | refine And.intro ?_ ?_ | refine cond_split ?_ ?_ | apply guess | apply FnIs.useF (k1) | exact Or.inl rfl | exact Or.inr rfl | exact Side.mk trivial | exact Side.mk (fun h => h) | exact Side.mk (fun h => ⟨h, h⟩) | with_reducible exact Side.mk rfl | with_reducible exact Side.mk ⟨rfl, rfl⟩ | with_reducible exact Side.mk (by assumption) | with_reducible rfl | intro _)
    all_goals try (conv => whnf)
    all_goals first | rfl | done | trace_state
  | true =>
    rw [show (okB W && isOB W.length o) = true from hx] at k1
    simp only [settled, settledC, hx, if_true]
    simp only [ordOk, Bool.and_eq_true] at hx
    have hW := okB_iff.1 hx.1
    have ho := isOB_iff.1 hx.2
    have hn := hW.1
    repeat' ((conv => whnf); first | done | refine ev_step ?_ | refine ops_step ?_ | refine scan_step ?_ | refine draw_step ?_ | refine each_step ?_ | apply cut_auto | with_reducible exact CutS.mk (Or.inl ⟨rfl, rfl, rfl⟩) | refine CutS.mk (Or.inr (sub_auto ?_)) | exact trivial | refine And.intro ?_ ?_ | refine cond_split ?_ ?_ | apply guess | apply FnIs.useF (k1) | apply FnIs.useF (k_Clone o ⟨hs.2⟩) | exact Or.inl rfl | exact Or.inr rfl | exact Side.mk trivial | exact Side.mk (fun h => h) | exact Side.mk (fun h => ⟨h, h⟩) | with_reducible exact Side.mk rfl | with_reducible exact Side.mk ⟨rfl, rfl⟩ | with_reducible exact Side.mk (by assumption) | with_reducible rfl | intro _)
    all_goals try (conv => whnf)
    refine loop_at (fun q : List Int => isO W.length q ∧ settl W q = settl W o) 5 (fun q => [(7, .sl 4 []), (17, .top), (8, .top), (9, .top), (10, .top), (11, .top), (20, .top), (21, .top)]) (fun q => [(4, .flat true (.ints .i64 q))]) (fun q => (coup W q []).toNat) o ⟨ho, rfl⟩ ?_ (fun q hq => ?_)
    · repeat' ((conv => whnf); first | done | refine ev_step ?_ | refine ops_step ?_ | refine scan_step ?_ | refine draw_step ?_ | refine each_step ?_ | apply cut_auto | with_reducible exact CutS.mk (Or.inl ⟨rfl, rfl, rfl⟩) | refine CutS.mk (Or.inr (sub_auto ?_)) | exact trivial | refine And.intro ?_ ?_ | refine cond_split ?_ ?_ | apply guess | exact Or.inl rfl | exact Or.inr rfl | exact Side.mk trivial | exact Side.mk (fun h => h) | exact Side.mk (fun h => ⟨h, h⟩) | with_reducible exact Side.mk rfl | with_reducible exact Side.mk ⟨rfl, rfl⟩ | with_reducible exact Side.mk (by assumption) | with_reducible rfl | intro _)
      all_goals try (conv => whnf)
      all_goals rfl
    · obtain ⟨hq, he⟩ := hq
      have hql := hq.1
      have hc0 := coup_bd hW hq []
      repeat' ((conv => whnf); first | done | refine ev_step ?_ | refine ops_step ?_ | refine scan_step ?_ | refine draw_step ?_ | refine each_step ?_ | apply cut_auto | with_reducible exact CutS.mk (Or.inl ⟨rfl, rfl, rfl⟩) | refine CutS.mk (Or.inr (sub_auto ?_)) | exact trivial | refine And.intro ?_ ?_ | (refine cond_split ?_ ?_ <;> intro _ <;> first | (exfalso; first | omega | (simp only [decide_eq_true_eq, decide_eq_false_iff_not, Bool.not_eq_true', Bool.not_eq_false', ne_eq, Bool.not_true, Bool.not_false, cond_true, cond_false, Bool.true_eq_false, Bool.false_eq_true] at *; omega)) | skip) | apply guess | exact Or.inl rfl | exact Or.inr rfl | exact Side.mk trivial | exact Side.mk (fun h => h) | exact Side.mk (fun h => ⟨h, h⟩) | with_reducible exact Side.mk rfl | with_reducible exact Side.mk ⟨rfl, rfl⟩ | with_reducible exact Side.mk (by assumption) | with_reducible rfl | intro _)
      all_goals try (conv => whnf)
      all_goals try (refine Side.mk ?_; first | (intros; omega) | (simp_all; done) | (simp_all; omega))
      refine loop_at (fun i : Nat => i + 1 ≤ q.length) 5 (fun i => [(21, .int .i64 i), (8, .int .i64 (bestP W q i).1), (9, .int .i64 (bestP W q i).2), (10, .top), (11, .top)]) (fun i => []) (fun i => q.length - i) 0 (by omega) ?_ (fun i hi => ?_)
      · repeat' ((conv => whnf); first | done | refine ev_step ?_ | refine ops_step ?_ | refine scan_step ?_ | refine draw_step ?_ | refine each_step ?_ | apply cut_auto | with_reducible exact CutS.mk (Or.inl ⟨rfl, rfl, rfl⟩) | refine CutS.mk (Or.inr (sub_auto ?_)) | exact trivial | refine And.intro ?_ ?_ | refine cond_split ?_ ?_ | apply guess | exact Or.inl rfl | exact Or.inr rfl | exact Side.mk trivial | exact Side.mk (fun h => h) | exact Side.mk (fun h => ⟨h, h⟩) | with_reducible exact Side.mk rfl | with_reducible exact Side.mk ⟨rfl, rfl⟩ | with_reducible exact Side.mk (by assumption) | with_reducible rfl | intro _)
        all_goals try (conv => whnf)
        all_goals first | rfl | simp [bestP, bestI]
      · by_cases hlt : i + 1 < q.length
        · have kg := k_swapGain W q i ⟨⟨hx.1, isOB_iff.2 hq, hlt⟩⟩
          have hge := bestP_ge W q i
          repeat' ((conv => whnf); first | done | refine ev_step ?_ | refine ops_step ?_ | refine scan_step ?_ | refine draw_step ?_ | refine each_step ?_ | apply cut_auto | with_reducible exact CutS.mk (Or.inl ⟨rfl, rfl, rfl⟩) | refine CutS.mk (Or.inr (sub_auto ?_)) | exact trivial | refine And.intro ?_ ?_ | (refine cond_split ?_ ?_ <;> intro _ <;> first | (exfalso; first | omega | (simp only [decide_eq_true_eq, decide_eq_false_iff_not, Bool.not_eq_true', Bool.not_eq_false', ne_eq, Bool.not_true, Bool.not_false, cond_true, cond_false, Bool.true_eq_false, Bool.false_eq_true] at *; omega)) | skip) | apply guess | apply FnIs.useF (kg) | exact Or.inl rfl | exact Or.inr rfl | exact Side.mk trivial | exact Side.mk (fun h => h) | exact Side.mk (fun h => ⟨h, h⟩) | with_reducible exact Side.mk rfl | with_reducible exact Side.mk ⟨rfl, rfl⟩ | with_reducible exact Side.mk (by assumption) | with_reducible rfl | intro _)
          all_goals try (conv => whnf)
          all_goals try (refine Side.mk ?_; first | (intros; omega) | (simp_all; done) | (simp_all; omega))
          all_goals try omega
          · rename_i hg
            simp only [decide_eq_true_eq] at hg
            refine ⟨i + 1, by omega, by omega, ?_⟩
            have e1 : bestP W q (i + 1) = (gain W q i, i) := by simp only [bestP]; rw [if_pos hg]
            repeat' ((conv => whnf); first | done | refine ev_step ?_ | refine ops_step ?_ | refine scan_step ?_ | refine draw_step ?_ | refine each_step ?_ | apply cut_auto | with_reducible exact CutS.mk (Or.inl ⟨rfl, rfl, rfl⟩) | refine CutS.mk (Or.inr (sub_auto ?_)) | exact trivial | refine And.intro ?_ ?_ | refine cond_split ?_ ?_ | apply guess | exact Or.inl rfl | exact Or.inr rfl | exact Side.mk trivial | exact Side.mk (fun h => h) | exact Side.mk (fun h => ⟨h, h⟩) | with_reducible exact Side.mk rfl | with_reducible exact Side.mk ⟨rfl, rfl⟩ | with_reducible exact Side.mk (by assumption) | with_reducible rfl | intro _)
            all_goals try (conv => whnf)
            all_goals first | rfl | omega | (rw [e1]; done) | trace_state
          · rename_i hg
            simp only [decide_eq_false_iff_not] at hg
            refine ⟨i + 1, by omega, by omega, ?_⟩
            have e1 : bestP W q (i + 1) = bestP W q i := by simp only [bestP]; rw [if_neg hg]
            repeat' ((conv => whnf); first | done | refine ev_step ?_ | refine ops_step ?_ | refine scan_step ?_ | refine draw_step ?_ | refine each_step ?_ | apply cut_auto | with_reducible exact CutS.mk (Or.inl ⟨rfl, rfl, rfl⟩) | refine CutS.mk (Or.inr (sub_auto ?_)) | exact trivial | refine And.intro ?_ ?_ | refine cond_split ?_ ?_ | apply guess | exact Or.inl rfl | exact Or.inr rfl | exact Side.mk trivial | exact Side.mk (fun h => h) | exact Side.mk (fun h => ⟨h, h⟩) | with_reducible exact Side.mk rfl | with_reducible exact Side.mk ⟨rfl, rfl⟩ | with_reducible exact Side.mk (by assumption) | with_reducible rfl | intro _)
            all_goals try (conv => whnf)
            all_goals first | rfl | omega | (rw [e1]; done) | trace_state
        · obtain rfl : i = q.length - 1 := by omega
          have hge := bestP_ge W q (q.length - 1)
          by_cases hb : 0 < (bestP W q (q.length - 1)).1
          · obtain ⟨s1, s2, s3⟩ := settle_step hW hq hb
            have kx := k_exchanged q (bestP W q (q.length - 1)).2 ⟨⟨by omega, s3⟩⟩
            have b2 := coup_bd hW (exch_isO hq s3) []
            repeat' ((conv => whnf); first | done | refine ev_step ?_ | refine ops_step ?_ | refine scan_step ?_ | refine draw_step ?_ | refine each_step ?_ | apply cut_auto | with_reducible exact CutS.mk (Or.inl ⟨rfl, rfl, rfl⟩) | refine CutS.mk (Or.inr (sub_auto ?_)) | exact trivial | refine And.intro ?_ ?_ | (refine cond_split ?_ ?_ <;> intro _ <;> first | (exfalso; first | omega | (simp only [decide_eq_true_eq, decide_eq_false_iff_not, Bool.not_eq_true', Bool.not_eq_false', ne_eq, Bool.not_true, Bool.not_false, cond_true, cond_false, Bool.true_eq_false, Bool.false_eq_true] at *; omega)) | skip) | apply guess | apply FnIs.useF (kx) | exact Or.inl rfl | exact Or.inr rfl | exact Side.mk trivial | exact Side.mk (fun h => h) | exact Side.mk (fun h => ⟨h, h⟩) | with_reducible exact Side.mk rfl | with_reducible exact Side.mk ⟨rfl, rfl⟩ | with_reducible exact Side.mk (by assumption) | with_reducible rfl | intro _)
            all_goals try (conv => whnf)
            all_goals try (refine Side.mk ?_; first | (intros; omega) | (simp_all; done) | (simp_all; omega))
            all_goals try omega
            refine ⟨exch q (bestP W q (q.length - 1)).2, ⟨exch_isO hq s3, s1.trans he⟩, by omega, ?_⟩
            repeat' ((conv => whnf); first | done | refine ev_step ?_ | refine ops_step ?_ | refine scan_step ?_ | refine draw_step ?_ | refine each_step ?_ | apply cut_auto | with_reducible exact CutS.mk (Or.inl ⟨rfl, rfl, rfl⟩) | refine CutS.mk (Or.inr (sub_auto ?_)) | exact trivial | refine And.intro ?_ ?_ | refine cond_split ?_ ?_ | apply guess | exact Or.inl rfl | exact Or.inr rfl | exact Side.mk trivial | exact Side.mk (fun h => h) | exact Side.mk (fun h => ⟨h, h⟩) | with_reducible exact Side.mk rfl | with_reducible exact Side.mk ⟨rfl, rfl⟩ | with_reducible exact Side.mk (by assumption) | with_reducible rfl | intro _)
            all_goals try (conv => whnf)
            all_goals first | rfl | omega | trace_state
          · have hse := settle_none hb
            have kc := k_coupling W q [] ⟨⟨hx.1, isOB_iff.2 hq, by simp⟩⟩
            rw [← he, hse]
            repeat' ((conv => whnf); first | done | refine ev_step ?_ | refine ops_step ?_ | refine scan_step ?_ | refine draw_step ?_ | refine each_step ?_ | apply cut_auto | with_reducible exact CutS.mk (Or.inl ⟨rfl, rfl, rfl⟩) | refine CutS.mk (Or.inr (sub_auto ?_)) | exact trivial | refine And.intro ?_ ?_ | (refine cond_split ?_ ?_ <;> intro _ <;> first | (exfalso; first | omega | (simp only [decide_eq_true_eq, decide_eq_false_iff_not, Bool.not_eq_true', Bool.not_eq_false', ne_eq, Bool.not_true, Bool.not_false, cond_true, cond_false, Bool.true_eq_false, Bool.false_eq_true] at *; omega)) | skip) | apply guess | apply FnIs.useF (kc) | exact Or.inl rfl | exact Or.inr rfl | exact Side.mk trivial | exact Side.mk (fun h => h) | exact Side.mk (fun h => ⟨h, h⟩) | with_reducible exact Side.mk rfl | with_reducible exact Side.mk ⟨rfl, rfl⟩ | with_reducible exact Side.mk (by assumption) | with_reducible rfl | intro _)
            all_goals try (conv => whnf)
            all_goals try (refine Side.mk ?_; first | (intros; omega) | (simp_all; done) | (simp_all; omega))
            all_goals first | rfl | omega | trace_state
end Go.Sx.U
