/-
  FnSettled, as a contract.
-/
import Derived.Test.YtkjbmkldghkpfaaKR2
import Derived.Test.YtkjbmkldghkpfaaK7
namespace Go.Sx.U
set_option linter.unusedVariables false
set_option linter.unusedSimpArgs false
set_option maxRecDepth 100000
set_option maxHeartbeats 8000000
open Go Go.Sx Go.Proofs Go.Sx.M0

theorem layOk_nil {W : List (List Int)} {o : List Int} (h1 : okB W = true) (h2 : isOB W.length o = true) : layOk W o [] = true := by
  simp only [layOk, h1, h2, Bool.true_and]
  exact risesB_iff.2 (fun i hi => by simp at hi)
theorem k_CouplingOk (W : List (List Int)) (o : List Int) (h : Side (okB W = true ∧ isOB W.length o = true)) : FnIs Try.prog 30 [.agg [.sl 1 []], .sl 2 [], .sl 3 []] 4 [(1, .flat false (.rows 0 0 W.length)), (0, .nestI false .i64 W), (2, .flat false (.ints .i64 o)), (3, .flat false (.ints .i64 []))] (.tuple [.int .i64 (coup W o []), .bool true]) 4 [] := by
  obtain ⟨h1, h2⟩ := h.h
  have := (okB_iff.1 h1).1
  have := (isOB_iff.1 h2).1
  have k := k_CouplingOf W o [] ⟨⟨by omega, by omega, by simp⟩⟩
  rw [layOk_nil h1 h2, if_pos rfl] at k
  exact k
theorem k_SwapOk (W : List (List Int)) (o : List Int) (p : Nat) (h : Side (okB W = true ∧ isOB W.length o = true ∧ p + 1 < W.length)) : FnIs Try.prog 32 [.agg [.sl 1 []], .sl 2 [], .int .i64 p] 3 [(1, .flat false (.rows 0 0 W.length)), (0, .nestI false .i64 W), (2, .flat false (.ints .i64 o))] (.tuple [.int .i64 (coup W o [] - coup W (exch o p) []), .bool true]) 3 [] := by
  obtain ⟨h1, h2, h3⟩ := h.h
  have := (okB_iff.1 h1).1
  have := (isOB_iff.1 h2).1
  have k := k_SwapGain W o p ⟨⟨by omega, by omega⟩⟩
  have e : swOk W o p = true := by
    simp only [swOk, ordOk, h1, h2, Bool.true_and, Bool.and_eq_true, decide_eq_true_eq]
    omega
  rw [e, if_pos rfl, Int.toNat_natCast] at k
  exact k
theorem k_SettleOk (W : List (List Int)) (o : List Int) (h : Side (okB W = true ∧ isOB W.length o = true)) : FnIs Try.prog 39 [.agg [.sl 1 []], .sl 2 []] 3 [(1, .flat false (.rows 0 0 W.length)), (0, .nestI false .i64 W), (2, .flat false (.ints .i64 o))] (.tuple [.sl 3 [], .int .i64 (coup W (settl W o) []), .bool true]) 4 [(3, .flat true (.ints .i64 (settl W o)))] := by
  obtain ⟨h1, h2⟩ := h.h
  have := (okB_iff.1 h1).1
  have := (isOB_iff.1 h2).1
  have k := k_SettleOrder W o ⟨⟨by omega, by omega⟩⟩
  have e : ordOk W o = true := by simp only [ordOk, h1, h2, Bool.and_self]
  simp only [settled, settledC, e, if_true] at k
  exact k
theorem isOB_settl {W : List (List Int)} {o : List Int} (h1 : okB W = true) (h2 : isOB W.length o = true) : isOB W.length (settl W o) = true := isOB_iff.2 (settle_isO (okB_iff.1 h1) (isOB_iff.1 h2))
theorem isOB_exch {W : List (List Int)} {o : List Int} {p : Nat} (h2 : isOB W.length o = true) (hp : p + 1 < W.length) : isOB W.length (exch o p) = true := isOB_iff.2 (exch_isO (isOB_iff.1 h2) (by rw [(isOB_iff.1 h2).1]; exact hp))
theorem k_FnSettled (bs cs : List Int) (hp : Side ((bs.length ≤ 9223372036854775807 ∧ ∀ k ∈ bs, 0 ≤ k ∧ k ≤ 255) ∧ cs.length ≤ 9223372036854775807 ∧ ∀ k ∈ cs, 0 ≤ k ∧ k ≤ 255)) : FnIs Try.prog 15 [.sl 0 [], .sl 1 []] 2 [(1, .flat false (.ints .u8 cs)), (0, .flat false (.ints .u8 bs))] (.bool true) 2 [] := by
  obtain ⟨⟨b1, b2⟩, c1, c2⟩ := hp.h
  have k0 := k_r8Long bs cs ⟨⟨b1, c1⟩⟩
  refine fn_of_evk [0, 1, 4, 5, 6, 7, 8, 9, 10, 11, 12, 13, 14, 15, 16, 17, 18, 19, 20, 21, 22, 25, 80, 84, 147] tok Try.func15 rfl rfl rfl ?_
  by_cases hl : bs.length ≤ 48 ∧ cs.length ≤ 48
  · rw [show (decide (48 < (bs.length : Int)) || decide (48 < (cs.length : Int))) = false by rw [Bool.or_eq_false_iff, decide_eq_false_iff_not, decide_eq_false_iff_not]; omega] at k0
    have hb : bytesOk bs := ⟨hl.1, b2⟩
    have hc : bytesOk cs := ⟨hl.2, c2⟩
    repeat' ((conv => whnf); first | done | refine ev_step ?_ | refine ops_step ?_ | refine scan_step ?_ | refine draw_step ?_ | refine each_step ?_ | apply cut_auto | with_reducible exact CutS.mk (Or.inl ⟨rfl, rfl, rfl⟩) | refine CutS.mk (Or.inr (sub_auto ?_)) | exact trivial | refine And.intro ?_ ?_ | (refine cond_split ?_ ?_ <;> intro _ <;> first | (exfalso; first | omega | (simp only [decide_eq_true_eq, decide_eq_false_iff_not, Bool.not_eq_true', Bool.not_eq_false', ne_eq, Bool.not_true, Bool.not_false, cond_true, cond_false, Bool.true_eq_false, Bool.false_eq_true] at *; omega)) | skip) | apply guess | apply FnIs.useF (k0) | apply FnEx.useF (k_R8Bundle bs ⟨hb⟩) | apply FnEx.useF (k_R8Order cs _ _) | apply FnIs.useF (k_SettleOk _ _ _) | apply FnIs.useF (k_CouplingOk _ _ _) | exact Or.inl rfl | exact Or.inr rfl | exact Side.mk trivial | exact Side.mk (fun h => h) | exact Side.mk (fun h => ⟨h, h⟩) | with_reducible exact Side.mk rfl | with_reducible exact Side.mk ⟨rfl, rfl⟩ | with_reducible exact Side.mk (by assumption) | with_reducible rfl | intro _)
    all_goals try (conv => whnf)
    all_goals try exact Side.mk ⟨(by assumption : okB _ = true ∧ _).1, by assumption⟩
    all_goals try exact Side.mk ⟨(by assumption : okB _ = true ∧ _).1, isOB_settl (by assumption : okB _ = true ∧ _).1 (by assumption)⟩
    all_goals try exact Side.mk ⟨hc, by omega, by omega⟩
    · rename_i W hW o ho hz
      have q1 := settle_le (okB_iff.1 hW.1) (isOB_iff.1 ho)
      have q2 := (settle_isO (okB_iff.1 hW.1) (isOB_iff.1 ho)).1
      rw [decide_eq_false (by omega : ¬ coup W o [] < coup W (settl W o) []), q2] at hz
      simp at hz
    · rename_i W hW o ho hz
      have hWW := okB_iff.1 hW.1
      have hoo := isOB_iff.1 ho
      have hol := hoo.1
      have hsl := (settle_isO hWW hoo).1
      clear hz
      refine loop_at (fun i : Nat => i + 1 ≤ W.length) 9 (fun i => [(15, .int .i64 i), (80, .top), (84, .top), (147, .top), (16, .top), (17, .top), (18, .top), (19, .top), (20, .top), (21, .top), (22, .top)]) (fun i => []) (fun i => W.length - i) 0 (by omega) ?_ (fun i hi => ?_)
      · repeat' ((conv => whnf); first | done | refine ev_step ?_ | refine ops_step ?_ | refine scan_step ?_ | refine draw_step ?_ | refine each_step ?_ | apply cut_auto | with_reducible exact CutS.mk (Or.inl ⟨rfl, rfl, rfl⟩) | refine CutS.mk (Or.inr (sub_auto ?_)) | exact trivial | refine And.intro ?_ ?_ | refine cond_split ?_ ?_ | apply guess | exact Or.inl rfl | exact Or.inr rfl | exact Side.mk trivial | exact Side.mk (fun h => h) | exact Side.mk (fun h => ⟨h, h⟩) | with_reducible exact Side.mk rfl | with_reducible exact Side.mk ⟨rfl, rfl⟩ | with_reducible exact Side.mk (by assumption) | with_reducible rfl | intro _)
        all_goals try (conv => whnf)
        all_goals first | rfl | trace_state
      · by_cases hlt : i + 1 < W.length
        · have e2 : ((i : Int) + 1).toNat = i + 1 := by omega
          have g1 := settle_end hWW hoo hlt
          unfold gain at g1
          have hx := exch_isO hoo (show i + 1 < o.length by omega)
          have u1 := coup_bd hWW hoo []
          have u2 := coup_bd hWW hx []
          have kx : FnIs Try.prog 30 [.agg [.sl 1 []], .sl 2 [], .sl 3 []] 4 [(1, .flat false (.rows 0 0 W.length)), (0, .nestI false .i64 W), (2, .flat false (.ints .i64 ((o.set i (o.getD (i + 1) 0)).set (i + 1) (o.getD i 0)))), (3, .flat false (.ints .i64 []))] (.tuple [.int .i64 (coup W (exch o i) []), .bool true]) 4 [] := k_CouplingOk W (exch o i) ⟨⟨hW.1, isOB_exch ho hlt⟩⟩
          repeat' ((conv => whnf); first | done | refine ev_step ?_ | refine ops_step ?_ | refine scan_step ?_ | refine draw_step ?_ | refine each_step ?_ | apply cut_auto | with_reducible exact CutS.mk (Or.inl ⟨rfl, rfl, rfl⟩) | refine CutS.mk (Or.inr (sub_auto ?_)) | exact trivial | refine And.intro ?_ ?_ | (refine cond_split ?_ ?_ <;> intro _ <;> first | (exfalso; first | omega | (simp only [decide_eq_true_eq, decide_eq_false_iff_not, Bool.not_eq_true', Bool.not_eq_false', ne_eq, Bool.not_true, Bool.not_false, cond_true, cond_false, Bool.true_eq_false, Bool.false_eq_true] at *; omega)) | skip) | apply guess | apply FnIs.useF (k_SwapOk W _ i _) | apply FnIs.useF (kx) | exact Or.inl rfl | exact Or.inr rfl | exact Side.mk trivial | exact Side.mk (fun h => h) | exact Side.mk (fun h => ⟨h, h⟩) | with_reducible exact Side.mk rfl | with_reducible exact Side.mk ⟨rfl, rfl⟩ | with_reducible exact Side.mk (by assumption) | with_reducible rfl | intro _)
          all_goals try (conv => whnf)
          all_goals try (refine Side.mk ?_; show (_ : List Int).length ≤ _; simp only [List.nil_append]; omega)
          all_goals try exact Side.mk ⟨hW.1, by assumption, hlt⟩
          all_goals try exact Side.mk ⟨hW.1, isOB_settl hW.1 (by assumption), hlt⟩
          all_goals try simp only [List.nil_append, e2, Int.toNat_natCast, List.length_set] at *
          all_goals try (refine Side.mk ?_; first | (intros; omega) | (simp_all; done) | (simp_all; omega))
          all_goals try omega
          · rename_i hz
            rw [decide_eq_false (by omega : ¬ 0 < coup W (settl W o) [] - coup W (exch (settl W o) i) [])] at hz
            simp at hz
          · refine ⟨i + 1, by omega, by omega, ?_⟩
            repeat' ((conv => whnf); first | done | refine ev_step ?_ | refine ops_step ?_ | refine scan_step ?_ | refine draw_step ?_ | refine each_step ?_ | apply cut_auto | with_reducible exact CutS.mk (Or.inl ⟨rfl, rfl, rfl⟩) | refine CutS.mk (Or.inr (sub_auto ?_)) | exact trivial | refine And.intro ?_ ?_ | refine cond_split ?_ ?_ | apply guess | exact Or.inl rfl | exact Or.inr rfl | exact Side.mk trivial | exact Side.mk (fun h => h) | exact Side.mk (fun h => ⟨h, h⟩) | with_reducible exact Side.mk rfl | with_reducible exact Side.mk ⟨rfl, rfl⟩ | with_reducible exact Side.mk (by assumption) | with_reducible rfl | intro _)
            all_goals try (conv => whnf)
            all_goals first | rfl | omega | trace_state
        · repeat' ((conv => whnf); first | done | refine ev_step ?_ | refine ops_step ?_ | refine scan_step ?_ | refine draw_step ?_ | refine each_step ?_ | apply cut_auto | with_reducible exact CutS.mk (Or.inl ⟨rfl, rfl, rfl⟩) | refine CutS.mk (Or.inr (sub_auto ?_)) | exact trivial | refine And.intro ?_ ?_ | (refine cond_split ?_ ?_ <;> intro _ <;> first | (exfalso; first | omega | (simp only [decide_eq_true_eq, decide_eq_false_iff_not, Bool.not_eq_true', Bool.not_eq_false', ne_eq, Bool.not_true, Bool.not_false, cond_true, cond_false, Bool.true_eq_false, Bool.false_eq_true] at *; omega)) | skip) | apply guess | exact Or.inl rfl | exact Or.inr rfl | exact Side.mk trivial | exact Side.mk (fun h => h) | exact Side.mk (fun h => ⟨h, h⟩) | with_reducible exact Side.mk rfl | with_reducible exact Side.mk ⟨rfl, rfl⟩ | with_reducible exact Side.mk (by assumption) | with_reducible rfl | intro _)
          all_goals try (conv => whnf)
          all_goals try (refine Side.mk ?_; first | (intros; omega) | (simp_all; done) | (simp_all; omega))
          all_goals try omega
          repeat' ((conv => whnf); first | done | refine ev_step ?_ | refine ops_step ?_ | refine scan_step ?_ | refine draw_step ?_ | refine each_step ?_ | apply cut_auto | with_reducible exact CutS.mk (Or.inl ⟨rfl, rfl, rfl⟩) | refine CutS.mk (Or.inr (sub_auto ?_)) | exact trivial | refine And.intro ?_ ?_ | refine cond_split ?_ ?_ | apply guess | exact Or.inl rfl | exact Or.inr rfl | exact Side.mk trivial | exact Side.mk (fun h => h) | exact Side.mk (fun h => ⟨h, h⟩) | with_reducible exact Side.mk rfl | with_reducible exact Side.mk ⟨rfl, rfl⟩ | with_reducible exact Side.mk (by assumption) | with_reducible rfl | intro _)
          all_goals try (conv => whnf)
          all_goals first | rfl | trace_state
  · rw [show (decide (48 < (bs.length : Int)) || decide (48 < (cs.length : Int))) = true by rw [Bool.or_eq_true, decide_eq_true_eq, decide_eq_true_eq]; omega] at k0
    repeat' ((conv => whnf); first | done | refine ev_step ?_ | refine ops_step ?_ | refine scan_step ?_ | refine draw_step ?_ | refine each_step ?_ | apply cut_auto | with_reducible exact CutS.mk (Or.inl ⟨rfl, rfl, rfl⟩) | refine CutS.mk (Or.inr (sub_auto ?_)) | exact trivial | refine And.intro ?_ ?_ | (refine cond_split ?_ ?_ <;> intro _ <;> first | (exfalso; first | omega | (simp only [decide_eq_true_eq, decide_eq_false_iff_not, Bool.not_eq_true', Bool.not_eq_false', ne_eq, Bool.not_true, Bool.not_false, cond_true, cond_false, Bool.true_eq_false, Bool.false_eq_true] at *; omega)) | skip) | apply guess | apply FnIs.useF (k0) | exact Or.inl rfl | exact Or.inr rfl | exact Side.mk trivial | exact Side.mk (fun h => h) | exact Side.mk (fun h => ⟨h, h⟩) | with_reducible exact Side.mk rfl | with_reducible exact Side.mk ⟨rfl, rfl⟩ | with_reducible exact Side.mk (by assumption) | with_reducible rfl | intro _)
    all_goals try (conv => whnf)
    all_goals first | rfl | trace_state
end Go.Sx.U
