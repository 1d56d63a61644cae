/-
  FnCountedOrders, as a contract.
-/
import Derived.Test.YtjojnolcohjebaaM1B
import Derived.Test.YtjojnolcohjebaaM1C
import Derived.Test.YtjojnolcohjebaaC22
import Derived.Test.YtjojnolcohjebaaK7
import Derived.Test.YtjojnolcohjebaaKR2
import Derived.Test.YtjojnolcohjebaaKH
import Derived.Test.YtjojnolcohjebaaC3
set_option linter.unusedSimpArgs false
namespace Go.Sx.U
set_option linter.unusedVariables false
set_option linter.unusedSimpArgs false
set_option maxRecDepth 100000
set_option maxHeartbeats 8000000
open Go Go.Sx Go.Proofs Go.Sx.M0

theorem k_CoupAny (W : List (List Int)) (o : List Int) (h : Side (okB W = true ∧ o.length ≤ 1048577)) : FnIs Try.prog 37 [.agg [.sl 1 []], .sl 2 [], .sl 3 []] 4 [(1, .flat false (.rows 0 0 W.length)), (0, .nestI false .i64 W), (2, .flat false (.ints .i64 o)), (3, .flat false (.ints .i64 []))] (.tuple [.int .i64 (if isOB W.length o = true then coup W o [] else 0), .bool (isOB W.length o)]) 4 [] := by
  obtain ⟨h1, h2⟩ := h.h
  have := (okB_iff.1 h1).1
  have k := k_CouplingOf W o [] ⟨⟨by omega, by omega, by simp⟩⟩
  have e : layOk W o [] = isOB W.length o := by
    have : risesB [] 1 ((o.length : Int) - 1) = true := risesB_iff.2 (fun i hi => by simp at hi)
    simp only [layOk, h1, this, Bool.true_and, Bool.and_true]
  rw [e] at k
  exact k
theorem k_CountIs (W : List (List Int)) (c : Int) (h : Side (okB W = true ∧ 0 ≤ c ∧ c ≤ 1000000)) : FnIs Try.prog 19 [.agg [.sl 1 []], .int .i64 c] 2 [(1, .flat false (.rows 0 0 W.length)), (0, .nestI false .i64 W)] (.tuple [.int .i64 (nOrd W c), .bool true]) 2 [] := by
  obtain ⟨h1, h2, h3⟩ := h.h
  have hW := okB_iff.1 h1
  have k := k_CountOrders W c ⟨by have := hW.1; omega⟩
  have e : cntOk W c = true := by simp only [cntOk, h1, Bool.true_and, Bool.and_eq_true, decide_eq_true_eq]; omega
  rw [e, if_pos rfl, nOrd_walk hW] at k
  exact k
theorem k_CountNo (W : List (List Int)) (h : Side (okB W = true)) : FnIs Try.prog 19 [.agg [.sl 1 []], .int .i64 (-1)] 2 [(1, .flat false (.rows 0 0 W.length)), (0, .nestI false .i64 W)] (.tuple [.int .i64 0, .bool false]) 2 [] := by
  have h1 := h.h
  have hW := okB_iff.1 h1
  have k := k_CountOrders W (-1) ⟨by have := hW.1; omega⟩
  have e : cntOk W (-1) = false := by simp [cntOk]
  rw [e] at k
  exact k
theorem k_CountLess (W : List (List Int)) (h : okB W = true) {v : Int} (h0 : 0 ≤ v) (h1 : v ≤ 8000) (hn : nOrd W (v - 1) = 0) : ∃ b : Bool, b = decide (0 < v) ∧ FnIs Try.prog 19 [.agg [.sl 1 []], .int .i64 (v - 1)] 2 [(1, .flat false (.rows 0 0 W.length)), (0, .nestI false .i64 W)] (.tuple [.int .i64 0, .bool b]) 2 [] := by
  by_cases hv : 0 < v
  · have k := k_CountIs W (v - 1) ⟨⟨h, by omega, by omega⟩⟩
    rw [hn] at k
    exact ⟨true, (decide_eq_true hv).symm, k⟩
  · have k := k_CountNo W ⟨h⟩
    rw [show (-1 : Int) = v - 1 by omega] at k
    exact ⟨false, (decide_eq_false hv).symm, k⟩
theorem dig_snoc (n : Nat) : ∀ i k, dig n (i + 1) k = dig n i k ++ [((k / n ^ i % n : Nat) : Int)]
  | 0, k => by simp [dig]
  | i + 1, k => by
    rw [dig, dig_snoc n i (k / n), dig, Nat.div_div_eq_div_mul, Nat.pow_succ, Nat.mul_comm n]
    rfl
theorem dig_len (n : Nat) : ∀ i k, (dig n i k).length = i
  | 0, _ => rfl
  | i + 1, k => by rw [dig, List.length_cons, dig_len]
theorem pow_small {n i : Nat} (hn : n ≤ 5) (hi : i ≤ 5) : n ^ i ≤ 3125 :=
  Nat.le_trans (Nat.pow_le_pow_left hn i) (Nat.le_trans (Nat.pow_le_pow_right (by omega) hi) (by decide))
/-- The law's facts. -/
theorem counted_facts {W : List (List Int)} (hW : okW W) {o : List Int} (ho : isO W.length o) :
    0 ≤ coup W o [] ∧ coup W o [] ≤ 8000 ∧ 0 ≤ begL W (-1) 0 (-1) ∧ begL W (-1) 0 (-1) ≤ 8000 ∧ (1 ≤ nOrd W (coup W o []) ∧ (nOrd W (coup W o []) : Int) ≤ 1000000000000) ∧ (1 ≤ nOrd W (begL W (-1) 0 (-1)) ∧ (nOrd W (begL W (-1) 0 (-1)) : Int) ≤ 1000000000000) ∧ nOrd W (begL W (-1) 0 (-1) - 1) = 0 ∧ (1 < W.length → nOrd W (coup W o []) % 2 = 0 ∧ nOrd W (begL W (-1) 0 (-1)) % 2 = 0) := by
  have hn := hW.1
  obtain ⟨h1, h2⟩ := best_own hW (cnt := 0) (by omega)
  rw [shV_zero] at h2
  have b1 := coup_bd hW ho []
  have b2 := coup_bd hW h1 []
  have hle : ∀ c, (nOrd W c : Int) ≤ 1000000000000 := fun c => by
    rw [← nOrd_walk hW]
    exact Int.le_trans (walkC_bd (by omega) c _ _).2 (Int.le_trans (nine_mono hn.2) (by decide))
  refine ⟨b1.1, b1.2, by omega, by omega, ⟨nOrd_pos ho, hle _⟩, ⟨?_, hle _⟩, nOrd_none fun x hx => ?_, fun h => ⟨nOrd_even hW h _, nOrd_even hW h _⟩⟩
  · rw [← h2]; exact nOrd_pos h1
  · have := (best_all hW (cnt := 0) (by omega) hx).2.1
    rw [shV_zero] at this
    omega
theorem k_FnCountedOrders (bs cs : List Int) (hp : Side ((bs.length ≤ 9223372036854775807 ∧ ∀ k ∈ bs, 0 ≤ k ∧ k ≤ 255) ∧ cs.length ≤ 9223372036854775807 ∧ ∀ k ∈ cs, 0 ≤ k ∧ k ≤ 255)) : FnIs Try.prog 11 [.sl 0 [], .sl 1 []] 2 [(1, .flat false (.ints .u8 cs)), (0, .flat false (.ints .u8 bs))] (.bool true) 2 [] := by
  obtain ⟨⟨b1, b2⟩, c1, c2⟩ := hp.h
  have k0 := k_r8Long bs cs ⟨⟨b1, c1⟩⟩
  refine fn_of_evk [0, 1, 4, 5, 6, 7, 8, 9, 10, 11, 12, 13, 14, 15, 16, 17, 18, 19, 20, 21, 22, 23, 24, 25, 26, 27, 30, 119, 121, 124, 132, 139, 163] tok Try.func11 rfl rfl rfl ?_
  by_cases hl : bs.length ≤ 48 ∧ cs.length ≤ 48
  · rw [show (decide (48 < (bs.length : Int)) || decide (48 < (cs.length : Int))) = false by rw [Bool.or_eq_false_iff, decide_eq_false_iff_not, decide_eq_false_iff_not]; omega] at k0
    have hb : bytesOk bs := ⟨Nat.le_trans hl.1 (by decide), b2⟩
    have hc : bytesOk cs := ⟨Nat.le_trans hl.2 (by decide), c2⟩
    repeat' ((conv => whnf); first | done | refine ev_step ?_ | refine ops_step ?_ | refine scan_step ?_ | refine draw_step ?_ | refine each_step ?_ | refine sl_step ?_ | refine hp_step ?_ | refine guard_no (by decide) ?_ | refine guard_go ?_ | refine guard_old ?_ | apply cut_auto | with_reducible exact CutS.mk (Or.inl ⟨rfl, rfl, rfl⟩) | refine CutS.mk (Or.inr (sub_auto ?_)) | exact trivial | refine And.intro ?_ ?_ | (refine cond_split ?_ ?_ <;> intro _ <;> first | (exfalso; first | omega | (simp only [decide_eq_true_eq, decide_eq_false_iff_not, Bool.not_eq_true', Bool.not_eq_false', ne_eq, Bool.not_true, Bool.not_false, cond_true, cond_false, Bool.true_eq_false, Bool.false_eq_true, Bool.and_eq_true, Bool.and_eq_false_iff] at *; omega)) | skip) | apply guess | apply FnIs.useF (k0) | apply FnEx.useF (k_R8Bundle bs ⟨hb⟩) | apply FnEx.useF (k_R8Order cs _ _) | exact Or.inl rfl | exact Or.inr rfl | exact Side.mk trivial | exact Side.mk (fun h => h) | exact Side.mk (fun h => ⟨h, h⟩) | with_reducible exact Side.mk rfl | with_reducible exact Side.mk ⟨rfl, rfl⟩ | with_reducible exact Side.mk (by assumption) | with_reducible rfl | intro _)
    all_goals try (conv => whnf)
    all_goals try exact Side.mk ⟨hc, by omega, by omega⟩
    rename_i W hW o ho
    have hOk := okB_iff.1 hW.1
    have hO := isOB_iff.1 ho
    have hol := hO.1
    obtain ⟨f1, f2, f3, f4, f5, f6, f7, f8⟩ := counted_facts hOk hO
    have kq := k_CoupAny W o ⟨hW.1, by omega⟩
    rw [ho, if_pos rfl] at kq
    have kb := k_BestOrder W 0 ⟨by omega⟩ ⟨hOk, by omega, by omega⟩
    rw [show (0 : Int).toNat = 0 from rfl] at kb
    have kg := k_CountIs W (coup W o []) ⟨⟨hW.1, by omega, by omega⟩⟩
    have kl := k_CountIs W (begL W (-1) 0 (-1)) ⟨⟨hW.1, by omega, by omega⟩⟩
    have hown := own_all hOk (coup W o [])
    obtain ⟨b, hbv, kn⟩ := k_CountLess W hW.1 f3 f4 f7
    generalize begL W (-1) 0 (-1) = v at *
    generalize coup W o [] = g at *
    generalize nOrd W g = ng at *
    generalize nOrd W v = nl at *
    have d1 : decide ((ng : Int) < 1) = false := decide_eq_false (by omega)
    have d2 : decide ((nl : Int) < 1) = false := decide_eq_false (by omega)
    have d3 : (!(b == decide (0 < v))) = false := by rw [hbv]; cases decide (0 < v) <;> rfl
    have d5 : (bif b then decide ((0 : Int) ≠ 0) else false) = false := by cases b <;> rfl
    have d4 : (bif decide (1 < (W.length : Int)) then (bif decide ((ng : Int).tmod 2 ≠ 0) then true else decide ((nl : Int).tmod 2 ≠ 0)) else false) = false := by
      by_cases h1 : 1 < W.length
      · obtain ⟨g1, g2⟩ := f8 h1
        have e1 : (ng : Int).tmod 2 = 0 := by rw [Int.tmod_eq_emod_of_nonneg (by omega)]; omega
        have e2 : (nl : Int).tmod 2 = 0 := by rw [Int.tmod_eq_emod_of_nonneg (by omega)]; omega
        rw [e1, e2]; simp
      · rw [decide_eq_false (by omega)]; rfl
    by_cases h5 : 5 < W.length
    · repeat' ((conv => whnf); first | done | refine ev_step ?_ | refine ops_step ?_ | refine scan_step ?_ | refine draw_step ?_ | refine each_step ?_ | refine sl_step ?_ | refine hp_step ?_ | refine guard_no (by decide) ?_ | refine guard_go ?_ | refine guard_old ?_ | apply cut_auto | with_reducible exact CutS.mk (Or.inl ⟨rfl, rfl, rfl⟩) | refine CutS.mk (Or.inr (sub_auto ?_)) | exact trivial | refine And.intro ?_ ?_ | (refine cond_split ?_ ?_ <;> intro hq_ <;> first | (exfalso; first | omega | (simp only [d1, d2, d3, d4, d5, cond_true, cond_false, Bool.not_true, Bool.not_false, Bool.and_true, Bool.true_and, Bool.and_false, Bool.false_and, Bool.or_true, Bool.true_or, Bool.or_false, Bool.false_or, Bool.true_eq_false, Bool.false_eq_true, decide_true, decide_false, reduceCtorEq] at hq_; done) | (rw [decide_eq_false_iff_not] at hq_; omega) | (rw [decide_eq_true_eq] at hq_; omega) | (simp only [d1, d2, d3, d4, d5, reduceCtorEq] at hq_; done) | exact Bool.noConfusion (Eq.trans (Eq.symm d1) hq_) | exact Bool.noConfusion (Eq.trans (Eq.symm d2) hq_) | exact Bool.noConfusion (Eq.trans (Eq.symm d3) hq_) | exact Bool.noConfusion (Eq.trans (Eq.symm d4) hq_) | exact Bool.noConfusion (Eq.trans (Eq.symm d5) hq_)) | skip) | apply guess | apply FnIs.useF (kq) | apply FnIs.useF (kb) | refine FnIs.useE (kg) rfl ?_ | refine FnIs.useE (kl) rfl ?_ | refine FnIs.useE (kn) rfl ?_ | exact Or.inl rfl | exact Or.inr rfl | exact Side.mk trivial | exact Side.mk (fun h => h) | exact Side.mk (fun h => ⟨h, h⟩) | with_reducible exact Side.mk rfl | with_reducible exact Side.mk ⟨rfl, rfl⟩ | with_reducible exact Side.mk (by assumption) | with_reducible rfl | intro _)
      all_goals try (conv => whnf)
      all_goals try (refine Side.mk ?_; first | (intros; omega) | (intro h1_ h2_; rw [h1_, h2_]; rfl) | (show List.length (_ ++ _) ≤ _; simp only [List.length_append, List.length_cons, List.length_nil, List.length_replicate, List.length_take]; omega) | (simp_all; done) | (simp_all; omega))
      all_goals first | rfl | trace_state
    · repeat' ((conv => whnf); first | done | refine ev_step ?_ | refine ops_step ?_ | refine scan_step ?_ | refine draw_step ?_ | refine each_step ?_ | refine sl_step ?_ | refine hp_step ?_ | refine guard_no (by decide) ?_ | refine guard_go ?_ | refine guard_old ?_ | apply cut_auto | with_reducible exact CutS.mk (Or.inl ⟨rfl, rfl, rfl⟩) | refine CutS.mk (Or.inr (sub_auto ?_)) | exact trivial | refine And.intro ?_ ?_ | (refine cond_split ?_ ?_ <;> intro hq_ <;> first | (exfalso; first | omega | (simp only [d1, d2, d3, d4, d5, cond_true, cond_false, Bool.not_true, Bool.not_false, Bool.and_true, Bool.true_and, Bool.and_false, Bool.false_and, Bool.or_true, Bool.true_or, Bool.or_false, Bool.false_or, Bool.true_eq_false, Bool.false_eq_true, decide_true, decide_false, reduceCtorEq] at hq_; done) | (rw [decide_eq_false_iff_not] at hq_; omega) | (rw [decide_eq_true_eq] at hq_; omega) | (simp only [d1, d2, d3, d4, d5, reduceCtorEq] at hq_; done) | exact Bool.noConfusion (Eq.trans (Eq.symm d1) hq_) | exact Bool.noConfusion (Eq.trans (Eq.symm d2) hq_) | exact Bool.noConfusion (Eq.trans (Eq.symm d3) hq_) | exact Bool.noConfusion (Eq.trans (Eq.symm d4) hq_) | exact Bool.noConfusion (Eq.trans (Eq.symm d5) hq_)) | skip) | apply guess | apply FnIs.useF (kq) | apply FnIs.useF (kb) | refine FnIs.useE (kg) rfl ?_ | refine FnIs.useE (kl) rfl ?_ | refine FnIs.useE (kn) rfl ?_ | exact Or.inl rfl | exact Or.inr rfl | exact Side.mk trivial | exact Side.mk (fun h => h) | exact Side.mk (fun h => ⟨h, h⟩) | with_reducible exact Side.mk rfl | with_reducible exact Side.mk ⟨rfl, rfl⟩ | with_reducible exact Side.mk (by assumption) | with_reducible rfl | intro _)
      all_goals try (conv => whnf)
      all_goals try (refine Side.mk ?_; first | (intros; omega) | (intro h1_ h2_; rw [h1_, h2_]; rfl) | (show List.length (_ ++ _) ≤ _; simp only [List.length_append, List.length_cons, List.length_nil, List.length_replicate, List.length_take]; omega) | (simp_all; done) | (simp_all; omega))
      refine loop_at (fun i : Nat => i ≤ W.length) 8 (fun i => [(20, .int .i64 i), (19, .int .i64 (W.length ^ i : Nat)), (124, .top)]) (fun i => []) (fun i => W.length - i) 0 (Nat.zero_le _) ?_ (fun i hi => ?_)
      · repeat' ((conv => whnf); first | done | refine ev_step ?_ | refine ops_step ?_ | refine scan_step ?_ | refine draw_step ?_ | refine each_step ?_ | refine sl_step ?_ | refine hp_step ?_ | refine guard_no (by decide) ?_ | refine guard_go ?_ | refine guard_old ?_ | apply cut_auto | with_reducible exact CutS.mk (Or.inl ⟨rfl, rfl, rfl⟩) | refine CutS.mk (Or.inr (sub_auto ?_)) | exact trivial | refine And.intro ?_ ?_ | refine cond_split ?_ ?_ | apply guess | exact Or.inl rfl | exact Or.inr rfl | exact Side.mk trivial | exact Side.mk (fun h => h) | exact Side.mk (fun h => ⟨h, h⟩) | with_reducible exact Side.mk rfl | with_reducible exact Side.mk ⟨rfl, rfl⟩ | with_reducible exact Side.mk (by assumption) | with_reducible rfl | intro _)
        all_goals try (conv => whnf)
        all_goals first | rfl | trace_state
      · have hpi := pow_small (n := W.length) (i := i) (by omega) (by omega)
        by_cases hlt : i < W.length
        · have hps := pow_small (n := W.length) (i := i + 1) (by omega) (by omega)
          have he : ((W.length ^ (i + 1) : Nat) : Int) = ((W.length ^ i : Nat) : Int) * (W.length : Int) := by rw [Nat.pow_succ]; simp
          repeat' ((conv => whnf); first | done | refine ev_step ?_ | refine ops_step ?_ | refine scan_step ?_ | refine draw_step ?_ | refine each_step ?_ | refine sl_step ?_ | refine hp_step ?_ | refine guard_no (by decide) ?_ | refine guard_go ?_ | refine guard_old ?_ | apply cut_auto | with_reducible exact CutS.mk (Or.inl ⟨rfl, rfl, rfl⟩) | refine CutS.mk (Or.inr (sub_auto ?_)) | exact trivial | refine And.intro ?_ ?_ | (refine cond_split ?_ ?_ <;> intro _ <;> first | (exfalso; first | omega | (simp only [decide_eq_true_eq, decide_eq_false_iff_not, Bool.not_eq_true', Bool.not_eq_false', ne_eq, Bool.not_true, Bool.not_false, cond_true, cond_false, Bool.true_eq_false, Bool.false_eq_true, Bool.and_eq_true, Bool.and_eq_false_iff] at *; omega)) | skip) | apply guess | exact Or.inl rfl | exact Or.inr rfl | exact Side.mk trivial | exact Side.mk (fun h => h) | exact Side.mk (fun h => ⟨h, h⟩) | with_reducible exact Side.mk rfl | with_reducible exact Side.mk ⟨rfl, rfl⟩ | with_reducible exact Side.mk (by assumption) | with_reducible rfl | intro _)
          all_goals try (conv => whnf)
          all_goals try (refine Side.mk ?_; first | (intros; omega) | (intro h1_ h2_; rw [h1_, h2_]; rfl) | (show List.length (_ ++ _) ≤ _; simp only [List.length_append, List.length_cons, List.length_nil, List.length_replicate, List.length_take]; omega) | (simp_all; done) | (simp_all; omega))
          all_goals try (refine Side.mk ?_; rw [← he]; unfold inI64; omega)
          refine ⟨i + 1, by omega, by omega, ?_⟩
          repeat' ((conv => whnf); first | done | refine ev_step ?_ | refine ops_step ?_ | refine scan_step ?_ | refine draw_step ?_ | refine each_step ?_ | refine sl_step ?_ | refine hp_step ?_ | refine guard_no (by decide) ?_ | refine guard_go ?_ | refine guard_old ?_ | apply cut_auto | with_reducible exact CutS.mk (Or.inl ⟨rfl, rfl, rfl⟩) | refine CutS.mk (Or.inr (sub_auto ?_)) | exact trivial | refine And.intro ?_ ?_ | refine cond_split ?_ ?_ | apply guess | exact Or.inl rfl | exact Or.inr rfl | exact Side.mk trivial | exact Side.mk (fun h => h) | exact Side.mk (fun h => ⟨h, h⟩) | with_reducible exact Side.mk rfl | with_reducible exact Side.mk ⟨rfl, rfl⟩ | with_reducible exact Side.mk (by assumption) | with_reducible rfl | intro _)
          all_goals try (conv => whnf)
          all_goals first | rfl | omega | exact he | trace_state
        · obtain rfl : i = W.length := by omega
          repeat' ((conv => whnf); first | done | refine ev_step ?_ | refine ops_step ?_ | refine scan_step ?_ | refine draw_step ?_ | refine each_step ?_ | refine sl_step ?_ | refine hp_step ?_ | refine guard_no (by decide) ?_ | refine guard_go ?_ | refine guard_old ?_ | apply cut_auto | with_reducible exact CutS.mk (Or.inl ⟨rfl, rfl, rfl⟩) | refine CutS.mk (Or.inr (sub_auto ?_)) | exact trivial | refine And.intro ?_ ?_ | (refine cond_split ?_ ?_ <;> intro _ <;> first | (exfalso; first | omega | (simp only [decide_eq_true_eq, decide_eq_false_iff_not, Bool.not_eq_true', Bool.not_eq_false', ne_eq, Bool.not_true, Bool.not_false, cond_true, cond_false, Bool.true_eq_false, Bool.false_eq_true, Bool.and_eq_true, Bool.and_eq_false_iff] at *; omega)) | skip) | apply guess | exact Or.inl rfl | exact Or.inr rfl | exact Side.mk trivial | exact Side.mk (fun h => h) | exact Side.mk (fun h => ⟨h, h⟩) | with_reducible exact Side.mk rfl | with_reducible exact Side.mk ⟨rfl, rfl⟩ | with_reducible exact Side.mk (by assumption) | with_reducible rfl | intro _)
          all_goals try (conv => whnf)
          all_goals try (refine Side.mk ?_; first | (intros; omega) | (intro h1_ h2_; rw [h1_, h2_]; rfl) | (show List.length (_ ++ _) ≤ _; simp only [List.length_append, List.length_cons, List.length_nil, List.length_replicate, List.length_take]; omega) | (simp_all; done) | (simp_all; omega))
          refine loop_at (fun k : Nat => k ≤ W.length ^ W.length) 8 (fun k => [(22, .int .i64 k), (21, .int .i64 (ownT W g k)), (23, .top), (24, .top), (25, .top), (26, .top), (27, .top), (132, .top), (139, .top), (163, .top)]) (fun k => []) (fun k => W.length ^ W.length - k) 0 (Nat.zero_le _) ?_ (fun k hk => ?_)
          · repeat' ((conv => whnf); first | done | refine ev_step ?_ | refine ops_step ?_ | refine scan_step ?_ | refine draw_step ?_ | refine each_step ?_ | refine sl_step ?_ | refine hp_step ?_ | refine guard_no (by decide) ?_ | refine guard_go ?_ | refine guard_old ?_ | apply cut_auto | with_reducible exact CutS.mk (Or.inl ⟨rfl, rfl, rfl⟩) | refine CutS.mk (Or.inr (sub_auto ?_)) | exact trivial | refine And.intro ?_ ?_ | refine cond_split ?_ ?_ | apply guess | exact Or.inl rfl | exact Or.inr rfl | exact Side.mk trivial | exact Side.mk (fun h => h) | exact Side.mk (fun h => ⟨h, h⟩) | with_reducible exact Side.mk rfl | with_reducible exact Side.mk ⟨rfl, rfl⟩ | with_reducible exact Side.mk (by assumption) | with_reducible rfl | intro _)
            all_goals try (conv => whnf)
            all_goals first | rfl | trace_state
          · by_cases hlt2 : k < W.length ^ W.length
            · repeat' ((conv => whnf); first | done | refine ev_step ?_ | refine ops_step ?_ | refine scan_step ?_ | refine draw_step ?_ | refine each_step ?_ | refine sl_step ?_ | refine hp_step ?_ | refine guard_no (by decide) ?_ | refine guard_go ?_ | refine guard_old ?_ | apply cut_auto | with_reducible exact CutS.mk (Or.inl ⟨rfl, rfl, rfl⟩) | refine CutS.mk (Or.inr (sub_auto ?_)) | exact trivial | refine And.intro ?_ ?_ | (refine cond_split ?_ ?_ <;> intro _ <;> first | (exfalso; first | omega | (simp only [decide_eq_true_eq, decide_eq_false_iff_not, Bool.not_eq_true', Bool.not_eq_false', ne_eq, Bool.not_true, Bool.not_false, cond_true, cond_false, Bool.true_eq_false, Bool.false_eq_true, Bool.and_eq_true, Bool.and_eq_false_iff] at *; omega)) | skip) | apply guess | exact Or.inl rfl | exact Or.inr rfl | exact Side.mk trivial | exact Side.mk (fun h => h) | exact Side.mk (fun h => ⟨h, h⟩) | with_reducible exact Side.mk rfl | with_reducible exact Side.mk ⟨rfl, rfl⟩ | with_reducible exact Side.mk (by assumption) | with_reducible rfl | intro _)
              all_goals try (conv => whnf)
              all_goals try (refine Side.mk ?_; first | (intros; omega) | (intro h1_ h2_; rw [h1_, h2_]; rfl) | (show List.length (_ ++ _) ≤ _; simp only [List.length_append, List.length_cons, List.length_nil, List.length_replicate, List.length_take]; omega) | (simp_all; done) | (simp_all; omega))
              refine loop_at (fun i : Nat => i ≤ W.length) 9 (fun i => [(25, .int .i64 i), (24, .int .i64 (k / W.length ^ i : Nat)), (23, .sl 8 []), (139, .top)]) (fun i => [(8, .flat true (.ints .i64 (dig W.length i k)))]) (fun i => W.length - i) 0 (Nat.zero_le _) ?_ (fun i hi2 => ?_)
              · repeat' ((conv => whnf); first | done | refine ev_step ?_ | refine ops_step ?_ | refine scan_step ?_ | refine draw_step ?_ | refine each_step ?_ | refine sl_step ?_ | refine hp_step ?_ | refine guard_no (by decide) ?_ | refine guard_go ?_ | refine guard_old ?_ | apply cut_auto | with_reducible exact CutS.mk (Or.inl ⟨rfl, rfl, rfl⟩) | refine CutS.mk (Or.inr (sub_auto ?_)) | exact trivial | refine And.intro ?_ ?_ | refine cond_split ?_ ?_ | apply guess | exact Or.inl rfl | exact Or.inr rfl | exact Side.mk trivial | exact Side.mk (fun h => h) | exact Side.mk (fun h => ⟨h, h⟩) | with_reducible exact Side.mk rfl | with_reducible exact Side.mk ⟨rfl, rfl⟩ | with_reducible exact Side.mk (by assumption) | with_reducible rfl | intro _)
                all_goals try (conv => whnf)
                all_goals first | rfl | (simp; done) | trace_state
              · have hdl := dig_len W.length i k
                by_cases hlt3 : i < W.length
                · have r1 : ((k / W.length ^ i : Nat) : Int).tmod (W.length : Int) = ((k / W.length ^ i % W.length : Nat) : Int) := rfl
                  have hkd : k / W.length ^ i ≤ k := Nat.div_le_self _ _
                  have hkd2 : k / W.length ^ i / W.length ≤ k := Nat.le_trans (Nat.div_le_self _ _) hkd
                  have r2 : IntKind.i64.wrap (((k / W.length ^ i : Nat) : Int).tdiv (W.length : Int)) = ((k / W.length ^ (i + 1) : Nat) : Int) := by
                    have e : ((k / W.length ^ i : Nat) : Int).tdiv (W.length : Int) = ((k / W.length ^ i / W.length : Nat) : Int) := rfl
                    rw [e, Nat.pow_succ, ← Nat.div_div_eq_div_mul]
                    generalize k / W.length ^ i / W.length = z at hkd2
                    exact wrap_in ⟨by omega, by omega⟩
                  have r3 := dig_snoc W.length i k
                  repeat' ((conv => whnf); first | done | refine ev_step ?_ | refine ops_step ?_ | refine scan_step ?_ | refine draw_step ?_ | refine each_step ?_ | refine sl_step ?_ | refine hp_step ?_ | refine guard_no (by decide) ?_ | refine guard_go ?_ | refine guard_old ?_ | apply cut_auto | with_reducible exact CutS.mk (Or.inl ⟨rfl, rfl, rfl⟩) | refine CutS.mk (Or.inr (sub_auto ?_)) | exact trivial | refine And.intro ?_ ?_ | (refine cond_split ?_ ?_ <;> intro _ <;> first | (exfalso; first | omega | (simp only [decide_eq_true_eq, decide_eq_false_iff_not, Bool.not_eq_true', Bool.not_eq_false', ne_eq, Bool.not_true, Bool.not_false, cond_true, cond_false, Bool.true_eq_false, Bool.false_eq_true, Bool.and_eq_true, Bool.and_eq_false_iff] at *; omega)) | skip) | apply guess | exact Or.inl rfl | exact Or.inr rfl | exact Side.mk trivial | exact Side.mk (fun h => h) | exact Side.mk (fun h => ⟨h, h⟩) | with_reducible exact Side.mk rfl | with_reducible exact Side.mk ⟨rfl, rfl⟩ | with_reducible exact Side.mk (by assumption) | with_reducible rfl | intro _)
                  all_goals try (conv => whnf)
                  all_goals try (refine Side.mk ?_; first | (intros; omega) | (intro h1_ h2_; rw [h1_, h2_]; rfl) | (show List.length (_ ++ _) ≤ _; simp only [List.length_append, List.length_cons, List.length_nil, List.length_replicate, List.length_take]; omega) | (simp_all; done) | (simp_all; omega))
                  all_goals try omega
                  refine ⟨i + 1, by omega, by omega, ?_⟩
                  repeat' ((conv => whnf); first | done | refine ev_step ?_ | refine ops_step ?_ | refine scan_step ?_ | refine draw_step ?_ | refine each_step ?_ | refine sl_step ?_ | refine hp_step ?_ | refine guard_no (by decide) ?_ | refine guard_go ?_ | refine guard_old ?_ | apply cut_auto | with_reducible exact CutS.mk (Or.inl ⟨rfl, rfl, rfl⟩) | refine CutS.mk (Or.inr (sub_auto ?_)) | exact trivial | refine And.intro ?_ ?_ | refine cond_split ?_ ?_ | apply guess | exact Or.inl rfl | exact Or.inr rfl | exact Side.mk trivial | exact Side.mk (fun h => h) | exact Side.mk (fun h => ⟨h, h⟩) | with_reducible exact Side.mk rfl | with_reducible exact Side.mk ⟨rfl, rfl⟩ | with_reducible exact Side.mk (by assumption) | with_reducible rfl | intro _)
                  all_goals try (conv => whnf)
                  all_goals first | rfl | omega | exact r2 | exact r2.symm | (rw [r3]; rfl) | trace_state
                · obtain rfl : i = W.length := by omega
                  have kx := k_CoupAny W (dig W.length W.length k) ⟨hW.1, by omega⟩
                  have ho1 : ownT W g (k + 1) = ownT W g k + if isO W.length (dig W.length W.length k) ∧ coup W (dig W.length W.length k) [] = g then 1 else 0 := rfl
                  have hol2 := ownT_le W g k
                  cases hB : isOB W.length (dig W.length W.length k) with
                  | false =>
                    rw [if_neg (fun h => isOB_no.1 hB h.1)] at ho1
                    rw [hB] at kx
                    repeat' ((conv => whnf); first | done | refine ev_step ?_ | refine ops_step ?_ | refine scan_step ?_ | refine draw_step ?_ | refine each_step ?_ | refine sl_step ?_ | refine hp_step ?_ | refine guard_no (by decide) ?_ | refine guard_go ?_ | refine guard_old ?_ | apply cut_auto | with_reducible exact CutS.mk (Or.inl ⟨rfl, rfl, rfl⟩) | refine CutS.mk (Or.inr (sub_auto ?_)) | exact trivial | refine And.intro ?_ ?_ | (refine cond_split ?_ ?_ <;> intro _ <;> first | (exfalso; first | omega | (simp only [decide_eq_true_eq, decide_eq_false_iff_not, Bool.not_eq_true', Bool.not_eq_false', ne_eq, Bool.not_true, Bool.not_false, cond_true, cond_false, Bool.true_eq_false, Bool.false_eq_true, Bool.and_eq_true, Bool.and_eq_false_iff] at *; omega)) | skip) | apply guess | apply FnIs.useF (kx) | exact Or.inl rfl | exact Or.inr rfl | exact Side.mk trivial | exact Side.mk (fun h => h) | exact Side.mk (fun h => ⟨h, h⟩) | with_reducible exact Side.mk rfl | with_reducible exact Side.mk ⟨rfl, rfl⟩ | with_reducible exact Side.mk (by assumption) | with_reducible rfl | intro _)
                    all_goals try (conv => whnf)
                    all_goals try (refine Side.mk ?_; first | (intros; omega) | (intro h1_ h2_; rw [h1_, h2_]; rfl) | (show List.length (_ ++ _) ≤ _; simp only [List.length_append, List.length_cons, List.length_nil, List.length_replicate, List.length_take]; omega) | (simp_all; done) | (simp_all; omega))
                    refine ⟨k + 1, by omega, by omega, ?_⟩
                    repeat' ((conv => whnf); first | done | refine ev_step ?_ | refine ops_step ?_ | refine scan_step ?_ | refine draw_step ?_ | refine each_step ?_ | refine sl_step ?_ | refine hp_step ?_ | refine guard_no (by decide) ?_ | refine guard_go ?_ | refine guard_old ?_ | apply cut_auto | with_reducible exact CutS.mk (Or.inl ⟨rfl, rfl, rfl⟩) | refine CutS.mk (Or.inr (sub_auto ?_)) | exact trivial | refine And.intro ?_ ?_ | refine cond_split ?_ ?_ | apply guess | exact Or.inl rfl | exact Or.inr rfl | exact Side.mk trivial | exact Side.mk (fun h => h) | exact Side.mk (fun h => ⟨h, h⟩) | with_reducible exact Side.mk rfl | with_reducible exact Side.mk ⟨rfl, rfl⟩ | with_reducible exact Side.mk (by assumption) | with_reducible rfl | intro _)
                    all_goals try (conv => whnf)
                    all_goals first | rfl | omega | trace_state
                  | true =>
                    rw [hB, if_pos rfl] at kx
                    by_cases hg : coup W (dig W.length W.length k) [] = g
                    · rw [if_pos ⟨isOB_iff.1 hB, hg⟩] at ho1
                      rw [hg] at kx
                      have d6 : decide (g = g) = true := decide_eq_true rfl
                      repeat' ((conv => whnf); first | done | refine ev_step ?_ | refine ops_step ?_ | refine scan_step ?_ | refine draw_step ?_ | refine each_step ?_ | refine sl_step ?_ | refine hp_step ?_ | refine guard_no (by decide) ?_ | refine guard_go ?_ | refine guard_old ?_ | apply cut_auto | with_reducible exact CutS.mk (Or.inl ⟨rfl, rfl, rfl⟩) | refine CutS.mk (Or.inr (sub_auto ?_)) | exact trivial | refine And.intro ?_ ?_ | (refine cond_split ?_ ?_ <;> intro hq_ <;> first | (exfalso; first | omega | (simp only [d6, cond_true, cond_false, Bool.not_true, Bool.not_false, Bool.and_true, Bool.true_and, Bool.and_false, Bool.false_and, Bool.or_true, Bool.true_or, Bool.or_false, Bool.false_or, Bool.true_eq_false, Bool.false_eq_true, decide_true, decide_false, reduceCtorEq] at hq_; done) | (rw [decide_eq_false_iff_not] at hq_; omega) | (rw [decide_eq_true_eq] at hq_; omega) | (simp only [d6, reduceCtorEq] at hq_; done) | exact Bool.noConfusion (Eq.trans (Eq.symm d6) hq_)) | skip) | apply guess | apply FnIs.useF (kx) | exact Or.inl rfl | exact Or.inr rfl | exact Side.mk trivial | exact Side.mk (fun h => h) | exact Side.mk (fun h => ⟨h, h⟩) | with_reducible exact Side.mk rfl | with_reducible exact Side.mk ⟨rfl, rfl⟩ | with_reducible exact Side.mk (by assumption) | with_reducible rfl | intro _)
                      all_goals try (conv => whnf)
                      all_goals try (refine Side.mk ?_; first | (intros; omega) | (intro h1_ h2_; rw [h1_, h2_]; rfl) | (show List.length (_ ++ _) ≤ _; simp only [List.length_append, List.length_cons, List.length_nil, List.length_replicate, List.length_take]; omega) | (simp_all; done) | (simp_all; omega))
                      all_goals try (refine Side.mk ?_; unfold inI64; omega)
                      refine ⟨k + 1, by omega, by omega, ?_⟩
                      repeat' ((conv => whnf); first | done | refine ev_step ?_ | refine ops_step ?_ | refine scan_step ?_ | refine draw_step ?_ | refine each_step ?_ | refine sl_step ?_ | refine hp_step ?_ | refine guard_no (by decide) ?_ | refine guard_go ?_ | refine guard_old ?_ | apply cut_auto | with_reducible exact CutS.mk (Or.inl ⟨rfl, rfl, rfl⟩) | refine CutS.mk (Or.inr (sub_auto ?_)) | exact trivial | refine And.intro ?_ ?_ | refine cond_split ?_ ?_ | apply guess | exact Or.inl rfl | exact Or.inr rfl | exact Side.mk trivial | exact Side.mk (fun h => h) | exact Side.mk (fun h => ⟨h, h⟩) | with_reducible exact Side.mk rfl | with_reducible exact Side.mk ⟨rfl, rfl⟩ | with_reducible exact Side.mk (by assumption) | with_reducible rfl | intro _)
                      all_goals try (conv => whnf)
                      all_goals first | rfl | omega | trace_state
                    · rw [if_neg (fun h => hg h.2)] at ho1
                      have d6 : decide (coup W (dig W.length W.length k) [] = g) = false := decide_eq_false hg
                      repeat' ((conv => whnf); first | done | refine ev_step ?_ | refine ops_step ?_ | refine scan_step ?_ | refine draw_step ?_ | refine each_step ?_ | refine sl_step ?_ | refine hp_step ?_ | refine guard_no (by decide) ?_ | refine guard_go ?_ | refine guard_old ?_ | apply cut_auto | with_reducible exact CutS.mk (Or.inl ⟨rfl, rfl, rfl⟩) | refine CutS.mk (Or.inr (sub_auto ?_)) | exact trivial | refine And.intro ?_ ?_ | (refine cond_split ?_ ?_ <;> intro hq_ <;> first | (exfalso; first | omega | (simp only [d6, cond_true, cond_false, Bool.not_true, Bool.not_false, Bool.and_true, Bool.true_and, Bool.and_false, Bool.false_and, Bool.or_true, Bool.true_or, Bool.or_false, Bool.false_or, Bool.true_eq_false, Bool.false_eq_true, decide_true, decide_false, reduceCtorEq] at hq_; done) | (rw [decide_eq_false_iff_not] at hq_; omega) | (rw [decide_eq_true_eq] at hq_; omega) | (simp only [d6, reduceCtorEq] at hq_; done) | exact Bool.noConfusion (Eq.trans (Eq.symm d6) hq_)) | skip) | apply guess | apply FnIs.useF (kx) | exact Or.inl rfl | exact Or.inr rfl | exact Side.mk trivial | exact Side.mk (fun h => h) | exact Side.mk (fun h => ⟨h, h⟩) | with_reducible exact Side.mk rfl | with_reducible exact Side.mk ⟨rfl, rfl⟩ | with_reducible exact Side.mk (by assumption) | with_reducible rfl | intro _)
                      all_goals try (conv => whnf)
                      all_goals try (refine Side.mk ?_; first | (intros; omega) | (intro h1_ h2_; rw [h1_, h2_]; rfl) | (show List.length (_ ++ _) ≤ _; simp only [List.length_append, List.length_cons, List.length_nil, List.length_replicate, List.length_take]; omega) | (simp_all; done) | (simp_all; omega))
                      refine ⟨k + 1, by omega, by omega, ?_⟩
                      repeat' ((conv => whnf); first | done | refine ev_step ?_ | refine ops_step ?_ | refine scan_step ?_ | refine draw_step ?_ | refine each_step ?_ | refine sl_step ?_ | refine hp_step ?_ | refine guard_no (by decide) ?_ | refine guard_go ?_ | refine guard_old ?_ | apply cut_auto | with_reducible exact CutS.mk (Or.inl ⟨rfl, rfl, rfl⟩) | refine CutS.mk (Or.inr (sub_auto ?_)) | exact trivial | refine And.intro ?_ ?_ | refine cond_split ?_ ?_ | apply guess | exact Or.inl rfl | exact Or.inr rfl | exact Side.mk trivial | exact Side.mk (fun h => h) | exact Side.mk (fun h => ⟨h, h⟩) | with_reducible exact Side.mk rfl | with_reducible exact Side.mk ⟨rfl, rfl⟩ | with_reducible exact Side.mk (by assumption) | with_reducible rfl | intro _)
                      all_goals try (conv => whnf)
                      all_goals first | rfl | omega | trace_state
            · obtain rfl : k = W.length ^ W.length := by omega
              repeat' ((conv => whnf); first | done | refine ev_step ?_ | refine ops_step ?_ | refine scan_step ?_ | refine draw_step ?_ | refine each_step ?_ | refine sl_step ?_ | refine hp_step ?_ | refine guard_no (by decide) ?_ | refine guard_go ?_ | refine guard_old ?_ | apply cut_auto | with_reducible exact CutS.mk (Or.inl ⟨rfl, rfl, rfl⟩) | refine CutS.mk (Or.inr (sub_auto ?_)) | exact trivial | refine And.intro ?_ ?_ | (refine cond_split ?_ ?_ <;> intro _ <;> first | (exfalso; first | omega | (simp only [decide_eq_true_eq, decide_eq_false_iff_not, Bool.not_eq_true', Bool.not_eq_false', ne_eq, Bool.not_true, Bool.not_false, cond_true, cond_false, Bool.true_eq_false, Bool.false_eq_true, Bool.and_eq_true, Bool.and_eq_false_iff] at *; omega)) | skip) | apply guess | exact Or.inl rfl | exact Or.inr rfl | exact Side.mk trivial | exact Side.mk (fun h => h) | exact Side.mk (fun h => ⟨h, h⟩) | with_reducible exact Side.mk rfl | with_reducible exact Side.mk ⟨rfl, rfl⟩ | with_reducible exact Side.mk (by assumption) | with_reducible rfl | intro _)
              all_goals try (conv => whnf)
              all_goals try (refine Side.mk ?_; first | (intros; omega) | (intro h1_ h2_; rw [h1_, h2_]; rfl) | (show List.length (_ ++ _) ≤ _; simp only [List.length_append, List.length_cons, List.length_nil, List.length_replicate, List.length_take]; omega) | (simp_all; done) | (simp_all; omega))
              all_goals first | rfl | omega | (rw [hown]; simp; done) | trace_state
  · rw [show (decide (48 < (bs.length : Int)) || decide (48 < (cs.length : Int))) = true by rw [Bool.or_eq_true, decide_eq_true_eq, decide_eq_true_eq]; omega] at k0
    repeat' ((conv => whnf); first | done | refine ev_step ?_ | refine ops_step ?_ | refine scan_step ?_ | refine draw_step ?_ | refine each_step ?_ | refine sl_step ?_ | refine hp_step ?_ | refine guard_no (by decide) ?_ | refine guard_go ?_ | refine guard_old ?_ | apply cut_auto | with_reducible exact CutS.mk (Or.inl ⟨rfl, rfl, rfl⟩) | refine CutS.mk (Or.inr (sub_auto ?_)) | exact trivial | refine And.intro ?_ ?_ | (refine cond_split ?_ ?_ <;> intro _ <;> first | (exfalso; first | omega | (simp only [decide_eq_true_eq, decide_eq_false_iff_not, Bool.not_eq_true', Bool.not_eq_false', ne_eq, Bool.not_true, Bool.not_false, cond_true, cond_false, Bool.true_eq_false, Bool.false_eq_true, Bool.and_eq_true, Bool.and_eq_false_iff] at *; omega)) | skip) | apply guess | apply FnIs.useF (k0) | exact Or.inl rfl | exact Or.inr rfl | exact Side.mk trivial | exact Side.mk (fun h => h) | exact Side.mk (fun h => ⟨h, h⟩) | with_reducible exact Side.mk rfl | with_reducible exact Side.mk ⟨rfl, rfl⟩ | with_reducible exact Side.mk (by assumption) | with_reducible rfl | intro _)
    all_goals try (conv => whnf)
    all_goals first | rfl | trace_state
end Go.Sx.U
