/-
  Chapter 10: the best order, and the best one between two ends: the reference's functions (contracts).
-/
import Derived.Test.YtjojnolcohjebaaC14
namespace Go.Sx.U
set_option linter.unusedVariables false
set_option linter.unusedSimpArgs false
set_option maxRecDepth 100000
set_option maxHeartbeats 8000000
open Go Go.Sx Go.Proofs Go.Sx.M0

abbrev boP (W : List (List Int)) (c : Int) : Prop := okW W ∧ 0 ≤ c ∧ c ≤ (W.length : Int) - 1
abbrev bbP (W : List (List Int)) (f l : Int) : Prop := okW W ∧ (0 ≤ f ∧ f ≤ (W.length : Int) - 1) ∧ (0 ≤ l ∧ l ≤ (W.length : Int) - 1) ∧ (f = l ↔ W.length = 1)
theorem unb_one {n w : Nat} (hw : w < n) : unb n (2 ^ w) + 1 = n := by
  have hu := unb_add (n := n) (m := 0) (w := w) (by simp) hw
  rw [Nat.zero_or] at hu
  have hz : ∀ n, unb n 0 = n := fun n => by
    induction n with
    | zero => rfl
    | succ n ih => simp only [unb, ih]; simp; omega
  rw [hz] at hu
  exact hu
theorem beg_nn {W : List (List Int)} {e : Int} {cnt w : Nat} {first : Int} (hw : w < W.length) (ha : first < 0 ∨ (w : Int) = first) (h : 0 ≤ Lt W e (2 ^ w) w cnt) : 0 ≤ begL W e cnt first := by
  rcases begT_is W e cnt first W.length with ⟨_, h2⟩ | ⟨h1, _⟩
  · have := h2 w hw ha; omega
  · exact h1
theorem bo_nn {W : List (List Int)} {c : Int} (h : boP W c) : 0 ≤ begL W (-1) c.toNat (-1) := by
  obtain ⟨hW, h1, h2⟩ := h
  have hn := hW.1
  have hu := unb_one (n := W.length) (w := 0) (by omega)
  exact beg_nn (w := 0) (by omega) (.inl (by omega)) (Lt_can hW _ _ _ _ rfl (by omega) ⟨by omega, fun h => by omega⟩)
theorem bb_nn {W : List (List Int)} {f l : Int} (h : bbP W f l) : 0 ≤ begL W l 0 f := by
  obtain ⟨hW, h1, h2, h3⟩ := h
  have hn := hW.1
  have hu := unb_one (n := W.length) (w := f.toNat) (by omega)
  refine beg_nn (w := f.toNat) (by omega) (.inr (by omega)) (Lt_can hW _ _ _ _ rfl (by omega) ⟨by omega, fun _ => ⟨rfl, by omega, fun h0 => by have := h3.2 (by omega); omega, fun h0 => ?_⟩⟩)
  rw [Nat.testBit_two_pow]
  refine decide_eq_false fun he => ?_
  have := h3.1 (by omega)
  omega

theorem k_l00InA (n a b : Int) : FnIs Try.prog 49 [.int .i64 n, .int .i64 a, .int .i64 b] 0 [] (.bool (decide (a ≤ n ∧ n ≤ b))) 0 [] := by
  refine fn_of_ev tok Try.func49 rfl rfl rfl ?_
  repeat' ((conv => whnf); first | done | refine ev_step ?_ | refine ops_step ?_ | refine scan_step ?_ | refine draw_step ?_ | refine each_step ?_ | refine sl_step ?_ | refine hp_step ?_ | refine guard_no (by decide) ?_ | refine guard_go ?_ | refine guard_old ?_ | apply cut_auto | with_reducible exact CutS.mk (Or.inl ⟨rfl, rfl, rfl⟩) | refine CutS.mk (Or.inr (sub_auto ?_)) | exact trivial | refine And.intro ?_ ?_ | refine cond_split ?_ ?_ | apply guess | exact Or.inl rfl | exact Or.inr rfl | exact Side.mk trivial | exact Side.mk (fun h => h) | exact Side.mk (fun h => ⟨h, h⟩) | with_reducible exact Side.mk rfl | with_reducible exact Side.mk ⟨rfl, rfl⟩ | with_reducible exact Side.mk (by assumption) | with_reducible rfl | intro _)
  all_goals try (conv => whnf)
  all_goals (by_cases h1 : a ≤ n <;> by_cases h2 : n ≤ b <;> simp [h1, h2])
theorem k_l10CountA (W : List (List Int)) (c : Int) (h : Side (W.length ≤ 1048577 ∧ inI64 c)) : FnIs Try.prog 64 [.ptr 0 [] 0 0, .int .i64 c] 3 [(0, .flat false (.gen 1 [[.sl 2 []]])), (2, .flat false (.rows 1 0 W.length)), (1, .nestI false .i64 W)] (.bool (decide (boP W c))) 3 [] := by
  obtain ⟨h1, h2⟩ := h.h
  have k1 := k_l10Is W ⟨h1⟩
  have k2 := k_l00InA c 0 ((W.length : Int) - 1)
  have e : decide (boP W c) = (okB W && decide (0 ≤ c ∧ c ≤ (W.length : Int) - 1)) := by
    rw [Bool.eq_iff_iff]; simp [okB]
  rw [e]
  refine fn_of_ev tok Try.func64 rfl rfl rfl ?_
  repeat' ((conv => whnf); first | done | refine ev_step ?_ | refine ops_step ?_ | refine scan_step ?_ | refine draw_step ?_ | refine each_step ?_ | refine sl_step ?_ | refine hp_step ?_ | refine guard_no (by decide) ?_ | refine guard_go ?_ | refine guard_old ?_ | apply cut_auto | with_reducible exact CutS.mk (Or.inl ⟨rfl, rfl, rfl⟩) | refine CutS.mk (Or.inr (sub_auto ?_)) | exact trivial | refine And.intro ?_ ?_ | refine cond_split ?_ ?_ | apply guess | apply FnIs.useF (k1) | apply FnIs.useS (k2) | exact Or.inl rfl | exact Or.inr rfl | exact Side.mk trivial | exact Side.mk (fun h => h) | exact Side.mk (fun h => ⟨h, h⟩) | with_reducible exact Side.mk rfl | with_reducible exact Side.mk ⟨rfl, rfl⟩ | with_reducible exact Side.mk (by assumption) | with_reducible rfl | intro _)
  all_goals try (conv => whnf)
  all_goals try (refine Side.mk ?_; first | (intros; omega) | (show List.length (_ ++ _) ≤ _; simp only [List.length_append, List.length_cons, List.length_nil, List.length_replicate, List.length_take]; omega) | (simp_all; done) | (simp_all; omega))
  all_goals first | rfl | (unfold inI64; omega) | (cases okB W <;> rfl) | trace_state
theorem k_BestSpec_no (W : List (List Int)) (c : Int) (h : Side (W.length ≤ 1048577 ∧ inI64 c)) (hx : ¬ boP W c) : FnIs Try.prog 31 [.agg [.sl 1 []], .int .i64 c] 2 [(1, .flat false (.rows 0 0 W.length)), (0, .nestI false .i64 W)] (.tuple [.nilsl, .int .i64 0, .bool false]) 2 [] := by
  have k1 := k_l10CountA W c h
  rw [decide_eq_false hx] at k1
  refine fn_of_ev tok Try.func31 rfl rfl rfl ?_
  repeat' ((conv => whnf); first | done | refine ev_step ?_ | refine ops_step ?_ | refine scan_step ?_ | refine draw_step ?_ | refine each_step ?_ | refine sl_step ?_ | refine hp_step ?_ | refine guard_no (by decide) ?_ | refine guard_go ?_ | refine guard_old ?_ | apply cut_auto | with_reducible exact CutS.mk (Or.inl ⟨rfl, rfl, rfl⟩) | refine CutS.mk (Or.inr (sub_auto ?_)) | exact trivial | refine And.intro ?_ ?_ | refine cond_split ?_ ?_ | apply guess | apply FnIs.useF (k1) | exact Or.inl rfl | exact Or.inr rfl | exact Side.mk trivial | exact Side.mk (fun h => h) | exact Side.mk (fun h => ⟨h, h⟩) | with_reducible exact Side.mk rfl | with_reducible exact Side.mk ⟨rfl, rfl⟩ | with_reducible exact Side.mk (by assumption) | with_reducible rfl | intro _)
  all_goals try (conv => whnf)
  all_goals try (refine Side.mk ?_; first | (intros; omega) | (show List.length (_ ++ _) ≤ _; simp only [List.length_append, List.length_cons, List.length_nil, List.length_replicate, List.length_take]; omega) | (simp_all; done) | (simp_all; omega))
  all_goals first | rfl | trace_state
theorem k_BestSpec (W : List (List Int)) (c : Int) (h : Side (W.length ≤ 1048577 ∧ inI64 c)) (hx : boP W c) : FnIs Try.prog 31 [.agg [.sl 1 []], .int .i64 c] 2 [(1, .flat false (.rows 0 0 W.length)), (0, .nestI false .i64 W)] (.tuple [.sl 2 [], .int .i64 (begL W (-1) c.toNat (-1)), .bool true]) 3 [(2, .flat true (.ints .i64 (folO W (-1) c.toNat (-1))))] := by
  have k1 := k_l10CountA W c h
  rw [decide_eq_true hx] at k1
  have hn := hx.1.1
  have k2 := k_l10Follow W c.toNat (-1) (-1) hx.1 (by omega) (bo_nn hx)
  rw [show ((c.toNat : Nat) : Int) = c by omega] at k2
  generalize folO W (-1) c.toNat (-1) = q at k2 ⊢
  generalize begL W (-1) c.toNat (-1) = v at k2 ⊢
  refine fn_of_ev tok Try.func31 rfl rfl rfl ?_
  repeat' ((conv => whnf); first | done | refine ev_step ?_ | refine ops_step ?_ | refine scan_step ?_ | refine draw_step ?_ | refine each_step ?_ | refine sl_step ?_ | refine hp_step ?_ | refine guard_no (by decide) ?_ | refine guard_go ?_ | refine guard_old ?_ | apply cut_auto | with_reducible exact CutS.mk (Or.inl ⟨rfl, rfl, rfl⟩) | refine CutS.mk (Or.inr (sub_auto ?_)) | exact trivial | refine And.intro ?_ ?_ | refine cond_split ?_ ?_ | apply guess | apply FnIs.useF (k1) | apply FnIs.useF (k2) | exact Or.inl rfl | exact Or.inr rfl | exact Side.mk trivial | exact Side.mk (fun h => h) | exact Side.mk (fun h => ⟨h, h⟩) | with_reducible exact Side.mk rfl | with_reducible exact Side.mk ⟨rfl, rfl⟩ | with_reducible exact Side.mk (by assumption) | with_reducible rfl | intro _)
  all_goals try (conv => whnf)
  all_goals try (refine Side.mk ?_; first | (intros; omega) | (show List.length (_ ++ _) ≤ _; simp only [List.length_append, List.length_cons, List.length_nil, List.length_replicate, List.length_take]; omega) | (simp_all; done) | (simp_all; omega))
  all_goals first | rfl | trace_state
theorem bb_cond (W : List (List Int)) (f l : Int) : (bif bif bif !okB W then true else !decide (0 ≤ f ∧ f ≤ (W.length : Int) - 1) then true else !decide (0 ≤ l ∧ l ≤ (W.length : Int) - 1) then true else !(decide (f = l) == decide ((W.length : Int) = 1))) = !decide (bbP W f l) := by
  have e : decide (bbP W f l) = (okB W && (decide (0 ≤ f ∧ f ≤ (W.length : Int) - 1) && (decide (0 ≤ l ∧ l ≤ (W.length : Int) - 1) && decide (f = l ↔ W.length = 1)))) := by
    rw [Bool.eq_iff_iff]; simp [okB]
  have e2 : (decide (f = l) == decide ((W.length : Int) = 1)) = decide (f = l ↔ W.length = 1) := by
    have : (W.length : Int) = 1 ↔ W.length = 1 := by omega
    by_cases h1 : f = l <;> by_cases h2 : W.length = 1 <;> simp [h1, h2, this]
  rw [e, e2]
  cases okB W <;> cases decide (0 ≤ f ∧ f ≤ (W.length : Int) - 1) <;> cases decide (0 ≤ l ∧ l ≤ (W.length : Int) - 1) <;> rfl
theorem k_BetwSpec_no (W : List (List Int)) (f l : Int) (h : Side (W.length ≤ 1048577 ∧ inI64 f ∧ inI64 l)) (hx : ¬ bbP W f l) : FnIs Try.prog 29 [.agg [.sl 1 []], .int .i64 f, .int .i64 l] 2 [(1, .flat false (.rows 0 0 W.length)), (0, .nestI false .i64 W)] (.tuple [.nilsl, .int .i64 0, .bool false]) 2 [] := by
  obtain ⟨h1, h2, h3⟩ := h.h
  have k1 := k_l10Is W ⟨h1⟩
  have k2 := k_l00InA f 0 ((W.length : Int) - 1)
  have k3 := k_l00InA l 0 ((W.length : Int) - 1)
  have hc := bb_cond W f l
  rw [decide_eq_false hx] at hc
  refine fn_of_ev tok Try.func29 rfl rfl rfl ?_
  repeat' ((conv => whnf); first | done | refine ev_step ?_ | refine ops_step ?_ | refine scan_step ?_ | refine draw_step ?_ | refine each_step ?_ | refine sl_step ?_ | refine hp_step ?_ | refine guard_no (by decide) ?_ | refine guard_go ?_ | refine guard_old ?_ | apply cut_auto | with_reducible exact CutS.mk (Or.inl ⟨rfl, rfl, rfl⟩) | refine CutS.mk (Or.inr (sub_auto ?_)) | exact trivial | refine And.intro ?_ ?_ | (refine cond_split ?_ ?_ <;> intro hq_ <;> first | (exfalso; first | omega | (simp only [hc, cond_true, cond_false, Bool.not_true, Bool.not_false, Bool.and_true, Bool.true_and, Bool.and_false, Bool.false_and, Bool.or_true, Bool.true_or, Bool.or_false, Bool.false_or, Bool.true_eq_false, Bool.false_eq_true, decide_true, decide_false, reduceCtorEq] at hq_; done) | (rw [decide_eq_false_iff_not] at hq_; omega) | (rw [decide_eq_true_eq] at hq_; omega) | (simp only [hc, reduceCtorEq] at hq_; done) | exact Bool.noConfusion (Eq.trans (Eq.symm hc) hq_)) | skip) | apply guess | apply FnIs.useF (k1) | apply FnIs.useS (k_l00InA _ _ _) | exact Or.inl rfl | exact Or.inr rfl | exact Side.mk trivial | exact Side.mk (fun h => h) | exact Side.mk (fun h => ⟨h, h⟩) | with_reducible exact Side.mk rfl | with_reducible exact Side.mk ⟨rfl, rfl⟩ | with_reducible exact Side.mk (by assumption) | with_reducible rfl | intro _)
  all_goals try (conv => whnf)
  all_goals try (refine Side.mk ?_; first | (intros; omega) | (show List.length (_ ++ _) ≤ _; simp only [List.length_append, List.length_cons, List.length_nil, List.length_replicate, List.length_take]; omega) | (simp_all; done) | (simp_all; omega))
  all_goals trace_state
theorem k_BetwSpec (W : List (List Int)) (f l : Int) (h : Side (W.length ≤ 1048577 ∧ inI64 f ∧ inI64 l)) (hx : bbP W f l) : FnIs Try.prog 29 [.agg [.sl 1 []], .int .i64 f, .int .i64 l] 2 [(1, .flat false (.rows 0 0 W.length)), (0, .nestI false .i64 W)] (.tuple [.sl 2 [], .int .i64 (begL W l 0 f), .bool true]) 3 [(2, .flat true (.ints .i64 (folO W l 0 f)))] := by
  obtain ⟨h1, h2, h3⟩ := h.h
  have k1 := k_l10Is W ⟨h1⟩
  have k2 := k_l00InA f 0 ((W.length : Int) - 1)
  have k3 := k_l00InA l 0 ((W.length : Int) - 1)
  have hc := bb_cond W f l
  rw [decide_eq_true hx] at hc
  have hn := hx.1.1
  have k4 := k_l10Follow W 0 l f hx.1 (by omega) (bb_nn hx)
  generalize folO W l 0 f = q at k4 ⊢
  generalize begL W l 0 f = v at k4 ⊢
  refine fn_of_ev tok Try.func29 rfl rfl rfl ?_
  repeat' ((conv => whnf); first | done | refine ev_step ?_ | refine ops_step ?_ | refine scan_step ?_ | refine draw_step ?_ | refine each_step ?_ | refine sl_step ?_ | refine hp_step ?_ | refine guard_no (by decide) ?_ | refine guard_go ?_ | refine guard_old ?_ | apply cut_auto | with_reducible exact CutS.mk (Or.inl ⟨rfl, rfl, rfl⟩) | refine CutS.mk (Or.inr (sub_auto ?_)) | exact trivial | refine And.intro ?_ ?_ | (refine cond_split ?_ ?_ <;> intro hq_ <;> first | (exfalso; first | omega | (simp only [hc, cond_true, cond_false, Bool.not_true, Bool.not_false, Bool.and_true, Bool.true_and, Bool.and_false, Bool.false_and, Bool.or_true, Bool.true_or, Bool.or_false, Bool.false_or, Bool.true_eq_false, Bool.false_eq_true, decide_true, decide_false, reduceCtorEq] at hq_; done) | (rw [decide_eq_false_iff_not] at hq_; omega) | (rw [decide_eq_true_eq] at hq_; omega) | (simp only [hc, reduceCtorEq] at hq_; done) | exact Bool.noConfusion (Eq.trans (Eq.symm hc) hq_)) | skip) | apply guess | apply FnIs.useF (k1) | apply FnIs.useS (k_l00InA _ _ _) | apply FnIs.useF (k4) | exact Or.inl rfl | exact Or.inr rfl | exact Side.mk trivial | exact Side.mk (fun h => h) | exact Side.mk (fun h => ⟨h, h⟩) | with_reducible exact Side.mk rfl | with_reducible exact Side.mk ⟨rfl, rfl⟩ | with_reducible exact Side.mk (by assumption) | with_reducible rfl | intro _)
  all_goals try (conv => whnf)
  all_goals try (refine Side.mk ?_; first | (intros; omega) | (show List.length (_ ++ _) ≤ _; simp only [List.length_append, List.length_cons, List.length_nil, List.length_replicate, List.length_take]; omega) | (simp_all; done) | (simp_all; omega))
  all_goals first | rfl | trace_state
end Go.Sx.U
