/-
  Chapter 8: the shapes of a net (contracts).
-/
import Derived.Test.YtpbmikcicibfcaaG12
namespace Go.Sx.U
set_option linter.unusedVariables false
set_option linter.unusedSimpArgs false
set_option maxRecDepth 100000
set_option maxHeartbeats 8000000
open Go Go.Sx Go.Proofs Go.Sx.M8

abbrev cel (n : Int) : Prop := 0 ≤ n ∧ n ≤ 7
theorem add_hk {p q r s : R2} (h1 : p ≠ q) (h2 : q ≠ r) (hp : smI p.a ∧ smI p.b) (hq : smI q.a ∧ smI q.b) (hr : smI r.a ∧ smI r.b) (hs : smI s.a ∧ smI s.b) :
    (FnIs Try.prog 109 [.sl 0 []] 1 [(0, .flat true (.r2 [p, q, r, s]))] (.sl 0 []) 1 [(0, .flat true (.r2 [p, q, r, s]))] ∧ cut4 p q r s = [p, q, r, s]) ∨ (FnIs Try.prog 109 [.sl 0 []] 1 [(0, .flat true (.r2 [p, q, r, s]))] (.sl 1 []) 2 [(1, .flat true (.r2 (cut4 p q r s)))]) := by
  have hsm : smL [p, q, r, s] := fun i hi => by
    simp only [List.length_cons, List.length_nil] at hi
    rcases (by omega : i = 0 ∨ i = 1 ∨ i = 2 ∨ i = 3) with rfl | rfl | rfl | rfl <;> simpa
  by_cases h3 : r = s
  · right
    have := k_CompactLast [p, q, r, s] ⟨by simp, by simp, hsm, fun i hi => by
      simp only [List.length_cons, List.length_nil] at hi
      rcases (by omega : i = 0 ∨ i = 1) with rfl | rfl
      · simpa using Ne.symm h1
      · simpa using Ne.symm h2, by simpa using h3.symm⟩
    rw [show cut4 p q r s = [p, q, r] from if_pos h3]
    exact this
  · left
    refine ⟨k_CompactSame [p, q, r, s] ⟨by simp, by simp, hsm, fun i hi => ?_⟩, if_neg h3⟩
    simp only [List.length_cons, List.length_nil] at hi
    rcases (by omega : i = 0 ∨ i = 1 ∨ i = 2) with rfl | rfl | rfl
    · simpa using Ne.symm h1
    · simpa using Ne.symm h2
    · simpa using Ne.symm h3
theorem lineL_X (a b c : Int) : lineL a b c b = (List.range (c - a).natAbs).map fun i => (⟨wk a c (i + 1), b⟩ : R2) := by
  unfold lineL lineT lineN
  rw [show (b - b).natAbs = 0 by simp, Nat.add_zero]
  refine List.map_congr_left fun i _ => ?_
  simp only [ptAt, wk, show sgn (b - b) = 0 by simp [sgn], Int.zero_mul, Int.add_zero]
theorem lineL_Y (a b d : Int) : lineL a b a d = (List.range (d - b).natAbs).map fun i => (⟨a, wk b d (i + 1)⟩ : R2) := by
  unfold lineL lineT lineN
  rw [show (a - a).natAbs = 0 by simp, Nat.zero_add]
  refine List.map_congr_left fun i _ => ?_
  simp only [ptAt, wk, show sgn (a - a) = 0 by simp [sgn], Int.zero_mul, Int.add_zero]
theorem k_shapes (a b c d : Int) (h : Side (cel a ∧ cel b ∧ cel c ∧ cel d)) : FnIs Try.prog 71 [.agg [.int .i64 a, .int .i64 b, .int .i64 c, .int .i64 d]] 0 [] (.sl 1 []) 2 [(1, .flat true (.rows 0 0 (shapesV a b c d).length)), (0, .nestR2 true (shapesV a b c d))] := by
  obtain ⟨ha, hb, hc, hd⟩ := h.h
  refine fn_of_ev tok Try.func71 rfl rfl rfl ?_
  by_cases h1 : a = c ∧ b = d
  · rw [show shapesV a b c d = [[⟨a, b⟩]] by simp only [shapesV, if_pos (show a = c ∨ b = d from .inl h1.1), if_pos h1]]
    repeat' ((conv => whnf); first | done | refine ev_step ?_ | refine ops_step ?_ | refine scan_step ?_ | refine draw_step ?_ | refine each_step ?_ | refine sl_step ?_ | refine hp_step ?_ | refine guard_no (by decide) ?_ | refine guard_go ?_ | refine guard_old ?_ | apply cut_auto | with_reducible exact CutS.mk (Or.inl ⟨rfl, rfl, rfl⟩) | refine CutS.mk (Or.inr (sub_auto ?_)) | exact trivial | refine And.intro ?_ ?_ | (refine cond_split ?_ ?_ <;> intro _ <;> first | (exfalso; first | omega | (simp_all; done) | (simp_all; omega)) | skip) | apply guess | exact Or.inl rfl | exact Or.inr rfl | exact Side.mk trivial | exact Side.mk (fun h => h) | exact Side.mk (fun h => ⟨h, h⟩) | with_reducible exact Side.mk rfl | with_reducible exact Side.mk ⟨rfl, rfl⟩ | with_reducible exact Side.mk (by assumption) | with_reducible rfl | intro _)
    all_goals try (conv => whnf)
    all_goals try (refine Side.mk ?_; first | (intros; omega) | (intro h1_ h2_; rw [h1_, h2_]; rfl) | (show List.length (_ ++ _) ≤ _; simp only [List.length_append, List.length_cons, List.length_nil, List.length_replicate, List.length_take]; omega) | (simp_all; done) | (simp_all; omega))
    all_goals first | rfl | (simp; done) | trace_state
  · by_cases hs : a = c ∨ b = d
    · rw [show shapesV a b c d = [[⟨a, b⟩, ⟨c, d⟩]] by simp only [shapesV, if_pos hs, if_neg h1]]
      repeat' ((conv => whnf); first | done | refine ev_step ?_ | refine ops_step ?_ | refine scan_step ?_ | refine draw_step ?_ | refine each_step ?_ | refine sl_step ?_ | refine hp_step ?_ | refine guard_no (by decide) ?_ | refine guard_go ?_ | refine guard_old ?_ | apply cut_auto | with_reducible exact CutS.mk (Or.inl ⟨rfl, rfl, rfl⟩) | refine CutS.mk (Or.inr (sub_auto ?_)) | exact trivial | refine And.intro ?_ ?_ | (refine cond_split ?_ ?_ <;> intro _ <;> first | (exfalso; first | omega | (simp_all; done) | (simp_all; omega)) | skip) | apply guess | exact Or.inl rfl | exact Or.inr rfl | exact Side.mk trivial | exact Side.mk (fun h => h) | exact Side.mk (fun h => ⟨h, h⟩) | with_reducible exact Side.mk rfl | with_reducible exact Side.mk ⟨rfl, rfl⟩ | with_reducible exact Side.mk (by assumption) | with_reducible rfl | intro _)
      all_goals try (conv => whnf)
      all_goals try (refine Side.mk ?_; first | (intros; omega) | (intro h1_ h2_; rw [h1_, h2_]; rfl) | (show List.length (_ ++ _) ≤ _; simp only [List.length_append, List.length_cons, List.length_nil, List.length_replicate, List.length_take]; omega) | (simp_all; done) | (simp_all; omega))
      all_goals first | rfl | (simp; done) | trace_state
    · have hac : a ≠ c := fun e => hs (.inl e)
      have hbd : b ≠ d := fun e => hs (.inr e)
      rw [show shapesV a b c d = shapesX a b c d (c - a).natAbs ++ shapesY a b c d (d - b).natAbs from if_neg hs]
      have kX := k_line a b c b ⟨by omega⟩
      have kY := k_line a b a d ⟨by omega⟩
      rw [lineL_X] at kX
      rw [lineL_Y] at kY
      have lX : ((List.range (c - a).natAbs).map fun i => (⟨wk a c (i + 1), b⟩ : R2)).length = (c - a).natAbs := by simp
      have lY : ((List.range (d - b).natAbs).map fun i => (⟨a, wk b d (i + 1)⟩ : R2)).length = (d - b).natAbs := by simp
      have gX : ∀ i, i < (c - a).natAbs → ((List.range (c - a).natAbs).map fun i => (⟨wk a c (i + 1), b⟩ : R2)).getD i default = ⟨wk a c (i + 1), b⟩ := fun i hi => by simp [List.getD, hi]
      have gY : ∀ i, i < (d - b).natAbs → ((List.range (d - b).natAbs).map fun i => (⟨a, wk b d (i + 1)⟩ : R2)).getD i default = ⟨a, wk b d (i + 1)⟩ := fun i hi => by simp [List.getD, hi]
      generalize (List.range (c - a).natAbs).map (fun i => (⟨wk a c (i + 1), b⟩ : R2)) = LX at *
      generalize (List.range (d - b).natAbs).map (fun i => (⟨a, wk b d (i + 1)⟩ : R2)) = LY at *
      repeat' ((conv => whnf); first | done | refine ev_step ?_ | refine ops_step ?_ | refine scan_step ?_ | refine draw_step ?_ | refine each_step ?_ | refine sl_step ?_ | refine hp_step ?_ | refine guard_no (by decide) ?_ | refine guard_go ?_ | refine guard_old ?_ | apply cut_auto | with_reducible exact CutS.mk (Or.inl ⟨rfl, rfl, rfl⟩) | refine CutS.mk (Or.inr (sub_auto ?_)) | exact trivial | refine And.intro ?_ ?_ | (refine cond_split ?_ ?_ <;> intro _ <;> first | (exfalso; first | omega | (simp_all; done) | (simp_all; omega)) | skip) | apply guess | apply FnIs.useF (kX) | exact Or.inl rfl | exact Or.inr rfl | exact Side.mk trivial | exact Side.mk (fun h => h) | exact Side.mk (fun h => ⟨h, h⟩) | with_reducible exact Side.mk rfl | with_reducible exact Side.mk ⟨rfl, rfl⟩ | with_reducible exact Side.mk (by assumption) | with_reducible rfl | intro _)
      all_goals try (conv => whnf)
      all_goals try (refine Side.mk ?_; first | (intros; omega) | (intro h1_ h2_; rw [h1_, h2_]; rfl) | (show List.length (_ ++ _) ≤ _; simp only [List.length_append, List.length_cons, List.length_nil, List.length_replicate, List.length_take]; omega) | (simp_all; done) | (simp_all; omega))
      refine loop_at (fun i : Nat => i ≤ (c - a).natAbs) 7 (fun i => [(8, .top), (39, .top), (49, .int .i64 i)]) (fun i => [(5, .flat true (.gen 1 [[.sl 4 []]])), (4, .flat true (.rows 3 0 i)), (3, .nestR2 true (shapesX a b c d i))]) (fun i => (c - a).natAbs - i) 0 (Nat.zero_le _) ?_ (fun i hi => ?_)
      · repeat' ((conv => whnf); first | done | refine ev_step ?_ | refine ops_step ?_ | refine scan_step ?_ | refine draw_step ?_ | refine each_step ?_ | refine sl_step ?_ | refine hp_step ?_ | refine guard_no (by decide) ?_ | refine guard_go ?_ | refine guard_old ?_ | apply cut_auto | with_reducible exact CutS.mk (Or.inl ⟨rfl, rfl, rfl⟩) | refine CutS.mk (Or.inr (sub_auto ?_)) | exact trivial | refine And.intro ?_ ?_ | refine cond_split ?_ ?_ | apply guess | exact Or.inl rfl | exact Or.inr rfl | exact Side.mk trivial | exact Side.mk (fun h => h) | exact Side.mk (fun h => ⟨h, h⟩) | with_reducible exact Side.mk rfl | with_reducible exact Side.mk ⟨rfl, rfl⟩ | with_reducible exact Side.mk (by assumption) | with_reducible rfl | intro _)
        all_goals try (conv => whnf)
        all_goals first | rfl | (simp; done) | trace_state
      · by_cases hlt : i < (c - a).natAbs
        · have hw2 := wk_bd ha hc (show i + 1 ≤ (c - a).natAbs by omega)
          have hle : (shapesX a b c d i).length = i := by simp [shapesX]
          have hxs := shapesX_succ a b c d i
          have k3 := k_addShape [⟨a, b⟩, ⟨wk a c (i + 1), b⟩, ⟨wk a c (i + 1), d⟩, ⟨c, d⟩] (shapesX a b c d i) (shX a b c d i) (by
            have := add_hk (p := ⟨a, b⟩) (q := ⟨wk a c (i + 1), b⟩) (r := ⟨wk a c (i + 1), d⟩) (s := ⟨c, d⟩) (fun e => wk_start hlt (by injection e with e1 e2; exact e1.symm)) (fun e => hbd (by injection e)) (by simp only; omega) (by simp only; omega) (by simp only; omega) (by simp only; omega)
            exact this) ⟨by omega⟩
          have k4 : ∀ p : R2, p = ⟨wk a c (i + 1), b⟩ → FnIs Try.prog 108 [.sl 0 [], .ptr 1 [] 0 0] 4 [(0, .flat true (.r2 [⟨a, b⟩, ⟨p.a, p.b⟩, ⟨p.a, d⟩, ⟨c, d⟩])), (1, .flat true (.gen 1 [[.sl 3 []]])), (3, .flat true (.rows 2 0 (shapesX a b c d i).length)), (2, .nestR2 true (shapesX a b c d i))] (.tuple []) 6 [(1, .flat true (.gen 1 [[.sl 5 []]])), (5, .flat true (.rows 4 0 ((shapesX a b c d i).length + 1))), (4, .nestR2 true (shapesX a b c d i ++ [shX a b c d i]))] := fun p hp => by subst hp; exact k3
          have k5 := k4 _ (gX i hlt)
          rw [hle] at k5
          repeat' ((conv => whnf); first | done | refine ev_step ?_ | refine ops_step ?_ | refine scan_step ?_ | refine draw_step ?_ | refine each_step ?_ | refine sl_step ?_ | refine hp_step ?_ | refine guard_no (by decide) ?_ | refine guard_go ?_ | refine guard_old ?_ | apply cut_auto | with_reducible exact CutS.mk (Or.inl ⟨rfl, rfl, rfl⟩) | refine CutS.mk (Or.inr (sub_auto ?_)) | exact trivial | refine And.intro ?_ ?_ | (refine cond_split ?_ ?_ <;> intro _ <;> first | (exfalso; first | omega | (simp only [decide_eq_true_eq, decide_eq_false_iff_not, Bool.not_eq_true', Bool.not_eq_false', ne_eq, Bool.not_true, Bool.not_false, cond_true, cond_false, Bool.true_eq_false, Bool.false_eq_true, Bool.and_eq_true, Bool.and_eq_false_iff] at *; omega)) | skip) | apply guess | apply FnIs.useF (k5) | exact Or.inl rfl | exact Or.inr rfl | exact Side.mk trivial | exact Side.mk (fun h => h) | exact Side.mk (fun h => ⟨h, h⟩) | with_reducible exact Side.mk rfl | with_reducible exact Side.mk ⟨rfl, rfl⟩ | with_reducible exact Side.mk (by assumption) | with_reducible rfl | intro _)
          all_goals try (conv => whnf)
          all_goals try simp only [Int.toNat_natCast]
          all_goals try (refine Side.mk ?_; first | (intros; omega) | (intro h1_ h2_; rw [h1_, h2_]; rfl) | (show List.length (_ ++ _) ≤ _; simp only [List.length_append, List.length_cons, List.length_nil, List.length_replicate, List.length_take]; omega) | (simp_all; done) | (simp_all; omega))
          all_goals try omega
          refine ⟨i + 1, by omega, by omega, ?_⟩
          repeat' ((conv => whnf); first | done | refine ev_step ?_ | refine ops_step ?_ | refine scan_step ?_ | refine draw_step ?_ | refine each_step ?_ | refine sl_step ?_ | refine hp_step ?_ | refine guard_no (by decide) ?_ | refine guard_go ?_ | refine guard_old ?_ | apply cut_auto | with_reducible exact CutS.mk (Or.inl ⟨rfl, rfl, rfl⟩) | refine CutS.mk (Or.inr (sub_auto ?_)) | exact trivial | refine And.intro ?_ ?_ | refine cond_split ?_ ?_ | apply guess | exact Or.inl rfl | exact Or.inr rfl | exact Side.mk trivial | exact Side.mk (fun h => h) | exact Side.mk (fun h => ⟨h, h⟩) | with_reducible exact Side.mk rfl | with_reducible exact Side.mk ⟨rfl, rfl⟩ | with_reducible exact Side.mk (by assumption) | with_reducible rfl | intro _)
          all_goals try (conv => whnf)
          all_goals first | rfl | omega | (rw [hxs]; done) | trace_state
        · obtain rfl : i = (c - a).natAbs := by omega
          have hle : (shapesX a b c d (c - a).natAbs).length = (c - a).natAbs := by simp [shapesX]
          repeat' ((conv => whnf); first | done | refine ev_step ?_ | refine ops_step ?_ | refine scan_step ?_ | refine draw_step ?_ | refine each_step ?_ | refine sl_step ?_ | refine hp_step ?_ | refine guard_no (by decide) ?_ | refine guard_go ?_ | refine guard_old ?_ | apply cut_auto | with_reducible exact CutS.mk (Or.inl ⟨rfl, rfl, rfl⟩) | refine CutS.mk (Or.inr (sub_auto ?_)) | exact trivial | refine And.intro ?_ ?_ | (refine cond_split ?_ ?_ <;> intro _ <;> first | (exfalso; first | omega | (simp only [decide_eq_true_eq, decide_eq_false_iff_not, Bool.not_eq_true', Bool.not_eq_false', ne_eq, Bool.not_true, Bool.not_false, cond_true, cond_false, Bool.true_eq_false, Bool.false_eq_true, Bool.and_eq_true, Bool.and_eq_false_iff] at *; omega)) | skip) | apply guess | apply FnIs.useF (kY) | exact Or.inl rfl | exact Or.inr rfl | exact Side.mk trivial | exact Side.mk (fun h => h) | exact Side.mk (fun h => ⟨h, h⟩) | with_reducible exact Side.mk rfl | with_reducible exact Side.mk ⟨rfl, rfl⟩ | with_reducible exact Side.mk (by assumption) | with_reducible rfl | intro _)
          all_goals try (conv => whnf)
          all_goals try (refine Side.mk ?_; first | (intros; omega) | (intro h1_ h2_; rw [h1_, h2_]; rfl) | (show List.length (_ ++ _) ≤ _; simp only [List.length_append, List.length_cons, List.length_nil, List.length_replicate, List.length_take]; omega) | (simp_all; done) | (simp_all; omega))
          all_goals try omega
          refine loop_at (fun j : Nat => j ≤ (d - b).natAbs) 8 (fun j => [(10, .top), (73, .int .i64 j)]) (fun j => [(5, .flat true (.gen 1 [[.sl 4 []]])), (4, .flat true (.rows 3 0 ((c - a).natAbs + j))), (3, .nestR2 true (shapesX a b c d (c - a).natAbs ++ shapesY a b c d j))]) (fun j => (d - b).natAbs - j) 0 (Nat.zero_le _) ?_ (fun j hj => ?_)
          · repeat' ((conv => whnf); first | done | refine ev_step ?_ | refine ops_step ?_ | refine scan_step ?_ | refine draw_step ?_ | refine each_step ?_ | refine sl_step ?_ | refine hp_step ?_ | refine guard_no (by decide) ?_ | refine guard_go ?_ | refine guard_old ?_ | apply cut_auto | with_reducible exact CutS.mk (Or.inl ⟨rfl, rfl, rfl⟩) | refine CutS.mk (Or.inr (sub_auto ?_)) | exact trivial | refine And.intro ?_ ?_ | refine cond_split ?_ ?_ | apply guess | exact Or.inl rfl | exact Or.inr rfl | exact Side.mk trivial | exact Side.mk (fun h => h) | exact Side.mk (fun h => ⟨h, h⟩) | with_reducible exact Side.mk rfl | with_reducible exact Side.mk ⟨rfl, rfl⟩ | with_reducible exact Side.mk (by assumption) | with_reducible rfl | intro _)
            all_goals try (conv => whnf)
            all_goals first | rfl | (simp [shapesY]; done) | trace_state
          · by_cases hlt : j < (d - b).natAbs
            · have hw2 := wk_bd hb hd (show j + 1 ≤ (d - b).natAbs by omega)
              have hle2 : (shapesY a b c d j).length = j := by simp [shapesY]
              have hxs := shapesY_succ a b c d j
              have hll : (shapesX a b c d (c - a).natAbs ++ shapesY a b c d j).length = (c - a).natAbs + j := by rw [List.length_append, hle, hle2]
              have k3 := k_addShape [⟨a, b⟩, ⟨a, wk b d (j + 1)⟩, ⟨c, wk b d (j + 1)⟩, ⟨c, d⟩] (shapesX a b c d (c - a).natAbs ++ shapesY a b c d j) (shY a b c d j) (by
                have := add_hk (p := ⟨a, b⟩) (q := ⟨a, wk b d (j + 1)⟩) (r := ⟨c, wk b d (j + 1)⟩) (s := ⟨c, d⟩) (fun e => wk_start hlt (by injection e with e1 e2; exact e2.symm)) (fun e => hac (by injection e)) (by simp only; omega) (by simp only; omega) (by simp only; omega) (by simp only; omega)
                exact this) ⟨by omega⟩
              have k4 : ∀ p : R2, p = ⟨a, wk b d (j + 1)⟩ → FnIs Try.prog 108 [.sl 0 [], .ptr 1 [] 0 0] 4 [(0, .flat true (.r2 [⟨a, b⟩, ⟨p.a, p.b⟩, ⟨c, p.b⟩, ⟨c, d⟩])), (1, .flat true (.gen 1 [[.sl 3 []]])), (3, .flat true (.rows 2 0 (shapesX a b c d (c - a).natAbs ++ shapesY a b c d j).length)), (2, .nestR2 true (shapesX a b c d (c - a).natAbs ++ shapesY a b c d j))] (.tuple []) 6 [(1, .flat true (.gen 1 [[.sl 5 []]])), (5, .flat true (.rows 4 0 ((shapesX a b c d (c - a).natAbs ++ shapesY a b c d j).length + 1))), (4, .nestR2 true (shapesX a b c d (c - a).natAbs ++ shapesY a b c d j ++ [shY a b c d j]))] := fun p hp => by subst hp; exact k3
              have k5 := k4 _ (gY j hlt)
              rw [hll] at k5
              repeat' ((conv => whnf); first | done | refine ev_step ?_ | refine ops_step ?_ | refine scan_step ?_ | refine draw_step ?_ | refine each_step ?_ | refine sl_step ?_ | refine hp_step ?_ | refine guard_no (by decide) ?_ | refine guard_go ?_ | refine guard_old ?_ | apply cut_auto | with_reducible exact CutS.mk (Or.inl ⟨rfl, rfl, rfl⟩) | refine CutS.mk (Or.inr (sub_auto ?_)) | exact trivial | refine And.intro ?_ ?_ | (refine cond_split ?_ ?_ <;> intro _ <;> first | (exfalso; first | omega | (simp only [decide_eq_true_eq, decide_eq_false_iff_not, Bool.not_eq_true', Bool.not_eq_false', ne_eq, Bool.not_true, Bool.not_false, cond_true, cond_false, Bool.true_eq_false, Bool.false_eq_true, Bool.and_eq_true, Bool.and_eq_false_iff] at *; omega)) | skip) | apply guess | apply FnIs.useF (k5) | exact Or.inl rfl | exact Or.inr rfl | exact Side.mk trivial | exact Side.mk (fun h => h) | exact Side.mk (fun h => ⟨h, h⟩) | with_reducible exact Side.mk rfl | with_reducible exact Side.mk ⟨rfl, rfl⟩ | with_reducible exact Side.mk (by assumption) | with_reducible rfl | intro _)
              all_goals try (conv => whnf)
              all_goals try simp only [Int.toNat_natCast]
              all_goals try (refine Side.mk ?_; first | (intros; omega) | (intro h1_ h2_; rw [h1_, h2_]; rfl) | (show List.length (_ ++ _) ≤ _; simp only [List.length_append, List.length_cons, List.length_nil, List.length_replicate, List.length_take]; omega) | (simp_all; done) | (simp_all; omega))
              all_goals try omega
              refine ⟨j + 1, by omega, by omega, ?_⟩
              repeat' ((conv => whnf); first | done | refine ev_step ?_ | refine ops_step ?_ | refine scan_step ?_ | refine draw_step ?_ | refine each_step ?_ | refine sl_step ?_ | refine hp_step ?_ | refine guard_no (by decide) ?_ | refine guard_go ?_ | refine guard_old ?_ | apply cut_auto | with_reducible exact CutS.mk (Or.inl ⟨rfl, rfl, rfl⟩) | refine CutS.mk (Or.inr (sub_auto ?_)) | exact trivial | refine And.intro ?_ ?_ | refine cond_split ?_ ?_ | apply guess | exact Or.inl rfl | exact Or.inr rfl | exact Side.mk trivial | exact Side.mk (fun h => h) | exact Side.mk (fun h => ⟨h, h⟩) | with_reducible exact Side.mk rfl | with_reducible exact Side.mk ⟨rfl, rfl⟩ | with_reducible exact Side.mk (by assumption) | with_reducible rfl | intro _)
              all_goals try (conv => whnf)
              all_goals first | rfl | omega | (rw [hxs, List.append_assoc]; done) | trace_state
            · obtain rfl : j = (d - b).natAbs := by omega
              repeat' ((conv => whnf); first | done | refine ev_step ?_ | refine ops_step ?_ | refine scan_step ?_ | refine draw_step ?_ | refine each_step ?_ | refine sl_step ?_ | refine hp_step ?_ | refine guard_no (by decide) ?_ | refine guard_go ?_ | refine guard_old ?_ | apply cut_auto | with_reducible exact CutS.mk (Or.inl ⟨rfl, rfl, rfl⟩) | refine CutS.mk (Or.inr (sub_auto ?_)) | exact trivial | refine And.intro ?_ ?_ | (refine cond_split ?_ ?_ <;> intro _ <;> first | (exfalso; first | omega | (simp only [decide_eq_true_eq, decide_eq_false_iff_not, Bool.not_eq_true', Bool.not_eq_false', ne_eq, Bool.not_true, Bool.not_false, cond_true, cond_false, Bool.true_eq_false, Bool.false_eq_true, Bool.and_eq_true, Bool.and_eq_false_iff] at *; omega)) | skip) | apply guess | exact Or.inl rfl | exact Or.inr rfl | exact Side.mk trivial | exact Side.mk (fun h => h) | exact Side.mk (fun h => ⟨h, h⟩) | with_reducible exact Side.mk rfl | with_reducible exact Side.mk ⟨rfl, rfl⟩ | with_reducible exact Side.mk (by assumption) | with_reducible rfl | intro _)
              all_goals try (conv => whnf)
              all_goals try (refine Side.mk ?_; first | (intros; omega) | (intro h1_ h2_; rw [h1_, h2_]; rfl) | (show List.length (_ ++ _) ≤ _; simp only [List.length_append, List.length_cons, List.length_nil, List.length_replicate, List.length_take]; omega) | (simp_all; done) | (simp_all; omega))
              all_goals try omega
              all_goals first | rfl | (simp [shapesX, shapesY]; done) | trace_state
end Go.Sx.U
