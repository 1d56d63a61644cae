/-
  Chapter 10: drawn bundles and orders.
-/
import Derived.Test.YtjojnolcohjebaaKR1
import Derived.Test.YtjojnolcohjebaaM0
namespace Go.Sx.U
set_option linter.unusedVariables false
set_option linter.unusedSimpArgs false
set_option maxRecDepth 100000
set_option maxHeartbeats 8000000
open Go Go.Sx Go.Proofs Go.Sx.M0

theorem k_DrawOk (bs : List Int) (st : Int × Int) (h : Side (bytesOk bs ∧ stOk st ∧ st.1 ≤ 1000)) : FnEx Try.prog 74 [.ptr 0 [] 0 0, .int .i64 6] 2 [(0, srcO 1 st), (1, .flat false (.ints .u8 bs))] (fun a : List (List Int) × Int × Int => okW a.1 ∧ a.1.length ≤ 6 ∧ stGe st 200 a.2) (fun a => .agg [.sl 3 []]) 4 (fun a => [(0, srcO 1 a.2), (3, .flat true (.rows 2 0 a.1.length)), (2, .nestI true .i64 a.1)]) := by
  obtain ⟨h1, h2, h3⟩ := h.h
  refine ex_of_evk [] tok Try.func74 rfl rfl rfl ?_
  repeat' ((conv => whnf); first | done | refine ev_step ?_ | refine ops_step ?_ | refine scan_step ?_ | refine draw_step ?_ | refine each_step ?_ | refine sl_step ?_ | refine hp_step ?_ | refine guard_no (by decide) ?_ | refine guard_go ?_ | apply cut_auto | with_reducible exact CutS.mk (Or.inl ⟨rfl, rfl, rfl⟩) | refine CutS.mk (Or.inr (sub_auto ?_)) | exact trivial | refine And.intro ?_ ?_ | (refine cond_split ?_ ?_ <;> intro _ <;> first | (exfalso; first | omega | (simp only [decide_eq_true_eq, decide_eq_false_iff_not, Bool.not_eq_true', Bool.not_eq_false', ne_eq, Bool.not_true, Bool.not_false, cond_true, cond_false, Bool.true_eq_false, Bool.false_eq_true, Bool.and_eq_true, Bool.and_eq_false_iff] at *; omega)) | skip) | apply guess | apply FnEx.useF (k_pick bs _ _ _) | exact Or.inl rfl | exact Or.inr rfl | exact Side.mk trivial | exact Side.mk (fun h => h) | exact Side.mk (fun h => ⟨h, h⟩) | with_reducible exact Side.mk rfl | with_reducible exact Side.mk ⟨rfl, rfl⟩ | with_reducible exact Side.mk (by assumption) | with_reducible rfl | intro _)
  all_goals try (conv => whnf)
  all_goals try (refine Side.mk ⟨h1, ?_⟩; omega)
  all_goals try (refine Side.mk ?_; first | (intros; omega) | (show List.length (_ ++ _) ≤ _; simp only [List.length_append, List.length_cons, List.length_nil, List.length_replicate, List.length_take]; omega) | (simp_all; done) | (simp_all; omega))
  rename_i a ha
  obtain ⟨x, s1⟩ := a
  obtain ⟨g1, g2, g3⟩ := ha
  simp only at g1 g2 g3
  obtain ⟨m, rfl⟩ : ∃ m : Nat, x = (m : Int) - 1 := ⟨(x + 1).toNat, by omega⟩
  have em : (1 : Int) + ((m : Int) - 1) = m := by omega
  have em2 : (1 + ((m : Int) - 1)).toNat = m := by omega
  refine loop_at (fun i : Nat => i ≤ m) 6 (fun i => [(7, .int .i64 i), (16, .top), (17, .top)]) (fun i => [(5, .flat true (.gen 1 [[.sl 4 []]])), (4, .flat true (.rows 3 0 i)), (3, .nestI true .i64 (List.replicate i (List.replicate m 0)))]) (fun i => m - i) 0 (Nat.zero_le _) ?_ (fun i hi => ?_)
  · repeat' ((conv => whnf); first | done | refine ev_step ?_ | refine ops_step ?_ | refine scan_step ?_ | refine draw_step ?_ | refine each_step ?_ | refine sl_step ?_ | refine hp_step ?_ | refine guard_no (by decide) ?_ | refine guard_go ?_ | apply cut_auto | with_reducible exact CutS.mk (Or.inl ⟨rfl, rfl, rfl⟩) | refine CutS.mk (Or.inr (sub_auto ?_)) | exact trivial | refine And.intro ?_ ?_ | refine cond_split ?_ ?_ | apply guess | exact Or.inl rfl | exact Or.inr rfl | exact Side.mk trivial | exact Side.mk (fun h => h) | exact Side.mk (fun h => ⟨h, h⟩) | with_reducible exact Side.mk rfl | with_reducible exact Side.mk ⟨rfl, rfl⟩ | with_reducible exact Side.mk (by assumption) | with_reducible rfl | intro _)
    all_goals try (conv => whnf)
    all_goals first | rfl | simp | trace_state
  · by_cases hlt : i < m
    · repeat' ((conv => whnf); first | done | refine ev_step ?_ | refine ops_step ?_ | refine scan_step ?_ | refine draw_step ?_ | refine each_step ?_ | refine sl_step ?_ | refine hp_step ?_ | refine guard_no (by decide) ?_ | refine guard_go ?_ | apply cut_auto | with_reducible exact CutS.mk (Or.inl ⟨rfl, rfl, rfl⟩) | refine CutS.mk (Or.inr (sub_auto ?_)) | exact trivial | refine And.intro ?_ ?_ | (refine cond_split ?_ ?_ <;> intro _ <;> first | (exfalso; first | omega | (simp only [decide_eq_true_eq, decide_eq_false_iff_not, Bool.not_eq_true', Bool.not_eq_false', ne_eq, Bool.not_true, Bool.not_false, cond_true, cond_false, Bool.true_eq_false, Bool.false_eq_true, Bool.and_eq_true, Bool.and_eq_false_iff] at *; omega)) | skip) | apply guess | exact Or.inl rfl | exact Or.inr rfl | exact Side.mk trivial | exact Side.mk (fun h => h) | exact Side.mk (fun h => ⟨h, h⟩) | with_reducible exact Side.mk rfl | with_reducible exact Side.mk ⟨rfl, rfl⟩ | with_reducible exact Side.mk (by assumption) | with_reducible rfl | intro _)
      all_goals try (conv => whnf)
      all_goals try simp only [em, em2] at *
      all_goals try (refine Side.mk ?_; first | (intros; omega) | (show List.length (_ ++ _) ≤ _; simp only [List.length_append, List.length_cons, List.length_nil, List.length_replicate, List.length_take]; omega) | (simp_all; done) | (simp_all; omega))
      all_goals try omega
      refine ⟨i + 1, by omega, by omega, ?_⟩
      repeat' ((conv => whnf); first | done | refine ev_step ?_ | refine ops_step ?_ | refine scan_step ?_ | refine draw_step ?_ | refine each_step ?_ | refine sl_step ?_ | refine hp_step ?_ | refine guard_no (by decide) ?_ | refine guard_go ?_ | apply cut_auto | with_reducible exact CutS.mk (Or.inl ⟨rfl, rfl, rfl⟩) | refine CutS.mk (Or.inr (sub_auto ?_)) | exact trivial | refine And.intro ?_ ?_ | refine cond_split ?_ ?_ | apply guess | exact Or.inl rfl | exact Or.inr rfl | exact Side.mk trivial | exact Side.mk (fun h => h) | exact Side.mk (fun h => ⟨h, h⟩) | with_reducible exact Side.mk rfl | with_reducible exact Side.mk ⟨rfl, rfl⟩ | with_reducible exact Side.mk (by assumption) | with_reducible rfl | intro _)
      all_goals try (conv => whnf)
      all_goals first | rfl | omega | (simp [List.replicate_succ']; done) | trace_state
    · obtain rfl : i = m := by omega
      repeat' ((conv => whnf); first | done | refine ev_step ?_ | refine ops_step ?_ | refine scan_step ?_ | refine draw_step ?_ | refine each_step ?_ | refine sl_step ?_ | refine hp_step ?_ | refine guard_no (by decide) ?_ | refine guard_go ?_ | apply cut_auto | with_reducible exact CutS.mk (Or.inl ⟨rfl, rfl, rfl⟩) | refine CutS.mk (Or.inr (sub_auto ?_)) | exact trivial | refine And.intro ?_ ?_ | (refine cond_split ?_ ?_ <;> intro _ <;> first | (exfalso; first | omega | (simp only [decide_eq_true_eq, decide_eq_false_iff_not, Bool.not_eq_true', Bool.not_eq_false', ne_eq, Bool.not_true, Bool.not_false, cond_true, cond_false, Bool.true_eq_false, Bool.false_eq_true, Bool.and_eq_true, Bool.and_eq_false_iff] at *; omega)) | skip) | apply guess | apply FnEx.useF (k_among bs _ [3, 10, 1000] _) | exact Or.inl rfl | exact Or.inr rfl | exact Side.mk trivial | exact Side.mk (fun h => h) | exact Side.mk (fun h => ⟨h, h⟩) | with_reducible exact Side.mk rfl | with_reducible exact Side.mk ⟨rfl, rfl⟩ | with_reducible exact Side.mk (by assumption) | with_reducible rfl | intro _)
      all_goals try (conv => whnf)
      all_goals try (refine Side.mk ⟨h1, ?_⟩; simp only [List.length_cons, List.length_nil]; omega)
      all_goals try (refine Side.mk ?_; first | (intros; omega) | (show List.length (_ ++ _) ≤ _; simp only [List.length_append, List.length_cons, List.length_nil, List.length_replicate, List.length_take]; omega) | (simp_all; done) | (simp_all; omega))
      rename_i c hc
      obtain ⟨top, s2⟩ := c
      obtain ⟨c1, c2⟩ := hc
      have ht : 3 ≤ top ∧ top ≤ 1000 := by
        simp only [List.mem_cons, List.not_mem_nil, or_false] at c1
        omega
      simp only at c2 g3
      have hz := zeroW_ok (m := i) (by omega) (by omega)
      refine loop_at (fun b : Nat × List (List Int) × Int × Int => b.1 ≤ i ∧ okW b.2.1 ∧ b.2.1.length = i ∧ stGe st (4 + 12 * (b.1 : Int)) b.2.2) 7 (fun b => [(9, .int .i64 b.1), (10, .top), (11, .top)]) (fun b => [(0, srcO 1 b.2.2), (3, .nestI true .i64 b.2.1)]) (fun b => i - b.1) (0, zeroW i, s2) ⟨Nat.zero_le _, hz, by simp [zeroW], by simp only; omega, by simp only; omega, c2.2.2⟩ ?_ (fun b hb => ?_)
      · repeat' ((conv => whnf); first | done | refine ev_step ?_ | refine ops_step ?_ | refine scan_step ?_ | refine draw_step ?_ | refine each_step ?_ | refine sl_step ?_ | refine hp_step ?_ | refine guard_no (by decide) ?_ | refine guard_go ?_ | apply cut_auto | with_reducible exact CutS.mk (Or.inl ⟨rfl, rfl, rfl⟩) | refine CutS.mk (Or.inr (sub_auto ?_)) | exact trivial | refine And.intro ?_ ?_ | refine cond_split ?_ ?_ | apply guess | exact Or.inl rfl | exact Or.inr rfl | exact Side.mk trivial | exact Side.mk (fun h => h) | exact Side.mk (fun h => ⟨h, h⟩) | with_reducible exact Side.mk rfl | with_reducible exact Side.mk ⟨rfl, rfl⟩ | with_reducible exact Side.mk (by assumption) | with_reducible rfl | intro _)
        all_goals try (conv => whnf)
        all_goals first | rfl | trace_state
      · obtain ⟨y, W, s3⟩ := b
        obtain ⟨b1, b2, b3, b4⟩ := hb
        simp only at b1 b2 b3 b4 ⊢
        by_cases hyt : y < i
        · repeat' ((conv => whnf); first | done | refine ev_step ?_ | refine ops_step ?_ | refine scan_step ?_ | refine draw_step ?_ | refine each_step ?_ | refine sl_step ?_ | refine hp_step ?_ | refine guard_no (by decide) ?_ | refine guard_go ?_ | apply cut_auto | with_reducible exact CutS.mk (Or.inl ⟨rfl, rfl, rfl⟩) | refine CutS.mk (Or.inr (sub_auto ?_)) | exact trivial | refine And.intro ?_ ?_ | (refine cond_split ?_ ?_ <;> intro _ <;> first | (exfalso; first | omega | (simp only [decide_eq_true_eq, decide_eq_false_iff_not, Bool.not_eq_true', Bool.not_eq_false', ne_eq, Bool.not_true, Bool.not_false, cond_true, cond_false, Bool.true_eq_false, Bool.false_eq_true, Bool.and_eq_true, Bool.and_eq_false_iff] at *; omega)) | skip) | apply guess | exact Or.inl rfl | exact Or.inr rfl | exact Side.mk trivial | exact Side.mk (fun h => h) | exact Side.mk (fun h => ⟨h, h⟩) | with_reducible exact Side.mk rfl | with_reducible exact Side.mk ⟨rfl, rfl⟩ | with_reducible exact Side.mk (by assumption) | with_reducible rfl | intro _)
          all_goals try (conv => whnf)
          all_goals try simp only [em] at *
          all_goals try omega
          refine loop_at (fun b : Nat × List (List Int) × Int × Int => b.1 ≤ y ∧ okW b.2.1 ∧ b.2.1.length = i ∧ stGe st (4 + 12 * (y : Int) + 2 * (b.1 : Int)) b.2.2) 7 (fun b => [(10, .int .i64 b.1), (11, .top)]) (fun b => [(0, srcO 1 b.2.2), (3, .nestI true .i64 b.2.1)]) (fun b => y - b.1) (0, W, s3) ⟨Nat.zero_le _, b2, b3, by simp only; omega, by simp only; omega, b4.2.2⟩ ?_ (fun b hb => ?_)
          · repeat' ((conv => whnf); first | done | refine ev_step ?_ | refine ops_step ?_ | refine scan_step ?_ | refine draw_step ?_ | refine each_step ?_ | refine sl_step ?_ | refine hp_step ?_ | refine guard_no (by decide) ?_ | refine guard_go ?_ | apply cut_auto | with_reducible exact CutS.mk (Or.inl ⟨rfl, rfl, rfl⟩) | refine CutS.mk (Or.inr (sub_auto ?_)) | exact trivial | refine And.intro ?_ ?_ | refine cond_split ?_ ?_ | apply guess | exact Or.inl rfl | exact Or.inr rfl | exact Side.mk trivial | exact Side.mk (fun h => h) | exact Side.mk (fun h => ⟨h, h⟩) | with_reducible exact Side.mk rfl | with_reducible exact Side.mk ⟨rfl, rfl⟩ | with_reducible exact Side.mk (by assumption) | with_reducible rfl | intro _)
            all_goals try (conv => whnf)
            all_goals first | rfl | trace_state
          · obtain ⟨k, V, s4⟩ := b
            obtain ⟨d1, d2, d3, d4⟩ := hb
            simp only at d1 d2 d3 d4 ⊢
            by_cases hkt : k < y
            · have l1 := d2.2.1 y (by omega)
              have l2 := d2.2.1 k (by omega)
              have hr : ∀ z, ((V.set y ((V.getD y []).set k z)).getD k []).length = V.length := fun z => by
                have := putR_row (W := V) (k := k) (w := z) (show y < V.length by omega) k
                rw [putR, if_neg (by omega)] at this
                rw [this, l2]
              repeat' ((conv => whnf); first | done | refine ev_step ?_ | refine ops_step ?_ | refine scan_step ?_ | refine draw_step ?_ | refine each_step ?_ | refine sl_step ?_ | refine hp_step ?_ | refine guard_no (by decide) ?_ | refine guard_go ?_ | apply cut_auto | with_reducible exact CutS.mk (Or.inl ⟨rfl, rfl, rfl⟩) | refine CutS.mk (Or.inr (sub_auto ?_)) | exact trivial | refine And.intro ?_ ?_ | (refine cond_split ?_ ?_ <;> intro _ <;> first | (exfalso; first | omega | (simp only [decide_eq_true_eq, decide_eq_false_iff_not, Bool.not_eq_true', Bool.not_eq_false', ne_eq, Bool.not_true, Bool.not_false, cond_true, cond_false, Bool.true_eq_false, Bool.false_eq_true, Bool.and_eq_true, Bool.and_eq_false_iff] at *; omega)) | skip) | apply guess | apply FnEx.useF (k_pick bs _ _ _) | exact Or.inl rfl | exact Or.inr rfl | exact Side.mk trivial | exact Side.mk (fun h => h) | exact Side.mk (fun h => ⟨h, h⟩) | with_reducible exact Side.mk rfl | with_reducible exact Side.mk ⟨rfl, rfl⟩ | with_reducible exact Side.mk (by assumption) | with_reducible rfl | intro _)
              all_goals try (conv => whnf)
              all_goals try (refine Side.mk ⟨h1, ?_⟩; omega)
              all_goals try simp only [Int.toNat_natCast, List.length_set, hr] at *
              all_goals try (refine Side.mk ?_; first | (intros; omega) | (show List.length (_ ++ _) ≤ _; simp only [List.length_append, List.length_cons, List.length_nil, List.length_replicate, List.length_take]; omega) | (simp_all; done) | (simp_all; omega))
              all_goals try omega
              rename_i a ha
              refine ⟨(k + 1, put2 V y k a.1, a.2), ⟨by simp only; omega, put2_ok d2 (by omega) (by omega) (by omega) ha.1 (by omega), by rw [put2_len]; exact d3, by simp only; omega, by simp only; omega, ha.2.2.2.2⟩, by simp only; omega, ?_⟩
              repeat' ((conv => whnf); first | done | refine ev_step ?_ | refine ops_step ?_ | refine scan_step ?_ | refine draw_step ?_ | refine each_step ?_ | refine sl_step ?_ | refine hp_step ?_ | refine guard_no (by decide) ?_ | refine guard_go ?_ | apply cut_auto | with_reducible exact CutS.mk (Or.inl ⟨rfl, rfl, rfl⟩) | refine CutS.mk (Or.inr (sub_auto ?_)) | exact trivial | refine And.intro ?_ ?_ | refine cond_split ?_ ?_ | apply guess | exact Or.inl rfl | exact Or.inr rfl | exact Side.mk trivial | exact Side.mk (fun h => h) | exact Side.mk (fun h => ⟨h, h⟩) | with_reducible exact Side.mk rfl | with_reducible exact Side.mk ⟨rfl, rfl⟩ | with_reducible exact Side.mk (by assumption) | with_reducible rfl | intro _)
              all_goals try (conv => whnf)
              all_goals first | rfl | omega | trace_state
            · obtain rfl : k = y := by omega
              repeat' ((conv => whnf); first | done | refine ev_step ?_ | refine ops_step ?_ | refine scan_step ?_ | refine draw_step ?_ | refine each_step ?_ | refine sl_step ?_ | refine hp_step ?_ | refine guard_no (by decide) ?_ | refine guard_go ?_ | apply cut_auto | with_reducible exact CutS.mk (Or.inl ⟨rfl, rfl, rfl⟩) | refine CutS.mk (Or.inr (sub_auto ?_)) | exact trivial | refine And.intro ?_ ?_ | (refine cond_split ?_ ?_ <;> intro _ <;> first | (exfalso; first | omega | (simp only [decide_eq_true_eq, decide_eq_false_iff_not, Bool.not_eq_true', Bool.not_eq_false', ne_eq, Bool.not_true, Bool.not_false, cond_true, cond_false, Bool.true_eq_false, Bool.false_eq_true, Bool.and_eq_true, Bool.and_eq_false_iff] at *; omega)) | skip) | apply guess | exact Or.inl rfl | exact Or.inr rfl | exact Side.mk trivial | exact Side.mk (fun h => h) | exact Side.mk (fun h => ⟨h, h⟩) | with_reducible exact Side.mk rfl | with_reducible exact Side.mk ⟨rfl, rfl⟩ | with_reducible exact Side.mk (by assumption) | with_reducible rfl | intro _)
              all_goals try (conv => whnf)
              all_goals try (refine Side.mk ?_; first | (intros; omega) | (show List.length (_ ++ _) ≤ _; simp only [List.length_append, List.length_cons, List.length_nil, List.length_replicate, List.length_take]; omega) | (simp_all; done) | (simp_all; omega))
              all_goals try omega
              refine ⟨(k + 1, V, s4), ⟨by simp only; omega, d2, d3, by simp only; omega, by simp only; omega, d4.2.2⟩, by simp only; omega, ?_⟩
              repeat' ((conv => whnf); first | done | refine ev_step ?_ | refine ops_step ?_ | refine scan_step ?_ | refine draw_step ?_ | refine each_step ?_ | refine sl_step ?_ | refine hp_step ?_ | refine guard_no (by decide) ?_ | refine guard_go ?_ | apply cut_auto | with_reducible exact CutS.mk (Or.inl ⟨rfl, rfl, rfl⟩) | refine CutS.mk (Or.inr (sub_auto ?_)) | exact trivial | refine And.intro ?_ ?_ | refine cond_split ?_ ?_ | apply guess | exact Or.inl rfl | exact Or.inr rfl | exact Side.mk trivial | exact Side.mk (fun h => h) | exact Side.mk (fun h => ⟨h, h⟩) | with_reducible exact Side.mk rfl | with_reducible exact Side.mk ⟨rfl, rfl⟩ | with_reducible exact Side.mk (by assumption) | with_reducible rfl | intro _)
              all_goals try (conv => whnf)
              all_goals first | rfl | omega | trace_state
        · obtain rfl : y = i := by omega
          repeat' ((conv => whnf); first | done | refine ev_step ?_ | refine ops_step ?_ | refine scan_step ?_ | refine draw_step ?_ | refine each_step ?_ | refine sl_step ?_ | refine hp_step ?_ | refine guard_no (by decide) ?_ | refine guard_go ?_ | apply cut_auto | with_reducible exact CutS.mk (Or.inl ⟨rfl, rfl, rfl⟩) | refine CutS.mk (Or.inr (sub_auto ?_)) | exact trivial | refine And.intro ?_ ?_ | (refine cond_split ?_ ?_ <;> intro _ <;> first | (exfalso; first | omega | (simp only [decide_eq_true_eq, decide_eq_false_iff_not, Bool.not_eq_true', Bool.not_eq_false', ne_eq, Bool.not_true, Bool.not_false, cond_true, cond_false, Bool.true_eq_false, Bool.false_eq_true, Bool.and_eq_true, Bool.and_eq_false_iff] at *; omega)) | skip) | apply guess | exact Or.inl rfl | exact Or.inr rfl | exact Side.mk trivial | exact Side.mk (fun h => h) | exact Side.mk (fun h => ⟨h, h⟩) | with_reducible exact Side.mk rfl | with_reducible exact Side.mk ⟨rfl, rfl⟩ | with_reducible exact Side.mk (by assumption) | with_reducible rfl | intro _)
          all_goals try (conv => whnf)
          all_goals try simp only [em] at *
          all_goals try omega
          refine ⟨(W, s3), ⟨b2, by simp only; omega, by simp only; omega, by simp only; omega, b4.2.2⟩, ?_⟩
          repeat' ((conv => whnf); first | done | refine ev_step ?_ | refine ops_step ?_ | refine scan_step ?_ | refine draw_step ?_ | refine each_step ?_ | refine sl_step ?_ | refine hp_step ?_ | refine guard_no (by decide) ?_ | refine guard_go ?_ | apply cut_auto | with_reducible exact CutS.mk (Or.inl ⟨rfl, rfl, rfl⟩) | refine CutS.mk (Or.inr (sub_auto ?_)) | exact trivial | refine And.intro ?_ ?_ | refine cond_split ?_ ?_ | apply guess | exact Or.inl rfl | exact Or.inr rfl | exact Side.mk trivial | exact Side.mk (fun h => h) | exact Side.mk (fun h => ⟨h, h⟩) | with_reducible exact Side.mk rfl | with_reducible exact Side.mk ⟨rfl, rfl⟩ | with_reducible exact Side.mk (by assumption) | with_reducible rfl | intro _)
          all_goals try (conv => whnf)
          all_goals first | rfl | (rw [b3]; done) | trace_state
theorem k_R8Bundle (bs : List Int) (h : Side (bytesOk bs)) : FnEx Try.prog 34 [.sl 0 []] 1 [(0, .flat false (.ints .u8 bs))] (fun a : List (List Int) => okB a = true ∧ 1 ≤ a.length ∧ a.length ≤ 6) (fun a => .agg [.sl 2 []]) 3 (fun a => [(2, .flat true (.rows 1 0 a.length)), (1, .nestI true .i64 a)]) := by
  have h1 := h.h
  refine ex_of_evk [] tok Try.func34 rfl rfl rfl ?_
  repeat' ((conv => whnf); first | done | refine ev_step ?_ | refine ops_step ?_ | refine scan_step ?_ | refine draw_step ?_ | refine each_step ?_ | refine sl_step ?_ | refine hp_step ?_ | refine guard_no (by decide) ?_ | refine guard_go ?_ | apply cut_auto | with_reducible exact CutS.mk (Or.inl ⟨rfl, rfl, rfl⟩) | refine CutS.mk (Or.inr (sub_auto ?_)) | exact trivial | refine And.intro ?_ ?_ | (refine cond_split ?_ ?_ <;> intro _ <;> first | (exfalso; first | omega | (simp only [decide_eq_true_eq, decide_eq_false_iff_not, Bool.not_eq_true', Bool.not_eq_false', ne_eq, Bool.not_true, Bool.not_false, cond_true, cond_false, Bool.true_eq_false, Bool.false_eq_true, Bool.and_eq_true, Bool.and_eq_false_iff] at *; omega)) | skip) | apply guess | apply FnIs.useF (k_l00From bs) | apply FnEx.useF (k_DrawOk bs _ _) | exact Or.inl rfl | exact Or.inr rfl | exact Side.mk trivial | exact Side.mk (fun h => h) | exact Side.mk (fun h => ⟨h, h⟩) | with_reducible exact Side.mk rfl | with_reducible exact Side.mk ⟨rfl, rfl⟩ | with_reducible exact Side.mk (by assumption) | with_reducible rfl | intro _)
  all_goals try (conv => whnf)
  all_goals try (refine Side.mk ⟨h1, ?_⟩; omega)
  all_goals try exact Side.mk ⟨h1, ⟨by omega, by omega, by omega, by omega⟩, by omega⟩
  rename_i a ha
  refine ⟨a.1, ⟨okB_iff.2 ha.1, ha.1.1.1, ha.2.1⟩, ?_⟩
  repeat' ((conv => whnf); first | done | refine ev_step ?_ | refine ops_step ?_ | refine scan_step ?_ | refine draw_step ?_ | refine each_step ?_ | refine sl_step ?_ | refine hp_step ?_ | refine guard_no (by decide) ?_ | refine guard_go ?_ | apply cut_auto | with_reducible exact CutS.mk (Or.inl ⟨rfl, rfl, rfl⟩) | refine CutS.mk (Or.inr (sub_auto ?_)) | exact trivial | refine And.intro ?_ ?_ | refine cond_split ?_ ?_ | apply guess | exact Or.inl rfl | exact Or.inr rfl | exact Side.mk trivial | exact Side.mk (fun h => h) | exact Side.mk (fun h => ⟨h, h⟩) | with_reducible exact Side.mk rfl | with_reducible exact Side.mk ⟨rfl, rfl⟩ | with_reducible exact Side.mk (by assumption) | with_reducible rfl | intro _)
  all_goals try (conv => whnf)
  all_goals first | rfl | trace_state
theorem k_R8Order (bs : List Int) (n : Nat) (h : Side (bytesOk bs ∧ 1 ≤ n ∧ n ≤ 9)) : FnEx Try.prog 36 [.sl 0 [], .int .i64 n] 1 [(0, .flat false (.ints .u8 bs))] (fun a : List Int => isOB n a = true) (fun a => .sl 1 []) 2 (fun a => [(1, .flat true (.ints .i64 a))]) := by
  obtain ⟨h1, h2, h3⟩ := h.h
  refine ex_of_evk [] tok Try.func36 rfl rfl rfl ?_
  repeat' ((conv => whnf); first | done | refine ev_step ?_ | refine ops_step ?_ | refine scan_step ?_ | refine draw_step ?_ | refine each_step ?_ | refine sl_step ?_ | refine hp_step ?_ | refine guard_no (by decide) ?_ | refine guard_go ?_ | apply cut_auto | with_reducible exact CutS.mk (Or.inl ⟨rfl, rfl, rfl⟩) | refine CutS.mk (Or.inr (sub_auto ?_)) | exact trivial | refine And.intro ?_ ?_ | (refine cond_split ?_ ?_ <;> intro _ <;> first | (exfalso; first | omega | (simp only [decide_eq_true_eq, decide_eq_false_iff_not, Bool.not_eq_true', Bool.not_eq_false', ne_eq, Bool.not_true, Bool.not_false, cond_true, cond_false, Bool.true_eq_false, Bool.false_eq_true, Bool.and_eq_true, Bool.and_eq_false_iff] at *; omega)) | skip) | apply guess | apply FnIs.useF (k_l00From bs) | exact Or.inl rfl | exact Or.inr rfl | exact Side.mk trivial | exact Side.mk (fun h => h) | exact Side.mk (fun h => ⟨h, h⟩) | with_reducible exact Side.mk rfl | with_reducible exact Side.mk ⟨rfl, rfl⟩ | with_reducible exact Side.mk (by assumption) | with_reducible rfl | intro _)
  all_goals try (conv => whnf)
  refine loop_at (fun i : Nat => i ≤ n) 3 (fun i => [(7, .int .i64 i), (6, .sl 2 []), (13, .top)]) (fun i => [(2, .flat true (.ints .i64 (idO i)))]) (fun i => n - i) 0 (Nat.zero_le _) ?_ (fun i hi => ?_)
  · repeat' ((conv => whnf); first | done | refine ev_step ?_ | refine ops_step ?_ | refine scan_step ?_ | refine draw_step ?_ | refine each_step ?_ | refine sl_step ?_ | refine hp_step ?_ | refine guard_no (by decide) ?_ | refine guard_go ?_ | apply cut_auto | with_reducible exact CutS.mk (Or.inl ⟨rfl, rfl, rfl⟩) | refine CutS.mk (Or.inr (sub_auto ?_)) | exact trivial | refine And.intro ?_ ?_ | refine cond_split ?_ ?_ | apply guess | exact Or.inl rfl | exact Or.inr rfl | exact Side.mk trivial | exact Side.mk (fun h => h) | exact Side.mk (fun h => ⟨h, h⟩) | with_reducible exact Side.mk rfl | with_reducible exact Side.mk ⟨rfl, rfl⟩ | with_reducible exact Side.mk (by assumption) | with_reducible rfl | intro _)
    all_goals try (conv => whnf)
    all_goals first | rfl | simp [idO]
  · have hil := idO_len i
    by_cases hlt : i < n
    · repeat' ((conv => whnf); first | done | refine ev_step ?_ | refine ops_step ?_ | refine scan_step ?_ | refine draw_step ?_ | refine each_step ?_ | refine sl_step ?_ | refine hp_step ?_ | refine guard_no (by decide) ?_ | refine guard_go ?_ | apply cut_auto | with_reducible exact CutS.mk (Or.inl ⟨rfl, rfl, rfl⟩) | refine CutS.mk (Or.inr (sub_auto ?_)) | exact trivial | refine And.intro ?_ ?_ | (refine cond_split ?_ ?_ <;> intro _ <;> first | (exfalso; first | omega | (simp only [decide_eq_true_eq, decide_eq_false_iff_not, Bool.not_eq_true', Bool.not_eq_false', ne_eq, Bool.not_true, Bool.not_false, cond_true, cond_false, Bool.true_eq_false, Bool.false_eq_true, Bool.and_eq_true, Bool.and_eq_false_iff] at *; omega)) | skip) | apply guess | exact Or.inl rfl | exact Or.inr rfl | exact Side.mk trivial | exact Side.mk (fun h => h) | exact Side.mk (fun h => ⟨h, h⟩) | with_reducible exact Side.mk rfl | with_reducible exact Side.mk ⟨rfl, rfl⟩ | with_reducible exact Side.mk (by assumption) | with_reducible rfl | intro _)
      all_goals try (conv => whnf)
      all_goals try (refine Side.mk ?_; show (_ : List Int).length ≤ _; simp only [List.length_append, List.length_cons, List.length_nil]; omega)
      all_goals try (refine Side.mk ?_; first | (intros; omega) | (show List.length (_ ++ _) ≤ _; simp only [List.length_append, List.length_cons, List.length_nil, List.length_replicate, List.length_take]; omega) | (simp_all; done) | (simp_all; omega))
      all_goals try omega
      refine ⟨i + 1, by omega, by omega, ?_⟩
      repeat' ((conv => whnf); first | done | refine ev_step ?_ | refine ops_step ?_ | refine scan_step ?_ | refine draw_step ?_ | refine each_step ?_ | refine sl_step ?_ | refine hp_step ?_ | refine guard_no (by decide) ?_ | refine guard_go ?_ | apply cut_auto | with_reducible exact CutS.mk (Or.inl ⟨rfl, rfl, rfl⟩) | refine CutS.mk (Or.inr (sub_auto ?_)) | exact trivial | refine And.intro ?_ ?_ | refine cond_split ?_ ?_ | apply guess | exact Or.inl rfl | exact Or.inr rfl | exact Side.mk trivial | exact Side.mk (fun h => h) | exact Side.mk (fun h => ⟨h, h⟩) | with_reducible exact Side.mk rfl | with_reducible exact Side.mk ⟨rfl, rfl⟩ | with_reducible exact Side.mk (by assumption) | with_reducible rfl | intro _)
      all_goals try (conv => whnf)
      all_goals first | rfl | omega | exact idO_succ i | trace_state
    · obtain rfl : i = n := by omega
      repeat' ((conv => whnf); first | done | refine ev_step ?_ | refine ops_step ?_ | refine scan_step ?_ | refine draw_step ?_ | refine each_step ?_ | refine sl_step ?_ | refine hp_step ?_ | refine guard_no (by decide) ?_ | refine guard_go ?_ | apply cut_auto | with_reducible exact CutS.mk (Or.inl ⟨rfl, rfl, rfl⟩) | refine CutS.mk (Or.inr (sub_auto ?_)) | exact trivial | refine And.intro ?_ ?_ | (refine cond_split ?_ ?_ <;> intro _ <;> first | (exfalso; first | omega | (simp only [decide_eq_true_eq, decide_eq_false_iff_not, Bool.not_eq_true', Bool.not_eq_false', ne_eq, Bool.not_true, Bool.not_false, cond_true, cond_false, Bool.true_eq_false, Bool.false_eq_true, Bool.and_eq_true, Bool.and_eq_false_iff] at *; omega)) | skip) | apply guess | exact Or.inl rfl | exact Or.inr rfl | exact Side.mk trivial | exact Side.mk (fun h => h) | exact Side.mk (fun h => ⟨h, h⟩) | with_reducible exact Side.mk rfl | with_reducible exact Side.mk ⟨rfl, rfl⟩ | with_reducible exact Side.mk (by assumption) | with_reducible rfl | intro _)
      all_goals try (conv => whnf)
      all_goals try (refine Side.mk ?_; first | (intros; omega) | (show List.length (_ ++ _) ≤ _; simp only [List.length_append, List.length_cons, List.length_nil, List.length_replicate, List.length_take]; omega) | (simp_all; done) | (simp_all; omega))
      all_goals try omega
      refine loop_at (fun b : Nat × List Int × Int × Int => b.1 + 1 ≤ i ∧ isO i b.2.1 ∧ stGe (0, 0) (2 * (i : Int) - 2 * (b.1 : Int)) b.2.2) 3 (fun b => [(8, .int .i64 b.1), (9, .top), (10, .top)]) (fun b => [(1, srcO 0 b.2.2), (2, .flat true (.ints .i64 b.2.1))]) (fun b => b.1) (i - 1, idO i, 0, 0) ⟨by simp only; omega, idO_isO i, by simp only; omega, by simp only; omega, by simp only; omega, by simp only; omega⟩ ?_ (fun b hb => ?_)
      · repeat' ((conv => whnf); first | done | refine ev_step ?_ | refine ops_step ?_ | refine scan_step ?_ | refine draw_step ?_ | refine each_step ?_ | refine sl_step ?_ | refine hp_step ?_ | refine guard_no (by decide) ?_ | refine guard_go ?_ | apply cut_auto | with_reducible exact CutS.mk (Or.inl ⟨rfl, rfl, rfl⟩) | refine CutS.mk (Or.inr (sub_auto ?_)) | exact trivial | refine And.intro ?_ ?_ | refine cond_split ?_ ?_ | apply guess | exact Or.inl rfl | exact Or.inr rfl | exact Side.mk trivial | exact Side.mk (fun h => h) | exact Side.mk (fun h => ⟨h, h⟩) | with_reducible exact Side.mk rfl | with_reducible exact Side.mk ⟨rfl, rfl⟩ | with_reducible exact Side.mk (by assumption) | with_reducible rfl | intro _)
        all_goals try (conv => whnf)
        all_goals first | rfl | (simp only; omega) | trace_state
      · obtain ⟨j, o, s⟩ := b
        obtain ⟨b1, b2, b3⟩ := hb
        simp only at b1 b2 b3 ⊢
        have hol := b2.1
        by_cases hj : 0 < j
        · repeat' ((conv => whnf); first | done | refine ev_step ?_ | refine ops_step ?_ | refine scan_step ?_ | refine draw_step ?_ | refine each_step ?_ | refine sl_step ?_ | refine hp_step ?_ | refine guard_no (by decide) ?_ | refine guard_go ?_ | apply cut_auto | with_reducible exact CutS.mk (Or.inl ⟨rfl, rfl, rfl⟩) | refine CutS.mk (Or.inr (sub_auto ?_)) | exact trivial | refine And.intro ?_ ?_ | (refine cond_split ?_ ?_ <;> intro _ <;> first | (exfalso; first | omega | (simp only [decide_eq_true_eq, decide_eq_false_iff_not, Bool.not_eq_true', Bool.not_eq_false', ne_eq, Bool.not_true, Bool.not_false, cond_true, cond_false, Bool.true_eq_false, Bool.false_eq_true, Bool.and_eq_true, Bool.and_eq_false_iff] at *; omega)) | skip) | apply guess | apply FnEx.useF (k_pick bs _ _ _) | exact Or.inl rfl | exact Or.inr rfl | exact Side.mk trivial | exact Side.mk (fun h => h) | exact Side.mk (fun h => ⟨h, h⟩) | with_reducible exact Side.mk rfl | with_reducible exact Side.mk ⟨rfl, rfl⟩ | with_reducible exact Side.mk (by assumption) | with_reducible rfl | intro _)
          all_goals try (conv => whnf)
          all_goals try (refine Side.mk ⟨h1, ?_⟩; omega)
          all_goals try simp only [Int.toNat_natCast, List.length_set] at *
          all_goals try (refine Side.mk ?_; first | (intros; omega) | (show List.length (_ ++ _) ≤ _; simp only [List.length_append, List.length_cons, List.length_nil, List.length_replicate, List.length_take]; omega) | (simp_all; done) | (simp_all; omega))
          all_goals try omega
          rename_i a ha
          refine ⟨(j - 1, swp o a.1.toNat j, a.2), ⟨by simp only; omega, swp_isO b2 (by omega) (by omega), by simp only; omega, by simp only; omega, ha.2.2.2.2⟩, by simp only; omega, ?_⟩
          repeat' ((conv => whnf); first | done | refine ev_step ?_ | refine ops_step ?_ | refine scan_step ?_ | refine draw_step ?_ | refine each_step ?_ | refine sl_step ?_ | refine hp_step ?_ | refine guard_no (by decide) ?_ | refine guard_go ?_ | apply cut_auto | with_reducible exact CutS.mk (Or.inl ⟨rfl, rfl, rfl⟩) | refine CutS.mk (Or.inr (sub_auto ?_)) | exact trivial | refine And.intro ?_ ?_ | refine cond_split ?_ ?_ | apply guess | exact Or.inl rfl | exact Or.inr rfl | exact Side.mk trivial | exact Side.mk (fun h => h) | exact Side.mk (fun h => ⟨h, h⟩) | with_reducible exact Side.mk rfl | with_reducible exact Side.mk ⟨rfl, rfl⟩ | with_reducible exact Side.mk (by assumption) | with_reducible rfl | intro _)
          all_goals try (conv => whnf)
          all_goals first | rfl | (simp only; omega) | trace_state
        · repeat' ((conv => whnf); first | done | refine ev_step ?_ | refine ops_step ?_ | refine scan_step ?_ | refine draw_step ?_ | refine each_step ?_ | refine sl_step ?_ | refine hp_step ?_ | refine guard_no (by decide) ?_ | refine guard_go ?_ | apply cut_auto | with_reducible exact CutS.mk (Or.inl ⟨rfl, rfl, rfl⟩) | refine CutS.mk (Or.inr (sub_auto ?_)) | exact trivial | refine And.intro ?_ ?_ | (refine cond_split ?_ ?_ <;> intro _ <;> first | (exfalso; first | omega | (simp only [decide_eq_true_eq, decide_eq_false_iff_not, Bool.not_eq_true', Bool.not_eq_false', ne_eq, Bool.not_true, Bool.not_false, cond_true, cond_false, Bool.true_eq_false, Bool.false_eq_true, Bool.and_eq_true, Bool.and_eq_false_iff] at *; omega)) | skip) | apply guess | exact Or.inl rfl | exact Or.inr rfl | exact Side.mk trivial | exact Side.mk (fun h => h) | exact Side.mk (fun h => ⟨h, h⟩) | with_reducible exact Side.mk rfl | with_reducible exact Side.mk ⟨rfl, rfl⟩ | with_reducible exact Side.mk (by assumption) | with_reducible rfl | intro _)
          all_goals try (conv => whnf)
          all_goals try omega
          refine ⟨o, isOB_iff.2 b2, ?_⟩
          repeat' ((conv => whnf); first | done | refine ev_step ?_ | refine ops_step ?_ | refine scan_step ?_ | refine draw_step ?_ | refine each_step ?_ | refine sl_step ?_ | refine hp_step ?_ | refine guard_no (by decide) ?_ | refine guard_go ?_ | apply cut_auto | with_reducible exact CutS.mk (Or.inl ⟨rfl, rfl, rfl⟩) | refine CutS.mk (Or.inr (sub_auto ?_)) | exact trivial | refine And.intro ?_ ?_ | refine cond_split ?_ ?_ | apply guess | exact Or.inl rfl | exact Or.inr rfl | exact Side.mk trivial | exact Side.mk (fun h => h) | exact Side.mk (fun h => ⟨h, h⟩) | with_reducible exact Side.mk rfl | with_reducible exact Side.mk ⟨rfl, rfl⟩ | with_reducible exact Side.mk (by assumption) | with_reducible rfl | intro _)
          all_goals try (conv => whnf)
          all_goals first | rfl | trace_state
end Go.Sx.U
