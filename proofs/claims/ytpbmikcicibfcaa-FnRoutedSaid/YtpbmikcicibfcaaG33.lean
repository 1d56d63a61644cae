/-
  FnRouted, as a contract.
-/
import Derived.Test.YtpbmikcicibfcaaM8F
import Derived.Test.YtpbmikcicibfcaaG32
import Derived.Test.YtpbmikcicibfcaaG30
import Derived.Test.YtpbmikcicibfcaaG26
import Derived.Test.YtpbmikcicibfcaaG24
import Derived.Test.YtpbmikcicibfcaaG23
import Derived.Test.YtpbmikcicibfcaaG14
import Derived.Test.YtpbmikcicibfcaaG8
import Derived.Test.YtpbmikcicibfcaaG5
set_option linter.unusedSimpArgs false
namespace Go.Sx.U
set_option linter.unusedVariables false
set_option linter.unusedSimpArgs false
set_option maxRecDepth 100000
set_option maxHeartbeats 8000000
open Go Go.Sx Go.Proofs Go.Sx.M8

theorem k_r8At8 (bs : List Int) (i n : Int) (h : Side (bytesOk bs ∧ 0 ≤ i ∧ i ≤ 1000 ∧ 1 ≤ n ∧ n ≤ 60000)) : FnEx Try.prog 37 [.sl 0 [], .int .i64 i, .int .i64 n] 1 [(0, .flat false (.ints .u8 bs))] (fun a : Int => 0 ≤ a ∧ a < n) (fun a => .int .i64 a) 1 (fun _ => []) := by
  obtain ⟨⟨b1, b2⟩, h2, h3, h4, h5⟩ := h.h
  refine ex_of_evk [] tok Try.func37 rfl rfl rfl ?_
  by_cases hn : n ≤ 1
  · repeat' ((conv => whnf); first | done | refine ev_step ?_ | refine ops_step ?_ | refine scan_step ?_ | refine draw_step ?_ | refine each_step ?_ | refine sl_step ?_ | refine hp_step ?_ | refine guard_no (by decide) ?_ | refine guard_go ?_ | refine guard_old ?_ | apply cut_auto | with_reducible exact CutS.mk (Or.inl ⟨rfl, rfl, rfl⟩) | refine CutS.mk (Or.inr (sub_auto ?_)) | exact trivial | refine And.intro ?_ ?_ | (refine cond_split ?_ ?_ <;> intro _ <;> first | (exfalso; first | omega | (simp_all; done) | (simp_all; omega)) | skip) | apply guess | exact Or.inl rfl | exact Or.inr rfl | exact Side.mk trivial | exact Side.mk (fun h => h) | exact Side.mk (fun h => ⟨h, h⟩) | with_reducible exact Side.mk rfl | with_reducible exact Side.mk ⟨rfl, rfl⟩ | with_reducible exact Side.mk (by assumption) | with_reducible rfl | intro _)
    all_goals try (conv => whnf)
    refine ⟨0, ⟨by omega, by omega⟩, ?_⟩
    repeat' ((conv => whnf); first | done | refine ev_step ?_ | refine ops_step ?_ | refine scan_step ?_ | refine draw_step ?_ | refine each_step ?_ | refine sl_step ?_ | refine hp_step ?_ | refine guard_no (by decide) ?_ | refine guard_go ?_ | refine guard_old ?_ | apply cut_auto | with_reducible exact CutS.mk (Or.inl ⟨rfl, rfl, rfl⟩) | refine CutS.mk (Or.inr (sub_auto ?_)) | exact trivial | refine And.intro ?_ ?_ | refine cond_split ?_ ?_ | apply guess | exact Or.inl rfl | exact Or.inr rfl | exact Side.mk trivial | exact Side.mk (fun h => h) | exact Side.mk (fun h => ⟨h, h⟩) | with_reducible exact Side.mk rfl | with_reducible exact Side.mk ⟨rfl, rfl⟩ | with_reducible exact Side.mk (by assumption) | with_reducible rfl | intro _)
    all_goals try (conv => whnf)
    all_goals first | rfl | trace_state
  · by_cases hlt : i < bs.length
    · have hx := b2 _ (mem_of_getD (d := 0) (show i.toNat < bs.length by omega))
      have hv : IntKind.i64.wrap (bs.getD i.toNat 0) = bs.getD i.toNat 0 := wrap_in ⟨by omega, by omega⟩
      have m1 := Int.tmod_nonneg (a := bs.getD i.toNat 0) n (by omega)
      have m2 := Int.tmod_lt_of_pos (bs.getD i.toNat 0) (show 0 < n by omega)
      repeat' ((conv => whnf); first | done | refine ev_step ?_ | refine ops_step ?_ | refine scan_step ?_ | refine draw_step ?_ | refine each_step ?_ | refine sl_step ?_ | refine hp_step ?_ | refine guard_no (by decide) ?_ | refine guard_go ?_ | refine guard_old ?_ | apply cut_auto | with_reducible exact CutS.mk (Or.inl ⟨rfl, rfl, rfl⟩) | refine CutS.mk (Or.inr (sub_auto ?_)) | exact trivial | refine And.intro ?_ ?_ | (refine cond_split ?_ ?_ <;> intro _ <;> first | (exfalso; first | omega | (simp_all; done) | (simp_all; omega)) | skip) | apply guess | exact Or.inl rfl | exact Or.inr rfl | exact Side.mk trivial | exact Side.mk (fun h => h) | exact Side.mk (fun h => ⟨h, h⟩) | with_reducible exact Side.mk rfl | with_reducible exact Side.mk ⟨rfl, rfl⟩ | with_reducible exact Side.mk (by assumption) | with_reducible rfl | intro _)
      all_goals try (conv => whnf)
      all_goals try (refine Side.mk ?_; first | (intros; omega) | (intro h1_ h2_; rw [h1_, h2_]; rfl) | (show List.length (_ ++ _) ≤ _; simp only [List.length_append, List.length_cons, List.length_nil, List.length_replicate, List.length_take]; omega) | (simp_all; done) | (simp_all; omega))
      all_goals try omega
      refine ⟨(IntKind.i64.wrap (bs.getD i.toNat 0)).tmod n, ⟨by rw [hv]; exact m1, by rw [hv]; exact m2⟩, ?_⟩
      repeat' ((conv => whnf); first | done | refine ev_step ?_ | refine ops_step ?_ | refine scan_step ?_ | refine draw_step ?_ | refine each_step ?_ | refine sl_step ?_ | refine hp_step ?_ | refine guard_no (by decide) ?_ | refine guard_go ?_ | refine guard_old ?_ | apply cut_auto | with_reducible exact CutS.mk (Or.inl ⟨rfl, rfl, rfl⟩) | refine CutS.mk (Or.inr (sub_auto ?_)) | exact trivial | refine And.intro ?_ ?_ | refine cond_split ?_ ?_ | apply guess | exact Or.inl rfl | exact Or.inr rfl | exact Side.mk trivial | exact Side.mk (fun h => h) | exact Side.mk (fun h => ⟨h, h⟩) | with_reducible exact Side.mk rfl | with_reducible exact Side.mk ⟨rfl, rfl⟩ | with_reducible exact Side.mk (by assumption) | with_reducible rfl | intro _)
      all_goals try (conv => whnf)
      all_goals first | rfl | trace_state
    · repeat' ((conv => whnf); first | done | refine ev_step ?_ | refine ops_step ?_ | refine scan_step ?_ | refine draw_step ?_ | refine each_step ?_ | refine sl_step ?_ | refine hp_step ?_ | refine guard_no (by decide) ?_ | refine guard_go ?_ | refine guard_old ?_ | apply cut_auto | with_reducible exact CutS.mk (Or.inl ⟨rfl, rfl, rfl⟩) | refine CutS.mk (Or.inr (sub_auto ?_)) | exact trivial | refine And.intro ?_ ?_ | (refine cond_split ?_ ?_ <;> intro _ <;> first | (exfalso; first | omega | (simp_all; done) | (simp_all; omega)) | skip) | apply guess | exact Or.inl rfl | exact Or.inr rfl | exact Side.mk trivial | exact Side.mk (fun h => h) | exact Side.mk (fun h => ⟨h, h⟩) | with_reducible exact Side.mk rfl | with_reducible exact Side.mk ⟨rfl, rfl⟩ | with_reducible exact Side.mk (by assumption) | with_reducible rfl | intro _)
      all_goals try (conv => whnf)
      refine ⟨0, ⟨by omega, by omega⟩, ?_⟩
      repeat' ((conv => whnf); first | done | refine ev_step ?_ | refine ops_step ?_ | refine scan_step ?_ | refine draw_step ?_ | refine each_step ?_ | refine sl_step ?_ | refine hp_step ?_ | refine guard_no (by decide) ?_ | refine guard_go ?_ | refine guard_old ?_ | apply cut_auto | with_reducible exact CutS.mk (Or.inl ⟨rfl, rfl, rfl⟩) | refine CutS.mk (Or.inr (sub_auto ?_)) | exact trivial | refine And.intro ?_ ?_ | refine cond_split ?_ ?_ | apply guess | exact Or.inl rfl | exact Or.inr rfl | exact Side.mk trivial | exact Side.mk (fun h => h) | exact Side.mk (fun h => ⟨h, h⟩) | with_reducible exact Side.mk rfl | with_reducible exact Side.mk ⟨rfl, rfl⟩ | with_reducible exact Side.mk (by assumption) | with_reducible rfl | intro _)
      all_goals try (conv => whnf)
      all_goals first | rfl | trace_state
theorem k_r8Sum8 (xs : List Int) (h : Side (xs.length ≤ 1000 ∧ ∀ k, k < xs.length → -4000 ≤ xs.getD k 0 ∧ xs.getD k 0 ≤ 4000)) : FnIs Try.prog 40 [.sl 0 []] 1 [(0, .flat false (.ints .i64 xs))] (.int .i64 (sumI xs)) 1 [] := by
  obtain ⟨h, hb⟩ := h.h
  refine fn_of_ev tok Try.func40 rfl rfl rfl ?_
  repeat' ((conv => whnf); first | done | refine ev_step ?_ | refine ops_step ?_ | refine scan_step ?_ | refine draw_step ?_ | refine each_step ?_ | refine sl_step ?_ | refine hp_step ?_ | refine guard_no (by decide) ?_ | refine guard_go ?_ | refine guard_old ?_ | apply cut_auto | with_reducible exact CutS.mk (Or.inl ⟨rfl, rfl, rfl⟩) | refine CutS.mk (Or.inr (sub_auto ?_)) | exact trivial | refine And.intro ?_ ?_ | refine cond_split ?_ ?_ | apply guess | exact Or.inl rfl | exact Or.inr rfl | exact Side.mk trivial | exact Side.mk (fun h => h) | exact Side.mk (fun h => ⟨h, h⟩) | with_reducible exact Side.mk rfl | with_reducible exact Side.mk ⟨rfl, rfl⟩ | with_reducible exact Side.mk (by assumption) | with_reducible rfl | intro _)
  all_goals try (conv => whnf)
  refine loop_at (fun i : Nat => i ≤ xs.length ∧ sumI (xs.take i) ≤ 4000 * i ∧ -(4000 * (i : Int)) ≤ sumI (xs.take i)) 4 (fun i => [(3, .int .i64 (sumI (xs.take i))), (4, .int .i64 i)]) (fun i => []) (fun i => xs.length - i) 0 ⟨Nat.zero_le _, by simp [sumI], by simp [sumI]⟩ ?_ (fun i hi => ?_)
  · repeat' ((conv => whnf); first | done | refine ev_step ?_ | refine ops_step ?_ | refine scan_step ?_ | refine draw_step ?_ | refine each_step ?_ | refine sl_step ?_ | refine hp_step ?_ | refine guard_no (by decide) ?_ | refine guard_go ?_ | refine guard_old ?_ | apply cut_auto | with_reducible exact CutS.mk (Or.inl ⟨rfl, rfl, rfl⟩) | refine CutS.mk (Or.inr (sub_auto ?_)) | exact trivial | refine And.intro ?_ ?_ | refine cond_split ?_ ?_ | apply guess | exact Or.inl rfl | exact Or.inr rfl | exact Side.mk trivial | exact Side.mk (fun h => h) | exact Side.mk (fun h => ⟨h, h⟩) | with_reducible exact Side.mk rfl | with_reducible exact Side.mk ⟨rfl, rfl⟩ | with_reducible exact Side.mk (by assumption) | with_reducible rfl | intro _)
    all_goals try (conv => whnf)
    all_goals first | rfl | trace_state
  · obtain ⟨hi, s1, s2⟩ := hi
    by_cases hlt : i < xs.length
    · have e : sumI (xs.take (i + 1)) = sumI (xs.take i) + xs.getD i 0 := by rw [take_snoc 0 hlt, sumI_snoc]
      have hk := hb i hlt
      repeat' ((conv => whnf); first | done | refine ev_step ?_ | refine ops_step ?_ | refine scan_step ?_ | refine draw_step ?_ | refine each_step ?_ | refine sl_step ?_ | refine hp_step ?_ | refine guard_no (by decide) ?_ | refine guard_go ?_ | refine guard_old ?_ | apply cut_auto | with_reducible exact CutS.mk (Or.inl ⟨rfl, rfl, rfl⟩) | refine CutS.mk (Or.inr (sub_auto ?_)) | exact trivial | refine And.intro ?_ ?_ | (refine cond_split ?_ ?_ <;> intro _ <;> first | (exfalso; first | omega | (simp only [decide_eq_true_eq, decide_eq_false_iff_not, Bool.not_eq_true', Bool.not_eq_false', ne_eq, Bool.not_true, Bool.not_false, cond_true, cond_false, Bool.true_eq_false, Bool.false_eq_true, Bool.and_eq_true, Bool.and_eq_false_iff] at *; omega)) | skip) | apply guess | exact Or.inl rfl | exact Or.inr rfl | exact Side.mk trivial | exact Side.mk (fun h => h) | exact Side.mk (fun h => ⟨h, h⟩) | with_reducible exact Side.mk rfl | with_reducible exact Side.mk ⟨rfl, rfl⟩ | with_reducible exact Side.mk (by assumption) | with_reducible rfl | intro _)
      all_goals try (conv => whnf)
      all_goals try (refine Side.mk ?_; first | (intros; omega) | (intro h1_ h2_; rw [h1_, h2_]; rfl) | (show List.length (_ ++ _) ≤ _; simp only [List.length_append, List.length_cons, List.length_nil, List.length_replicate, List.length_take]; omega) | (simp_all; done) | (simp_all; omega))
      all_goals try omega
      all_goals try simp only [Int.toNat_natCast] at *
      all_goals try omega
      · refine Side.mk ?_
        unfold inI64
        omega
      refine ⟨i + 1, ⟨by omega, by omega, by omega⟩, by omega, ?_⟩
      repeat' ((conv => whnf); first | done | refine ev_step ?_ | refine ops_step ?_ | refine scan_step ?_ | refine draw_step ?_ | refine each_step ?_ | refine sl_step ?_ | refine hp_step ?_ | refine guard_no (by decide) ?_ | refine guard_go ?_ | refine guard_old ?_ | apply cut_auto | with_reducible exact CutS.mk (Or.inl ⟨rfl, rfl, rfl⟩) | refine CutS.mk (Or.inr (sub_auto ?_)) | exact trivial | refine And.intro ?_ ?_ | refine cond_split ?_ ?_ | apply guess | exact Or.inl rfl | exact Or.inr rfl | exact Side.mk trivial | exact Side.mk (fun h => h) | exact Side.mk (fun h => ⟨h, h⟩) | with_reducible exact Side.mk rfl | with_reducible exact Side.mk ⟨rfl, rfl⟩ | with_reducible exact Side.mk (by assumption) | with_reducible rfl | intro _)
      all_goals try (conv => whnf)
      all_goals first | rfl | omega | (rw [e]; rfl) | trace_state
    · obtain rfl : i = xs.length := by omega
      have e : sumI (xs.take xs.length) = sumI xs := by rw [List.take_length]
      rw [← e]
      repeat' ((conv => whnf); first | done | refine ev_step ?_ | refine ops_step ?_ | refine scan_step ?_ | refine draw_step ?_ | refine each_step ?_ | refine sl_step ?_ | refine hp_step ?_ | refine guard_no (by decide) ?_ | refine guard_go ?_ | refine guard_old ?_ | apply cut_auto | with_reducible exact CutS.mk (Or.inl ⟨rfl, rfl, rfl⟩) | refine CutS.mk (Or.inr (sub_auto ?_)) | exact trivial | refine And.intro ?_ ?_ | (refine cond_split ?_ ?_ <;> intro _ <;> first | (exfalso; first | omega | (simp only [decide_eq_true_eq, decide_eq_false_iff_not, Bool.not_eq_true', Bool.not_eq_false', ne_eq, Bool.not_true, Bool.not_false, cond_true, cond_false, Bool.true_eq_false, Bool.false_eq_true, Bool.and_eq_true, Bool.and_eq_false_iff] at *; omega)) | skip) | apply guess | exact Or.inl rfl | exact Or.inr rfl | exact Side.mk trivial | exact Side.mk (fun h => h) | exact Side.mk (fun h => ⟨h, h⟩) | with_reducible exact Side.mk rfl | with_reducible exact Side.mk ⟨rfl, rfl⟩ | with_reducible exact Side.mk (by assumption) | with_reducible rfl | intro _)
      all_goals try (conv => whnf)
      all_goals try (refine Side.mk ?_; first | (intros; omega) | (intro h1_ h2_; rw [h1_, h2_]; rfl) | (show List.length (_ ++ _) ≤ _; simp only [List.length_append, List.length_cons, List.length_nil, List.length_replicate, List.length_take]; omega) | (simp_all; done) | (simp_all; omega))
      all_goals first | rfl | omega | trace_state
/-- The sums of a row of a use. -/
theorem k_r8SumR (W : List (List Int)) {n e : Nat} {m : Int} (y : Int) (hd : M8.Rows n e m W) (hm : m ≤ 4000) (he : e ≤ 1000) (hy : 0 ≤ y ∧ y < n) : FnIs Try.prog 40 [.sl 0 []] 1 [(0, .flat false (.ints .i64 (W.getD y.toNat [])))] (.int .i64 (sumI (W.getD y.toNat []))) 1 [] :=
  k_r8Sum8 _ ⟨by rw [hd.each _ (by omega)]; exact he, fun k hk => by
    rw [hd.each _ (by omega)] at hk
    have := hd.bd y.toNat (by omega) k hk
    omega⟩
theorem k_OvF (A V : List (List Int)) (ns : List R4) (ks : List Int) (h : Side ((natSS A ∧ natSS V ∧ ns.length ≤ 1048577 ∧ ks.length ≤ 1048577) ∧ chB A V ns ks = true)) : FnIs Try.prog 16 [.agg [.sl 1 [], .sl 3 []], .sl 4 [], .sl 5 []] 6 ((4, .flat false (.r4 ns)) :: (5, .flat false (.ints .i64 ks)) :: gridH false A V) (.tuple [.int .i64 (ovF A V ns ks), .bool true]) 6 [] := by
  obtain ⟨h1, h2⟩ := h.h
  have k := k_OverflowOf A V ns ks ⟨h1⟩
  rw [h2, if_pos rfl, show ovV A V ns ks = ovF A V ns ks from rfl] at k
  exact k
theorem rows_bdI {n e : Nat} {m : Int} {W : List (List Int)} (h : M8.Rows n e m W) {y : Nat} (hy : y < n) : -(m * e) ≤ sumI (W.getD y []) ∧ sumI (W.getD y []) ≤ m * e := by
  have h1 := h.each y hy
  have h2 := sumI_bd2 (xs := W.getD y []) (b := m) (fun k hk => h.bd y hy k (by omega))
  rwa [h1] at h2
theorem k_FnRouted (bs cs : List Int) (hp : Side ((bs.length ≤ 9223372036854775807 ∧ ∀ k ∈ bs, 0 ≤ k ∧ k ≤ 255) ∧ cs.length ≤ 9223372036854775807 ∧ ∀ k ∈ cs, 0 ≤ k ∧ k ≤ 255)) : FnIs Try.prog 8 [.sl 0 [], .sl 1 []] 2 [(1, .flat false (.ints .u8 cs)), (0, .flat false (.ints .u8 bs))] (.bool true) 2 [] := by
  obtain ⟨⟨b1, b2⟩, c1, c2⟩ := hp.h
  have k0 := k_r8Long bs cs ⟨⟨b1, c1⟩⟩
  refine fn_of_evk [0, 1, 4, 5, 6, 7, 8, 9, 10, 11, 12, 13, 14, 15, 16, 17, 18, 19, 20, 21, 22, 23, 24, 25, 26, 27, 28, 29, 30, 31, 32, 33, 34, 37, 47, 65, 194, 199, 222] tok Try.func8 rfl rfl rfl ?_
  by_cases hl : bs.length ≤ 48 ∧ cs.length ≤ 48
  · rw [show (decide (48 < (bs.length : Int)) || decide (48 < (cs.length : Int))) = false by rw [Bool.or_eq_false_iff, decide_eq_false_iff_not, decide_eq_false_iff_not]; omega] at k0
    have hb : bytesOk bs := ⟨Nat.le_trans hl.1 (by decide), b2⟩
    have hc : bytesOk cs := ⟨Nat.le_trans hl.2 (by decide), c2⟩
    repeat' ((conv => whnf); first | done | refine ev_step ?_ | refine ops_step ?_ | refine scan_step ?_ | refine draw_step ?_ | refine each_step ?_ | refine sl_step ?_ | refine hp_step ?_ | refine guard_no (by decide) ?_ | refine guard_go ?_ | refine guard_old ?_ | apply cut_auto | with_reducible exact CutS.mk (Or.inl ⟨rfl, rfl, rfl⟩) | refine CutS.mk (Or.inr (sub_auto ?_)) | exact trivial | refine And.intro ?_ ?_ | (refine cond_split ?_ ?_ <;> intro _ <;> first | (exfalso; first | omega | (simp only [decide_eq_true_eq, decide_eq_false_iff_not, Bool.not_eq_true', Bool.not_eq_false', ne_eq, Bool.not_true, Bool.not_false, cond_true, cond_false, Bool.true_eq_false, Bool.false_eq_true, Bool.and_eq_true, Bool.and_eq_false_iff] at *; omega)) | skip) | apply guess | apply FnIs.useF (k0) | exact Or.inl rfl | exact Or.inr rfl | exact Side.mk trivial | exact Side.mk (fun h => h) | exact Side.mk (fun h => ⟨h, h⟩) | with_reducible exact Side.mk rfl | with_reducible exact Side.mk ⟨rfl, rfl⟩ | with_reducible exact Side.mk (by assumption) | with_reducible rfl | intro _)
    all_goals try (conv => whnf)
    apply FnEx.useF (k_R8Grid bs ⟨hb⟩)
    repeat' ((conv => whnf); first | done | refine ev_step ?_ | refine ops_step ?_ | refine scan_step ?_ | refine draw_step ?_ | refine each_step ?_ | refine sl_step ?_ | refine hp_step ?_ | refine guard_no (by decide) ?_ | refine guard_go ?_ | refine guard_old ?_ | apply cut_auto | with_reducible exact CutS.mk (Or.inl ⟨rfl, rfl, rfl⟩) | refine CutS.mk (Or.inr (sub_auto ?_)) | exact trivial | refine And.intro ?_ ?_ | (refine cond_split ?_ ?_ <;> intro _ <;> first | (exfalso; first | omega | (simp only [decide_eq_true_eq, decide_eq_false_iff_not, Bool.not_eq_true', Bool.not_eq_false', ne_eq, Bool.not_true, Bool.not_false, cond_true, cond_false, Bool.true_eq_false, Bool.false_eq_true, Bool.and_eq_true, Bool.and_eq_false_iff] at *; omega)) | skip) | apply guess | exact Or.inl rfl | exact Or.inr rfl | exact Side.mk trivial | exact Side.mk (fun h => h) | exact Side.mk (fun h => ⟨h, h⟩) | with_reducible exact Side.mk rfl | with_reducible exact Side.mk ⟨rfl, rfl⟩ | with_reducible exact Side.mk (by assumption) | with_reducible rfl | intro _)
    all_goals try (conv => whnf)
    rename_i q hq
    obtain ⟨A, V, w, g⟩ := q
    obtain ⟨hA, hV, hw, hg⟩ := hq
    dsimp only at hA hV hw hg ⊢
    have nA := gr_nat hA (by omega) (by omega)
    have nV := gr_nat hV (by omega) (by omega)
    apply FnEx.useF (k_R8Nets cs A V w g ⟨hc⟩ hA hV hw hg)
    repeat' ((conv => whnf); first | done | refine ev_step ?_ | refine ops_step ?_ | refine scan_step ?_ | refine draw_step ?_ | refine each_step ?_ | refine sl_step ?_ | refine hp_step ?_ | refine guard_no (by decide) ?_ | refine guard_go ?_ | refine guard_old ?_ | apply cut_auto | with_reducible exact CutS.mk (Or.inl ⟨rfl, rfl, rfl⟩) | refine CutS.mk (Or.inr (sub_auto ?_)) | exact trivial | refine And.intro ?_ ?_ | (refine cond_split ?_ ?_ <;> intro _ <;> first | (exfalso; first | omega | (simp only [decide_eq_true_eq, decide_eq_false_iff_not, Bool.not_eq_true', Bool.not_eq_false', ne_eq, Bool.not_true, Bool.not_false, cond_true, cond_false, Bool.true_eq_false, Bool.false_eq_true, Bool.and_eq_true, Bool.and_eq_false_iff] at *; omega)) | skip) | apply guess | exact Or.inl rfl | exact Or.inr rfl | exact Side.mk trivial | exact Side.mk (fun h => h) | exact Side.mk (fun h => ⟨h, h⟩) | with_reducible exact Side.mk rfl | with_reducible exact Side.mk ⟨rfl, rfl⟩ | with_reducible exact Side.mk (by assumption) | with_reducible rfl | intro _)
    all_goals try (conv => whnf)
    rename_i ns hns
    obtain ⟨hn4, hnet⟩ := hns
    have hR := routed_mk hA hV hw hg hn4 hnet
    have hN := hR.nets
    obtain ⟨hg0, _, hnets⟩ := netsB_all hN
    have hAl := hR.len
    have hVl := hR.lenV
    refine loop_at (fun a : Nat × List Int => a.1 ≤ ns.length ∧ a.2.length = a.1 ∧ ∀ j, j < a.1 → 0 ≤ a.2.getD j 0 ∧ a.2.getD j 0 < (shapesR (ns.getD j default)).length) 9 (fun a => [(8, .int .i64 a.1), (7, .sl 8 []), (9, .top), (10, .top), (47, .top), (65, .top)]) (fun a => [(8, .flat true (.ints .i64 a.2))]) (fun a => ns.length - a.1) (0, []) ⟨Nat.zero_le _, rfl, fun j h => by omega⟩ ?_ (fun a ha => ?_)
    · repeat' ((conv => whnf); first | done | refine ev_step ?_ | refine ops_step ?_ | refine scan_step ?_ | refine draw_step ?_ | refine each_step ?_ | refine sl_step ?_ | refine hp_step ?_ | refine guard_no (by decide) ?_ | refine guard_go ?_ | refine guard_old ?_ | apply cut_auto | with_reducible exact CutS.mk (Or.inl ⟨rfl, rfl, rfl⟩) | refine CutS.mk (Or.inr (sub_auto ?_)) | exact trivial | refine And.intro ?_ ?_ | refine cond_split ?_ ?_ | apply guess | exact Or.inl rfl | exact Or.inr rfl | exact Side.mk trivial | exact Side.mk (fun h => h) | exact Side.mk (fun h => ⟨h, h⟩) | with_reducible exact Side.mk rfl | with_reducible exact Side.mk ⟨rfl, rfl⟩ | with_reducible exact Side.mk (by assumption) | with_reducible rfl | intro _)
      all_goals try (conv => whnf)
      all_goals first | rfl | trace_state
    · obtain ⟨i, D⟩ := a
      obtain ⟨hi, hDl, hD⟩ := ha
      dsimp only at hi hDl hD ⊢
      by_cases hlt : i < ns.length
      · have hnk : (gridB A V && netB A (ns.getD i default).a (ns.getD i default).b (ns.getD i default).c (ns.getD i default).d) = true := by
          rw [hg0, Bool.true_and]; exact hnets i hlt
        have ks := k_ShapesOf A V _ _ _ _ ⟨⟨nA, nV⟩⟩ hnk
        have hs1 := hR.one i hlt
        have hs2 : sN ns i = (shapesV (ns.getD i default).a (ns.getD i default).b (ns.getD i default).c (ns.getD i default).d).length := rfl
        have hs3 : (shapesR (ns.getD i default)).length = sN ns i := rfl
        generalize shapesV (ns.getD i default).a (ns.getD i default).b (ns.getD i default).c (ns.getD i default).d = S at *
        repeat' ((conv => whnf); first | done | refine ev_step ?_ | refine ops_step ?_ | refine scan_step ?_ | refine draw_step ?_ | refine each_step ?_ | refine sl_step ?_ | refine hp_step ?_ | refine guard_no (by decide) ?_ | refine guard_go ?_ | refine guard_old ?_ | apply cut_auto | with_reducible exact CutS.mk (Or.inl ⟨rfl, rfl, rfl⟩) | refine CutS.mk (Or.inr (sub_auto ?_)) | exact trivial | refine And.intro ?_ ?_ | (refine cond_split ?_ ?_ <;> intro _ <;> first | (exfalso; first | omega | (simp only [decide_eq_true_eq, decide_eq_false_iff_not, Bool.not_eq_true', Bool.not_eq_false', ne_eq, Bool.not_true, Bool.not_false, cond_true, cond_false, Bool.true_eq_false, Bool.false_eq_true, Bool.and_eq_true, Bool.and_eq_false_iff] at *; omega)) | skip) | apply guess | apply FnIs.useF (ks) | apply FnEx.useF (k_r8At8 cs _ _ _) | exact Or.inl rfl | exact Or.inr rfl | exact Side.mk trivial | exact Side.mk (fun h => h) | exact Side.mk (fun h => ⟨h, h⟩) | with_reducible exact Side.mk rfl | with_reducible exact Side.mk ⟨rfl, rfl⟩ | with_reducible exact Side.mk (by assumption) | with_reducible rfl | intro _)
        all_goals try (conv => whnf)
        all_goals try (refine Side.mk ⟨hc, ?_⟩; omega)
        all_goals try simp only [Int.toNat_natCast]
        all_goals try (refine Side.mk ?_; first | (intros; omega) | (intro h1_ h2_; rw [h1_, h2_]; rfl) | (show List.length (_ ++ _) ≤ _; simp only [List.length_append, List.length_cons, List.length_nil, List.length_replicate, List.length_take]; omega) | (simp_all; done) | (simp_all; omega))
        all_goals try omega
        rename_i a ha
        refine ⟨(i + 1, D ++ [a]), ⟨by simp only; omega, by simp [hDl], fun j hj => by
          simp only at hj
          by_cases e : j < i
          · rw [getD_app_l (by omega)]; exact hD j e
          · have e2 : j = i := by omega
            have e3 : (D ++ [a]).getD i 0 = a := by rw [← hDl]; simp [List.getD]
            rw [e2, e3, hs3]
            omega⟩, by simp only; omega, ?_⟩
        repeat' ((conv => whnf); first | done | refine ev_step ?_ | refine ops_step ?_ | refine scan_step ?_ | refine draw_step ?_ | refine each_step ?_ | refine sl_step ?_ | refine hp_step ?_ | refine guard_no (by decide) ?_ | refine guard_go ?_ | refine guard_old ?_ | apply cut_auto | with_reducible exact CutS.mk (Or.inl ⟨rfl, rfl, rfl⟩) | refine CutS.mk (Or.inr (sub_auto ?_)) | exact trivial | refine And.intro ?_ ?_ | refine cond_split ?_ ?_ | apply guess | exact Or.inl rfl | exact Or.inr rfl | exact Side.mk trivial | exact Side.mk (fun h => h) | exact Side.mk (fun h => ⟨h, h⟩) | with_reducible exact Side.mk rfl | with_reducible exact Side.mk ⟨rfl, rfl⟩ | with_reducible exact Side.mk (by assumption) | with_reducible rfl | intro _)
        all_goals try (conv => whnf)
        all_goals first | rfl | omega | trace_state
      · obtain rfl : i = ns.length := by omega
        have cD : ChoiceOK (wN A) A.length ns D := ⟨by omega, (choice_nil hN).cel, fun j hj => hD j (by omega)⟩
        have hsz : natSS A ∧ natSS V ∧ ns.length ≤ 1048577 := ⟨nA, nV, by omega⟩
        have kb := k_BestChoice A V ns ⟨hsz⟩ (by rw [bcOk, hN, Bool.true_and, decide_eq_true_eq]; exact hR.few)
        obtain ⟨⟨kB, hkB⟩, hv, hle⟩ := best_choice hN (fun i hi => (hR.one i hi).1) (dL_ok hN)
        have cB : ChoiceOK (wN A) A.length ns (bV A V ns (pF (sN ns) ns.length)).1 := by rw [hkB]; exact dL_ok hN kB
        have lB : (bV A V ns (pF (sN ns) ns.length)).1.length = ns.length := by rw [hkB, dL_len]
        have hvb := ovF_bd hg0 (by omega) cB
        generalize (bV A V ns (pF (sN ns) ns.length)).1 = B at *
        generalize (bV A V ns (pF (sN ns) ns.length)).2 = l at *
        have kg := k_GreedyChoice A V ns ⟨hsz⟩ hN
        have cG := gT_ok hN ns.length (Nat.le_refl _)
        have lG := gT_len A V ns ns.length
        have hvG := gT_ov hN ns.length (Nat.le_refl _)
        generalize (gT A V ns ns.length).1 = G at *
        generalize (gT A V ns ns.length).2 = gl at *
        have hDD := hle D cD hDl
        have hGG := hle G cG lG
        have kc := k_CutBound A V ns ⟨hsz⟩
        rw [hN, if_pos rfl] at kc
        have hc1 : cutV A V ns ≤ ovF A V ns B := cut_le hN cB lB
        have hc2 : 0 ≤ cutV A V ns := cut_nn A V
        have ku := k_ChosenUse A V ns D ⟨⟨nA, nV, by omega, by omega⟩⟩ (chB_mk hN cD hDl)
        obtain ⟨hsum, hdims⟩ := routed_use cD hDl (useT A ns D) rfl
        have kw := k_WireTotal A V ns ⟨hsz⟩
        rw [hN, if_pos rfl] at kw
        have kf := k_FullestEdge A V ns B ⟨⟨nA, nV, by omega, by omega⟩⟩
        have hful : fullOk A V ns B = !oneCell A := by rw [fullOk, chB_mk hN cB lB, Bool.true_and]
        rw [hful] at kf
        have hnn := hvb.1
        have hfo : 0 < fullV A V ns B ↔ 0 < ovF A V ns B := full_over A V _
        generalize cutV A V ns = cut at *
        generalize useT A ns D = U at *
        generalize farS ns = T at *
        generalize fullV A V ns B = F at *
        have hten : (!oneCell A) = decide (0 < ((g * (w - 1) + (g - 1) * w : Nat) : Int)) := by
          unfold oneCell
          rw [hR.wn, hAl]
          obtain rfl | rfl | rfl | rfl : w = 1 ∨ w = 2 ∨ w = 3 ∨ w = 4 := by omega
          all_goals obtain rfl | rfl | rfl | rfl : g = 1 ∨ g = 2 ∨ g = 3 ∨ g = 4 := by omega
          all_goals rfl
        generalize (!oneCell A) = ten at *
        obtain ⟨m, hm⟩ : ∃ m, (if ten = true then F else 0) = m := ⟨_, rfl⟩
        rw [hm] at kf
        have hU1 : M8.Rows g (w - 1) 2304 U.1 := by
          have := rows_mono hdims.a (show (576 * (D.length : Int)) ≤ 2304 by omega)
          rwa [hAl, hR.wn] at this
        have hU2 : M8.Rows (g - 1) w 2304 U.2 := by
          have := rows_mono hdims.u (show (576 * (D.length : Int)) ≤ 2304 by omega)
          rwa [hAl, hR.wn] at this
        have hl1 := hU1.len
        have hl2 := hU2.len
        rw [hAl] at hsum
        have hb1 : ∀ y, y ≤ g → -(9216 * (y : Int)) ≤ M8.rowS U.1 y ∧ M8.rowS U.1 y ≤ 9216 * y := fun y hy => ss_bd2 y fun i hi => by
          have := rows_bdI hU1 (y := i) (by omega)
          omega
        have hb2 : ∀ y, y ≤ g - 1 → -(9216 * (y : Int)) ≤ M8.rowS U.2 y ∧ M8.rowS U.2 y ≤ 9216 * y := fun y hy => ss_bd2 y fun i hi => by
          have := rows_bdI hU2 (y := i) (by omega)
          omega
        have d1 : decide (ovF A V ns B ≠ l) = false := decide_eq_false (by omega)
        have d2 : decide (ovF A V ns D < l) = false := decide_eq_false (by omega)
        have d3 : decide (gl < l) = false := decide_eq_false (by omega)
        have d4 : decide (ovF A V ns G ≠ gl) = false := decide_eq_false (by omega)
        have d5 : decide (l < cut) = false := decide_eq_false (by omega)
        have d6 : decide (cut < 0) = false := decide_eq_false (by omega)
        have sB : Side ((natSS A ∧ natSS V ∧ ns.length ≤ 1048577 ∧ B.length ≤ 1048577) ∧ chB A V ns B = true) := ⟨⟨nA, nV, by omega, by omega⟩, chB_mk hN cB lB⟩
        have sD : Side ((natSS A ∧ natSS V ∧ ns.length ≤ 1048577 ∧ D.length ≤ 1048577) ∧ chB A V ns D = true) := ⟨⟨nA, nV, by omega, by omega⟩, chB_mk hN cD hDl⟩
        have sG : Side ((natSS A ∧ natSS V ∧ ns.length ≤ 1048577 ∧ G.length ≤ 1048577) ∧ chB A V ns G = true) := ⟨⟨nA, nV, by omega, by omega⟩, chB_mk hN cG lG⟩
        repeat' ((conv => whnf); first | done | refine ev_step ?_ | refine ops_step ?_ | refine scan_step ?_ | refine draw_step ?_ | refine each_step ?_ | refine sl_step ?_ | refine hp_step ?_ | refine guard_no (by decide) ?_ | refine guard_go ?_ | refine guard_old ?_ | apply cut_auto | with_reducible exact CutS.mk (Or.inl ⟨rfl, rfl, rfl⟩) | refine CutS.mk (Or.inr (sub_auto ?_)) | exact trivial | refine And.intro ?_ ?_ | (refine cond_split ?_ ?_ <;> intro hq_ <;> first | (exfalso; first | omega | (simp only [d1, d2, d3, d4, d5, d6, cond_true, cond_false, Bool.not_true, Bool.not_false, Bool.and_true, Bool.true_and, Bool.and_false, Bool.false_and, Bool.or_true, Bool.true_or, Bool.or_false, Bool.false_or, Bool.true_eq_false, Bool.false_eq_true, decide_true, decide_false, reduceCtorEq] at hq_; done) | (rw [decide_eq_false_iff_not] at hq_; omega) | (rw [decide_eq_true_eq] at hq_; omega) | (simp only [d1, d2, d3, d4, d5, d6, reduceCtorEq] at hq_; done) | exact Bool.noConfusion (Eq.trans (Eq.symm d1) hq_) | exact Bool.noConfusion (Eq.trans (Eq.symm d2) hq_) | exact Bool.noConfusion (Eq.trans (Eq.symm d3) hq_) | exact Bool.noConfusion (Eq.trans (Eq.symm d4) hq_) | exact Bool.noConfusion (Eq.trans (Eq.symm d5) hq_) | exact Bool.noConfusion (Eq.trans (Eq.symm d6) hq_)) | skip) | apply guess | apply FnIs.useF (kb) | apply FnIs.useF (kg) | apply FnIs.useF (kc) | apply FnIs.useF (ku) | apply FnIs.useF (kw) | apply FnIs.useF (kf) | apply FnIs.useF (k_OvF A V ns _ _) | exact Or.inl rfl | exact Or.inr rfl | exact Side.mk trivial | exact Side.mk (fun h => h) | exact Side.mk (fun h => ⟨h, h⟩) | with_reducible exact Side.mk rfl | with_reducible exact Side.mk ⟨rfl, rfl⟩ | with_reducible exact Side.mk (by assumption) | with_reducible rfl | intro _)
        all_goals try (conv => whnf)
        all_goals try first | exact sB | exact sD | exact sG
        all_goals try (refine Side.mk ?_; first | (intros; omega) | (intro h1_ h2_; rw [h1_, h2_]; rfl) | (show List.length (_ ++ _) ≤ _; simp only [List.length_append, List.length_cons, List.length_nil, List.length_replicate, List.length_take]; omega) | (simp_all; done) | (simp_all; omega))
        clear kb kg kc ku kw kf sB sD sG d1 d2 d3 d4 d5 d6
        refine loop_at (fun y : Nat => y ≤ g) 16 (fun y => [(33, .int .i64 y), (31, .int .i64 (M8.rowS U.1 y)), (32, .int .i64 ((y * (w - 1) : Nat) : Int)), (199, .top)]) (fun y => []) (fun y => g - y) 0 (Nat.zero_le _) ?_ (fun y hy => ?_)
        · repeat' ((conv => whnf); first | done | refine ev_step ?_ | refine ops_step ?_ | refine scan_step ?_ | refine draw_step ?_ | refine each_step ?_ | refine sl_step ?_ | refine hp_step ?_ | refine guard_no (by decide) ?_ | refine guard_go ?_ | refine guard_old ?_ | apply cut_auto | with_reducible exact CutS.mk (Or.inl ⟨rfl, rfl, rfl⟩) | refine CutS.mk (Or.inr (sub_auto ?_)) | exact trivial | refine And.intro ?_ ?_ | refine cond_split ?_ ?_ | apply guess | exact Or.inl rfl | exact Or.inr rfl | exact Side.mk trivial | exact Side.mk (fun h => h) | exact Side.mk (fun h => ⟨h, h⟩) | with_reducible exact Side.mk rfl | with_reducible exact Side.mk ⟨rfl, rfl⟩ | with_reducible exact Side.mk (by assumption) | with_reducible rfl | intro _)
          all_goals try (conv => whnf)
          all_goals first | rfl | (simp; done) | trace_state
        · have hby := hb1 y hy
          have hey : y * (w - 1) ≤ 4 * 3 := Nat.mul_le_mul (by omega) (by omega)
          by_cases hlt : y < g
          · have kr := k_r8SumR U.1 y hU1 (by omega) (by omega) ⟨by omega, by omega⟩
            have hrl := hU1.each y hlt
            have hrb := rows_bdI hU1 hlt
            have e1 : M8.rowS U.1 (y + 1) = M8.rowS U.1 y + sumI (U.1.getD y []) := rfl
            have e2 : (((y + 1) * (w - 1) : Nat) : Int) = ((y * (w - 1) : Nat) : Int) + ((U.1.getD y []).length : Int) := by
              rw [hrl, Nat.add_mul, Nat.one_mul]; push_cast; rfl
            repeat' ((conv => whnf); first | done | refine ev_step ?_ | refine ops_step ?_ | refine scan_step ?_ | refine draw_step ?_ | refine each_step ?_ | refine sl_step ?_ | refine hp_step ?_ | refine guard_no (by decide) ?_ | refine guard_go ?_ | refine guard_old ?_ | apply cut_auto | with_reducible exact CutS.mk (Or.inl ⟨rfl, rfl, rfl⟩) | refine CutS.mk (Or.inr (sub_auto ?_)) | exact trivial | refine And.intro ?_ ?_ | (refine cond_split ?_ ?_ <;> intro _ <;> first | (exfalso; first | omega | (simp only [decide_eq_true_eq, decide_eq_false_iff_not, Bool.not_eq_true', Bool.not_eq_false', ne_eq, Bool.not_true, Bool.not_false, cond_true, cond_false, Bool.true_eq_false, Bool.false_eq_true, Bool.and_eq_true, Bool.and_eq_false_iff] at *; omega)) | skip) | apply guess | apply FnIs.useF (kr) | exact Or.inl rfl | exact Or.inr rfl | exact Side.mk trivial | exact Side.mk (fun h => h) | exact Side.mk (fun h => ⟨h, h⟩) | with_reducible exact Side.mk rfl | with_reducible exact Side.mk ⟨rfl, rfl⟩ | with_reducible exact Side.mk (by assumption) | with_reducible rfl | intro _)
            all_goals try (conv => whnf)
            all_goals try simp only [Int.toNat_natCast]
            all_goals try (refine Side.mk ?_; unfold inI64; omega)
            all_goals try (refine Side.mk ?_; first | (intros; omega) | (intro h1_ h2_; rw [h1_, h2_]; rfl) | (show List.length (_ ++ _) ≤ _; simp only [List.length_append, List.length_cons, List.length_nil, List.length_replicate, List.length_take]; omega) | (simp_all; done) | (simp_all; omega))
            all_goals try omega
            refine ⟨y + 1, by omega, by omega, ?_⟩
            repeat' ((conv => whnf); first | done | refine ev_step ?_ | refine ops_step ?_ | refine scan_step ?_ | refine draw_step ?_ | refine each_step ?_ | refine sl_step ?_ | refine hp_step ?_ | refine guard_no (by decide) ?_ | refine guard_go ?_ | refine guard_old ?_ | apply cut_auto | with_reducible exact CutS.mk (Or.inl ⟨rfl, rfl, rfl⟩) | refine CutS.mk (Or.inr (sub_auto ?_)) | exact trivial | refine And.intro ?_ ?_ | refine cond_split ?_ ?_ | apply guess | exact Or.inl rfl | exact Or.inr rfl | exact Side.mk trivial | exact Side.mk (fun h => h) | exact Side.mk (fun h => ⟨h, h⟩) | with_reducible exact Side.mk rfl | with_reducible exact Side.mk ⟨rfl, rfl⟩ | with_reducible exact Side.mk (by assumption) | with_reducible rfl | intro _)
            all_goals try (conv => whnf)
            all_goals first | rfl | omega | (simp only [Int.toNat_natCast]; first | exact e1 | exact e1.symm | exact e2 | exact e2.symm) | trace_state
          · obtain rfl : y = g := by omega
            repeat' ((conv => whnf); first | done | refine ev_step ?_ | refine ops_step ?_ | refine scan_step ?_ | refine draw_step ?_ | refine each_step ?_ | refine sl_step ?_ | refine hp_step ?_ | refine guard_no (by decide) ?_ | refine guard_go ?_ | refine guard_old ?_ | apply cut_auto | with_reducible exact CutS.mk (Or.inl ⟨rfl, rfl, rfl⟩) | refine CutS.mk (Or.inr (sub_auto ?_)) | exact trivial | refine And.intro ?_ ?_ | (refine cond_split ?_ ?_ <;> intro _ <;> first | (exfalso; first | omega | (simp only [decide_eq_true_eq, decide_eq_false_iff_not, Bool.not_eq_true', Bool.not_eq_false', ne_eq, Bool.not_true, Bool.not_false, cond_true, cond_false, Bool.true_eq_false, Bool.false_eq_true, Bool.and_eq_true, Bool.and_eq_false_iff] at *; omega)) | skip) | apply guess | exact Or.inl rfl | exact Or.inr rfl | exact Side.mk trivial | exact Side.mk (fun h => h) | exact Side.mk (fun h => ⟨h, h⟩) | with_reducible exact Side.mk rfl | with_reducible exact Side.mk ⟨rfl, rfl⟩ | with_reducible exact Side.mk (by assumption) | with_reducible rfl | intro _)
            all_goals try (conv => whnf)
            all_goals try (refine Side.mk ?_; first | (intros; omega) | (intro h1_ h2_; rw [h1_, h2_]; rfl) | (show List.length (_ ++ _) ≤ _; simp only [List.length_append, List.length_cons, List.length_nil, List.length_replicate, List.length_take]; omega) | (simp_all; done) | (simp_all; omega))
            refine loop_at (fun z : Nat => z ≤ y - 1) 16 (fun z => [(34, .int .i64 z), (31, .int .i64 (M8.rowS U.1 y + M8.rowS U.2 z)), (32, .int .i64 ((y * (w - 1) + z * w : Nat) : Int)), (222, .top)]) (fun z => []) (fun z => y - 1 - z) 0 (Nat.zero_le _) ?_ (fun z hz => ?_)
            · repeat' ((conv => whnf); first | done | refine ev_step ?_ | refine ops_step ?_ | refine scan_step ?_ | refine draw_step ?_ | refine each_step ?_ | refine sl_step ?_ | refine hp_step ?_ | refine guard_no (by decide) ?_ | refine guard_go ?_ | refine guard_old ?_ | apply cut_auto | with_reducible exact CutS.mk (Or.inl ⟨rfl, rfl, rfl⟩) | refine CutS.mk (Or.inr (sub_auto ?_)) | exact trivial | refine And.intro ?_ ?_ | refine cond_split ?_ ?_ | apply guess | exact Or.inl rfl | exact Or.inr rfl | exact Side.mk trivial | exact Side.mk (fun h => h) | exact Side.mk (fun h => ⟨h, h⟩) | with_reducible exact Side.mk rfl | with_reducible exact Side.mk ⟨rfl, rfl⟩ | with_reducible exact Side.mk (by assumption) | with_reducible rfl | intro _)
              all_goals try (conv => whnf)
              all_goals first | rfl | (simp; done) | (simp [M8.rowS, M8.ss]; done) | trace_state
            · have hbz := hb2 z hz
              have hez : z * w ≤ 4 * 4 := Nat.mul_le_mul (by omega) (by omega)
              by_cases hlz : z < y - 1
              · have kr := k_r8SumR U.2 z hU2 (by omega) (by omega) ⟨by omega, by omega⟩
                have hrl := hU2.each z hlz
                have hrb := rows_bdI hU2 hlz
                have e1 : M8.rowS U.1 y + M8.rowS U.2 (z + 1) = M8.rowS U.1 y + M8.rowS U.2 z + sumI (U.2.getD z []) := by
                  rw [Int.add_assoc]; rfl
                have e2 : ((y * (w - 1) + (z + 1) * w : Nat) : Int) = ((y * (w - 1) + z * w : Nat) : Int) + ((U.2.getD z []).length : Int) := by
                  rw [hrl, Nat.add_mul z 1 w, Nat.one_mul, ← Nat.add_assoc]; push_cast; rfl
                repeat' ((conv => whnf); first | done | refine ev_step ?_ | refine ops_step ?_ | refine scan_step ?_ | refine draw_step ?_ | refine each_step ?_ | refine sl_step ?_ | refine hp_step ?_ | refine guard_no (by decide) ?_ | refine guard_go ?_ | refine guard_old ?_ | apply cut_auto | with_reducible exact CutS.mk (Or.inl ⟨rfl, rfl, rfl⟩) | refine CutS.mk (Or.inr (sub_auto ?_)) | exact trivial | refine And.intro ?_ ?_ | (refine cond_split ?_ ?_ <;> intro _ <;> first | (exfalso; first | omega | (simp only [decide_eq_true_eq, decide_eq_false_iff_not, Bool.not_eq_true', Bool.not_eq_false', ne_eq, Bool.not_true, Bool.not_false, cond_true, cond_false, Bool.true_eq_false, Bool.false_eq_true, Bool.and_eq_true, Bool.and_eq_false_iff] at *; omega)) | skip) | apply guess | apply FnIs.useF (kr) | exact Or.inl rfl | exact Or.inr rfl | exact Side.mk trivial | exact Side.mk (fun h => h) | exact Side.mk (fun h => ⟨h, h⟩) | with_reducible exact Side.mk rfl | with_reducible exact Side.mk ⟨rfl, rfl⟩ | with_reducible exact Side.mk (by assumption) | with_reducible rfl | intro _)
                all_goals try (conv => whnf)
                all_goals try simp only [Int.toNat_natCast]
                all_goals try (refine Side.mk ?_; unfold inI64; omega)
                all_goals try (refine Side.mk ?_; first | (intros; omega) | (intro h1_ h2_; rw [h1_, h2_]; rfl) | (show List.length (_ ++ _) ≤ _; simp only [List.length_append, List.length_cons, List.length_nil, List.length_replicate, List.length_take]; omega) | (simp_all; done) | (simp_all; omega))
                all_goals try omega
                refine ⟨z + 1, by omega, by omega, ?_⟩
                repeat' ((conv => whnf); first | done | refine ev_step ?_ | refine ops_step ?_ | refine scan_step ?_ | refine draw_step ?_ | refine each_step ?_ | refine sl_step ?_ | refine hp_step ?_ | refine guard_no (by decide) ?_ | refine guard_go ?_ | refine guard_old ?_ | apply cut_auto | with_reducible exact CutS.mk (Or.inl ⟨rfl, rfl, rfl⟩) | refine CutS.mk (Or.inr (sub_auto ?_)) | exact trivial | refine And.intro ?_ ?_ | refine cond_split ?_ ?_ | apply guess | exact Or.inl rfl | exact Or.inr rfl | exact Side.mk trivial | exact Side.mk (fun h => h) | exact Side.mk (fun h => ⟨h, h⟩) | with_reducible exact Side.mk rfl | with_reducible exact Side.mk ⟨rfl, rfl⟩ | with_reducible exact Side.mk (by assumption) | with_reducible rfl | intro _)
                all_goals try (conv => whnf)
                all_goals first | rfl | omega | (simp only [Int.toNat_natCast]; first | exact e1 | exact e1.symm | exact e2 | exact e2.symm) | trace_state
              · obtain rfl : z = y - 1 := by omega
                repeat' ((conv => whnf); first | done | refine ev_step ?_ | refine ops_step ?_ | refine scan_step ?_ | refine draw_step ?_ | refine each_step ?_ | refine sl_step ?_ | refine hp_step ?_ | refine guard_no (by decide) ?_ | refine guard_go ?_ | refine guard_old ?_ | apply cut_auto | with_reducible exact CutS.mk (Or.inl ⟨rfl, rfl, rfl⟩) | refine CutS.mk (Or.inr (sub_auto ?_)) | exact trivial | refine And.intro ?_ ?_ | (refine cond_split ?_ ?_ <;> intro _ <;> first | (exfalso; first | omega | (simp only [decide_eq_true_eq, decide_eq_false_iff_not, Bool.not_eq_true', Bool.not_eq_false', ne_eq, Bool.not_true, Bool.not_false, cond_true, cond_false, Bool.true_eq_false, Bool.false_eq_true, Bool.and_eq_true, Bool.and_eq_false_iff] at *; omega)) | skip) | apply guess | exact Or.inl rfl | exact Or.inr rfl | exact Side.mk trivial | exact Side.mk (fun h => h) | exact Side.mk (fun h => ⟨h, h⟩) | with_reducible exact Side.mk rfl | with_reducible exact Side.mk ⟨rfl, rfl⟩ | with_reducible exact Side.mk (by assumption) | with_reducible rfl | intro _)
                all_goals try (conv => whnf)
                all_goals try (refine Side.mk ?_; first | (intros; omega) | (intro h1_ h2_; rw [h1_, h2_]; rfl) | (show List.length (_ ++ _) ≤ _; simp only [List.length_append, List.length_cons, List.length_nil, List.length_replicate, List.length_take]; omega) | (simp_all; done) | (simp_all; omega))
                have hml : ten = true → (decide (0 < m) = decide (0 < l)) := fun ht => by
                  rw [ht, if_pos rfl] at hm
                  refine decide_eq_decide.2 ?_
                  omega
                rw [decide_eq_true hsum, ← hten]
                clear hten hm
                cases ten
                · rfl
                · rw [hml rfl]
                  simp
  · rw [show (decide (48 < (bs.length : Int)) || decide (48 < (cs.length : Int))) = true by rw [Bool.or_eq_true, decide_eq_true_eq, decide_eq_true_eq]; omega] at k0
    repeat' ((conv => whnf); first | done | refine ev_step ?_ | refine ops_step ?_ | refine scan_step ?_ | refine draw_step ?_ | refine each_step ?_ | refine sl_step ?_ | refine hp_step ?_ | refine guard_no (by decide) ?_ | refine guard_go ?_ | refine guard_old ?_ | apply cut_auto | with_reducible exact CutS.mk (Or.inl ⟨rfl, rfl, rfl⟩) | refine CutS.mk (Or.inr (sub_auto ?_)) | exact trivial | refine And.intro ?_ ?_ | (refine cond_split ?_ ?_ <;> intro _ <;> first | (exfalso; first | omega | (simp only [decide_eq_true_eq, decide_eq_false_iff_not, Bool.not_eq_true', Bool.not_eq_false', ne_eq, Bool.not_true, Bool.not_false, cond_true, cond_false, Bool.true_eq_false, Bool.false_eq_true, Bool.and_eq_true, Bool.and_eq_false_iff] at *; omega)) | skip) | apply guess | apply FnIs.useF (k0) | exact Or.inl rfl | exact Or.inr rfl | exact Side.mk trivial | exact Side.mk (fun h => h) | exact Side.mk (fun h => ⟨h, h⟩) | with_reducible exact Side.mk rfl | with_reducible exact Side.mk ⟨rfl, rfl⟩ | with_reducible exact Side.mk (by assumption) | with_reducible rfl | intro _)
    all_goals try (conv => whnf)
    all_goals first | rfl | trace_state
end Go.Sx.U
