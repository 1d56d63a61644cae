/-
  Chapter 8: overflows, the program's way (contracts).
-/
import Derived.Test.YtpbmikcicibfcaaG18
namespace Go.Sx.U
set_option linter.unusedVariables false
set_option linter.unusedSimpArgs false
set_option maxRecDepth 100000
set_option maxHeartbeats 8000000
open Go Go.Sx Go.Proofs Go.Sx.M8

/-- The objects of a grid of uses that is held beside another grid. -/
abbrev useB (h : Nat) (U : UU) : Heap := [(6, .flat false (.rows 5 0 h)), (5, .nestI false .i64 U.1), (8, .flat false (.rows 7 0 (h - 1))), (7, .nestI false .i64 U.2)]
abbrev boxU : Nat × AObj := (9, .flat false (.gen 2 [[.sl 6 [], .sl 8 []]]))
theorem k_over1 (u r z : Int) (h : Side (-1000000000 ≤ u ∧ u ≤ 1000000000 ∧ -1000000000 ≤ r ∧ r ≤ 1000000000 ∧ -1000000000 ≤ z ∧ z ≤ 1000000000)) : FnIs Try.prog 97 [.int .i64 u, .int .i64 r, .ptr 0 [] 0 0] 1 [(0, .flat true (.gen 1 [[.int .i64 z]]))] (.tuple []) 1 [(0, .flat true (.gen 1 [[.int .i64 (z + max (u - r) 0)]]))] := by
  have := h.h
  refine fn_of_ev tok Try.func97 rfl rfl rfl ?_
  repeat' ((conv => whnf); first | done | refine ev_step ?_ | refine ops_step ?_ | refine scan_step ?_ | refine draw_step ?_ | refine each_step ?_ | refine sl_step ?_ | refine hp_step ?_ | refine guard_no (by decide) ?_ | refine guard_go ?_ | refine guard_old ?_ | apply cut_auto | with_reducible exact CutS.mk (Or.inl ⟨rfl, rfl, rfl⟩) | refine CutS.mk (Or.inr (sub_auto ?_)) | exact trivial | refine And.intro ?_ ?_ | refine cond_split ?_ ?_ | apply guess | exact Or.inl rfl | exact Or.inr rfl | exact Side.mk trivial | exact Side.mk (fun h => h) | exact Side.mk (fun h => ⟨h, h⟩) | with_reducible exact Side.mk rfl | with_reducible exact Side.mk ⟨rfl, rfl⟩ | with_reducible exact Side.mk (by assumption) | with_reducible rfl | intro _)
  all_goals try (conv => whnf)
  all_goals try (refine Side.mk ?_; first | (intros; omega) | (intro h1_ h2_; rw [h1_, h2_]; rfl) | (show List.length (_ ++ _) ≤ _; simp only [List.length_append, List.length_cons, List.length_nil, List.length_replicate, List.length_take]; omega) | (simp_all; done) | (simp_all; omega))
  all_goals first | rfl | omega | trace_state
theorem k_full1 (u r : Int) (zs : List Int) (h : Side (-1000000000 ≤ u ∧ u ≤ 1000000000 ∧ -1000000000 ≤ r ∧ r ≤ 1000000000 ∧ zs.length ≤ 1000000)) : FnIs Try.prog 62 [.int .i64 u, .int .i64 r, .ptr 0 [] 0 0] 2 [(0, .flat true (.gen 1 [[.sl 1 []]])), (1, .flat true (.ints .i64 zs))] (.tuple []) 3 [(0, .flat true (.gen 1 [[.sl 2 []]])), (2, .flat true (.ints .i64 (zs ++ [u - r])))] := by
  have := h.h
  refine fn_of_ev tok Try.func62 rfl rfl rfl ?_
  repeat' ((conv => whnf); first | done | refine ev_step ?_ | refine ops_step ?_ | refine scan_step ?_ | refine draw_step ?_ | refine each_step ?_ | refine sl_step ?_ | refine hp_step ?_ | refine guard_no (by decide) ?_ | refine guard_go ?_ | refine guard_old ?_ | apply cut_auto | with_reducible exact CutS.mk (Or.inl ⟨rfl, rfl, rfl⟩) | refine CutS.mk (Or.inr (sub_auto ?_)) | exact trivial | refine And.intro ?_ ?_ | refine cond_split ?_ ?_ | apply guess | exact Or.inl rfl | exact Or.inr rfl | exact Side.mk trivial | exact Side.mk (fun h => h) | exact Side.mk (fun h => ⟨h, h⟩) | with_reducible exact Side.mk rfl | with_reducible exact Side.mk ⟨rfl, rfl⟩ | with_reducible exact Side.mk (by assumption) | with_reducible rfl | intro _)
  all_goals try (conv => whnf)
  all_goals try (refine Side.mk ?_; first | (intros; omega) | (intro h1_ h2_; rw [h1_, h2_]; rfl) | (show List.length (_ ++ _) ≤ _; simp only [List.length_append, List.length_cons, List.length_nil, List.length_replicate, List.length_take]; omega) | (simp_all; done) | (simp_all; omega))
  all_goals first | rfl | omega | trace_state
/-- What a walk over uses and rooms may rely on. -/
structure EachOK (A V : List (List Int)) (U : UU) : Prop where
  ha : A.length ≤ 8 ∧ 1 ≤ A.length
  la : U.1.length = A.length
  hv : V.length = A.length - 1
  lv : U.2.length = A.length - 1
  ra : ∀ y, y < A.length → (A.getD y []).length ≤ 8 ∧ (U.1.getD y []).length = (A.getD y []).length ∧ ∀ x, x < (A.getD y []).length → (0 ≤ (A.getD y []).getD x 0 ∧ (A.getD y []).getD x 0 ≤ 20) ∧ -100000 ≤ (U.1.getD y []).getD x 0 ∧ (U.1.getD y []).getD x 0 ≤ 100000
  rv : ∀ y, y < V.length → (V.getD y []).length ≤ 8 ∧ (U.2.getD y []).length = (V.getD y []).length ∧ ∀ x, x < (V.getD y []).length → (0 ≤ (V.getD y []).getD x 0 ∧ (V.getD y []).getD x 0 ≤ 20) ∧ -100000 ≤ (U.2.getD y []).getD x 0 ∧ (U.2.getD y []).getD x 0 ≤ 100000
  ba : ∀ y, y ≤ A.length → 0 ≤ overT A U.1 y ∧ overT A U.1 y ≤ 100000 * 8 * y
  bv : ∀ y, y ≤ V.length → 0 ≤ overT V U.2 y ∧ overT V U.2 y ≤ 100000 * 8 * y
  ca : ∀ y, y < A.length → ∀ x, x ≤ (A.getD y []).length → 0 ≤ overR (A.getD y []) (U.1.getD y []) x ∧ overR (A.getD y []) (U.1.getD y []) x ≤ 100000 * x
  cv : ∀ y, y < V.length → ∀ x, x ≤ (V.getD y []).length → 0 ≤ overR (V.getD y []) (U.2.getD y []) x ∧ overR (V.getD y []) (U.2.getD y []) x ≤ 100000 * x
theorem dims_mono {w h : Nat} {m m' : Int} {U : UU} (hU : Dims w h m U) (hm : m ≤ m') : Dims w h m' U := ⟨rows_mono hU.a hm, rows_mono hU.u hm⟩
theorem each_ok {A V : List (List Int)} (hg : gridB A V = true) {m : Int} {U : UU} (hm : m ≤ 100000) (hU : Dims (wN A) A.length m U) : EachOK A V U := by
  obtain ⟨g1, g2, g3⟩ := gridB_len hg
  rw [wN_wd] at g3
  have hU := dims_mono hU hm
  obtain ⟨r1, r2, r3⟩ := grid_room hg
  obtain ⟨b1, b2, b3, b4⟩ := over_bdA hg (m := 100000) (by omega) hU
  have ll := hU.u.len
  refine ⟨⟨by omega, by omega⟩, hU.a.len, r2, hU.u.len, fun y hy => ⟨by rw [(r1 y hy).1]; omega, by rw [(r1 y hy).1]; exact hU.a.each y hy, fun x hx => ⟨(r1 y hy).2 x hx, hU.a.bd y hy x (by rw [(r1 y hy).1] at hx; exact hx)⟩⟩, fun y hy => ⟨by rw [(r3 y hy).1]; omega, by rw [(r3 y hy).1]; exact hU.u.each y (by omega), fun x hx => ⟨(r3 y hy).2 x hx, hU.u.bd y (by omega) x (by rw [(r3 y hy).1] at hx; exact hx)⟩⟩, b1, b2, b3, b4⟩
theorem k_eachOver (A V : List (List Int)) (U : UU) (h : EachOK A V U) : FnIs Try.prog 61 [.ptr 4 [] 0 0, .ptr 9 [] 0 0, .func 97 [.ptr 10 [] 0 0]] 11 ((10, .flat true (.gen 1 [[.int .i64 0]])) :: boxG :: boxU :: (useB A.length U ++ gridH false A V)) (.tuple []) 11 [(10, .flat true (.gen 1 [[.int .i64 (overV A V U)]]))] := by
  obtain ⟨⟨h1, h1'⟩, h2, h3, h4, ra, rv, ba, bv, ca, cv⟩ := h
  unfold overV
  refine fn_of_ev tok Try.func61 rfl rfl rfl ?_
  repeat' ((conv => whnf); first | done | refine ev_step ?_ | refine ops_step ?_ | refine scan_step ?_ | refine draw_step ?_ | refine each_step ?_ | refine sl_step ?_ | refine hp_step ?_ | refine guard_no (by decide) ?_ | refine guard_go ?_ | refine guard_old ?_ | apply cut_auto | with_reducible exact CutS.mk (Or.inl ⟨rfl, rfl, rfl⟩) | refine CutS.mk (Or.inr (sub_auto ?_)) | exact trivial | refine And.intro ?_ ?_ | refine cond_split ?_ ?_ | apply guess | exact Or.inl rfl | exact Or.inr rfl | exact Side.mk trivial | exact Side.mk (fun h => h) | exact Side.mk (fun h => ⟨h, h⟩) | with_reducible exact Side.mk rfl | with_reducible exact Side.mk ⟨rfl, rfl⟩ | with_reducible exact Side.mk (by assumption) | with_reducible rfl | intro _)
  all_goals try (conv => whnf)
  all_goals try (refine Side.mk ?_; first | (intros; omega) | (intro h1_ h2_; rw [h1_, h2_]; rfl) | (show List.length (_ ++ _) ≤ _; simp only [List.length_append, List.length_cons, List.length_nil, List.length_replicate, List.length_take]; omega) | (simp_all; done) | (simp_all; omega))
  refine loop_at (fun y : Nat => y ≤ A.length) 11 (fun y => [(19, .int .i64 y), (6, .top), (7, .top), (8, .top), (9, .top)]) (fun y => [(10, .flat true (.gen 1 [[.int .i64 (overT A U.1 y)]]))]) (fun y => A.length - y) 0 (Nat.zero_le _) ?_ (fun y hy => ?_)
  · repeat' ((conv => whnf); first | done | refine ev_step ?_ | refine ops_step ?_ | refine scan_step ?_ | refine draw_step ?_ | refine each_step ?_ | refine sl_step ?_ | refine hp_step ?_ | refine guard_no (by decide) ?_ | refine guard_go ?_ | refine guard_old ?_ | apply cut_auto | with_reducible exact CutS.mk (Or.inl ⟨rfl, rfl, rfl⟩) | refine CutS.mk (Or.inr (sub_auto ?_)) | exact trivial | refine And.intro ?_ ?_ | refine cond_split ?_ ?_ | apply guess | exact Or.inl rfl | exact Or.inr rfl | exact Side.mk trivial | exact Side.mk (fun h => h) | exact Side.mk (fun h => ⟨h, h⟩) | with_reducible exact Side.mk rfl | with_reducible exact Side.mk ⟨rfl, rfl⟩ | with_reducible exact Side.mk (by assumption) | with_reducible rfl | intro _)
    all_goals try (conv => whnf)
    all_goals first | rfl | (simp; done) | trace_state
  · have b1 := ba y hy
    by_cases hyt : y < A.length
    · have hq := ra y hyt
      have hry := ca y hyt
      have b2 := ba (y + 1) hyt
      have hs : overT A U.1 (y + 1) = overT A U.1 y + overR (A.getD y []) (U.1.getD y []) (A.getD y []).length := rfl
      have hsx : ∀ x, overR (A.getD y []) (U.1.getD y []) (x + 1) = overR (A.getD y []) (U.1.getD y []) x + max ((U.1.getD y []).getD x 0 - (A.getD y []).getD x 0) 0 := fun x => rfl
      have hx0 : overR (A.getD y []) (U.1.getD y []) 0 = 0 := rfl
      repeat' ((conv => whnf); first | done | refine ev_step ?_ | refine ops_step ?_ | refine scan_step ?_ | refine draw_step ?_ | refine each_step ?_ | refine sl_step ?_ | refine hp_step ?_ | refine guard_no (by decide) ?_ | refine guard_go ?_ | refine guard_old ?_ | apply cut_auto | with_reducible exact CutS.mk (Or.inl ⟨rfl, rfl, rfl⟩) | refine CutS.mk (Or.inr (sub_auto ?_)) | exact trivial | refine And.intro ?_ ?_ | (refine cond_split ?_ ?_ <;> intro _ <;> first | (exfalso; first | omega | (simp only [decide_eq_true_eq, decide_eq_false_iff_not, Bool.not_eq_true', Bool.not_eq_false', ne_eq, Bool.not_true, Bool.not_false, cond_true, cond_false, Bool.true_eq_false, Bool.false_eq_true, Bool.and_eq_true, Bool.and_eq_false_iff] at *; omega)) | skip) | apply guess | exact Or.inl rfl | exact Or.inr rfl | exact Side.mk trivial | exact Side.mk (fun h => h) | exact Side.mk (fun h => ⟨h, h⟩) | with_reducible exact Side.mk rfl | with_reducible exact Side.mk ⟨rfl, rfl⟩ | with_reducible exact Side.mk (by assumption) | with_reducible rfl | intro _)
      all_goals try (conv => whnf)
      all_goals try simp only [Int.toNat_natCast, decide_eq_true_eq, decide_eq_false_iff_not] at *
      all_goals try (refine Side.mk ?_; first | (intros; omega) | (intro h1_ h2_; rw [h1_, h2_]; rfl) | (show List.length (_ ++ _) ≤ _; simp only [List.length_append, List.length_cons, List.length_nil, List.length_replicate, List.length_take]; omega) | (simp_all; done) | (simp_all; omega))
      all_goals try omega
      refine loop_at (fun x : Nat => x ≤ (A.getD y []).length) 11 (fun x => [(26, .int .i64 x), (8, .top), (9, .top)]) (fun x => [(10, .flat true (.gen 1 [[.int .i64 (overT A U.1 y + overR (A.getD y []) (U.1.getD y []) x)]]))]) (fun x => (A.getD y []).length - x) 0 (Nat.zero_le _) ?_ (fun x hx => ?_)
      · repeat' ((conv => whnf); first | done | refine ev_step ?_ | refine ops_step ?_ | refine scan_step ?_ | refine draw_step ?_ | refine each_step ?_ | refine sl_step ?_ | refine hp_step ?_ | refine guard_no (by decide) ?_ | refine guard_go ?_ | refine guard_old ?_ | apply cut_auto | with_reducible exact CutS.mk (Or.inl ⟨rfl, rfl, rfl⟩) | refine CutS.mk (Or.inr (sub_auto ?_)) | exact trivial | refine And.intro ?_ ?_ | refine cond_split ?_ ?_ | apply guess | exact Or.inl rfl | exact Or.inr rfl | exact Side.mk trivial | exact Side.mk (fun h => h) | exact Side.mk (fun h => ⟨h, h⟩) | with_reducible exact Side.mk rfl | with_reducible exact Side.mk ⟨rfl, rfl⟩ | with_reducible exact Side.mk (by assumption) | with_reducible rfl | intro _)
        all_goals try (conv => whnf)
        all_goals first | rfl | (rw [hx0, Int.add_zero]; done) | trace_state
      · have c1 := hry x hx
        by_cases hxt : x < (A.getD y []).length
        · have hv := hq.2.2 x hxt
          have c2 := hry (x + 1) hxt
          have hsxx := hsx x
          have km := k_over1 ((U.1.getD y []).getD x 0) ((A.getD y []).getD x 0) (overT A U.1 y + overR (A.getD y []) (U.1.getD y []) x) ⟨by omega⟩
          repeat' ((conv => whnf); first | done | refine ev_step ?_ | refine ops_step ?_ | refine scan_step ?_ | refine draw_step ?_ | refine each_step ?_ | refine sl_step ?_ | refine hp_step ?_ | refine guard_no (by decide) ?_ | refine guard_go ?_ | refine guard_old ?_ | apply cut_auto | with_reducible exact CutS.mk (Or.inl ⟨rfl, rfl, rfl⟩) | refine CutS.mk (Or.inr (sub_auto ?_)) | exact trivial | refine And.intro ?_ ?_ | (refine cond_split ?_ ?_ <;> intro _ <;> first | (exfalso; first | omega | (simp only [decide_eq_true_eq, decide_eq_false_iff_not, Bool.not_eq_true', Bool.not_eq_false', ne_eq, Bool.not_true, Bool.not_false, cond_true, cond_false, Bool.true_eq_false, Bool.false_eq_true, Bool.and_eq_true, Bool.and_eq_false_iff] at *; omega)) | skip) | apply guess | apply FnIs.useF (km) | exact Or.inl rfl | exact Or.inr rfl | exact Side.mk trivial | exact Side.mk (fun h => h) | exact Side.mk (fun h => ⟨h, h⟩) | with_reducible exact Side.mk rfl | with_reducible exact Side.mk ⟨rfl, rfl⟩ | with_reducible exact Side.mk (by assumption) | with_reducible rfl | intro _)
          all_goals try (conv => whnf)
          all_goals try simp only [Int.toNat_natCast, decide_eq_true_eq, decide_eq_false_iff_not] at *
          all_goals try (refine Side.mk ?_; first | (intros; omega) | (intro h1_ h2_; rw [h1_, h2_]; rfl) | (show List.length (_ ++ _) ≤ _; simp only [List.length_append, List.length_cons, List.length_nil, List.length_replicate, List.length_take]; omega) | (simp_all; done) | (simp_all; omega))
          all_goals try omega
          refine ⟨x + 1, by omega, by omega, ?_⟩
          repeat' ((conv => whnf); first | done | refine ev_step ?_ | refine ops_step ?_ | refine scan_step ?_ | refine draw_step ?_ | refine each_step ?_ | refine sl_step ?_ | refine hp_step ?_ | refine guard_no (by decide) ?_ | refine guard_go ?_ | refine guard_old ?_ | apply cut_auto | with_reducible exact CutS.mk (Or.inl ⟨rfl, rfl, rfl⟩) | refine CutS.mk (Or.inr (sub_auto ?_)) | exact trivial | refine And.intro ?_ ?_ | refine cond_split ?_ ?_ | apply guess | exact Or.inl rfl | exact Or.inr rfl | exact Side.mk trivial | exact Side.mk (fun h => h) | exact Side.mk (fun h => ⟨h, h⟩) | with_reducible exact Side.mk rfl | with_reducible exact Side.mk ⟨rfl, rfl⟩ | with_reducible exact Side.mk (by assumption) | with_reducible rfl | intro _)
          all_goals try (conv => whnf)
          all_goals first | rfl | omega | (rw [hsxx, Int.add_assoc]; done) | trace_state
        · obtain rfl : x = (A.getD y []).length := by omega
          repeat' ((conv => whnf); first | done | refine ev_step ?_ | refine ops_step ?_ | refine scan_step ?_ | refine draw_step ?_ | refine each_step ?_ | refine sl_step ?_ | refine hp_step ?_ | refine guard_no (by decide) ?_ | refine guard_go ?_ | refine guard_old ?_ | apply cut_auto | with_reducible exact CutS.mk (Or.inl ⟨rfl, rfl, rfl⟩) | refine CutS.mk (Or.inr (sub_auto ?_)) | exact trivial | refine And.intro ?_ ?_ | (refine cond_split ?_ ?_ <;> intro _ <;> first | (exfalso; first | omega | (simp only [decide_eq_true_eq, decide_eq_false_iff_not, Bool.not_eq_true', Bool.not_eq_false', ne_eq, Bool.not_true, Bool.not_false, cond_true, cond_false, Bool.true_eq_false, Bool.false_eq_true, Bool.and_eq_true, Bool.and_eq_false_iff] at *; omega)) | skip) | apply guess | exact Or.inl rfl | exact Or.inr rfl | exact Side.mk trivial | exact Side.mk (fun h => h) | exact Side.mk (fun h => ⟨h, h⟩) | with_reducible exact Side.mk rfl | with_reducible exact Side.mk ⟨rfl, rfl⟩ | with_reducible exact Side.mk (by assumption) | with_reducible rfl | intro _)
          all_goals try (conv => whnf)
          all_goals try simp only [Int.toNat_natCast, decide_eq_true_eq, decide_eq_false_iff_not] at *
          all_goals try (refine Side.mk ?_; first | (intros; omega) | (intro h1_ h2_; rw [h1_, h2_]; rfl) | (show List.length (_ ++ _) ≤ _; simp only [List.length_append, List.length_cons, List.length_nil, List.length_replicate, List.length_take]; omega) | (simp_all; done) | (simp_all; omega))
          all_goals try omega
          refine ⟨y + 1, by omega, by omega, ?_⟩
          repeat' ((conv => whnf); first | done | refine ev_step ?_ | refine ops_step ?_ | refine scan_step ?_ | refine draw_step ?_ | refine each_step ?_ | refine sl_step ?_ | refine hp_step ?_ | refine guard_no (by decide) ?_ | refine guard_go ?_ | refine guard_old ?_ | apply cut_auto | with_reducible exact CutS.mk (Or.inl ⟨rfl, rfl, rfl⟩) | refine CutS.mk (Or.inr (sub_auto ?_)) | exact trivial | refine And.intro ?_ ?_ | refine cond_split ?_ ?_ | apply guess | exact Or.inl rfl | exact Or.inr rfl | exact Side.mk trivial | exact Side.mk (fun h => h) | exact Side.mk (fun h => ⟨h, h⟩) | with_reducible exact Side.mk rfl | with_reducible exact Side.mk ⟨rfl, rfl⟩ | with_reducible exact Side.mk (by assumption) | with_reducible rfl | intro _)
          all_goals try (conv => whnf)
          all_goals first | rfl | omega | (rw [hs]; done) | trace_state
    · obtain rfl : y = A.length := by omega
      repeat' ((conv => whnf); first | done | refine ev_step ?_ | refine ops_step ?_ | refine scan_step ?_ | refine draw_step ?_ | refine each_step ?_ | refine sl_step ?_ | refine hp_step ?_ | refine guard_no (by decide) ?_ | refine guard_go ?_ | refine guard_old ?_ | apply cut_auto | with_reducible exact CutS.mk (Or.inl ⟨rfl, rfl, rfl⟩) | refine CutS.mk (Or.inr (sub_auto ?_)) | exact trivial | refine And.intro ?_ ?_ | (refine cond_split ?_ ?_ <;> intro _ <;> first | (exfalso; first | omega | (simp only [decide_eq_true_eq, decide_eq_false_iff_not, Bool.not_eq_true', Bool.not_eq_false', ne_eq, Bool.not_true, Bool.not_false, cond_true, cond_false, Bool.true_eq_false, Bool.false_eq_true, Bool.and_eq_true, Bool.and_eq_false_iff] at *; omega)) | skip) | apply guess | exact Or.inl rfl | exact Or.inr rfl | exact Side.mk trivial | exact Side.mk (fun h => h) | exact Side.mk (fun h => ⟨h, h⟩) | with_reducible exact Side.mk rfl | with_reducible exact Side.mk ⟨rfl, rfl⟩ | with_reducible exact Side.mk (by assumption) | with_reducible rfl | intro _)
      all_goals try (conv => whnf)
      all_goals try (refine Side.mk ?_; first | (intros; omega) | (intro h1_ h2_; rw [h1_, h2_]; rfl) | (show List.length (_ ++ _) ≤ _; simp only [List.length_append, List.length_cons, List.length_nil, List.length_replicate, List.length_take]; omega) | (simp_all; done) | (simp_all; omega))
      all_goals try omega
      refine loop_at (fun y : Nat => y ≤ V.length) 11 (fun y => [(51, .int .i64 y), (10, .top), (11, .top), (12, .top), (13, .top)]) (fun y => [(10, .flat true (.gen 1 [[.int .i64 (overT A U.1 A.length + overT V U.2 y)]]))]) (fun y => V.length - y) 0 (Nat.zero_le _) ?_ (fun y hy => ?_)
      · repeat' ((conv => whnf); first | done | refine ev_step ?_ | refine ops_step ?_ | refine scan_step ?_ | refine draw_step ?_ | refine each_step ?_ | refine sl_step ?_ | refine hp_step ?_ | refine guard_no (by decide) ?_ | refine guard_go ?_ | refine guard_old ?_ | apply cut_auto | with_reducible exact CutS.mk (Or.inl ⟨rfl, rfl, rfl⟩) | refine CutS.mk (Or.inr (sub_auto ?_)) | exact trivial | refine And.intro ?_ ?_ | refine cond_split ?_ ?_ | apply guess | exact Or.inl rfl | exact Or.inr rfl | exact Side.mk trivial | exact Side.mk (fun h => h) | exact Side.mk (fun h => ⟨h, h⟩) | with_reducible exact Side.mk rfl | with_reducible exact Side.mk ⟨rfl, rfl⟩ | with_reducible exact Side.mk (by assumption) | with_reducible rfl | intro _)
        all_goals try (conv => whnf)
        all_goals first | rfl | (simp [overT]; done) | trace_state
      · have d1 := bv y hy
        by_cases hyt : y < V.length
        · have hq := rv y hyt
          have hry := cv y hyt
          have d2 := bv (y + 1) hyt
          have hs : overT V U.2 (y + 1) = overT V U.2 y + overR (V.getD y []) (U.2.getD y []) (V.getD y []).length := rfl
          have hsx : ∀ x, overR (V.getD y []) (U.2.getD y []) (x + 1) = overR (V.getD y []) (U.2.getD y []) x + max ((U.2.getD y []).getD x 0 - (V.getD y []).getD x 0) 0 := fun x => rfl
          have hx0 : overR (V.getD y []) (U.2.getD y []) 0 = 0 := rfl
          repeat' ((conv => whnf); first | done | refine ev_step ?_ | refine ops_step ?_ | refine scan_step ?_ | refine draw_step ?_ | refine each_step ?_ | refine sl_step ?_ | refine hp_step ?_ | refine guard_no (by decide) ?_ | refine guard_go ?_ | refine guard_old ?_ | apply cut_auto | with_reducible exact CutS.mk (Or.inl ⟨rfl, rfl, rfl⟩) | refine CutS.mk (Or.inr (sub_auto ?_)) | exact trivial | refine And.intro ?_ ?_ | (refine cond_split ?_ ?_ <;> intro _ <;> first | (exfalso; first | omega | (simp only [decide_eq_true_eq, decide_eq_false_iff_not, Bool.not_eq_true', Bool.not_eq_false', ne_eq, Bool.not_true, Bool.not_false, cond_true, cond_false, Bool.true_eq_false, Bool.false_eq_true, Bool.and_eq_true, Bool.and_eq_false_iff] at *; omega)) | skip) | apply guess | exact Or.inl rfl | exact Or.inr rfl | exact Side.mk trivial | exact Side.mk (fun h => h) | exact Side.mk (fun h => ⟨h, h⟩) | with_reducible exact Side.mk rfl | with_reducible exact Side.mk ⟨rfl, rfl⟩ | with_reducible exact Side.mk (by assumption) | with_reducible rfl | intro _)
          all_goals try (conv => whnf)
          all_goals try simp only [Int.toNat_natCast, decide_eq_true_eq, decide_eq_false_iff_not] at *
          all_goals try (refine Side.mk ?_; first | (intros; omega) | (intro h1_ h2_; rw [h1_, h2_]; rfl) | (show List.length (_ ++ _) ≤ _; simp only [List.length_append, List.length_cons, List.length_nil, List.length_replicate, List.length_take]; omega) | (simp_all; done) | (simp_all; omega))
          all_goals try omega
          refine loop_at (fun x : Nat => x ≤ (V.getD y []).length) 11 (fun x => [(58, .int .i64 x), (12, .top), (13, .top)]) (fun x => [(10, .flat true (.gen 1 [[.int .i64 (overT A U.1 A.length + overT V U.2 y + overR (V.getD y []) (U.2.getD y []) x)]]))]) (fun x => (V.getD y []).length - x) 0 (Nat.zero_le _) ?_ (fun x hx => ?_)
          · repeat' ((conv => whnf); first | done | refine ev_step ?_ | refine ops_step ?_ | refine scan_step ?_ | refine draw_step ?_ | refine each_step ?_ | refine sl_step ?_ | refine hp_step ?_ | refine guard_no (by decide) ?_ | refine guard_go ?_ | refine guard_old ?_ | apply cut_auto | with_reducible exact CutS.mk (Or.inl ⟨rfl, rfl, rfl⟩) | refine CutS.mk (Or.inr (sub_auto ?_)) | exact trivial | refine And.intro ?_ ?_ | refine cond_split ?_ ?_ | apply guess | exact Or.inl rfl | exact Or.inr rfl | exact Side.mk trivial | exact Side.mk (fun h => h) | exact Side.mk (fun h => ⟨h, h⟩) | with_reducible exact Side.mk rfl | with_reducible exact Side.mk ⟨rfl, rfl⟩ | with_reducible exact Side.mk (by assumption) | with_reducible rfl | intro _)
            all_goals try (conv => whnf)
            all_goals first | rfl | (rw [hx0, Int.add_zero]; done) | trace_state
          · have c1 := hry x hx
            by_cases hxt : x < (V.getD y []).length
            · have hv := hq.2.2 x hxt
              have c2 := hry (x + 1) hxt
              have hsxx := hsx x
              have km := k_over1 ((U.2.getD y []).getD x 0) ((V.getD y []).getD x 0) (overT A U.1 A.length + overT V U.2 y + overR (V.getD y []) (U.2.getD y []) x) ⟨by omega⟩
              repeat' ((conv => whnf); first | done | refine ev_step ?_ | refine ops_step ?_ | refine scan_step ?_ | refine draw_step ?_ | refine each_step ?_ | refine sl_step ?_ | refine hp_step ?_ | refine guard_no (by decide) ?_ | refine guard_go ?_ | refine guard_old ?_ | apply cut_auto | with_reducible exact CutS.mk (Or.inl ⟨rfl, rfl, rfl⟩) | refine CutS.mk (Or.inr (sub_auto ?_)) | exact trivial | refine And.intro ?_ ?_ | (refine cond_split ?_ ?_ <;> intro _ <;> first | (exfalso; first | omega | (simp only [decide_eq_true_eq, decide_eq_false_iff_not, Bool.not_eq_true', Bool.not_eq_false', ne_eq, Bool.not_true, Bool.not_false, cond_true, cond_false, Bool.true_eq_false, Bool.false_eq_true, Bool.and_eq_true, Bool.and_eq_false_iff] at *; omega)) | skip) | apply guess | apply FnIs.useF (km) | exact Or.inl rfl | exact Or.inr rfl | exact Side.mk trivial | exact Side.mk (fun h => h) | exact Side.mk (fun h => ⟨h, h⟩) | with_reducible exact Side.mk rfl | with_reducible exact Side.mk ⟨rfl, rfl⟩ | with_reducible exact Side.mk (by assumption) | with_reducible rfl | intro _)
              all_goals try (conv => whnf)
              all_goals try simp only [Int.toNat_natCast, decide_eq_true_eq, decide_eq_false_iff_not] at *
              all_goals try (refine Side.mk ?_; first | (intros; omega) | (intro h1_ h2_; rw [h1_, h2_]; rfl) | (show List.length (_ ++ _) ≤ _; simp only [List.length_append, List.length_cons, List.length_nil, List.length_replicate, List.length_take]; omega) | (simp_all; done) | (simp_all; omega))
              all_goals try omega
              refine ⟨x + 1, by omega, by omega, ?_⟩
              repeat' ((conv => whnf); first | done | refine ev_step ?_ | refine ops_step ?_ | refine scan_step ?_ | refine draw_step ?_ | refine each_step ?_ | refine sl_step ?_ | refine hp_step ?_ | refine guard_no (by decide) ?_ | refine guard_go ?_ | refine guard_old ?_ | apply cut_auto | with_reducible exact CutS.mk (Or.inl ⟨rfl, rfl, rfl⟩) | refine CutS.mk (Or.inr (sub_auto ?_)) | exact trivial | refine And.intro ?_ ?_ | refine cond_split ?_ ?_ | apply guess | exact Or.inl rfl | exact Or.inr rfl | exact Side.mk trivial | exact Side.mk (fun h => h) | exact Side.mk (fun h => ⟨h, h⟩) | with_reducible exact Side.mk rfl | with_reducible exact Side.mk ⟨rfl, rfl⟩ | with_reducible exact Side.mk (by assumption) | with_reducible rfl | intro _)
              all_goals try (conv => whnf)
              all_goals first | rfl | omega | (rw [hsxx, Int.add_assoc]; done) | (rw [hsxx]; omega) | trace_state
            · obtain rfl : x = (V.getD y []).length := by omega
              repeat' ((conv => whnf); first | done | refine ev_step ?_ | refine ops_step ?_ | refine scan_step ?_ | refine draw_step ?_ | refine each_step ?_ | refine sl_step ?_ | refine hp_step ?_ | refine guard_no (by decide) ?_ | refine guard_go ?_ | refine guard_old ?_ | apply cut_auto | with_reducible exact CutS.mk (Or.inl ⟨rfl, rfl, rfl⟩) | refine CutS.mk (Or.inr (sub_auto ?_)) | exact trivial | refine And.intro ?_ ?_ | (refine cond_split ?_ ?_ <;> intro _ <;> first | (exfalso; first | omega | (simp only [decide_eq_true_eq, decide_eq_false_iff_not, Bool.not_eq_true', Bool.not_eq_false', ne_eq, Bool.not_true, Bool.not_false, cond_true, cond_false, Bool.true_eq_false, Bool.false_eq_true, Bool.and_eq_true, Bool.and_eq_false_iff] at *; omega)) | skip) | apply guess | exact Or.inl rfl | exact Or.inr rfl | exact Side.mk trivial | exact Side.mk (fun h => h) | exact Side.mk (fun h => ⟨h, h⟩) | with_reducible exact Side.mk rfl | with_reducible exact Side.mk ⟨rfl, rfl⟩ | with_reducible exact Side.mk (by assumption) | with_reducible rfl | intro _)
              all_goals try (conv => whnf)
              all_goals try simp only [Int.toNat_natCast, decide_eq_true_eq, decide_eq_false_iff_not] at *
              all_goals try (refine Side.mk ?_; first | (intros; omega) | (intro h1_ h2_; rw [h1_, h2_]; rfl) | (show List.length (_ ++ _) ≤ _; simp only [List.length_append, List.length_cons, List.length_nil, List.length_replicate, List.length_take]; omega) | (simp_all; done) | (simp_all; omega))
              all_goals try omega
              refine ⟨y + 1, by omega, by omega, ?_⟩
              repeat' ((conv => whnf); first | done | refine ev_step ?_ | refine ops_step ?_ | refine scan_step ?_ | refine draw_step ?_ | refine each_step ?_ | refine sl_step ?_ | refine hp_step ?_ | refine guard_no (by decide) ?_ | refine guard_go ?_ | refine guard_old ?_ | apply cut_auto | with_reducible exact CutS.mk (Or.inl ⟨rfl, rfl, rfl⟩) | refine CutS.mk (Or.inr (sub_auto ?_)) | exact trivial | refine And.intro ?_ ?_ | refine cond_split ?_ ?_ | apply guess | exact Or.inl rfl | exact Or.inr rfl | exact Side.mk trivial | exact Side.mk (fun h => h) | exact Side.mk (fun h => ⟨h, h⟩) | with_reducible exact Side.mk rfl | with_reducible exact Side.mk ⟨rfl, rfl⟩ | with_reducible exact Side.mk (by assumption) | with_reducible rfl | intro _)
              all_goals try (conv => whnf)
              all_goals first | rfl | omega | (rw [hs]; omega) | trace_state
        · obtain rfl : y = V.length := by omega
          repeat' ((conv => whnf); first | done | refine ev_step ?_ | refine ops_step ?_ | refine scan_step ?_ | refine draw_step ?_ | refine each_step ?_ | refine sl_step ?_ | refine hp_step ?_ | refine guard_no (by decide) ?_ | refine guard_go ?_ | refine guard_old ?_ | apply cut_auto | with_reducible exact CutS.mk (Or.inl ⟨rfl, rfl, rfl⟩) | refine CutS.mk (Or.inr (sub_auto ?_)) | exact trivial | refine And.intro ?_ ?_ | (refine cond_split ?_ ?_ <;> intro _ <;> first | (exfalso; first | omega | (simp only [decide_eq_true_eq, decide_eq_false_iff_not, Bool.not_eq_true', Bool.not_eq_false', ne_eq, Bool.not_true, Bool.not_false, cond_true, cond_false, Bool.true_eq_false, Bool.false_eq_true, Bool.and_eq_true, Bool.and_eq_false_iff] at *; omega)) | skip) | apply guess | exact Or.inl rfl | exact Or.inr rfl | exact Side.mk trivial | exact Side.mk (fun h => h) | exact Side.mk (fun h => ⟨h, h⟩) | with_reducible exact Side.mk rfl | with_reducible exact Side.mk ⟨rfl, rfl⟩ | with_reducible exact Side.mk (by assumption) | with_reducible rfl | intro _)
          all_goals try (conv => whnf)
          all_goals try (refine Side.mk ?_; first | (intros; omega) | (intro h1_ h2_; rw [h1_, h2_]; rfl) | (show List.length (_ ++ _) ≤ _; simp only [List.length_append, List.length_cons, List.length_nil, List.length_replicate, List.length_take]; omega) | (simp_all; done) | (simp_all; omega))
          all_goals first | rfl | omega | trace_state
theorem k_overflow (A V : List (List Int)) (U : UU) (h : EachOK A V U) : FnIs Try.prog 55 [.ptr 4 [] 0 0, .ptr 9 [] 0 0] 10 (boxG :: boxU :: (useB A.length U ++ gridH false A V)) (.int .i64 (overV A V U)) 10 [] := by
  have k1 := k_eachOver A V U h
  generalize overV A V U = o at *
  refine fn_of_ev tok Try.func55 rfl rfl rfl ?_
  repeat' ((conv => whnf); first | done | refine ev_step ?_ | refine ops_step ?_ | refine scan_step ?_ | refine draw_step ?_ | refine each_step ?_ | refine sl_step ?_ | refine hp_step ?_ | refine guard_no (by decide) ?_ | refine guard_go ?_ | refine guard_old ?_ | apply cut_auto | with_reducible exact CutS.mk (Or.inl ⟨rfl, rfl, rfl⟩) | refine CutS.mk (Or.inr (sub_auto ?_)) | exact trivial | refine And.intro ?_ ?_ | refine cond_split ?_ ?_ | apply guess | apply FnIs.useF (k1) | exact Or.inl rfl | exact Or.inr rfl | exact Side.mk trivial | exact Side.mk (fun h => h) | exact Side.mk (fun h => ⟨h, h⟩) | with_reducible exact Side.mk rfl | with_reducible exact Side.mk ⟨rfl, rfl⟩ | with_reducible exact Side.mk (by assumption) | with_reducible rfl | intro _)
  all_goals try (conv => whnf)
  all_goals try (refine Side.mk ?_; first | (intros; omega) | (intro h1_ h2_; rw [h1_, h2_]; rfl) | (show List.length (_ ++ _) ≤ _; simp only [List.length_append, List.length_cons, List.length_nil, List.length_replicate, List.length_take]; omega) | (simp_all; done) | (simp_all; omega))
  all_goals first | rfl | trace_state
structure OverOK (R U : List (List Int)) (n : Nat) : Prop where
  hl : U.length = n
  h : Side (R.length ≤ 8 ∧ U.length = R.length ∧ (∀ y, y < R.length → (R.getD y []).length ≤ 8 ∧ (U.getD y []).length = (R.getD y []).length ∧ ∀ x, x < (R.getD y []).length → (0 ≤ (R.getD y []).getD x 0 ∧ (R.getD y []).getD x 0 ≤ 20) ∧ -100000 ≤ (U.getD y []).getD x 0 ∧ (U.getD y []).getD x 0 ≤ 100000))
  b : ∀ y, y ≤ R.length → 0 ≤ overT R U y ∧ overT R U y ≤ 100000 * 8 * y
  r : ∀ y, y < R.length → ∀ x, x ≤ (R.getD y []).length → 0 ≤ overR (R.getD y []) (U.getD y []) x ∧ overR (R.getD y []) (U.getD y []) x ≤ 100000 * x
theorem EachOK.a {A V : List (List Int)} {U : UU} (he : EachOK A V U) : OverOK A U.1 A.length := ⟨he.la, ⟨he.ha.1, he.la, he.ra⟩, he.ba, he.ca⟩
theorem EachOK.v {A V : List (List Int)} {U : UU} (he : EachOK A V U) : OverOK V U.2 (A.length - 1) := ⟨he.lv, ⟨by have := he.hv; have := he.ha; omega, by rw [he.lv, he.hv], he.rv⟩, he.bv, he.cv⟩
end Go.Sx.U
