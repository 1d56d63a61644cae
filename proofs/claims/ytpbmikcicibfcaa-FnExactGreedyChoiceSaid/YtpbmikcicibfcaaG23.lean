/-
  Chapter 8: the fullest edge: the law.
-/
import Derived.Test.YtpbmikcicibfcaaG22
namespace Go.Sx.U
set_option linter.unusedVariables false
set_option linter.unusedSimpArgs false
set_option maxRecDepth 100000
set_option maxHeartbeats 8000000
open Go Go.Sx Go.Proofs Go.Sx.M8

theorem take_succ_max {zs : List Int} {i : Nat} (h : i + 1 < zs.length) (m : Int) : maxF m ((zs.drop 1).take (i + 1)) = max (maxF m ((zs.drop 1).take i)) (zs.getD (i + 1) 0) := by
  rw [take_snoc 0 (by simp; omega), maxF_snoc]
  congr 1
  simp [List.getD, List.getElem?_drop, Nat.add_comm]
theorem k_Max (zs : List Int) (h : Side (1 ≤ zs.length ∧ zs.length ≤ 1000)) : FnIs Try.prog 63 [.sl 0 []] 1 [(0, .flat false (.ints .i64 zs))] (.int .i64 (maxF (zs.getD 0 0) (zs.drop 1))) 1 [] := by
  obtain ⟨h1, h2⟩ := h.h
  refine fn_of_ev tok Try.func63 rfl rfl rfl ?_
  repeat' ((conv => whnf); first | done | refine ev_step ?_ | refine ops_step ?_ | refine scan_step ?_ | refine draw_step ?_ | refine each_step ?_ | refine guard_no (by decide) ?_ | refine guard_go ?_ | apply cut_auto | with_reducible exact CutS.mk (Or.inl ⟨rfl, rfl, rfl⟩) | refine CutS.mk (Or.inr (sub_auto ?_)) | exact trivial | refine And.intro ?_ ?_ | (refine cond_split ?_ ?_ <;> intro _ <;> first | (exfalso; first | omega | (simp only [decide_eq_true_eq, decide_eq_false_iff_not, Bool.not_eq_true', Bool.not_eq_false', ne_eq, Bool.not_true, Bool.not_false, cond_true, cond_false, Bool.true_eq_false, Bool.false_eq_true, Bool.and_eq_true, Bool.and_eq_false_iff] at *; omega)) | skip) | apply guess | exact Or.inl rfl | exact Or.inr rfl | exact Side.mk trivial | exact Side.mk (fun h => h) | exact Side.mk (fun h => ⟨h, h⟩) | with_reducible exact Side.mk rfl | with_reducible exact Side.mk ⟨rfl, rfl⟩ | with_reducible exact Side.mk (by assumption) | with_reducible rfl | intro _)
  all_goals try (conv => whnf)
  all_goals try (refine Side.mk ?_; first | (intros; omega) | (show List.length (_ ++ _) ≤ _; simp only [List.length_append, List.length_cons, List.length_nil, List.length_replicate, List.length_take]; omega) | (simp_all; done) | (simp_all; omega))
  all_goals try omega
  refine loop_at (fun i : Nat => i + 1 ≤ zs.length) 1 (fun i => [(4, .int .i64 ((i : Int) + 1)), (3, .int .i64 (maxF (zs.getD 0 0) ((zs.drop 1).take i)))]) (fun _ => []) (fun i => zs.length - i) 0 (by omega) ?_ (fun i hi => ?_)
  · repeat' ((conv => whnf); first | done | refine ev_step ?_ | refine ops_step ?_ | refine scan_step ?_ | refine draw_step ?_ | refine each_step ?_ | refine guard_no (by decide) ?_ | refine guard_go ?_ | apply cut_auto | with_reducible exact CutS.mk (Or.inl ⟨rfl, rfl, rfl⟩) | refine CutS.mk (Or.inr (sub_auto ?_)) | exact trivial | refine And.intro ?_ ?_ | refine cond_split ?_ ?_ | apply guess | exact Or.inl rfl | exact Or.inr rfl | exact Side.mk trivial | exact Side.mk (fun h => h) | exact Side.mk (fun h => ⟨h, h⟩) | with_reducible exact Side.mk rfl | with_reducible exact Side.mk ⟨rfl, rfl⟩ | with_reducible exact Side.mk (by assumption) | with_reducible rfl | intro _)
    all_goals try (conv => whnf)
    all_goals first | rfl | (simp [maxF]; done) | trace_state
  · have e1 : ((i : Int) + 1).toNat = i + 1 := by omega
    by_cases hlt : i + 1 < zs.length
    · have hs := take_succ_max hlt (zs.getD 0 0)
      repeat' ((conv => whnf); first | done | refine ev_step ?_ | refine ops_step ?_ | refine scan_step ?_ | refine draw_step ?_ | refine each_step ?_ | refine guard_no (by decide) ?_ | refine guard_go ?_ | apply cut_auto | with_reducible exact CutS.mk (Or.inl ⟨rfl, rfl, rfl⟩) | refine CutS.mk (Or.inr (sub_auto ?_)) | exact trivial | refine And.intro ?_ ?_ | (refine cond_split ?_ ?_ <;> intro _ <;> first | (exfalso; first | omega | (simp only [decide_eq_true_eq, decide_eq_false_iff_not, Bool.not_eq_true', Bool.not_eq_false', ne_eq, Bool.not_true, Bool.not_false, cond_true, cond_false, Bool.true_eq_false, Bool.false_eq_true, Bool.and_eq_true, Bool.and_eq_false_iff] at *; omega)) | skip) | apply guess | exact Or.inl rfl | exact Or.inr rfl | exact Side.mk trivial | exact Side.mk (fun h => h) | exact Side.mk (fun h => ⟨h, h⟩) | with_reducible exact Side.mk rfl | with_reducible exact Side.mk ⟨rfl, rfl⟩ | with_reducible exact Side.mk (by assumption) | with_reducible rfl | intro _)
      all_goals try (conv => whnf)
      all_goals try rw [e1]
      all_goals try (refine Side.mk ?_; first | (intros; omega) | (show List.length (_ ++ _) ≤ _; simp only [List.length_append, List.length_cons, List.length_nil, List.length_replicate, List.length_take]; omega) | (simp_all; done) | (simp_all; omega))
      all_goals try omega
      refine ⟨i + 1, by omega, by omega, ?_⟩
      repeat' ((conv => whnf); first | done | refine ev_step ?_ | refine ops_step ?_ | refine scan_step ?_ | refine draw_step ?_ | refine each_step ?_ | refine guard_no (by decide) ?_ | refine guard_go ?_ | apply cut_auto | with_reducible exact CutS.mk (Or.inl ⟨rfl, rfl, rfl⟩) | refine CutS.mk (Or.inr (sub_auto ?_)) | exact trivial | refine And.intro ?_ ?_ | refine cond_split ?_ ?_ | apply guess | exact Or.inl rfl | exact Or.inr rfl | exact Side.mk trivial | exact Side.mk (fun h => h) | exact Side.mk (fun h => ⟨h, h⟩) | with_reducible exact Side.mk rfl | with_reducible exact Side.mk ⟨rfl, rfl⟩ | with_reducible exact Side.mk (by assumption) | with_reducible rfl | intro _)
      all_goals try (conv => whnf)
      all_goals first | rfl | omega | (rw [hs]; done) | trace_state
    · have hs : (zs.drop 1).take i = zs.drop 1 := List.take_of_length_le (by simp; omega)
      rw [hs]
      repeat' ((conv => whnf); first | done | refine ev_step ?_ | refine ops_step ?_ | refine scan_step ?_ | refine draw_step ?_ | refine each_step ?_ | refine guard_no (by decide) ?_ | refine guard_go ?_ | apply cut_auto | with_reducible exact CutS.mk (Or.inl ⟨rfl, rfl, rfl⟩) | refine CutS.mk (Or.inr (sub_auto ?_)) | exact trivial | refine And.intro ?_ ?_ | (refine cond_split ?_ ?_ <;> intro _ <;> first | (exfalso; first | omega | (simp only [decide_eq_true_eq, decide_eq_false_iff_not, Bool.not_eq_true', Bool.not_eq_false', ne_eq, Bool.not_true, Bool.not_false, cond_true, cond_false, Bool.true_eq_false, Bool.false_eq_true, Bool.and_eq_true, Bool.and_eq_false_iff] at *; omega)) | skip) | apply guess | exact Or.inl rfl | exact Or.inr rfl | exact Side.mk trivial | exact Side.mk (fun h => h) | exact Side.mk (fun h => ⟨h, h⟩) | with_reducible exact Side.mk rfl | with_reducible exact Side.mk ⟨rfl, rfl⟩ | with_reducible exact Side.mk (by assumption) | with_reducible rfl | intro _)
      all_goals try (conv => whnf)
      all_goals try (refine Side.mk ?_; first | (intros; omega) | (show List.length (_ ++ _) ≤ _; simp only [List.length_append, List.length_cons, List.length_nil, List.length_replicate, List.length_take]; omega) | (simp_all; done) | (simp_all; omega))
      all_goals first | rfl | omega | trace_state
structure MostOK (R U : List (List Int)) (n : Nat) : Prop where
  hl : U.length = n
  h : R.length ≤ 8 ∧ U.length = R.length ∧ (∀ y, y < R.length → (R.getD y []).length ≤ 8 ∧ (U.getD y []).length = (R.getD y []).length ∧ ∀ x, x < (R.getD y []).length → (0 ≤ (R.getD y []).getD x 0 ∧ (R.getD y []).getD x 0 ≤ 20) ∧ -100000 ≤ (U.getD y []).getD x 0 ∧ (U.getD y []).getD x 0 ≤ 100000)
theorem EachOK.ma {A V : List (List Int)} {U : UU} (he : EachOK A V U) : MostOK A U.1 A.length := ⟨he.la, he.ha.1, he.la, he.ra⟩
theorem EachOK.mv {A V : List (List Int)} {U : UU} (he : EachOK A V U) : MostOK V U.2 (A.length - 1) := ⟨he.lv, by have := he.hv; have := he.ha; omega, by rw [he.lv, he.hv], he.rv⟩
theorem k_l08Most (R U : List (List Int)) (n : Nat) (m : Int) (h : MostOK R U n) : FnIs Try.prog 60 [.sl 1 [], .sl 3 [], .int .i64 m] 4 [(1, .flat false (.rows 0 0 R.length)), (0, .nestI false .i64 R), (3, .flat false (.rows 2 0 n)), (2, .nestI false .i64 U)] (.int .i64 (maxF m (diffT R U R.length))) 4 [] := by
  obtain ⟨rfl, h1, h2, h3⟩ := h
  refine fn_of_ev tok Try.func60 rfl rfl rfl ?_
  repeat' ((conv => whnf); first | done | refine ev_step ?_ | refine ops_step ?_ | refine scan_step ?_ | refine draw_step ?_ | refine each_step ?_ | refine guard_no (by decide) ?_ | refine guard_go ?_ | apply cut_auto | with_reducible exact CutS.mk (Or.inl ⟨rfl, rfl, rfl⟩) | refine CutS.mk (Or.inr (sub_auto ?_)) | exact trivial | refine And.intro ?_ ?_ | refine cond_split ?_ ?_ | apply guess | exact Or.inl rfl | exact Or.inr rfl | exact Side.mk trivial | exact Side.mk (fun h => h) | exact Side.mk (fun h => ⟨h, h⟩) | with_reducible exact Side.mk rfl | with_reducible exact Side.mk ⟨rfl, rfl⟩ | with_reducible exact Side.mk (by assumption) | with_reducible rfl | intro _)
  all_goals try (conv => whnf)
  refine loop_at (fun y : Nat => y ≤ R.length) 4 (fun y => [(7, .int .i64 y), (2, .int .i64 (maxF m (diffT R U y))), (8, .top)]) (fun _ => []) (fun y => R.length - y) 0 (Nat.zero_le _) ?_ (fun y hy => ?_)
  · repeat' ((conv => whnf); first | done | refine ev_step ?_ | refine ops_step ?_ | refine scan_step ?_ | refine draw_step ?_ | refine each_step ?_ | refine guard_no (by decide) ?_ | refine guard_go ?_ | apply cut_auto | with_reducible exact CutS.mk (Or.inl ⟨rfl, rfl, rfl⟩) | refine CutS.mk (Or.inr (sub_auto ?_)) | exact trivial | refine And.intro ?_ ?_ | refine cond_split ?_ ?_ | apply guess | exact Or.inl rfl | exact Or.inr rfl | exact Side.mk trivial | exact Side.mk (fun h => h) | exact Side.mk (fun h => ⟨h, h⟩) | with_reducible exact Side.mk rfl | with_reducible exact Side.mk ⟨rfl, rfl⟩ | with_reducible exact Side.mk (by assumption) | with_reducible rfl | intro _)
    all_goals try (conv => whnf)
    all_goals first | rfl | (simp [diffT, maxF]; done) | trace_state
  · by_cases hyt : y < R.length
    · have hq := h3 y hyt
      have hs : diffT R U (y + 1) = diffT R U y ++ diffR (R.getD y []) (U.getD y []) (R.getD y []).length := rfl
      have hsx : ∀ x, diffR (R.getD y []) (U.getD y []) (x + 1) = diffR (R.getD y []) (U.getD y []) x ++ [(U.getD y []).getD x 0 - (R.getD y []).getD x 0] := fun x => rfl
      have hx0 : diffR (R.getD y []) (U.getD y []) 0 = [] := rfl
      repeat' ((conv => whnf); first | done | refine ev_step ?_ | refine ops_step ?_ | refine scan_step ?_ | refine draw_step ?_ | refine each_step ?_ | refine guard_no (by decide) ?_ | refine guard_go ?_ | apply cut_auto | with_reducible exact CutS.mk (Or.inl ⟨rfl, rfl, rfl⟩) | refine CutS.mk (Or.inr (sub_auto ?_)) | exact trivial | refine And.intro ?_ ?_ | (refine cond_split ?_ ?_ <;> intro _ <;> first | (exfalso; first | omega | (simp only [decide_eq_true_eq, decide_eq_false_iff_not, Bool.not_eq_true', Bool.not_eq_false', ne_eq, Bool.not_true, Bool.not_false, cond_true, cond_false, Bool.true_eq_false, Bool.false_eq_true, Bool.and_eq_true, Bool.and_eq_false_iff] at *; omega)) | skip) | apply guess | exact Or.inl rfl | exact Or.inr rfl | exact Side.mk trivial | exact Side.mk (fun h => h) | exact Side.mk (fun h => ⟨h, h⟩) | with_reducible exact Side.mk rfl | with_reducible exact Side.mk ⟨rfl, rfl⟩ | with_reducible exact Side.mk (by assumption) | with_reducible rfl | intro _)
      all_goals try (conv => whnf)
      all_goals try simp only [Int.toNat_natCast, decide_eq_true_eq, decide_eq_false_iff_not] at *
      all_goals try (refine Side.mk ?_; first | (intros; omega) | (show List.length (_ ++ _) ≤ _; simp only [List.length_append, List.length_cons, List.length_nil, List.length_replicate, List.length_take]; omega) | (simp_all; done) | (simp_all; omega))
      all_goals try omega
      refine loop_at (fun x : Nat => x ≤ (R.getD y []).length) 4 (fun x => [(8, .int .i64 x), (2, .int .i64 (maxF m (diffT R U y ++ diffR (R.getD y []) (U.getD y []) x)))]) (fun _ => []) (fun x => (R.getD y []).length - x) 0 (Nat.zero_le _) ?_ (fun x hx => ?_)
      · repeat' ((conv => whnf); first | done | refine ev_step ?_ | refine ops_step ?_ | refine scan_step ?_ | refine draw_step ?_ | refine each_step ?_ | refine guard_no (by decide) ?_ | refine guard_go ?_ | apply cut_auto | with_reducible exact CutS.mk (Or.inl ⟨rfl, rfl, rfl⟩) | refine CutS.mk (Or.inr (sub_auto ?_)) | exact trivial | refine And.intro ?_ ?_ | refine cond_split ?_ ?_ | apply guess | exact Or.inl rfl | exact Or.inr rfl | exact Side.mk trivial | exact Side.mk (fun h => h) | exact Side.mk (fun h => ⟨h, h⟩) | with_reducible exact Side.mk rfl | with_reducible exact Side.mk ⟨rfl, rfl⟩ | with_reducible exact Side.mk (by assumption) | with_reducible rfl | intro _)
        all_goals try (conv => whnf)
        all_goals first | rfl | (rw [hx0, List.append_nil]; done) | trace_state
      · by_cases hxt : x < (R.getD y []).length
        · have hv := hq.2.2 x hxt
          have hsxx := hsx x
          have km := k_l00Max (maxF m (diffT R U y ++ diffR (R.getD y []) (U.getD y []) x)) ((U.getD y []).getD x 0 - (R.getD y []).getD x 0)
          repeat' ((conv => whnf); first | done | refine ev_step ?_ | refine ops_step ?_ | refine scan_step ?_ | refine draw_step ?_ | refine each_step ?_ | refine guard_no (by decide) ?_ | refine guard_go ?_ | apply cut_auto | with_reducible exact CutS.mk (Or.inl ⟨rfl, rfl, rfl⟩) | refine CutS.mk (Or.inr (sub_auto ?_)) | exact trivial | refine And.intro ?_ ?_ | (refine cond_split ?_ ?_ <;> intro _ <;> first | (exfalso; first | omega | (simp only [decide_eq_true_eq, decide_eq_false_iff_not, Bool.not_eq_true', Bool.not_eq_false', ne_eq, Bool.not_true, Bool.not_false, cond_true, cond_false, Bool.true_eq_false, Bool.false_eq_true, Bool.and_eq_true, Bool.and_eq_false_iff] at *; omega)) | skip) | apply guess | refine FnIs.useE (km) rfl ?_ | exact Or.inl rfl | exact Or.inr rfl | exact Side.mk trivial | exact Side.mk (fun h => h) | exact Side.mk (fun h => ⟨h, h⟩) | with_reducible exact Side.mk rfl | with_reducible exact Side.mk ⟨rfl, rfl⟩ | with_reducible exact Side.mk (by assumption) | with_reducible rfl | intro _)
          all_goals try (conv => whnf)
          all_goals try simp only [Int.toNat_natCast, decide_eq_true_eq, decide_eq_false_iff_not] at *
          all_goals try (refine Side.mk ?_; first | (intros; omega) | (show List.length (_ ++ _) ≤ _; simp only [List.length_append, List.length_cons, List.length_nil, List.length_replicate, List.length_take]; omega) | (simp_all; done) | (simp_all; omega))
          all_goals try omega
          refine ⟨x + 1, by omega, by omega, ?_⟩
          repeat' ((conv => whnf); first | done | refine ev_step ?_ | refine ops_step ?_ | refine scan_step ?_ | refine draw_step ?_ | refine each_step ?_ | refine guard_no (by decide) ?_ | refine guard_go ?_ | apply cut_auto | with_reducible exact CutS.mk (Or.inl ⟨rfl, rfl, rfl⟩) | refine CutS.mk (Or.inr (sub_auto ?_)) | exact trivial | refine And.intro ?_ ?_ | refine cond_split ?_ ?_ | apply guess | exact Or.inl rfl | exact Or.inr rfl | exact Side.mk trivial | exact Side.mk (fun h => h) | exact Side.mk (fun h => ⟨h, h⟩) | with_reducible exact Side.mk rfl | with_reducible exact Side.mk ⟨rfl, rfl⟩ | with_reducible exact Side.mk (by assumption) | with_reducible rfl | intro _)
          all_goals try (conv => whnf)
          all_goals first | rfl | omega | (rw [hsxx, ← List.append_assoc, maxF_snoc]; done) | trace_state
        · obtain rfl : x = (R.getD y []).length := by omega
          repeat' ((conv => whnf); first | done | refine ev_step ?_ | refine ops_step ?_ | refine scan_step ?_ | refine draw_step ?_ | refine each_step ?_ | refine guard_no (by decide) ?_ | refine guard_go ?_ | apply cut_auto | with_reducible exact CutS.mk (Or.inl ⟨rfl, rfl, rfl⟩) | refine CutS.mk (Or.inr (sub_auto ?_)) | exact trivial | refine And.intro ?_ ?_ | (refine cond_split ?_ ?_ <;> intro _ <;> first | (exfalso; first | omega | (simp only [decide_eq_true_eq, decide_eq_false_iff_not, Bool.not_eq_true', Bool.not_eq_false', ne_eq, Bool.not_true, Bool.not_false, cond_true, cond_false, Bool.true_eq_false, Bool.false_eq_true, Bool.and_eq_true, Bool.and_eq_false_iff] at *; omega)) | skip) | apply guess | exact Or.inl rfl | exact Or.inr rfl | exact Side.mk trivial | exact Side.mk (fun h => h) | exact Side.mk (fun h => ⟨h, h⟩) | with_reducible exact Side.mk rfl | with_reducible exact Side.mk ⟨rfl, rfl⟩ | with_reducible exact Side.mk (by assumption) | with_reducible rfl | intro _)
          all_goals try (conv => whnf)
          all_goals try simp only [Int.toNat_natCast, decide_eq_true_eq, decide_eq_false_iff_not] at *
          all_goals try (refine Side.mk ?_; first | (intros; omega) | (show List.length (_ ++ _) ≤ _; simp only [List.length_append, List.length_cons, List.length_nil, List.length_replicate, List.length_take]; omega) | (simp_all; done) | (simp_all; omega))
          all_goals try omega
          refine ⟨y + 1, by omega, by omega, ?_⟩
          repeat' ((conv => whnf); first | done | refine ev_step ?_ | refine ops_step ?_ | refine scan_step ?_ | refine draw_step ?_ | refine each_step ?_ | refine guard_no (by decide) ?_ | refine guard_go ?_ | apply cut_auto | with_reducible exact CutS.mk (Or.inl ⟨rfl, rfl, rfl⟩) | refine CutS.mk (Or.inr (sub_auto ?_)) | exact trivial | refine And.intro ?_ ?_ | refine cond_split ?_ ?_ | apply guess | exact Or.inl rfl | exact Or.inr rfl | exact Side.mk trivial | exact Side.mk (fun h => h) | exact Side.mk (fun h => ⟨h, h⟩) | with_reducible exact Side.mk rfl | with_reducible exact Side.mk ⟨rfl, rfl⟩ | with_reducible exact Side.mk (by assumption) | with_reducible rfl | intro _)
          all_goals try (conv => whnf)
          all_goals first | rfl | omega | (rw [hs]; done) | trace_state
    · obtain rfl : y = R.length := by omega
      repeat' ((conv => whnf); first | done | refine ev_step ?_ | refine ops_step ?_ | refine scan_step ?_ | refine draw_step ?_ | refine each_step ?_ | refine guard_no (by decide) ?_ | refine guard_go ?_ | apply cut_auto | with_reducible exact CutS.mk (Or.inl ⟨rfl, rfl, rfl⟩) | refine CutS.mk (Or.inr (sub_auto ?_)) | exact trivial | refine And.intro ?_ ?_ | (refine cond_split ?_ ?_ <;> intro _ <;> first | (exfalso; first | omega | (simp only [decide_eq_true_eq, decide_eq_false_iff_not, Bool.not_eq_true', Bool.not_eq_false', ne_eq, Bool.not_true, Bool.not_false, cond_true, cond_false, Bool.true_eq_false, Bool.false_eq_true, Bool.and_eq_true, Bool.and_eq_false_iff] at *; omega)) | skip) | apply guess | exact Or.inl rfl | exact Or.inr rfl | exact Side.mk trivial | exact Side.mk (fun h => h) | exact Side.mk (fun h => ⟨h, h⟩) | with_reducible exact Side.mk rfl | with_reducible exact Side.mk ⟨rfl, rfl⟩ | with_reducible exact Side.mk (by assumption) | with_reducible rfl | intro _)
      all_goals try (conv => whnf)
      all_goals try (refine Side.mk ?_; first | (intros; omega) | (show List.length (_ ++ _) ≤ _; simp only [List.length_append, List.length_cons, List.length_nil, List.length_replicate, List.length_take]; omega) | (simp_all; done) | (simp_all; omega))
      all_goals first | rfl | omega | trace_state

/-! ### The functions -/
def oneCell (A : List (List Int)) : Bool := decide ((wN A : Int) = 1) && decide ((A.length : Int) = 1)
def fullOk (A V : List (List Int)) (ns : List R4) (ks : List Int) : Bool := chB A V ns ks && !oneCell A
def fullV (A V : List (List Int)) (ns : List R4) (ks : List Int) : Int := maxF (-20) (diffV A V (usedT (wN A) A.length ns ks ks.length))
theorem k_FullSpec (A V : List (List Int)) (ns : List R4) (ks : List Int) (h : Side (natSS A ∧ natSS V ∧ ns.length ≤ 1048577 ∧ ks.length ≤ 1048577)) : FnIs Try.prog 20 [.agg [.sl 1 [], .sl 3 []], .sl 4 [], .sl 5 []] 6 ((4, .flat false (.r4 ns)) :: (5, .flat false (.ints .i64 ks)) :: gridH false A V) (.tuple [.int .i64 (if fullOk A V ns ks = true then fullV A V ns ks else 0), .bool (fullOk A V ns ks)]) 6 [] := by
  have k1 := k_l08Ask A V ns ks h
  have kz := k_l08Size A V ⟨h.h.1⟩
  refine fn_of_ev tok Try.func20 rfl rfl rfl ?_
  cases hx : chB A V ns ks
  · rw [show fullOk A V ns ks = false by simp [fullOk, hx]]
    generalize wdS A = w at *
    generalize chB A V ns ks = b at *
    repeat' ((conv => whnf); first | done | refine ev_step ?_ | refine ops_step ?_ | refine scan_step ?_ | refine draw_step ?_ | refine each_step ?_ | refine guard_no (by decide) ?_ | refine guard_go ?_ | apply cut_auto | with_reducible exact CutS.mk (Or.inl ⟨rfl, rfl, rfl⟩) | refine CutS.mk (Or.inr (sub_auto ?_)) | exact trivial | refine And.intro ?_ ?_ | (refine cond_split ?_ ?_ <;> intro hq_ <;> first | (exfalso; first | omega | (simp only [hx, cond_true, cond_false, Bool.not_true, Bool.not_false, Bool.and_true, Bool.true_and, Bool.and_false, Bool.false_and, Bool.or_true, Bool.true_or, Bool.or_false, Bool.false_or, Bool.true_eq_false, Bool.false_eq_true, decide_true, decide_false, reduceCtorEq] at hq_; done) | (rw [decide_eq_false_iff_not] at hq_; omega) | (rw [decide_eq_true_eq] at hq_; omega) | (simp only [hx, reduceCtorEq] at hq_; done) | exact Bool.noConfusion (Eq.trans (Eq.symm hx) hq_)) | skip) | apply guess | apply FnIs.useF (k1) | apply FnIs.useF (kz) | exact Or.inl rfl | exact Or.inr rfl | exact Side.mk trivial | exact Side.mk (fun h => h) | exact Side.mk (fun h => ⟨h, h⟩) | with_reducible exact Side.mk rfl | with_reducible exact Side.mk ⟨rfl, rfl⟩ | with_reducible exact Side.mk (by assumption) | with_reducible rfl | intro _)
    all_goals try (conv => whnf)
    all_goals try (refine Side.mk ?_; first | (intros; omega) | (show List.length (_ ++ _) ≤ _; simp only [List.length_append, List.length_cons, List.length_nil, List.length_replicate, List.length_take]; omega) | (simp_all; done) | (simp_all; omega))
    all_goals first | rfl | (subst hx; rfl) | trace_state
  · rw [hx] at k1
    obtain ⟨q1, q2, q3, q4⟩ := chB_side h.h.1 hx
    have g1 := (gridB_len q2).1
    rw [show wdS A = wd A from if_neg (by omega), wN_wd] at kz
    cases ho : oneCell A
    · rw [show fullOk A V ns ks = true by simp [fullOk, hx, ho]]
      have hc := chB_ok hx
      have ku := k_l08Use A V ns ks ⟨q1, q2, q3, by omega⟩ hc
      have he := each_ok q2 (by omega) (used_dims hc ks.length (Nat.le_refl _))
      have ea := he.ma
      have ev := he.mv
      have hf : fullV A V ns ks = maxF (maxF (-20) (diffT A (usedT (wN A) A.length ns ks ks.length).1 A.length)) (diffT V (usedT (wN A) A.length ns ks ks.length).2 V.length) := by rw [fullV, diffV, maxF_app]
      rw [if_pos rfl, hf]
      have d1 : (bif decide ((wN A : Int) = 1) then decide ((A.length : Int) = 1) else false) = false := by
        have : (decide ((wN A : Int) = 1) && decide ((A.length : Int) = 1)) = false := ho
        rw [Bool.cond_false_right]; exact this
      clear he hc hf ho
      generalize usedT (wN A) A.length ns ks ks.length = U at *
      generalize wN A = w at *
      repeat' ((conv => whnf); first | done | refine ev_step ?_ | refine ops_step ?_ | refine scan_step ?_ | refine draw_step ?_ | refine each_step ?_ | refine guard_no (by decide) ?_ | refine guard_go ?_ | apply cut_auto | with_reducible exact CutS.mk (Or.inl ⟨rfl, rfl, rfl⟩) | refine CutS.mk (Or.inr (sub_auto ?_)) | exact trivial | refine And.intro ?_ ?_ | (refine cond_split ?_ ?_ <;> intro hq_ <;> first | (exfalso; first | omega | (simp only [d1, cond_true, cond_false, Bool.not_true, Bool.not_false, Bool.and_true, Bool.true_and, Bool.and_false, Bool.false_and, Bool.or_true, Bool.true_or, Bool.or_false, Bool.false_or, Bool.true_eq_false, Bool.false_eq_true, decide_true, decide_false, reduceCtorEq] at hq_; done) | (rw [decide_eq_false_iff_not] at hq_; omega) | (rw [decide_eq_true_eq] at hq_; omega) | (simp only [d1, reduceCtorEq] at hq_; done) | exact Bool.noConfusion (Eq.trans (Eq.symm d1) hq_)) | skip) | apply guess | apply FnIs.useF (k1) | apply FnIs.useF (kz) | apply FnIs.useF (ku) | apply FnIs.useF (k_l08Most _ _ _ _ _) | exact Or.inl rfl | exact Or.inr rfl | exact Side.mk trivial | exact Side.mk (fun h => h) | exact Side.mk (fun h => ⟨h, h⟩) | with_reducible exact Side.mk rfl | with_reducible exact Side.mk ⟨rfl, rfl⟩ | with_reducible exact Side.mk (by assumption) | with_reducible rfl | intro _)
      all_goals try (conv => whnf)
      all_goals try (refine Side.mk ?_; first | (intros; omega) | (show List.length (_ ++ _) ≤ _; simp only [List.length_append, List.length_cons, List.length_nil, List.length_replicate, List.length_take]; omega) | (simp_all; done) | (simp_all; omega))
      all_goals first | rfl | assumption | trace_state
    · rw [show fullOk A V ns ks = false by simp [fullOk, ho]]
      have d1 : (bif decide ((wN A : Int) = 1) then decide ((A.length : Int) = 1) else false) = true := by
        have : (decide ((wN A : Int) = 1) && decide ((A.length : Int) = 1)) = true := ho
        rw [Bool.cond_false_right]; exact this
      generalize wN A = w at *
      repeat' ((conv => whnf); first | done | refine ev_step ?_ | refine ops_step ?_ | refine scan_step ?_ | refine draw_step ?_ | refine each_step ?_ | refine guard_no (by decide) ?_ | refine guard_go ?_ | apply cut_auto | with_reducible exact CutS.mk (Or.inl ⟨rfl, rfl, rfl⟩) | refine CutS.mk (Or.inr (sub_auto ?_)) | exact trivial | refine And.intro ?_ ?_ | (refine cond_split ?_ ?_ <;> intro hq_ <;> first | (exfalso; first | omega | (simp only [d1, cond_true, cond_false, Bool.not_true, Bool.not_false, Bool.and_true, Bool.true_and, Bool.and_false, Bool.false_and, Bool.or_true, Bool.true_or, Bool.or_false, Bool.false_or, Bool.true_eq_false, Bool.false_eq_true, decide_true, decide_false, reduceCtorEq] at hq_; done) | (rw [decide_eq_false_iff_not] at hq_; omega) | (rw [decide_eq_true_eq] at hq_; omega) | (simp only [d1, reduceCtorEq] at hq_; done) | exact Bool.noConfusion (Eq.trans (Eq.symm d1) hq_)) | skip) | apply guess | apply FnIs.useF (k1) | apply FnIs.useF (kz) | exact Or.inl rfl | exact Or.inr rfl | exact Side.mk trivial | exact Side.mk (fun h => h) | exact Side.mk (fun h => ⟨h, h⟩) | with_reducible exact Side.mk rfl | with_reducible exact Side.mk ⟨rfl, rfl⟩ | with_reducible exact Side.mk (by assumption) | with_reducible rfl | intro _)
      all_goals try (conv => whnf)
      all_goals try (refine Side.mk ?_; first | (intros; omega) | (show List.length (_ ++ _) ≤ _; simp only [List.length_append, List.length_cons, List.length_nil, List.length_replicate, List.length_take]; omega) | (simp_all; done) | (simp_all; omega))
      all_goals first | rfl | trace_state
theorem k_FullestEdge (A V : List (List Int)) (ns : List R4) (ks : List Int) (h : Side (natSS A ∧ natSS V ∧ ns.length ≤ 1048577 ∧ ks.length ≤ 1048577)) : FnIs Try.prog 21 [.agg [.sl 1 [], .sl 3 []], .sl 4 [], .sl 5 []] 6 ((4, .flat false (.r4 ns)) :: (5, .flat false (.ints .i64 ks)) :: gridH false A V) (.tuple [.int .i64 (if fullOk A V ns ks = true then fullV A V ns ks else 0), .bool (fullOk A V ns ks)]) 6 [] := by
  have k1 := k_choiceOk A V ns ks h
  refine fn_of_ev tok Try.func21 rfl rfl rfl ?_
  cases hx : chB A V ns ks <;> rw [hx] at k1
  · rw [show fullOk A V ns ks = false by simp [fullOk, hx]]
    repeat' ((conv => whnf); first | done | refine ev_step ?_ | refine ops_step ?_ | refine scan_step ?_ | refine draw_step ?_ | refine each_step ?_ | refine guard_no (by decide) ?_ | refine guard_go ?_ | apply cut_auto | with_reducible exact CutS.mk (Or.inl ⟨rfl, rfl, rfl⟩) | refine CutS.mk (Or.inr (sub_auto ?_)) | exact trivial | refine And.intro ?_ ?_ | refine cond_split ?_ ?_ | apply guess | apply FnIs.useF (k1) | exact Or.inl rfl | exact Or.inr rfl | exact Side.mk trivial | exact Side.mk (fun h => h) | exact Side.mk (fun h => ⟨h, h⟩) | with_reducible exact Side.mk rfl | with_reducible exact Side.mk ⟨rfl, rfl⟩ | with_reducible exact Side.mk (by assumption) | with_reducible rfl | intro _)
    all_goals try (conv => whnf)
    all_goals try (refine Side.mk ?_; first | (intros; omega) | (show List.length (_ ++ _) ≤ _; simp only [List.length_append, List.length_cons, List.length_nil, List.length_replicate, List.length_take]; omega) | (simp_all; done) | (simp_all; omega))
    all_goals first | rfl | trace_state
  · obtain ⟨q1, q2, q3, q4⟩ := chB_side h.h.1 hx
    have hc := chB_ok hx
    have k2 := k_used A V ns ks ⟨q1, q2, q3, q4⟩ hc
    have hd := used_dims hc ks.length (Nat.le_refl _)
    have he := each_ok q2 (by omega) hd
    have hn := used_nn hc ks.length (Nat.le_refl _)
    obtain ⟨f1, f2, f3⟩ := diff_facts q2 (by omega) hd hn
    have hemp := diff_empty q2 (by omega) hd hn
    have hbd : ∀ v ∈ diffV A V (usedT (wN A) A.length ns ks ks.length), -20 ≤ v := fun v hv => by
      rcases List.mem_append.1 hv with hv | hv
      · exact (f1 v hv).1
      · exact (f2 v hv).1
    obtain ⟨r1, r2, r3⟩ := grid_room q2
    have hw8 := (gridB_len q2).2.2
    have hl8 := (gridB_len q2).2.1
    rw [wN_wd] at hw8
    have k3 := k_eachFull A V _ he (fun y hy => by rw [diffT_len (fun y hy => (r1 y hy).1) y hy]; exact Nat.mul_le_mul (by omega : y ≤ 8) (by omega : wN A - 1 ≤ 8)) (fun y hy => by rw [diffT_len (fun y hy => (r3 y hy).1) y hy]; exact Nat.mul_le_mul (by omega : y ≤ 8) (by omega : wN A ≤ 8))
    have hlen : (diffV A V (usedT (wN A) A.length ns ks ks.length)).length ≤ 1000 := by
      rw [f3]
      have m1 : A.length * (wN A - 1) ≤ 8 * 8 := Nat.mul_le_mul hl8 (by omega)
      have m2 : (A.length - 1) * wN A ≤ 8 * 8 := Nat.mul_le_mul (by omega) (by omega)
      omega
    have hfo : fullOk A V ns ks = !oneCell A := by simp [fullOk, hx]
    have hone : oneCell A = decide ((diffV A V (usedT (wN A) A.length ns ks ks.length)).length = 0) := by
      rw [oneCell, ← Bool.decide_and]
      exact decide_eq_decide.2 (by rw [hemp]; omega)
    have hfv : fullV A V ns ks = maxF (-20) (diffV A V (usedT (wN A) A.length ns ks ks.length)) := rfl
    have kx : 1 ≤ (diffV A V (usedT (wN A) A.length ns ks ks.length)).length → FnIs Try.prog 63 [.sl 0 []] 1 [(0, .flat false (.ints .i64 (diffV A V (usedT (wN A) A.length ns ks ks.length))))] (.int .i64 (fullV A V ns ks)) 1 [] := fun h0 => by
      rw [hfv, maxF_head h0 hbd]
      exact k_Max _ ⟨h0, hlen⟩
    clear hd he hn f1 f2 f3 hemp hbd r1 r2 r3 hfv
    rw [hfo]
    generalize diffV A V (usedT (wN A) A.length ns ks ks.length) = L at *
    generalize usedT (wN A) A.length ns ks ks.length = U at *
    generalize fullV A V ns ks = f at *
    by_cases h0 : L.length = 0
    · rw [decide_eq_true h0] at hone
      rw [hone]
      repeat' ((conv => whnf); first | done | refine ev_step ?_ | refine ops_step ?_ | refine scan_step ?_ | refine draw_step ?_ | refine each_step ?_ | refine guard_no (by decide) ?_ | refine guard_go ?_ | apply cut_auto | with_reducible exact CutS.mk (Or.inl ⟨rfl, rfl, rfl⟩) | refine CutS.mk (Or.inr (sub_auto ?_)) | exact trivial | refine And.intro ?_ ?_ | (refine cond_split ?_ ?_ <;> intro _ <;> first | (exfalso; first | omega | (simp only [decide_eq_true_eq, decide_eq_false_iff_not, Bool.not_eq_true', Bool.not_eq_false', ne_eq, Bool.not_true, Bool.not_false, cond_true, cond_false, Bool.true_eq_false, Bool.false_eq_true, Bool.and_eq_true, Bool.and_eq_false_iff] at *; omega)) | skip) | apply guess | apply FnIs.useF (k1) | apply FnIs.useF (k2) | apply FnIs.useF (k3) | exact Or.inl rfl | exact Or.inr rfl | exact Side.mk trivial | exact Side.mk (fun h => h) | exact Side.mk (fun h => ⟨h, h⟩) | with_reducible exact Side.mk rfl | with_reducible exact Side.mk ⟨rfl, rfl⟩ | with_reducible exact Side.mk (by assumption) | with_reducible rfl | intro _)
      all_goals try (conv => whnf)
      all_goals try (refine Side.mk ?_; first | (intros; omega) | (show List.length (_ ++ _) ≤ _; simp only [List.length_append, List.length_cons, List.length_nil, List.length_replicate, List.length_take]; omega) | (simp_all; done) | (simp_all; omega))
      all_goals first | rfl | omega | trace_state
    · rw [decide_eq_false h0] at hone
      rw [hone]
      have kx := kx (by omega)
      repeat' ((conv => whnf); first | done | refine ev_step ?_ | refine ops_step ?_ | refine scan_step ?_ | refine draw_step ?_ | refine each_step ?_ | refine guard_no (by decide) ?_ | refine guard_go ?_ | apply cut_auto | with_reducible exact CutS.mk (Or.inl ⟨rfl, rfl, rfl⟩) | refine CutS.mk (Or.inr (sub_auto ?_)) | exact trivial | refine And.intro ?_ ?_ | (refine cond_split ?_ ?_ <;> intro _ <;> first | (exfalso; first | omega | (simp only [decide_eq_true_eq, decide_eq_false_iff_not, Bool.not_eq_true', Bool.not_eq_false', ne_eq, Bool.not_true, Bool.not_false, cond_true, cond_false, Bool.true_eq_false, Bool.false_eq_true, Bool.and_eq_true, Bool.and_eq_false_iff] at *; omega)) | skip) | apply guess | apply FnIs.useF (k1) | apply FnIs.useF (k2) | apply FnIs.useF (k3) | apply FnIs.useF (kx) | exact Or.inl rfl | exact Or.inr rfl | exact Side.mk trivial | exact Side.mk (fun h => h) | exact Side.mk (fun h => ⟨h, h⟩) | with_reducible exact Side.mk rfl | with_reducible exact Side.mk ⟨rfl, rfl⟩ | with_reducible exact Side.mk (by assumption) | with_reducible rfl | intro _)
      all_goals try (conv => whnf)
      all_goals try (refine Side.mk ?_; first | (intros; omega) | (show List.length (_ ++ _) ≤ _; simp only [List.length_append, List.length_cons, List.length_nil, List.length_replicate, List.length_take]; omega) | (simp_all; done) | (simp_all; omega))
      all_goals first | rfl | omega | trace_state
theorem k_FnExactFullestEdge (A V : List (List Int)) (ns : List R4) (ks : List Int) (hp : Side (GIn A V ∧ ns.length ≤ 9223372036854775807 ∧ ks.length ≤ 9223372036854775807)) : FnIs Try.prog 4 [.agg [.sl 1 [], .sl 3 []], .sl 4 [], .sl 5 []] 6 [(5, .flat false (.ints .i64 ks)), (4, .flat false (.r4 ns)), (3, .flat false (.rows 2 0 V.length)), (2, .nestI false .i64 V), (1, .flat false (.rows 0 0 A.length)), (0, .nestI false .i64 A)] (.bool true) 6 [] := by
  have k0 := k_szGrid A V 1048576 hp.h.1.sz
  have hge : -1 ≤ szN A 1048576 := szN_ge (by omega)
  refine fn_of_evk [0, 1, 2, 3, 6, 7, 8, 9, 10, 11, 12, 13, 14, 17, 22, 27, 58, 63, 68, 73] tok Try.func4 rfl rfl rfl ?_
  by_cases hk : 1048576 < (ks.length : Int)
  · repeat' ((conv => whnf); first | done | refine ev_step ?_ | refine ops_step ?_ | refine scan_step ?_ | refine draw_step ?_ | refine each_step ?_ | refine guard_no (by decide) ?_ | refine guard_go ?_ | apply cut_auto | with_reducible exact CutS.mk (Or.inl ⟨rfl, rfl, rfl⟩) | refine CutS.mk (Or.inr (sub_auto ?_)) | exact trivial | refine And.intro ?_ ?_ | (refine cond_split ?_ ?_ <;> intro _ <;> first | (exfalso; first | omega | (simp only [decide_eq_true_eq, decide_eq_false_iff_not, Bool.not_eq_true', Bool.not_eq_false', ne_eq, Bool.not_true, Bool.not_false, cond_true, cond_false, Bool.true_eq_false, Bool.false_eq_true, Bool.and_eq_true, Bool.and_eq_false_iff] at *; omega)) | skip) | apply guess | exact Or.inl rfl | exact Or.inr rfl | exact Side.mk trivial | exact Side.mk (fun h => h) | exact Side.mk (fun h => ⟨h, h⟩) | with_reducible exact Side.mk rfl | with_reducible exact Side.mk ⟨rfl, rfl⟩ | with_reducible exact Side.mk (by assumption) | with_reducible rfl | intro _)
    all_goals try (conv => whnf)
    all_goals try (refine Side.mk ?_; first | (intros; omega) | (show List.length (_ ++ _) ≤ _; simp only [List.length_append, List.length_cons, List.length_nil, List.length_replicate, List.length_take]; omega) | (simp_all; done) | (simp_all; omega))
    all_goals first | omega | rfl | (simp_all; done) | trace_state
  · by_cases hl : (if szN A 1048576 < 0 then -1 else szN V (szN A 1048576)) < 0
    · generalize (if szN A 1048576 < 0 then -1 else szN V (szN A 1048576)) = z at *
      repeat' ((conv => whnf); first | done | refine ev_step ?_ | refine ops_step ?_ | refine scan_step ?_ | refine draw_step ?_ | refine each_step ?_ | refine guard_no (by decide) ?_ | refine guard_go ?_ | apply cut_auto | with_reducible exact CutS.mk (Or.inl ⟨rfl, rfl, rfl⟩) | refine CutS.mk (Or.inr (sub_auto ?_)) | exact trivial | refine And.intro ?_ ?_ | (refine cond_split ?_ ?_ <;> intro _ <;> first | (exfalso; first | omega | (simp only [decide_eq_true_eq, decide_eq_false_iff_not, Bool.not_eq_true', Bool.not_eq_false', ne_eq, Bool.not_true, Bool.not_false, cond_true, cond_false, Bool.true_eq_false, Bool.false_eq_true, Bool.and_eq_true, Bool.and_eq_false_iff] at *; omega)) | skip) | apply guess | apply FnIs.useF (k0) | exact Or.inl rfl | exact Or.inr rfl | exact Side.mk trivial | exact Side.mk (fun h => h) | exact Side.mk (fun h => ⟨h, h⟩) | with_reducible exact Side.mk rfl | with_reducible exact Side.mk ⟨rfl, rfl⟩ | with_reducible exact Side.mk (by assumption) | with_reducible rfl | intro _)
      all_goals try (conv => whnf)
      all_goals try (refine Side.mk ?_; first | (intros; omega) | (show List.length (_ ++ _) ≤ _; simp only [List.length_append, List.length_cons, List.length_nil, List.length_replicate, List.length_take]; omega) | (simp_all; done) | (simp_all; omega))
      all_goals first | omega | rfl | (simp_all; done) | trace_state
    · obtain ⟨nA, nV⟩ := gin_nat hl
      have hzl : (if szN A 1048576 < 0 then -1 else szN V (szN A 1048576)) ≤ 1048576 := gin_le hl
      generalize (if szN A 1048576 < 0 then -1 else szN V (szN A 1048576)) = z at *
      have kz := k_szNetS ns z ⟨by omega, by omega, hp.h.2.1⟩
      by_cases hm : z - ns.length < 0
      · rw [if_pos hm] at kz
        repeat' ((conv => whnf); first | done | refine ev_step ?_ | refine ops_step ?_ | refine scan_step ?_ | refine draw_step ?_ | refine each_step ?_ | refine guard_no (by decide) ?_ | refine guard_go ?_ | apply cut_auto | with_reducible exact CutS.mk (Or.inl ⟨rfl, rfl, rfl⟩) | refine CutS.mk (Or.inr (sub_auto ?_)) | exact trivial | refine And.intro ?_ ?_ | (refine cond_split ?_ ?_ <;> intro _ <;> first | (exfalso; first | omega | (simp only [decide_eq_true_eq, decide_eq_false_iff_not, Bool.not_eq_true', Bool.not_eq_false', ne_eq, Bool.not_true, Bool.not_false, cond_true, cond_false, Bool.true_eq_false, Bool.false_eq_true, Bool.and_eq_true, Bool.and_eq_false_iff] at *; omega)) | skip) | apply guess | apply FnIs.useF (k0) | apply FnIs.useF (kz) | exact Or.inl rfl | exact Or.inr rfl | exact Side.mk trivial | exact Side.mk (fun h => h) | exact Side.mk (fun h => ⟨h, h⟩) | with_reducible exact Side.mk rfl | with_reducible exact Side.mk ⟨rfl, rfl⟩ | with_reducible exact Side.mk (by assumption) | with_reducible rfl | intro _)
        all_goals try (conv => whnf)
        all_goals try (refine Side.mk ?_; first | (intros; omega) | (show List.length (_ ++ _) ≤ _; simp only [List.length_append, List.length_cons, List.length_nil, List.length_replicate, List.length_take]; omega) | (simp_all; done) | (simp_all; omega))
        all_goals first | omega | rfl | (simp_all; done) | trace_state
      · rw [if_neg hm] at kz
        have nn : ns.length ≤ 1048577 := by omega
        have nk : ks.length ≤ 1048577 := by omega
        have k1 := k_FullSpec A V ns ks ⟨nA, nV, nn, nk⟩
        have k2 := k_FullestEdge A V ns ks ⟨nA, nV, nn, nk⟩
        generalize (if fullOk A V ns ks = true then fullV A V ns ks else 0) = r at *
        generalize fullOk A V ns ks = b at *
        cases b
        · repeat' ((conv => whnf); first | done | refine ev_step ?_ | refine ops_step ?_ | refine scan_step ?_ | refine draw_step ?_ | refine each_step ?_ | refine guard_no (by decide) ?_ | refine guard_go ?_ | apply cut_auto | with_reducible exact CutS.mk (Or.inl ⟨rfl, rfl, rfl⟩) | refine CutS.mk (Or.inr (sub_auto ?_)) | exact trivial | refine And.intro ?_ ?_ | (refine cond_split ?_ ?_ <;> intro _ <;> first | (exfalso; first | omega | (simp only [decide_eq_true_eq, decide_eq_false_iff_not, Bool.not_eq_true', Bool.not_eq_false', ne_eq, Bool.not_true, Bool.not_false, cond_true, cond_false, Bool.true_eq_false, Bool.false_eq_true, Bool.and_eq_true, Bool.and_eq_false_iff] at *; omega)) | skip) | apply guess | apply FnIs.useF (k0) | apply FnIs.useF (kz) | apply FnIs.useF (k1) | apply FnIs.useF (k2) | apply FnIs.useF (k_toGrid A V ⟨⟨nA, nV⟩⟩) | apply FnIs.useF (k_toNetS _ ⟨nn⟩) | apply FnIs.useF (k_toInt64S _ ⟨nk⟩) | apply FnIs.useF (k_eqGrid_same A V ⟨⟨nA, nV⟩⟩) | apply FnIs.useF (k_eqNetS_same _ ⟨nn⟩) | apply FnIs.useF (k_eqInt64S_same _ ⟨nk⟩) | exact Or.inl rfl | exact Or.inr rfl | exact Side.mk trivial | exact Side.mk (fun h => h) | exact Side.mk (fun h => ⟨h, h⟩) | with_reducible exact Side.mk rfl | with_reducible exact Side.mk ⟨rfl, rfl⟩ | with_reducible exact Side.mk (by assumption) | with_reducible rfl | intro _)
          all_goals try (conv => whnf)
          all_goals try (refine Side.mk ?_; first | (intros; omega) | (show List.length (_ ++ _) ≤ _; simp only [List.length_append, List.length_cons, List.length_nil, List.length_replicate, List.length_take]; omega) | (simp_all; done) | (simp_all; omega))
          all_goals first | omega | rfl | (simp_all; done) | trace_state
        · repeat' ((conv => whnf); first | done | refine ev_step ?_ | refine ops_step ?_ | refine scan_step ?_ | refine draw_step ?_ | refine each_step ?_ | refine guard_no (by decide) ?_ | refine guard_go ?_ | apply cut_auto | with_reducible exact CutS.mk (Or.inl ⟨rfl, rfl, rfl⟩) | refine CutS.mk (Or.inr (sub_auto ?_)) | exact trivial | refine And.intro ?_ ?_ | (refine cond_split ?_ ?_ <;> intro _ <;> first | (exfalso; first | omega | (simp only [decide_eq_true_eq, decide_eq_false_iff_not, Bool.not_eq_true', Bool.not_eq_false', ne_eq, Bool.not_true, Bool.not_false, cond_true, cond_false, Bool.true_eq_false, Bool.false_eq_true, Bool.and_eq_true, Bool.and_eq_false_iff] at *; omega)) | skip) | apply guess | apply FnIs.useF (k0) | apply FnIs.useF (kz) | apply FnIs.useF (k1) | apply FnIs.useF (k2) | apply FnIs.useF (k_toGrid A V ⟨⟨nA, nV⟩⟩) | apply FnIs.useF (k_toNetS _ ⟨nn⟩) | apply FnIs.useF (k_toInt64S _ ⟨nk⟩) | apply FnIs.useF (k_eqGrid_same A V ⟨⟨nA, nV⟩⟩) | apply FnIs.useF (k_eqNetS_same _ ⟨nn⟩) | apply FnIs.useF (k_eqInt64S_same _ ⟨nk⟩) | exact Or.inl rfl | exact Or.inr rfl | exact Side.mk trivial | exact Side.mk (fun h => h) | exact Side.mk (fun h => ⟨h, h⟩) | with_reducible exact Side.mk rfl | with_reducible exact Side.mk ⟨rfl, rfl⟩ | with_reducible exact Side.mk (by assumption) | with_reducible rfl | intro _)
          all_goals try (conv => whnf)
          all_goals try (refine Side.mk ?_; first | (intros; omega) | (show List.length (_ ++ _) ≤ _; simp only [List.length_append, List.length_cons, List.length_nil, List.length_replicate, List.length_take]; omega) | (simp_all; done) | (simp_all; omega))
          all_goals first | omega | rfl | (simp_all; done) | trace_state
end Go.Sx.U
