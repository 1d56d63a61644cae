/-
  Chapter 8: the uses of a choice: the law.
-/
import Derived.Test.YtpbmikcicibfcaaG23
namespace Go.Sx.U
set_option linter.unusedVariables false
set_option linter.unusedSimpArgs false
set_option maxRecDepth 100000
set_option maxHeartbeats 8000000
open Go Go.Sx Go.Proofs Go.Sx.M8

def marks4 (k : Int) (n : Nat) : List R4 := (List.range n).map fun i => ⟨k + 4 * (i : Nat), k + 4 * (i : Nat) + 1, k + 4 * (i : Nat) + 1 + 1, k + 4 * (i : Nat) + 1 + 1 + 1⟩
theorem marks4_length (k : Int) (n : Nat) : (marks4 k n).length = n := by simp [marks4]
theorem marks4_fill {k : Int} {xs : List R4} {i : Nat} (v : R4) (hv : v = ⟨k + 4 * (i : Nat), k + 4 * (i : Nat) + 1, k + 4 * (i : Nat) + 1 + 1, k + 4 * (i : Nat) + 1 + 1 + 1⟩) (h : i < xs.length) : (marks4 k i ++ xs.drop i).set i v = marks4 k (i + 1) ++ xs.drop (i + 1) := by
  subst hv
  rw [List.set_append_right _ _ (by simp [marks4]), marks4_length, Nat.sub_self, List.drop_eq_getElem_cons h, List.set_cons_zero]
  simp [marks4, List.range_succ]
theorem k_markNetS (xs : List R4) (k : Int) (h : Side (xs.length ≤ 1048577 ∧ 0 ≤ k ∧ k ≤ 1099511627776)) : FnIs Try.prog 25 [.sl 0 [], .int .i64 k] 1 [(0, .flat true (.r4 xs))] (.int .i64 (k + 4 * xs.length)) 1 [(0, .flat true (.r4 (marks4 k xs.length)))] := by
  obtain ⟨h1, h2, h3⟩ := h.h
  refine fn_of_ev tok Try.func25 rfl rfl rfl ?_
  repeat' ((conv => whnf); first | done | refine ev_step ?_ | refine ops_step ?_ | refine scan_step ?_ | refine draw_step ?_ | refine each_step ?_ | refine guard_no (by decide) ?_ | refine guard_go ?_ | apply cut_auto | with_reducible exact CutS.mk (Or.inl ⟨rfl, rfl, rfl⟩) | refine CutS.mk (Or.inr (sub_auto ?_)) | exact trivial | refine And.intro ?_ ?_ | refine cond_split ?_ ?_ | apply guess | exact Or.inl rfl | exact Or.inr rfl | exact Side.mk trivial | exact Side.mk (fun h => h) | exact Side.mk (fun h => ⟨h, h⟩) | with_reducible exact Side.mk rfl | with_reducible exact Side.mk ⟨rfl, rfl⟩ | with_reducible exact Side.mk (by assumption) | with_reducible rfl | intro _)
  all_goals try (conv => whnf)
  refine loop_at (fun i : Nat => i ≤ xs.length) 1 (fun i => [(5, .int .i64 i), (1, .int .i64 (k + 4 * i))]) (fun i => [(0, .flat true (.r4 (marks4 k i ++ xs.drop i)))]) (fun i => xs.length - i) 0 (Nat.zero_le _) ?_ (fun i hi => ?_)
  · repeat' ((conv => whnf); first | done | refine ev_step ?_ | refine ops_step ?_ | refine scan_step ?_ | refine draw_step ?_ | refine each_step ?_ | refine guard_no (by decide) ?_ | refine guard_go ?_ | apply cut_auto | with_reducible exact CutS.mk (Or.inl ⟨rfl, rfl, rfl⟩) | refine CutS.mk (Or.inr (sub_auto ?_)) | exact trivial | refine And.intro ?_ ?_ | refine cond_split ?_ ?_ | apply guess | exact Or.inl rfl | exact Or.inr rfl | exact Side.mk trivial | exact Side.mk (fun h => h) | exact Side.mk (fun h => ⟨h, h⟩) | with_reducible exact Side.mk rfl | with_reducible exact Side.mk ⟨rfl, rfl⟩ | with_reducible exact Side.mk (by assumption) | with_reducible rfl | intro _)
    all_goals try (conv => whnf)
    all_goals first | rfl | simp [marks4]
  · have hl : (marks4 k i ++ xs.drop i).length = xs.length := by simp [marks4]; omega
    by_cases hlt : i < xs.length
    · repeat' ((conv => whnf); first | done | refine ev_step ?_ | refine ops_step ?_ | refine scan_step ?_ | refine draw_step ?_ | refine each_step ?_ | refine guard_no (by decide) ?_ | refine guard_go ?_ | apply cut_auto | with_reducible exact CutS.mk (Or.inl ⟨rfl, rfl, rfl⟩) | refine CutS.mk (Or.inr (sub_auto ?_)) | exact trivial | refine And.intro ?_ ?_ | (refine cond_split ?_ ?_ <;> intro _ <;> first | (exfalso; first | omega | (simp_all; done) | (simp_all; omega)) | skip) | apply guess | exact Or.inl rfl | exact Or.inr rfl | exact Side.mk trivial | exact Side.mk (fun h => h) | exact Side.mk (fun h => ⟨h, h⟩) | with_reducible exact Side.mk rfl | with_reducible exact Side.mk ⟨rfl, rfl⟩ | with_reducible exact Side.mk (by assumption) | with_reducible rfl | intro _)
      all_goals try (conv => whnf)
      all_goals try simp only [Int.toNat_natCast] at *
      all_goals try (refine Side.mk ?_; first | (intros; omega) | (show List.length (_ ++ _) ≤ _; simp only [List.length_append, List.length_cons, List.length_nil, List.length_replicate, List.length_take]; omega) | (simp_all; done) | (simp_all; omega))
      refine ⟨i + 1, by omega, by omega, ?_⟩
      have hi' : i < (marks4 k i ++ xs.drop i).length := by omega
      simp only [List.set_set, getD_set_self, List.length_set, hi']
      repeat' ((conv => whnf); first | done | refine ev_step ?_ | refine ops_step ?_ | refine scan_step ?_ | refine draw_step ?_ | refine each_step ?_ | refine guard_no (by decide) ?_ | refine guard_go ?_ | apply cut_auto | with_reducible exact CutS.mk (Or.inl ⟨rfl, rfl, rfl⟩) | refine CutS.mk (Or.inr (sub_auto ?_)) | exact trivial | refine And.intro ?_ ?_ | refine cond_split ?_ ?_ | apply guess | exact Or.inl rfl | exact Or.inr rfl | exact Side.mk trivial | exact Side.mk (fun h => h) | exact Side.mk (fun h => ⟨h, h⟩) | with_reducible exact Side.mk rfl | with_reducible exact Side.mk ⟨rfl, rfl⟩ | with_reducible exact Side.mk (by assumption) | with_reducible rfl | intro _)
      all_goals try (conv => whnf)
      all_goals first | rfl | omega | (rw [marks4_fill _ rfl hlt]) | trace_state
    · repeat' ((conv => whnf); first | done | refine ev_step ?_ | refine ops_step ?_ | refine scan_step ?_ | refine draw_step ?_ | refine each_step ?_ | refine guard_no (by decide) ?_ | refine guard_go ?_ | apply cut_auto | with_reducible exact CutS.mk (Or.inl ⟨rfl, rfl, rfl⟩) | refine CutS.mk (Or.inr (sub_auto ?_)) | exact trivial | refine And.intro ?_ ?_ | (refine cond_split ?_ ?_ <;> intro _ <;> first | (exfalso; first | omega | (simp_all; done) | (simp_all; omega)) | skip) | apply guess | exact Or.inl rfl | exact Or.inr rfl | exact Side.mk trivial | exact Side.mk (fun h => h) | exact Side.mk (fun h => ⟨h, h⟩) | with_reducible exact Side.mk rfl | with_reducible exact Side.mk ⟨rfl, rfl⟩ | with_reducible exact Side.mk (by assumption) | with_reducible rfl | intro _)
      all_goals try (conv => whnf)
      all_goals try (refine Side.mk ?_; first | (intros; omega) | (show List.length (_ ++ _) ≤ _; simp only [List.length_append, List.length_cons, List.length_nil, List.length_replicate, List.length_take]; omega) | (simp_all; done) | (simp_all; omega))
      · omega
      · rw [show i = xs.length by omega, List.drop_length, List.append_nil]
theorem k_ChosenSpec_no (A V : List (List Int)) (ns : List R4) (ks : List Int) (h : Side (natSS A ∧ natSS V ∧ ns.length ≤ 1048577 ∧ ks.length ≤ 1048577)) (hx : chB A V ns ks = false) : FnIs Try.prog 22 [.agg [.sl 1 [], .sl 3 []], .sl 4 [], .sl 5 []] 6 ((4, .flat false (.r4 ns)) :: (5, .flat false (.ints .i64 ks)) :: gridH false A V) (.tuple [.agg [.nilsl, .nilsl], .bool false]) 6 [] := by
  have k1 := k_l08Ask A V ns ks h
  rw [hx] at k1
  refine fn_of_ev tok Try.func22 rfl rfl rfl ?_
  repeat' ((conv => whnf); first | done | refine ev_step ?_ | refine ops_step ?_ | refine scan_step ?_ | refine draw_step ?_ | refine each_step ?_ | refine guard_no (by decide) ?_ | refine guard_go ?_ | apply cut_auto | with_reducible exact CutS.mk (Or.inl ⟨rfl, rfl, rfl⟩) | refine CutS.mk (Or.inr (sub_auto ?_)) | exact trivial | refine And.intro ?_ ?_ | refine cond_split ?_ ?_ | apply guess | apply FnIs.useF (k1) | exact Or.inl rfl | exact Or.inr rfl | exact Side.mk trivial | exact Side.mk (fun h => h) | exact Side.mk (fun h => ⟨h, h⟩) | with_reducible exact Side.mk rfl | with_reducible exact Side.mk ⟨rfl, rfl⟩ | with_reducible exact Side.mk (by assumption) | with_reducible rfl | intro _)
  all_goals try (conv => whnf)
  all_goals try (refine Side.mk ?_; first | (intros; omega) | (show List.length (_ ++ _) ≤ _; simp only [List.length_append, List.length_cons, List.length_nil, List.length_replicate, List.length_take]; omega) | (simp_all; done) | (simp_all; omega))
  all_goals first | rfl | trace_state
theorem k_ChosenUse_no (A V : List (List Int)) (ns : List R4) (ks : List Int) (h : Side (natSS A ∧ natSS V ∧ ns.length ≤ 1048577 ∧ ks.length ≤ 1048577)) (hx : chB A V ns ks = false) : FnIs Try.prog 23 [.agg [.sl 1 [], .sl 3 []], .sl 4 [], .sl 5 []] 6 ((4, .flat false (.r4 ns)) :: (5, .flat false (.ints .i64 ks)) :: gridH false A V) (.tuple [.agg [.nilsl, .nilsl], .bool false]) 6 [] := by
  have k1 := k_choiceOk A V ns ks h
  rw [hx] at k1
  refine fn_of_ev tok Try.func23 rfl rfl rfl ?_
  repeat' ((conv => whnf); first | done | refine ev_step ?_ | refine ops_step ?_ | refine scan_step ?_ | refine draw_step ?_ | refine each_step ?_ | refine guard_no (by decide) ?_ | refine guard_go ?_ | apply cut_auto | with_reducible exact CutS.mk (Or.inl ⟨rfl, rfl, rfl⟩) | refine CutS.mk (Or.inr (sub_auto ?_)) | exact trivial | refine And.intro ?_ ?_ | refine cond_split ?_ ?_ | apply guess | apply FnIs.useF (k1) | exact Or.inl rfl | exact Or.inr rfl | exact Side.mk trivial | exact Side.mk (fun h => h) | exact Side.mk (fun h => ⟨h, h⟩) | with_reducible exact Side.mk rfl | with_reducible exact Side.mk ⟨rfl, rfl⟩ | with_reducible exact Side.mk (by assumption) | with_reducible rfl | intro _)
  all_goals try (conv => whnf)
  all_goals try (refine Side.mk ?_; first | (intros; omega) | (show List.length (_ ++ _) ≤ _; simp only [List.length_append, List.length_cons, List.length_nil, List.length_replicate, List.length_take]; omega) | (simp_all; done) | (simp_all; omega))
  all_goals first | rfl | trace_state
def useT (A : List (List Int)) (ns : List R4) (ks : List Int) : UU := usedT (wN A) A.length ns ks ks.length
/-- The objects of a grid at names from 6 on. -/
abbrev gridH6 (B W : List (List Int)) : Heap := [(7, .flat true (.rows 6 0 B.length)), (6, .nestI true .i64 B), (9, .flat true (.rows 8 0 W.length)), (8, .nestI true .i64 W)]
theorem k_ChosenSpec (A V : List (List Int)) (ns : List R4) (ks : List Int) (h : Side (natSS A ∧ natSS V ∧ ns.length ≤ 1048577 ∧ ks.length ≤ 1048577)) (hx : chB A V ns ks = true) : FnIs Try.prog 22 [.agg [.sl 1 [], .sl 3 []], .sl 4 [], .sl 5 []] 6 ((4, .flat false (.r4 ns)) :: (5, .flat false (.ints .i64 ks)) :: gridH false A V) (.tuple [.agg [.sl 7 [], .sl 9 []], .bool true]) 10 (gridH6 (useT A ns ks).1 (useT A ns ks).2) := by
  have k1 := k_l08Ask A V ns ks h
  rw [hx] at k1
  obtain ⟨q1, q2, q3, q4⟩ := chB_side h.h.1 hx
  have hd := used_dims (chB_ok hx) ks.length (Nat.le_refl _)
  have k2 := k_l08Use A V ns ks ⟨q1, q2, q3, by omega⟩ (chB_ok hx)
  unfold gridH6 useT
  rw [hd.a.len, hd.u.len]
  refine fn_of_ev tok Try.func22 rfl rfl rfl ?_
  repeat' ((conv => whnf); first | done | refine ev_step ?_ | refine ops_step ?_ | refine scan_step ?_ | refine draw_step ?_ | refine each_step ?_ | refine guard_no (by decide) ?_ | refine guard_go ?_ | apply cut_auto | with_reducible exact CutS.mk (Or.inl ⟨rfl, rfl, rfl⟩) | refine CutS.mk (Or.inr (sub_auto ?_)) | exact trivial | refine And.intro ?_ ?_ | refine cond_split ?_ ?_ | apply guess | apply FnIs.useF (k1) | apply FnIs.useF (k2) | exact Or.inl rfl | exact Or.inr rfl | exact Side.mk trivial | exact Side.mk (fun h => h) | exact Side.mk (fun h => ⟨h, h⟩) | with_reducible exact Side.mk rfl | with_reducible exact Side.mk ⟨rfl, rfl⟩ | with_reducible exact Side.mk (by assumption) | with_reducible rfl | intro _)
  all_goals try (conv => whnf)
  all_goals try (refine Side.mk ?_; first | (intros; omega) | (show List.length (_ ++ _) ≤ _; simp only [List.length_append, List.length_cons, List.length_nil, List.length_replicate, List.length_take]; omega) | (simp_all; done) | (simp_all; omega))
  all_goals first | rfl | trace_state
theorem k_ChosenUse (A V : List (List Int)) (ns : List R4) (ks : List Int) (h : Side (natSS A ∧ natSS V ∧ ns.length ≤ 1048577 ∧ ks.length ≤ 1048577)) (hx : chB A V ns ks = true) : FnIs Try.prog 23 [.agg [.sl 1 [], .sl 3 []], .sl 4 [], .sl 5 []] 6 ((4, .flat false (.r4 ns)) :: (5, .flat false (.ints .i64 ks)) :: gridH false A V) (.tuple [.agg [.sl 7 [], .sl 9 []], .bool true]) 10 (gridH6 (useT A ns ks).1 (useT A ns ks).2) := by
  have k1 := k_choiceOk A V ns ks h
  rw [hx] at k1
  obtain ⟨q1, q2, q3, q4⟩ := chB_side h.h.1 hx
  have hd := used_dims (chB_ok hx) ks.length (Nat.le_refl _)
  have k2 := k_used A V ns ks ⟨q1, q2, q3, q4⟩ (chB_ok hx)
  unfold gridH6 useT
  rw [hd.a.len, hd.u.len]
  refine fn_of_ev tok Try.func23 rfl rfl rfl ?_
  repeat' ((conv => whnf); first | done | refine ev_step ?_ | refine ops_step ?_ | refine scan_step ?_ | refine draw_step ?_ | refine each_step ?_ | refine guard_no (by decide) ?_ | refine guard_go ?_ | apply cut_auto | with_reducible exact CutS.mk (Or.inl ⟨rfl, rfl, rfl⟩) | refine CutS.mk (Or.inr (sub_auto ?_)) | exact trivial | refine And.intro ?_ ?_ | refine cond_split ?_ ?_ | apply guess | apply FnIs.useF (k1) | apply FnIs.useF (k2) | exact Or.inl rfl | exact Or.inr rfl | exact Side.mk trivial | exact Side.mk (fun h => h) | exact Side.mk (fun h => ⟨h, h⟩) | with_reducible exact Side.mk rfl | with_reducible exact Side.mk ⟨rfl, rfl⟩ | with_reducible exact Side.mk (by assumption) | with_reducible rfl | intro _)
  all_goals try (conv => whnf)
  all_goals try (refine Side.mk ?_; first | (intros; omega) | (show List.length (_ ++ _) ≤ _; simp only [List.length_append, List.length_cons, List.length_nil, List.length_replicate, List.length_take]; omega) | (simp_all; done) | (simp_all; omega))
  all_goals first | rfl | trace_state
theorem totL_le {W : List (List Int)} {e : Nat} (h : ∀ y, y < W.length → (W.getD y []).length ≤ e) : totL W ≤ e * W.length := by
  induction W with
  | nil => simp [totL]
  | cons x W ih =>
    have h0 := h 0 (by simp)
    have := ih fun y hy => by have := h (y + 1) (by simpa using hy); simpa using this
    simp only [totL, List.length_cons, List.getD_cons_zero] at h0 ⊢
    rw [Nat.mul_succ]; omega
theorem dims_nat {A V : List (List Int)} (hg : gridB A V = true) {m : Int} {U : UU} (hU : Dims (wN A) A.length m U) : natSS U.1 ∧ natSS U.2 ∧ totL U.1 ≤ 64 ∧ totL U.2 ≤ 64 ∧ U.1.length ≤ 8 ∧ U.2.length ≤ 8 := by
  obtain ⟨g1, g2, g3⟩ := gridB_len hg
  rw [wN_wd] at g3
  have l1 := hU.a.len
  have l2 := hU.u.len
  have a1 : ∀ y, y < U.1.length → (U.1.getD y []).length ≤ 8 := fun y hy => by rw [hU.a.each y (by omega)]; omega
  have a2 : ∀ y, y < U.2.length → (U.2.getD y []).length ≤ 8 := fun y hy => by rw [hU.u.each y (by omega)]; omega
  have t1 := totL_le a1
  have t2 := totL_le a2
  have n : ∀ {W : List (List Int)}, (∀ y, y < W.length → (W.getD y []).length ≤ 8) → ∀ xs ∈ W, xs.length ≤ 1048577 := fun {W} hW xs hx => by
    obtain ⟨y, hy, rfl⟩ := List.mem_iff_getElem.1 hx
    have := hW y hy
    rw [getD_get hy] at this
    omega
  exact ⟨⟨by omega, n a1⟩, ⟨by omega, n a2⟩, by omega, by omega, by omega, by omega⟩
theorem k_FnExactChosenUse (A V : List (List Int)) (ns : List R4) (ks : List Int) (hp : Side (GIn A V ∧ ns.length ≤ 9223372036854775807 ∧ ks.length ≤ 9223372036854775807)) : FnIs Try.prog 5 [.agg [.sl 1 [], .sl 3 []], .sl 4 [], .sl 5 []] 6 [(5, .flat false (.ints .i64 ks)), (4, .flat false (.r4 ns)), (3, .flat false (.rows 2 0 V.length)), (2, .nestI false .i64 V), (1, .flat false (.rows 0 0 A.length)), (0, .nestI false .i64 A)] (.bool true) 6 [] := by
  have k0 := k_szGrid A V 1048576 hp.h.1.sz
  have hge : -1 ≤ szN A 1048576 := szN_ge (by omega)
  refine fn_of_evk [0, 1, 2, 3, 6, 7, 8, 9, 10, 11, 12, 13, 14, 15, 16, 17, 18, 19, 22, 27, 32, 64, 69, 74, 79, 101, 109, 112, 131, 136, 139] tok Try.func5 rfl rfl rfl ?_
  by_cases hk : 1048576 < (ks.length : Int)
  · repeat' ((conv => whnf); first | done | refine ev_step ?_ | refine ops_step ?_ | refine scan_step ?_ | refine draw_step ?_ | refine each_step ?_ | refine guard_no (by decide) ?_ | refine guard_go ?_ | apply cut_auto | with_reducible exact CutS.mk (Or.inl ⟨rfl, rfl, rfl⟩) | refine CutS.mk (Or.inr (sub_auto ?_)) | exact trivial | refine And.intro ?_ ?_ | (refine cond_split ?_ ?_ <;> intro _ <;> first | (exfalso; first | omega | (simp only [decide_eq_true_eq, decide_eq_false_iff_not, Bool.not_eq_true', Bool.not_eq_false', ne_eq, Bool.not_true, Bool.not_false, cond_true, cond_false, Bool.true_eq_false, Bool.false_eq_true, Bool.and_eq_true, Bool.and_eq_false_iff] at *; omega)) | skip) | apply guess | exact Or.inl rfl | exact Or.inr rfl | exact Side.mk trivial | exact Side.mk (fun h => h) | exact Side.mk (fun h => ⟨h, h⟩) | with_reducible exact Side.mk rfl | with_reducible exact Side.mk ⟨rfl, rfl⟩ | with_reducible exact Side.mk (by assumption) | with_reducible rfl | intro _)
    all_goals try (conv => whnf)
    all_goals try (refine Side.mk ?_; first | (intros; omega) | (show List.length (_ ++ _) ≤ _; simp only [List.length_append, List.length_cons, List.length_nil, List.length_replicate, List.length_take]; omega) | (simp_all; done) | (simp_all; omega))
    all_goals first | omega | rfl | (simp_all; done) | trace_state
  · by_cases hl : (if szN A 1048576 < 0 then -1 else szN V (szN A 1048576)) < 0
    · generalize (if szN A 1048576 < 0 then -1 else szN V (szN A 1048576)) = z at *
      repeat' ((conv => whnf); first | done | refine ev_step ?_ | refine ops_step ?_ | refine scan_step ?_ | refine draw_step ?_ | refine each_step ?_ | refine guard_no (by decide) ?_ | refine guard_go ?_ | apply cut_auto | with_reducible exact CutS.mk (Or.inl ⟨rfl, rfl, rfl⟩) | refine CutS.mk (Or.inr (sub_auto ?_)) | exact trivial | refine And.intro ?_ ?_ | (refine cond_split ?_ ?_ <;> intro _ <;> first | (exfalso; first | omega | (simp only [decide_eq_true_eq, decide_eq_false_iff_not, Bool.not_eq_true', Bool.not_eq_false', ne_eq, Bool.not_true, Bool.not_false, cond_true, cond_false, Bool.true_eq_false, Bool.false_eq_true, Bool.and_eq_true, Bool.and_eq_false_iff] at *; omega)) | skip) | apply guess | apply FnIs.useF (k0) | exact Or.inl rfl | exact Or.inr rfl | exact Side.mk trivial | exact Side.mk (fun h => h) | exact Side.mk (fun h => ⟨h, h⟩) | with_reducible exact Side.mk rfl | with_reducible exact Side.mk ⟨rfl, rfl⟩ | with_reducible exact Side.mk (by assumption) | with_reducible rfl | intro _)
      all_goals try (conv => whnf)
      all_goals try (refine Side.mk ?_; first | (intros; omega) | (show List.length (_ ++ _) ≤ _; simp only [List.length_append, List.length_cons, List.length_nil, List.length_replicate, List.length_take]; omega) | (simp_all; done) | (simp_all; omega))
      all_goals first | omega | rfl | (simp_all; done) | trace_state
    · obtain ⟨nA, nV⟩ := gin_nat hl
      obtain ⟨tA, tV⟩ := gin_tot hl
      have hzl : (if szN A 1048576 < 0 then -1 else szN V (szN A 1048576)) ≤ 1048576 := gin_le hl
      generalize (if szN A 1048576 < 0 then -1 else szN V (szN A 1048576)) = z at *
      have kz := k_szNetS ns z ⟨by omega, by omega, hp.h.2.1⟩
      by_cases hm : z - ns.length < 0
      · rw [if_pos hm] at kz
        repeat' ((conv => whnf); first | done | refine ev_step ?_ | refine ops_step ?_ | refine scan_step ?_ | refine draw_step ?_ | refine each_step ?_ | refine guard_no (by decide) ?_ | refine guard_go ?_ | apply cut_auto | with_reducible exact CutS.mk (Or.inl ⟨rfl, rfl, rfl⟩) | refine CutS.mk (Or.inr (sub_auto ?_)) | exact trivial | refine And.intro ?_ ?_ | (refine cond_split ?_ ?_ <;> intro _ <;> first | (exfalso; first | omega | (simp only [decide_eq_true_eq, decide_eq_false_iff_not, Bool.not_eq_true', Bool.not_eq_false', ne_eq, Bool.not_true, Bool.not_false, cond_true, cond_false, Bool.true_eq_false, Bool.false_eq_true, Bool.and_eq_true, Bool.and_eq_false_iff] at *; omega)) | skip) | apply guess | apply FnIs.useF (k0) | apply FnIs.useF (kz) | exact Or.inl rfl | exact Or.inr rfl | exact Side.mk trivial | exact Side.mk (fun h => h) | exact Side.mk (fun h => ⟨h, h⟩) | with_reducible exact Side.mk rfl | with_reducible exact Side.mk ⟨rfl, rfl⟩ | with_reducible exact Side.mk (by assumption) | with_reducible rfl | intro _)
        all_goals try (conv => whnf)
        all_goals try (refine Side.mk ?_; first | (intros; omega) | (show List.length (_ ++ _) ≤ _; simp only [List.length_append, List.length_cons, List.length_nil, List.length_replicate, List.length_take]; omega) | (simp_all; done) | (simp_all; omega))
        all_goals first | omega | rfl | (simp_all; done) | trace_state
      · rw [if_neg hm] at kz
        have nn : ns.length ≤ 1048577 := by omega
        have nk : ks.length ≤ 1048577 := by omega
        have km := k_markGrid A V 1 ⟨tA, nA.1, tV, nV.1, by omega, by omega⟩
        have km2 := k_markNetS ns (1 + totL A + totL V) ⟨nn, by omega, by omega⟩
        have km3 := k_markInt64S ks (1 + totL A + totL V + 4 * ns.length) ⟨by omega, by omega, by omega⟩
        have ki := k_toInt64S _ ⟨nk⟩
        have kn := k_toNetS _ ⟨nn⟩
        have ke2 := k_eqNetS_same _ ⟨nn⟩
        have ke3 := k_eqInt64S_same _ ⟨nk⟩
        cases hx : chB A V ns ks
        · have k1 := k_ChosenSpec_no A V ns ks ⟨nA, nV, nn, nk⟩ hx
          have k2 := k_ChosenUse_no A V ns ks ⟨nA, nV, nn, nk⟩ hx
          repeat' ((conv => whnf); first | done | refine ev_step ?_ | refine ops_step ?_ | refine scan_step ?_ | refine draw_step ?_ | refine each_step ?_ | refine guard_no (by decide) ?_ | refine guard_go ?_ | apply cut_auto | with_reducible exact CutS.mk (Or.inl ⟨rfl, rfl, rfl⟩) | refine CutS.mk (Or.inr (sub_auto ?_)) | exact trivial | refine And.intro ?_ ?_ | (refine cond_split ?_ ?_ <;> intro _ <;> first | (exfalso; first | omega | (simp only [decide_eq_true_eq, decide_eq_false_iff_not, Bool.not_eq_true', Bool.not_eq_false', ne_eq, Bool.not_true, Bool.not_false, cond_true, cond_false, Bool.true_eq_false, Bool.false_eq_true, Bool.and_eq_true, Bool.and_eq_false_iff] at *; omega)) | skip) | apply guess | apply FnIs.useF (k0) | apply FnIs.useF (kz) | apply FnIs.useF (k1) | apply FnIs.useF (k2) | apply FnIs.useF (km2) | apply FnIs.useF (km3) | apply FnIs.useF (k_toGrid A V ⟨⟨nA, nV⟩⟩) | apply FnIs.useF (kn) | apply FnIs.useF (ki) | refine FnIs.useG (k_eqGrid_nil) rfl ?_ | apply FnIs.useF (k_eqGrid_same A V ⟨⟨nA, nV⟩⟩) | apply FnIs.useF (ke2) | apply FnIs.useF (ke3) | refine FnIs.useG (k_markGrid_nil 1) rfl ?_ | apply FnIs.useF (km) | apply FnIs.useF (k_heldGrid_nil 1 ⟨by omega⟩) | exact Or.inl rfl | exact Or.inr rfl | exact Side.mk trivial | exact Side.mk (fun h => h) | exact Side.mk (fun h => ⟨h, h⟩) | with_reducible exact Side.mk rfl | with_reducible exact Side.mk ⟨rfl, rfl⟩ | with_reducible exact Side.mk (by assumption) | with_reducible rfl | intro _)
          all_goals try (conv => whnf)
          all_goals try (refine Side.mk ?_; first | (intros; omega) | (show List.length (_ ++ _) ≤ _; simp only [List.length_append, List.length_cons, List.length_nil, List.length_replicate, List.length_take]; omega) | (simp_all; done) | (simp_all; omega))
          all_goals first | omega | rfl | (simp_all; done) | trace_state
        · have k1 := k_ChosenSpec A V ns ks ⟨nA, nV, nn, nk⟩ hx
          have k2 := k_ChosenUse A V ns ks ⟨nA, nV, nn, nk⟩ hx
          obtain ⟨q1, q2, q3, q4⟩ := chB_side nA hx
          have hu := dims_nat q2 (used_dims (chB_ok hx) ks.length (Nat.le_refl _))
          change natSS (useT A ns ks).1 ∧ natSS (useT A ns ks).2 ∧ totL (useT A ns ks).1 ≤ 64 ∧ totL (useT A ns ks).2 ≤ 64 ∧ (useT A ns ks).1.length ≤ 8 ∧ (useT A ns ks).2.length ≤ 8 at hu
          generalize (useT A ns ks).1 = B at *
          generalize (useT A ns ks).2 = W at *
          obtain ⟨n1, n2, t1, t2, l1, l2⟩ := hu
          have kh := k_heldGrid B W 1 ⟨by omega⟩
          repeat' ((conv => whnf); first | done | refine ev_step ?_ | refine ops_step ?_ | refine scan_step ?_ | refine draw_step ?_ | refine each_step ?_ | refine guard_no (by decide) ?_ | refine guard_go ?_ | apply cut_auto | with_reducible exact CutS.mk (Or.inl ⟨rfl, rfl, rfl⟩) | refine CutS.mk (Or.inr (sub_auto ?_)) | exact trivial | refine And.intro ?_ ?_ | (refine cond_split ?_ ?_ <;> intro _ <;> first | (exfalso; first | omega | (simp only [decide_eq_true_eq, decide_eq_false_iff_not, Bool.not_eq_true', Bool.not_eq_false', ne_eq, Bool.not_true, Bool.not_false, cond_true, cond_false, Bool.true_eq_false, Bool.false_eq_true, Bool.and_eq_true, Bool.and_eq_false_iff] at *; omega)) | skip) | apply guess | apply FnIs.useF (k0) | apply FnIs.useF (kz) | apply FnIs.useF (k1) | apply FnIs.useF (k2) | apply FnIs.useF (k_markGrid _ _ 1 _) | apply FnIs.useF (km2) | apply FnIs.useF (km3) | apply FnIs.useF (kh) | apply FnIs.useF (k_toGrid A V ⟨⟨nA, nV⟩⟩) | apply FnIs.useF (kn) | apply FnIs.useF (ki) | apply FnIs.useF (k_eqGrid_same _ _ _) | apply FnIs.useF (ke2) | apply FnIs.useF (ke3) | exact Or.inl rfl | exact Or.inr rfl | exact Side.mk trivial | exact Side.mk (fun h => h) | exact Side.mk (fun h => ⟨h, h⟩) | with_reducible exact Side.mk rfl | with_reducible exact Side.mk ⟨rfl, rfl⟩ | with_reducible exact Side.mk (by assumption) | with_reducible rfl | intro _)
          all_goals try (conv => whnf)
          all_goals first | omega | rfl | exact Side.mk ⟨nA, nV⟩ | exact Side.mk ⟨n1, n2⟩ | (refine Side.mk ?_; omega) | (rename_i hq; exfalso; simp at hq; done) | trace_state
end Go.Sx.U
