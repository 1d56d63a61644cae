/-
  Chapter 8: the best choice, as the reference finds it (contracts).
-/
import Derived.Test.YtpbmikcicibfcaaM8Z
import Derived.Test.YtpbmikcicibfcaaG25
set_option linter.unusedSimpArgs false
namespace Go.Sx.U
set_option linter.unusedVariables false
set_option linter.unusedSimpArgs false
set_option maxRecDepth 100000
set_option maxHeartbeats 8000000
open Go Go.Sx Go.Proofs Go.Sx.M8

/-- Are there few enough choices? -/
def bcOk (A V : List (List Int)) (ns : List R4) : Bool := netsB A V ns && decide (pF (sN ns) ns.length ≤ 20000)
theorem sN_bd {A V : List (List Int)} {ns : List R4} (h : netsB A V ns = true) {i : Nat} (hi : i < ns.length) : 1 ≤ sN ns i ∧ sN ns i ≤ 14 :=
  ⟨shapes_pos, (shapes_small (net_sd h hi).h).1⟩
theorem pF_bd {A V : List (List Int)} {ns : List R4} (h : netsB A V ns = true) : ∀ i, i ≤ ns.length → 1 ≤ pF (sN ns) i ∧ pF (sN ns) i ≤ 14 ^ i
  | 0, _ => by simp [pF]
  | i + 1, hi => by
    obtain ⟨h1, h2⟩ := pF_bd h i (by omega)
    obtain ⟨s1, s2⟩ := sN_bd h (show i < ns.length by omega)
    rw [pF, Nat.pow_succ]
    exact ⟨Nat.mul_pos h1 s1, Nat.mul_le_mul h2 s2⟩
theorem pF_small {A V : List (List Int)} {ns : List R4} (h : netsB A V ns = true) {i : Nat} (hi : i ≤ ns.length) : pF (sN ns) i ≤ 7529536 := by
  obtain ⟨_, hl, _⟩ := netsB_all h
  exact Nat.le_trans (pF_bd h i hi).2 (Nat.le_trans (Nat.pow_le_pow_right (by omega) (show i ≤ 6 by omega)) (by decide))
theorem dL_ok {A V : List (List Int)} {ns : List R4} (h : netsB A V ns = true) (k : Nat) : ChoiceOK (wN A) A.length ns (dL (sN ns) ns.length k) := by
  have h0 := choice_nil h
  refine ⟨by rw [dL_len]; omega, h0.cel, fun i hi => ?_⟩
  rw [dL_len] at hi
  have hp := (sN_bd h hi).1
  rw [dL_get hi]
  have := Nat.mod_lt (qD (sN ns) ns.length k (ns.length - 1 - i)) (show sN ns i > 0 by omega)
  exact ⟨by omega, by unfold sN at *; omega⟩
abbrev bV (A V : List (List Int)) (ns : List R4) (k : Nat) : List Int × Int := bT (ovF A V ns) (sN ns) ns.length k
theorem bV_bd {A V : List (List Int)} {ns : List R4} (h : netsB A V ns = true) (k : Nat) : -1 ≤ (bV A V ns k).2 ∧ (bV A V ns k).2 ≤ 1000000 := by
  obtain ⟨hg, hl, _⟩ := netsB_all h
  refine bT_bd (by omega) k fun j _ => ?_
  have := ovF_bd hg (ns := ns) (ks := dL (sN ns) ns.length j) (by rw [dL_len]; exact hl) (dL_ok h j)
  omega
/-- The digits that stand already. -/
def dZ (D : List Int) (n t : Nat) : List Int := List.replicate (n - t) 0 ++ D.drop (n - t)
theorem dZ_zero {D : List Int} {n : Nat} (h : D.length = n) : dZ D n 0 = List.replicate n 0 := by
  simp [dZ, ← h]
theorem dZ_full {D : List Int} {n : Nat} : dZ D n n = D := by simp [dZ]
theorem dZ_len {D : List Int} {n t : Nat} (h : D.length = n) : (dZ D n t).length = n := by
  simp only [dZ, List.length_append, List.length_replicate, List.length_drop, h]; omega
theorem dZ_set {D : List Int} {n t : Nat} (h : D.length = n) (ht : t < n) : (dZ D n t).set (n - 1 - t) (D.getD (n - 1 - t) 0) = dZ D n (t + 1) := by
  apply List.ext_getElem
  · rw [List.length_set, dZ_len h, dZ_len h]
  · intro i h1 h2
    simp only [dZ, List.length_set, List.length_append, List.length_replicate, List.length_drop] at h1 h2
    simp only [dZ, List.getElem_set, List.getElem_append, List.length_replicate, List.getElem_replicate, List.getElem_drop]
    by_cases e : n - 1 - t = i
    · subst e
      rw [if_pos rfl, dif_neg (by omega)]
      rw [List.getD, List.getElem?_eq_getElem (by omega), Option.getD_some]
      congr 1
      omega
    · rw [if_neg e]
      by_cases h3 : i < n - t
      · rw [dif_pos h3, dif_pos (by omega)]
      · rw [dif_neg h3, dif_neg (by omega)]
        congr 1
        omega
theorem k_BestSpec8_no (A V : List (List Int)) (ns : List R4) (h : Side (natSS A ∧ natSS V ∧ ns.length ≤ 1048577)) (hx : bcOk A V ns = false) : FnIs Try.prog 31 [.agg [.sl 1 [], .sl 3 []], .sl 4 []] 5 ((4, .flat false (.r4 ns)) :: gridH false A V) (.tuple [.nilsl, .int .i64 0, .bool false]) 5 [] := by
  have k1 := k_l08Nets A V ns h
  refine fn_of_evk [0, 1, 2, 4, 5, 6, 7, 8, 9, 10, 11, 12, 13, 14, 15, 16, 19, 23, 35, 39, 50, 77] tok Try.func31 rfl rfl rfl ?_
  by_cases hn : netsB A V ns = true
  · rw [hn] at k1
    have hbig : ¬ pF (sN ns) ns.length ≤ 20000 := by
      unfold bcOk at hx
      rw [hn, Bool.true_and] at hx
      exact of_decide_eq_false hx
    clear hx
    have hl6 := (netsB_all hn).2.1
    obtain ⟨C, hC⟩ : ∃ C, pF (sN ns) ns.length = C := ⟨_, rfl⟩
    rw [hC] at hbig
    repeat' ((conv => whnf); first | done | refine ev_step ?_ | refine ops_step ?_ | refine scan_step ?_ | refine draw_step ?_ | refine each_step ?_ | refine sl_step ?_ | refine hp_step ?_ | refine guard_no (by decide) ?_ | refine guard_go ?_ | refine guard_old ?_ | apply cut_auto | with_reducible exact CutS.mk (Or.inl ⟨rfl, rfl, rfl⟩) | refine CutS.mk (Or.inr (sub_auto ?_)) | exact trivial | refine And.intro ?_ ?_ | (refine cond_split ?_ ?_ <;> intro _ <;> first | (exfalso; first | omega | (simp only [decide_eq_true_eq, decide_eq_false_iff_not, Bool.not_eq_true', Bool.not_eq_false', ne_eq, Bool.not_true, Bool.not_false, cond_true, cond_false, Bool.true_eq_false, Bool.false_eq_true, Bool.and_eq_true, Bool.and_eq_false_iff] at *; omega)) | skip) | apply guess | apply FnIs.useF (k1) | exact Or.inl rfl | exact Or.inr rfl | exact Side.mk trivial | exact Side.mk (fun h => h) | exact Side.mk (fun h => ⟨h, h⟩) | with_reducible exact Side.mk rfl | with_reducible exact Side.mk ⟨rfl, rfl⟩ | with_reducible exact Side.mk (by assumption) | with_reducible rfl | intro _)
    all_goals try (conv => whnf)
    all_goals try (refine Side.mk ?_; first | (intros; omega) | (intro h1_ h2_; rw [h1_, h2_]; rfl) | (show List.length (_ ++ _) ≤ _; simp only [List.length_append, List.length_cons, List.length_nil, List.length_replicate, List.length_take]; omega) | (simp_all; done) | (simp_all; omega))
    refine loop_at (fun i : Nat => i ≤ ns.length) 6 (fun i => [(7, .int .i64 (pF (sN ns) i : Nat)), (8, .int .i64 i), (23, .top)]) (fun i => []) (fun i => ns.length - i) 0 (Nat.zero_le _) ?_ (fun i hi => ?_)
    · repeat' ((conv => whnf); first | done | refine ev_step ?_ | refine ops_step ?_ | refine scan_step ?_ | refine draw_step ?_ | refine each_step ?_ | refine sl_step ?_ | refine hp_step ?_ | refine guard_no (by decide) ?_ | refine guard_go ?_ | refine guard_old ?_ | apply cut_auto | with_reducible exact CutS.mk (Or.inl ⟨rfl, rfl, rfl⟩) | refine CutS.mk (Or.inr (sub_auto ?_)) | exact trivial | refine And.intro ?_ ?_ | refine cond_split ?_ ?_ | apply guess | exact Or.inl rfl | exact Or.inr rfl | exact Side.mk trivial | exact Side.mk (fun h => h) | exact Side.mk (fun h => ⟨h, h⟩) | with_reducible exact Side.mk rfl | with_reducible exact Side.mk ⟨rfl, rfl⟩ | with_reducible exact Side.mk (by assumption) | with_reducible rfl | intro _)
      all_goals try (conv => whnf)
      all_goals first | rfl | trace_state
    · have hps := pF_small hn hi
      by_cases hlt : i < ns.length
      · have ks1 := k_l08Shapes _ _ _ _ (net_sd hn hlt)
        have hps2 := pF_small hn (show i + 1 ≤ ns.length by omega)
        have e : ((pF (sN ns) (i + 1) : Nat) : Int) = ((pF (sN ns) i : Nat) : Int) * ((shapesV (ns.getD i default).a (ns.getD i default).b (ns.getD i default).c (ns.getD i default).d).length : Int) := by
          rw [pF]; push_cast; rfl
        repeat' ((conv => whnf); first | done | refine ev_step ?_ | refine ops_step ?_ | refine scan_step ?_ | refine draw_step ?_ | refine each_step ?_ | refine sl_step ?_ | refine hp_step ?_ | refine guard_no (by decide) ?_ | refine guard_go ?_ | refine guard_old ?_ | apply cut_auto | with_reducible exact CutS.mk (Or.inl ⟨rfl, rfl, rfl⟩) | refine CutS.mk (Or.inr (sub_auto ?_)) | exact trivial | refine And.intro ?_ ?_ | (refine cond_split ?_ ?_ <;> intro _ <;> first | (exfalso; first | omega | (simp only [decide_eq_true_eq, decide_eq_false_iff_not, Bool.not_eq_true', Bool.not_eq_false', ne_eq, Bool.not_true, Bool.not_false, cond_true, cond_false, Bool.true_eq_false, Bool.false_eq_true, Bool.and_eq_true, Bool.and_eq_false_iff] at *; omega)) | skip) | apply guess | apply FnIs.useF (ks1) | exact Or.inl rfl | exact Or.inr rfl | exact Side.mk trivial | exact Side.mk (fun h => h) | exact Side.mk (fun h => ⟨h, h⟩) | with_reducible exact Side.mk rfl | with_reducible exact Side.mk ⟨rfl, rfl⟩ | with_reducible exact Side.mk (by assumption) | with_reducible rfl | intro _)
        all_goals try (conv => whnf)
        all_goals try simp only [Int.toNat_natCast]
        all_goals try (refine Side.mk ?_; rw [← e]; unfold inI64; omega)
        all_goals try (refine Side.mk ?_; first | (intros; omega) | (intro h1_ h2_; rw [h1_, h2_]; rfl) | (show List.length (_ ++ _) ≤ _; simp only [List.length_append, List.length_cons, List.length_nil, List.length_replicate, List.length_take]; omega) | (simp_all; done) | (simp_all; omega))
        all_goals try omega
        refine ⟨i + 1, by omega, by omega, ?_⟩
        repeat' ((conv => whnf); first | done | refine ev_step ?_ | refine ops_step ?_ | refine scan_step ?_ | refine draw_step ?_ | refine each_step ?_ | refine sl_step ?_ | refine hp_step ?_ | refine guard_no (by decide) ?_ | refine guard_go ?_ | refine guard_old ?_ | apply cut_auto | with_reducible exact CutS.mk (Or.inl ⟨rfl, rfl, rfl⟩) | refine CutS.mk (Or.inr (sub_auto ?_)) | exact trivial | refine And.intro ?_ ?_ | refine cond_split ?_ ?_ | apply guess | exact Or.inl rfl | exact Or.inr rfl | exact Side.mk trivial | exact Side.mk (fun h => h) | exact Side.mk (fun h => ⟨h, h⟩) | with_reducible exact Side.mk rfl | with_reducible exact Side.mk ⟨rfl, rfl⟩ | with_reducible exact Side.mk (by assumption) | with_reducible rfl | intro _)
        all_goals try (conv => whnf)
        all_goals first | rfl | omega | (simp only [Int.toNat_natCast]; exact e) | (simp only [Int.toNat_natCast]; exact e.symm) | trace_state
      · obtain rfl : i = ns.length := by omega
        have hbig2 : decide (20000 < ((pF (sN ns) ns.length : Nat) : Int)) = true := decide_eq_true (by rw [hC]; omega)
        repeat' ((conv => whnf); first | done | refine ev_step ?_ | refine ops_step ?_ | refine scan_step ?_ | refine draw_step ?_ | refine each_step ?_ | refine sl_step ?_ | refine hp_step ?_ | refine guard_no (by decide) ?_ | refine guard_go ?_ | refine guard_old ?_ | apply cut_auto | with_reducible exact CutS.mk (Or.inl ⟨rfl, rfl, rfl⟩) | refine CutS.mk (Or.inr (sub_auto ?_)) | exact trivial | refine And.intro ?_ ?_ | (refine cond_split ?_ ?_ <;> intro hq_ <;> first | (exfalso; first | omega | (simp only [hbig2, cond_true, cond_false, Bool.not_true, Bool.not_false, Bool.and_true, Bool.true_and, Bool.and_false, Bool.false_and, Bool.or_true, Bool.true_or, Bool.or_false, Bool.false_or, Bool.true_eq_false, Bool.false_eq_true, decide_true, decide_false, reduceCtorEq] at hq_; done) | (rw [decide_eq_false_iff_not] at hq_; omega) | (rw [decide_eq_true_eq] at hq_; omega) | (simp only [hbig2, reduceCtorEq] at hq_; done) | exact Bool.noConfusion (Eq.trans (Eq.symm hbig2) hq_)) | skip) | apply guess | exact Or.inl rfl | exact Or.inr rfl | exact Side.mk trivial | exact Side.mk (fun h => h) | exact Side.mk (fun h => ⟨h, h⟩) | with_reducible exact Side.mk rfl | with_reducible exact Side.mk ⟨rfl, rfl⟩ | with_reducible exact Side.mk (by assumption) | with_reducible rfl | intro _)
        all_goals try (conv => whnf)
        all_goals try (refine Side.mk ?_; first | (intros; omega) | (intro h1_ h2_; rw [h1_, h2_]; rfl) | (show List.length (_ ++ _) ≤ _; simp only [List.length_append, List.length_cons, List.length_nil, List.length_replicate, List.length_take]; omega) | (simp_all; done) | (simp_all; omega))
        all_goals first | rfl | omega | trace_state
  · rw [Bool.not_eq_true] at hn
    rw [hn] at k1
    repeat' ((conv => whnf); first | done | refine ev_step ?_ | refine ops_step ?_ | refine scan_step ?_ | refine draw_step ?_ | refine each_step ?_ | refine sl_step ?_ | refine hp_step ?_ | refine guard_no (by decide) ?_ | refine guard_go ?_ | refine guard_old ?_ | apply cut_auto | with_reducible exact CutS.mk (Or.inl ⟨rfl, rfl, rfl⟩) | refine CutS.mk (Or.inr (sub_auto ?_)) | exact trivial | refine And.intro ?_ ?_ | (refine cond_split ?_ ?_ <;> intro _ <;> first | (exfalso; first | omega | (simp only [decide_eq_true_eq, decide_eq_false_iff_not, Bool.not_eq_true', Bool.not_eq_false', ne_eq, Bool.not_true, Bool.not_false, cond_true, cond_false, Bool.true_eq_false, Bool.false_eq_true, Bool.and_eq_true, Bool.and_eq_false_iff] at *; omega)) | skip) | apply guess | apply FnIs.useF (k1) | exact Or.inl rfl | exact Or.inr rfl | exact Side.mk trivial | exact Side.mk (fun h => h) | exact Side.mk (fun h => ⟨h, h⟩) | with_reducible exact Side.mk rfl | with_reducible exact Side.mk ⟨rfl, rfl⟩ | with_reducible exact Side.mk (by assumption) | with_reducible rfl | intro _)
    all_goals try (conv => whnf)
    all_goals try (refine Side.mk ?_; first | (intros; omega) | (intro h1_ h2_; rw [h1_, h2_]; rfl) | (show List.length (_ ++ _) ≤ _; simp only [List.length_append, List.length_cons, List.length_nil, List.length_replicate, List.length_take]; omega) | (simp_all; done) | (simp_all; omega))
    all_goals first | rfl | omega | trace_state
theorem k_BestSpec8 (A V : List (List Int)) (ns : List R4) (h : Side (natSS A ∧ natSS V ∧ ns.length ≤ 1048577)) (hx : bcOk A V ns = true) : FnIs Try.prog 31 [.agg [.sl 1 [], .sl 3 []], .sl 4 []] 5 ((4, .flat false (.r4 ns)) :: gridH false A V) (.tuple [.sl 5 [], .int .i64 (bV A V ns (pF (sN ns) ns.length)).2, .bool true]) 6 [(5, .flat true (.ints .i64 (bV A V ns (pF (sN ns) ns.length)).1))] := by
  have k1 := k_l08Nets A V ns h
  have hx2 := hx
  unfold bcOk at hx2
  rw [Bool.and_eq_true, decide_eq_true_eq] at hx2
  obtain ⟨hn, hsm⟩ := hx2
  rw [hn] at k1
  obtain ⟨hg, hl6, _⟩ := netsB_all hn
  refine fn_of_evk [0, 1, 2, 4, 5, 6, 7, 8, 9, 10, 11, 12, 13, 14, 15, 16, 19, 23, 35, 39, 50, 77] tok Try.func31 rfl rfl rfl ?_
  repeat' ((conv => whnf); first | done | refine ev_step ?_ | refine ops_step ?_ | refine scan_step ?_ | refine draw_step ?_ | refine each_step ?_ | refine sl_step ?_ | refine hp_step ?_ | refine guard_no (by decide) ?_ | refine guard_go ?_ | refine guard_old ?_ | apply cut_auto | with_reducible exact CutS.mk (Or.inl ⟨rfl, rfl, rfl⟩) | refine CutS.mk (Or.inr (sub_auto ?_)) | exact trivial | refine And.intro ?_ ?_ | (refine cond_split ?_ ?_ <;> intro _ <;> first | (exfalso; first | omega | (simp only [decide_eq_true_eq, decide_eq_false_iff_not, Bool.not_eq_true', Bool.not_eq_false', ne_eq, Bool.not_true, Bool.not_false, cond_true, cond_false, Bool.true_eq_false, Bool.false_eq_true, Bool.and_eq_true, Bool.and_eq_false_iff] at *; omega)) | skip) | apply guess | apply FnIs.useF (k1) | exact Or.inl rfl | exact Or.inr rfl | exact Side.mk trivial | exact Side.mk (fun h => h) | exact Side.mk (fun h => ⟨h, h⟩) | with_reducible exact Side.mk rfl | with_reducible exact Side.mk ⟨rfl, rfl⟩ | with_reducible exact Side.mk (by assumption) | with_reducible rfl | intro _)
  all_goals try (conv => whnf)
  all_goals try (refine Side.mk ?_; first | (intros; omega) | (intro h1_ h2_; rw [h1_, h2_]; rfl) | (show List.length (_ ++ _) ≤ _; simp only [List.length_append, List.length_cons, List.length_nil, List.length_replicate, List.length_take]; omega) | (simp_all; done) | (simp_all; omega))
  refine loop_at (fun i : Nat => i ≤ ns.length) 6 (fun i => [(7, .int .i64 (pF (sN ns) i : Nat)), (8, .int .i64 i), (23, .top)]) (fun i => []) (fun i => ns.length - i) 0 (Nat.zero_le _) ?_ (fun i hi => ?_)
  · repeat' ((conv => whnf); first | done | refine ev_step ?_ | refine ops_step ?_ | refine scan_step ?_ | refine draw_step ?_ | refine each_step ?_ | refine sl_step ?_ | refine hp_step ?_ | refine guard_no (by decide) ?_ | refine guard_go ?_ | refine guard_old ?_ | apply cut_auto | with_reducible exact CutS.mk (Or.inl ⟨rfl, rfl, rfl⟩) | refine CutS.mk (Or.inr (sub_auto ?_)) | exact trivial | refine And.intro ?_ ?_ | refine cond_split ?_ ?_ | apply guess | exact Or.inl rfl | exact Or.inr rfl | exact Side.mk trivial | exact Side.mk (fun h => h) | exact Side.mk (fun h => ⟨h, h⟩) | with_reducible exact Side.mk rfl | with_reducible exact Side.mk ⟨rfl, rfl⟩ | with_reducible exact Side.mk (by assumption) | with_reducible rfl | intro _)
    all_goals try (conv => whnf)
    all_goals first | rfl | trace_state
  · have hps := pF_small hn hi
    by_cases hlt : i < ns.length
    · have ks1 := k_l08Shapes _ _ _ _ (net_sd hn hlt)
      have hps2 := pF_small hn (show i + 1 ≤ ns.length by omega)
      have e : ((pF (sN ns) (i + 1) : Nat) : Int) = ((pF (sN ns) i : Nat) : Int) * ((shapesV (ns.getD i default).a (ns.getD i default).b (ns.getD i default).c (ns.getD i default).d).length : Int) := by
        rw [pF]; push_cast; rfl
      repeat' ((conv => whnf); first | done | refine ev_step ?_ | refine ops_step ?_ | refine scan_step ?_ | refine draw_step ?_ | refine each_step ?_ | refine sl_step ?_ | refine hp_step ?_ | refine guard_no (by decide) ?_ | refine guard_go ?_ | refine guard_old ?_ | apply cut_auto | with_reducible exact CutS.mk (Or.inl ⟨rfl, rfl, rfl⟩) | refine CutS.mk (Or.inr (sub_auto ?_)) | exact trivial | refine And.intro ?_ ?_ | (refine cond_split ?_ ?_ <;> intro _ <;> first | (exfalso; first | omega | (simp only [decide_eq_true_eq, decide_eq_false_iff_not, Bool.not_eq_true', Bool.not_eq_false', ne_eq, Bool.not_true, Bool.not_false, cond_true, cond_false, Bool.true_eq_false, Bool.false_eq_true, Bool.and_eq_true, Bool.and_eq_false_iff] at *; omega)) | skip) | apply guess | apply FnIs.useF (ks1) | exact Or.inl rfl | exact Or.inr rfl | exact Side.mk trivial | exact Side.mk (fun h => h) | exact Side.mk (fun h => ⟨h, h⟩) | with_reducible exact Side.mk rfl | with_reducible exact Side.mk ⟨rfl, rfl⟩ | with_reducible exact Side.mk (by assumption) | with_reducible rfl | intro _)
      all_goals try (conv => whnf)
      all_goals try simp only [Int.toNat_natCast]
      all_goals try (refine Side.mk ?_; rw [← e]; unfold inI64; omega)
      all_goals try (refine Side.mk ?_; first | (intros; omega) | (intro h1_ h2_; rw [h1_, h2_]; rfl) | (show List.length (_ ++ _) ≤ _; simp only [List.length_append, List.length_cons, List.length_nil, List.length_replicate, List.length_take]; omega) | (simp_all; done) | (simp_all; omega))
      all_goals try omega
      refine ⟨i + 1, by omega, by omega, ?_⟩
      repeat' ((conv => whnf); first | done | refine ev_step ?_ | refine ops_step ?_ | refine scan_step ?_ | refine draw_step ?_ | refine each_step ?_ | refine sl_step ?_ | refine hp_step ?_ | refine guard_no (by decide) ?_ | refine guard_go ?_ | refine guard_old ?_ | apply cut_auto | with_reducible exact CutS.mk (Or.inl ⟨rfl, rfl, rfl⟩) | refine CutS.mk (Or.inr (sub_auto ?_)) | exact trivial | refine And.intro ?_ ?_ | refine cond_split ?_ ?_ | apply guess | exact Or.inl rfl | exact Or.inr rfl | exact Side.mk trivial | exact Side.mk (fun h => h) | exact Side.mk (fun h => ⟨h, h⟩) | with_reducible exact Side.mk rfl | with_reducible exact Side.mk ⟨rfl, rfl⟩ | with_reducible exact Side.mk (by assumption) | with_reducible rfl | intro _)
      all_goals try (conv => whnf)
      all_goals first | rfl | omega | (simp only [Int.toNat_natCast]; exact e) | (simp only [Int.toNat_natCast]; exact e.symm) | trace_state
    · obtain rfl : i = ns.length := by omega
      repeat' ((conv => whnf); first | done | refine ev_step ?_ | refine ops_step ?_ | refine scan_step ?_ | refine draw_step ?_ | refine each_step ?_ | refine sl_step ?_ | refine hp_step ?_ | refine guard_no (by decide) ?_ | refine guard_go ?_ | refine guard_old ?_ | apply cut_auto | with_reducible exact CutS.mk (Or.inl ⟨rfl, rfl, rfl⟩) | refine CutS.mk (Or.inr (sub_auto ?_)) | exact trivial | refine And.intro ?_ ?_ | (refine cond_split ?_ ?_ <;> intro _ <;> first | (exfalso; first | omega | (simp only [decide_eq_true_eq, decide_eq_false_iff_not, Bool.not_eq_true', Bool.not_eq_false', ne_eq, Bool.not_true, Bool.not_false, cond_true, cond_false, Bool.true_eq_false, Bool.false_eq_true, Bool.and_eq_true, Bool.and_eq_false_iff] at *; omega)) | skip) | apply guess | exact Or.inl rfl | exact Or.inr rfl | exact Side.mk trivial | exact Side.mk (fun h => h) | exact Side.mk (fun h => ⟨h, h⟩) | with_reducible exact Side.mk rfl | with_reducible exact Side.mk ⟨rfl, rfl⟩ | with_reducible exact Side.mk (by assumption) | with_reducible rfl | intro _)
      all_goals try (conv => whnf)
      all_goals try (refine Side.mk ?_; first | (intros; omega) | (intro h1_ h2_; rw [h1_, h2_]; rfl) | (show List.length (_ ++ _) ≤ _; simp only [List.length_append, List.length_cons, List.length_nil, List.length_replicate, List.length_take]; omega) | (simp_all; done) | (simp_all; omega))
      generalize hC : pF (sN ns) ns.length = C at *
      refine loop_at (fun k : Nat => k ≤ C) 7 (fun k => [(11, .int .i64 k), (9, .sl 6 []), (10, .int .i64 (bV A V ns k).2), (12, .top), (13, .top), (14, .top), (15, .top), (16, .top), (39, .top), (50, .top), (77, .top)]) (fun k => [(6, .flat true (.ints .i64 (bV A V ns k).1))]) (fun k => C - k) 0 (Nat.zero_le _) ?_ (fun k hk => ?_)
      · repeat' ((conv => whnf); first | done | refine ev_step ?_ | refine ops_step ?_ | refine scan_step ?_ | refine draw_step ?_ | refine each_step ?_ | refine sl_step ?_ | refine hp_step ?_ | refine guard_no (by decide) ?_ | refine guard_go ?_ | refine guard_old ?_ | apply cut_auto | with_reducible exact CutS.mk (Or.inl ⟨rfl, rfl, rfl⟩) | refine CutS.mk (Or.inr (sub_auto ?_)) | exact trivial | refine And.intro ?_ ?_ | refine cond_split ?_ ?_ | apply guess | exact Or.inl rfl | exact Or.inr rfl | exact Side.mk trivial | exact Side.mk (fun h => h) | exact Side.mk (fun h => ⟨h, h⟩) | with_reducible exact Side.mk rfl | with_reducible exact Side.mk ⟨rfl, rfl⟩ | with_reducible exact Side.mk (by assumption) | with_reducible rfl | intro _)
        all_goals try (conv => whnf)
        all_goals first | rfl | trace_state
      · have hlb := bV_bd hn k
        by_cases hkt : k < C
        · have hDl := dL_len (sN ns) ns.length k
          repeat' ((conv => whnf); first | done | refine ev_step ?_ | refine ops_step ?_ | refine scan_step ?_ | refine draw_step ?_ | refine each_step ?_ | refine sl_step ?_ | refine hp_step ?_ | refine guard_no (by decide) ?_ | refine guard_go ?_ | refine guard_old ?_ | apply cut_auto | with_reducible exact CutS.mk (Or.inl ⟨rfl, rfl, rfl⟩) | refine CutS.mk (Or.inr (sub_auto ?_)) | exact trivial | refine And.intro ?_ ?_ | (refine cond_split ?_ ?_ <;> intro _ <;> first | (exfalso; first | omega | (simp only [decide_eq_true_eq, decide_eq_false_iff_not, Bool.not_eq_true', Bool.not_eq_false', ne_eq, Bool.not_true, Bool.not_false, cond_true, cond_false, Bool.true_eq_false, Bool.false_eq_true, Bool.and_eq_true, Bool.and_eq_false_iff] at *; omega)) | skip) | apply guess | exact Or.inl rfl | exact Or.inr rfl | exact Side.mk trivial | exact Side.mk (fun h => h) | exact Side.mk (fun h => ⟨h, h⟩) | with_reducible exact Side.mk rfl | with_reducible exact Side.mk ⟨rfl, rfl⟩ | with_reducible exact Side.mk (by assumption) | with_reducible rfl | intro _)
          all_goals try (conv => whnf)
          all_goals try (refine Side.mk ?_; first | (intros; omega) | (intro h1_ h2_; rw [h1_, h2_]; rfl) | (show List.length (_ ++ _) ≤ _; simp only [List.length_append, List.length_cons, List.length_nil, List.length_replicate, List.length_take]; omega) | (simp_all; done) | (simp_all; omega))
          all_goals try omega
          refine loop_at (fun t : Nat => t ≤ ns.length) 8 (fun t => [(14, .int .i64 ((ns.length : Int) - 1 - t)), (13, .int .i64 (qD (sN ns) ns.length k t : Nat)), (12, .sl 7 []), (15, .top), (50, .top)]) (fun t => [(7, .flat true (.ints .i64 (dZ (dL (sN ns) ns.length k) ns.length t)))]) (fun t => ns.length - t) 0 (Nat.zero_le _) ?_ (fun t ht => ?_)
          · repeat' ((conv => whnf); first | done | refine ev_step ?_ | refine ops_step ?_ | refine scan_step ?_ | refine draw_step ?_ | refine each_step ?_ | refine sl_step ?_ | refine hp_step ?_ | refine guard_no (by decide) ?_ | refine guard_go ?_ | refine guard_old ?_ | apply cut_auto | with_reducible exact CutS.mk (Or.inl ⟨rfl, rfl, rfl⟩) | refine CutS.mk (Or.inr (sub_auto ?_)) | exact trivial | refine And.intro ?_ ?_ | refine cond_split ?_ ?_ | apply guess | exact Or.inl rfl | exact Or.inr rfl | exact Side.mk trivial | exact Side.mk (fun h => h) | exact Side.mk (fun h => ⟨h, h⟩) | with_reducible exact Side.mk rfl | with_reducible exact Side.mk ⟨rfl, rfl⟩ | with_reducible exact Side.mk (by assumption) | with_reducible rfl | intro _)
            all_goals try (conv => whnf)
            all_goals first | rfl | omega | (rw [dZ_zero hDl]; simp; done) | trace_state
          · have hql := qD_le (sN ns) ns.length k t
            have hzl := dZ_len (t := t) hDl
            by_cases htt : t < ns.length
            · have ei : ((ns.length : Int) - 1 - t).toNat = ns.length - 1 - t := by omega
              have hin : ns.length - 1 - t < ns.length := by omega
              have ks1 := k_l08Shapes _ _ _ _ (net_sd hn hin)
              have hs1 := sN_bd hn hin
              have hdg := dL_get (s := sN ns) (k := k) hin
              have hds := dZ_set hDl htt
              rw [hdg, show ns.length - 1 - (ns.length - 1 - t) = t by omega] at hds
              have hq1 : qD (sN ns) ns.length k (t + 1) = qD (sN ns) ns.length k t / sN ns (ns.length - 1 - t) := rfl
              have hql1 := qD_le (sN ns) ns.length k (t + 1)
              rw [← ei] at ks1
              have hr1 : ((qD (sN ns) ns.length k t : Nat) : Int).tmod ((shapesV (ns.getD ((ns.length : Int) - 1 - t).toNat default).a (ns.getD ((ns.length : Int) - 1 - t).toNat default).b (ns.getD ((ns.length : Int) - 1 - t).toNat default).c (ns.getD ((ns.length : Int) - 1 - t).toNat default).d).length : Int) = ((qD (sN ns) ns.length k t % sN ns (ns.length - 1 - t) : Nat) : Int) := by rw [ei]; rfl
              have hr2 : IntKind.i64.wrap (((qD (sN ns) ns.length k t : Nat) : Int).tdiv ((shapesV (ns.getD ((ns.length : Int) - 1 - t).toNat default).a (ns.getD ((ns.length : Int) - 1 - t).toNat default).b (ns.getD ((ns.length : Int) - 1 - t).toNat default).c (ns.getD ((ns.length : Int) - 1 - t).toNat default).d).length : Int)) = ((qD (sN ns) ns.length k (t + 1) : Nat) : Int) := by
                have e : ((qD (sN ns) ns.length k t : Nat) : Int).tdiv ((shapesV (ns.getD ((ns.length : Int) - 1 - t).toNat default).a (ns.getD ((ns.length : Int) - 1 - t).toNat default).b (ns.getD ((ns.length : Int) - 1 - t).toNat default).c (ns.getD ((ns.length : Int) - 1 - t).toNat default).d).length : Int) = ((qD (sN ns) ns.length k (t + 1) : Nat) : Int) := by rw [ei]; rfl
                rw [e]
                exact wrap_in ⟨by omega, by omega⟩
              have hne : ((shapesV (ns.getD ((ns.length : Int) - 1 - t).toNat default).a (ns.getD ((ns.length : Int) - 1 - t).toNat default).b (ns.getD ((ns.length : Int) - 1 - t).toNat default).c (ns.getD ((ns.length : Int) - 1 - t).toNat default).d).length : Int) ≠ 0 := by
                rw [ei]
                have : sN ns (ns.length - 1 - t) = (shapesV (ns.getD (ns.length - 1 - t) default).a (ns.getD (ns.length - 1 - t) default).b (ns.getD (ns.length - 1 - t) default).c (ns.getD (ns.length - 1 - t) default).d).length := rfl
                omega
              repeat' ((conv => whnf); first | done | refine ev_step ?_ | refine ops_step ?_ | refine scan_step ?_ | refine draw_step ?_ | refine each_step ?_ | refine sl_step ?_ | refine hp_step ?_ | refine guard_no (by decide) ?_ | refine guard_go ?_ | refine guard_old ?_ | apply cut_auto | with_reducible exact CutS.mk (Or.inl ⟨rfl, rfl, rfl⟩) | refine CutS.mk (Or.inr (sub_auto ?_)) | exact trivial | refine And.intro ?_ ?_ | (refine cond_split ?_ ?_ <;> intro _ <;> first | (exfalso; first | omega | (simp only [decide_eq_true_eq, decide_eq_false_iff_not, Bool.not_eq_true', Bool.not_eq_false', ne_eq, Bool.not_true, Bool.not_false, cond_true, cond_false, Bool.true_eq_false, Bool.false_eq_true, Bool.and_eq_true, Bool.and_eq_false_iff] at *; omega)) | skip) | apply guess | apply FnIs.useF (ks1) | exact Or.inl rfl | exact Or.inr rfl | exact Side.mk trivial | exact Side.mk (fun h => h) | exact Side.mk (fun h => ⟨h, h⟩) | with_reducible exact Side.mk rfl | with_reducible exact Side.mk ⟨rfl, rfl⟩ | with_reducible exact Side.mk (by assumption) | with_reducible rfl | intro _)
              all_goals try (conv => whnf)
              all_goals try exact Side.mk hne
              all_goals try (refine Side.mk ?_; first | (intros; omega) | (intro h1_ h2_; rw [h1_, h2_]; rfl) | (show List.length (_ ++ _) ≤ _; simp only [List.length_append, List.length_cons, List.length_nil, List.length_replicate, List.length_take]; omega) | (simp_all; done) | (simp_all; omega))
              all_goals try omega
              refine ⟨t + 1, by omega, by omega, ?_⟩
              repeat' ((conv => whnf); first | done | refine ev_step ?_ | refine ops_step ?_ | refine scan_step ?_ | refine draw_step ?_ | refine each_step ?_ | refine sl_step ?_ | refine hp_step ?_ | refine guard_no (by decide) ?_ | refine guard_go ?_ | refine guard_old ?_ | apply cut_auto | with_reducible exact CutS.mk (Or.inl ⟨rfl, rfl, rfl⟩) | refine CutS.mk (Or.inr (sub_auto ?_)) | exact trivial | refine And.intro ?_ ?_ | refine cond_split ?_ ?_ | apply guess | exact Or.inl rfl | exact Or.inr rfl | exact Side.mk trivial | exact Side.mk (fun h => h) | exact Side.mk (fun h => ⟨h, h⟩) | with_reducible exact Side.mk rfl | with_reducible exact Side.mk ⟨rfl, rfl⟩ | with_reducible exact Side.mk (by assumption) | with_reducible rfl | intro _)
              all_goals try (conv => whnf)
              all_goals first | rfl | omega | exact hr2 | exact hr2.symm | (rw [hr1, ei]; exact hds) | (rw [hr1, ei]; exact hds.symm) | trace_state
            · obtain rfl : t = ns.length := by omega
              rw [dZ_full] at *
              have kf := k_l08OverflowF A V ns (dL (sN ns) ns.length k) ⟨⟨h.h.1, hg, hl6, by omega⟩⟩ (dL_ok hn k)
              have hob := ovF_bd hg (ns := ns) (ks := dL (sN ns) ns.length k) (by omega) (dL_ok hn k)
              have hT : bV A V ns (k + 1) = bStep (ovF A V ns) (bV A V ns k) (dL (sN ns) ns.length k) := rfl
              simp only [bStep] at hT
              generalize dL (sN ns) ns.length k = D at *
              generalize ovF A V ns D = o at *
              cases hb : (decide ((bV A V ns k).2 < 0) || decide (o < (bV A V ns k).2))
              · have hb2 : (bif decide ((bV A V ns k).2 < 0) then true else decide (o < (bV A V ns k).2)) = false := by rw [Bool.cond_true_left]; exact hb
                rw [hb, if_neg (by simp)] at hT
                repeat' ((conv => whnf); first | done | refine ev_step ?_ | refine ops_step ?_ | refine scan_step ?_ | refine draw_step ?_ | refine each_step ?_ | refine sl_step ?_ | refine hp_step ?_ | refine guard_no (by decide) ?_ | refine guard_go ?_ | refine guard_old ?_ | apply cut_auto | with_reducible exact CutS.mk (Or.inl ⟨rfl, rfl, rfl⟩) | refine CutS.mk (Or.inr (sub_auto ?_)) | exact trivial | refine And.intro ?_ ?_ | (refine cond_split ?_ ?_ <;> intro hq_ <;> first | (exfalso; first | omega | (simp only [hb2, cond_true, cond_false, Bool.not_true, Bool.not_false, Bool.and_true, Bool.true_and, Bool.and_false, Bool.false_and, Bool.or_true, Bool.true_or, Bool.or_false, Bool.false_or, Bool.true_eq_false, Bool.false_eq_true, decide_true, decide_false, reduceCtorEq] at hq_; done) | (rw [decide_eq_false_iff_not] at hq_; omega) | (rw [decide_eq_true_eq] at hq_; omega) | (simp only [hb2, reduceCtorEq] at hq_; done) | exact Bool.noConfusion (Eq.trans (Eq.symm hb2) hq_)) | skip) | apply guess | apply FnIs.useF (kf) | exact Or.inl rfl | exact Or.inr rfl | exact Side.mk trivial | exact Side.mk (fun h => h) | exact Side.mk (fun h => ⟨h, h⟩) | with_reducible exact Side.mk rfl | with_reducible exact Side.mk ⟨rfl, rfl⟩ | with_reducible exact Side.mk (by assumption) | with_reducible rfl | intro _)
                all_goals try (conv => whnf)
                all_goals try (refine Side.mk ?_; first | (intros; omega) | (intro h1_ h2_; rw [h1_, h2_]; rfl) | (show List.length (_ ++ _) ≤ _; simp only [List.length_append, List.length_cons, List.length_nil, List.length_replicate, List.length_take]; omega) | (simp_all; done) | (simp_all; omega))
                all_goals try omega
                refine ⟨k + 1, by omega, by omega, ?_⟩
                repeat' ((conv => whnf); first | done | refine ev_step ?_ | refine ops_step ?_ | refine scan_step ?_ | refine draw_step ?_ | refine each_step ?_ | refine sl_step ?_ | refine hp_step ?_ | refine guard_no (by decide) ?_ | refine guard_go ?_ | refine guard_old ?_ | apply cut_auto | with_reducible exact CutS.mk (Or.inl ⟨rfl, rfl, rfl⟩) | refine CutS.mk (Or.inr (sub_auto ?_)) | exact trivial | refine And.intro ?_ ?_ | refine cond_split ?_ ?_ | apply guess | exact Or.inl rfl | exact Or.inr rfl | exact Side.mk trivial | exact Side.mk (fun h => h) | exact Side.mk (fun h => ⟨h, h⟩) | with_reducible exact Side.mk rfl | with_reducible exact Side.mk ⟨rfl, rfl⟩ | with_reducible exact Side.mk (by assumption) | with_reducible rfl | intro _)
                all_goals try (conv => whnf)
                all_goals first | rfl | omega | (rw [hT]; done) | trace_state
              · have hb2 : (bif decide ((bV A V ns k).2 < 0) then true else decide (o < (bV A V ns k).2)) = true := by rw [Bool.cond_true_left]; exact hb
                rw [hb, if_pos rfl] at hT
                repeat' ((conv => whnf); first | done | refine ev_step ?_ | refine ops_step ?_ | refine scan_step ?_ | refine draw_step ?_ | refine each_step ?_ | refine sl_step ?_ | refine hp_step ?_ | refine guard_no (by decide) ?_ | refine guard_go ?_ | refine guard_old ?_ | apply cut_auto | with_reducible exact CutS.mk (Or.inl ⟨rfl, rfl, rfl⟩) | refine CutS.mk (Or.inr (sub_auto ?_)) | exact trivial | refine And.intro ?_ ?_ | (refine cond_split ?_ ?_ <;> intro hq_ <;> first | (exfalso; first | omega | (simp only [hb2, cond_true, cond_false, Bool.not_true, Bool.not_false, Bool.and_true, Bool.true_and, Bool.and_false, Bool.false_and, Bool.or_true, Bool.true_or, Bool.or_false, Bool.false_or, Bool.true_eq_false, Bool.false_eq_true, decide_true, decide_false, reduceCtorEq] at hq_; done) | (rw [decide_eq_false_iff_not] at hq_; omega) | (rw [decide_eq_true_eq] at hq_; omega) | (simp only [hb2, reduceCtorEq] at hq_; done) | exact Bool.noConfusion (Eq.trans (Eq.symm hb2) hq_)) | skip) | apply guess | apply FnIs.useF (kf) | exact Or.inl rfl | exact Or.inr rfl | exact Side.mk trivial | exact Side.mk (fun h => h) | exact Side.mk (fun h => ⟨h, h⟩) | with_reducible exact Side.mk rfl | with_reducible exact Side.mk ⟨rfl, rfl⟩ | with_reducible exact Side.mk (by assumption) | with_reducible rfl | intro _)
                all_goals try (conv => whnf)
                all_goals try (refine Side.mk ?_; first | (intros; omega) | (intro h1_ h2_; rw [h1_, h2_]; rfl) | (show List.length (_ ++ _) ≤ _; simp only [List.length_append, List.length_cons, List.length_nil, List.length_replicate, List.length_take]; omega) | (simp_all; done) | (simp_all; omega))
                all_goals try omega
                refine ⟨k + 1, by omega, by omega, ?_⟩
                repeat' ((conv => whnf); first | done | refine ev_step ?_ | refine ops_step ?_ | refine scan_step ?_ | refine draw_step ?_ | refine each_step ?_ | refine sl_step ?_ | refine hp_step ?_ | refine guard_no (by decide) ?_ | refine guard_go ?_ | refine guard_old ?_ | apply cut_auto | with_reducible exact CutS.mk (Or.inl ⟨rfl, rfl, rfl⟩) | refine CutS.mk (Or.inr (sub_auto ?_)) | exact trivial | refine And.intro ?_ ?_ | refine cond_split ?_ ?_ | apply guess | exact Or.inl rfl | exact Or.inr rfl | exact Side.mk trivial | exact Side.mk (fun h => h) | exact Side.mk (fun h => ⟨h, h⟩) | with_reducible exact Side.mk rfl | with_reducible exact Side.mk ⟨rfl, rfl⟩ | with_reducible exact Side.mk (by assumption) | with_reducible rfl | intro _)
                all_goals try (conv => whnf)
                all_goals first | rfl | omega | (rw [hT]; done) | trace_state
        · obtain rfl : k = C := by omega
          repeat' ((conv => whnf); first | done | refine ev_step ?_ | refine ops_step ?_ | refine scan_step ?_ | refine draw_step ?_ | refine each_step ?_ | refine sl_step ?_ | refine hp_step ?_ | refine guard_no (by decide) ?_ | refine guard_go ?_ | refine guard_old ?_ | apply cut_auto | with_reducible exact CutS.mk (Or.inl ⟨rfl, rfl, rfl⟩) | refine CutS.mk (Or.inr (sub_auto ?_)) | exact trivial | refine And.intro ?_ ?_ | (refine cond_split ?_ ?_ <;> intro _ <;> first | (exfalso; first | omega | (simp only [decide_eq_true_eq, decide_eq_false_iff_not, Bool.not_eq_true', Bool.not_eq_false', ne_eq, Bool.not_true, Bool.not_false, cond_true, cond_false, Bool.true_eq_false, Bool.false_eq_true, Bool.and_eq_true, Bool.and_eq_false_iff] at *; omega)) | skip) | apply guess | exact Or.inl rfl | exact Or.inr rfl | exact Side.mk trivial | exact Side.mk (fun h => h) | exact Side.mk (fun h => ⟨h, h⟩) | with_reducible exact Side.mk rfl | with_reducible exact Side.mk ⟨rfl, rfl⟩ | with_reducible exact Side.mk (by assumption) | with_reducible rfl | intro _)
          all_goals try (conv => whnf)
          all_goals try (refine Side.mk ?_; first | (intros; omega) | (intro h1_ h2_; rw [h1_, h2_]; rfl) | (show List.length (_ ++ _) ≤ _; simp only [List.length_append, List.length_cons, List.length_nil, List.length_replicate, List.length_take]; omega) | (simp_all; done) | (simp_all; omega))
          all_goals first | rfl | omega | trace_state
end Go.Sx.U
