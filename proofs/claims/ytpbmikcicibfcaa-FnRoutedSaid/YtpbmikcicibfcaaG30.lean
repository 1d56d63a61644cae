/-
  Chapter 8: the program's best choice, and the law (contracts).
-/
import Derived.Test.YtpbmikcicibfcaaG29
import Derived.Test.YtpbmikcicibfcaaKN
import Derived.Test.YtpbmikcicibfcaaK1
set_option linter.unusedSimpArgs false
namespace Go.Sx.U
set_option linter.unusedVariables false
set_option linter.unusedSimpArgs false
set_option maxRecDepth 100000
set_option maxHeartbeats 8000000
open Go Go.Sx Go.Proofs Go.Sx.M8

def offS (ns : List R4) : Nat → Nat
  | 0 => 0
  | i + 1 => offS ns i + sN ns i
def segsI (ns : List R4) : Nat → List (Nat × Nat)
  | 0 => []
  | i + 1 => segsI ns i ++ [(offS ns i, sN ns i)]
def xssI (ns : List R4) : Nat → List (List R2)
  | 0 => []
  | i + 1 => xssI ns i ++ shapesR (ns.getD i default)
theorem segsI_len (ns : List R4) : ∀ i, (segsI ns i).length = i
  | 0 => rfl
  | i + 1 => by rw [segsI, List.length_append, segsI_len ns i]; rfl
theorem xssI_len (ns : List R4) : ∀ i, (xssI ns i).length = offS ns i
  | 0 => rfl
  | i + 1 => by rw [xssI, List.length_append, xssI_len ns i]; rfl
theorem offS_le (ns : List R4) : ∀ {i j : Nat}, i ≤ j → offS ns i ≤ offS ns j
  | i, 0, h => by rw [show i = 0 by omega]; exact Nat.le_refl _
  | i, j + 1, h => by
    by_cases e : i = j + 1
    · rw [e]; exact Nat.le_refl _
    · have := offS_le ns (show i ≤ j by omega)
      simp only [offS]; omega
theorem segsI_get (ns : List R4) : ∀ {n i : Nat}, i < n → (segsI ns n).getD i (0, 0) = (offS ns i, sN ns i)
  | 0, _, h => by omega
  | n + 1, i, h => by
    rw [segsI]
    by_cases e : i < n
    · rw [List.getD, List.getElem?_append_left (by rw [segsI_len]; exact e)]
      exact segsI_get ns e
    · obtain rfl : i = n := by omega
      rw [List.getD, List.getElem?_append_right (by rw [segsI_len]; omega), segsI_len, Nat.sub_self]; rfl
theorem xssI_get (ns : List R4) : ∀ {n i k : Nat}, i < n → k < sN ns i → (xssI ns n).getD (offS ns i + k) [] = (shapesR (ns.getD i default)).getD k []
  | 0, _, _, h, _ => by omega
  | n + 1, i, k, h, hk => by
    rw [xssI]
    by_cases e : i < n
    · have h1 := offS_le ns (show i + 1 ≤ n by omega)
      simp only [offS] at h1
      rw [List.getD, List.getElem?_append_left (by rw [xssI_len]; omega)]
      exact xssI_get ns e hk
    · obtain rfl : i = n := by omega
      rw [List.getD, List.getElem?_append_right (by rw [xssI_len]; omega), xssI_len, Nat.add_sub_cancel_left]; rfl
theorem segs_ok (ns : List R4) : SegsOK ns (segsI ns ns.length) (xssI ns ns.length) :=
  ⟨segsI_len ns _, fun i hi => by
    rw [segsI_get ns hi]
    refine ⟨rfl, fun k hk => ⟨?_, ?_⟩⟩
    · rw [xssI_len]
      have h1 := offS_le ns (show i + 1 ≤ ns.length by omega)
      simp only [offS] at h1
      show offS ns i + k < _
      omega
    · rw [xssI_get ns hi hk]
      simp [shapeOf]⟩
theorem segs_in (ns : List R4) : ∀ n, ∀ a ∈ segsI ns n, a.1 + a.2 ≤ (xssI ns n).length
  | 0, a, h => by cases h
  | n + 1, a, h => by
    rw [segsI] at h
    rw [xssI, List.length_append]
    rcases List.mem_append.1 h with h | h
    · have := segs_in ns n a h
      omega
    · rw [List.mem_singleton.1 h, xssI_len]
      exact Nat.le_refl _
theorem k_BestChoice (A V : List (List Int)) (ns : List R4) (h : Side (natSS A ∧ natSS V ∧ ns.length ≤ 1048577)) (hx : bcOk A V ns = true) : FnIs Try.prog 32 [.agg [.sl 1 [], .sl 3 []], .sl 4 []] 5 ((4, .flat false (.r4 ns)) :: gridH false A V) (.tuple [.sl 5 [], .int .i64 (bV A V ns (pF (sN ns) ns.length)).2, .bool true]) 6 [(5, .flat true (.ints .i64 (bV A V ns (pF (sN ns) ns.length)).1))] := by
  have k1 := k_netsOk A V ns h
  have hx2 := hx
  unfold bcOk at hx2
  rw [Bool.and_eq_true, decide_eq_true_eq] at hx2
  obtain ⟨hn, hsm⟩ := hx2
  clear hx
  rw [hn] at k1
  obtain ⟨hg, hl6, _⟩ := netsB_all hn
  refine fn_of_evk [0, 1, 2, 3, 4, 5, 6, 7, 8, 10, 11, 12, 13, 14, 15, 19, 21, 22, 23, 24, 43] tok Try.func32 rfl rfl rfl ?_
  repeat' ((conv => whnf); first | done | refine ev_step ?_ | refine ops_step ?_ | refine scan_step ?_ | refine draw_step ?_ | refine each_step ?_ | refine sl_step ?_ | refine hp_step ?_ | refine guard_no (by decide) ?_ | refine guard_go ?_ | refine guard_old ?_ | apply cut_auto | with_reducible exact CutS.mk (Or.inl ⟨rfl, rfl, rfl⟩) | refine CutS.mk (Or.inr (sub_auto ?_)) | exact trivial | refine And.intro ?_ ?_ | (refine cond_split ?_ ?_ <;> intro _ <;> first | (exfalso; first | omega | (simp only [decide_eq_true_eq, decide_eq_false_iff_not, Bool.not_eq_true', Bool.not_eq_false', ne_eq, Bool.not_true, Bool.not_false, cond_true, cond_false, Bool.true_eq_false, Bool.false_eq_true, Bool.and_eq_true, Bool.and_eq_false_iff] at *; omega)) | skip) | apply guess | apply FnIs.useF (k1) | exact Or.inl rfl | exact Or.inr rfl | exact Side.mk trivial | exact Side.mk (fun h => h) | exact Side.mk (fun h => ⟨h, h⟩) | with_reducible exact Side.mk rfl | with_reducible exact Side.mk ⟨rfl, rfl⟩ | with_reducible exact Side.mk (by assumption) | with_reducible rfl | intro _)
  all_goals try (conv => whnf)
  all_goals try (refine Side.mk ?_; first | (intros; omega) | (intro h1_ h2_; rw [h1_, h2_]; rfl) | (show List.length (_ ++ _) ≤ _; simp only [List.length_append, List.length_cons, List.length_nil, List.length_replicate, List.length_take]; omega) | (simp_all; done) | (simp_all; omega))
  refine loop_at (fun i : Nat => i ≤ ns.length) 11 (fun i => [(8, .int .i64 (pF (sN ns) i : Nat)), (23, .int .i64 i), (10, .top), (24, .top)]) (fun i => [(10, .flat true (.gen 1 [[.sl 9 []]])), (9, .flat true (.rows 8 0 i)), (8, .nestH true 7 (segsI ns i)), (7, .nestR2 true (xssI ns i))]) (fun i => ns.length - i) 0 (Nat.zero_le _) ?_ (fun i hi => ?_)
  · repeat' ((conv => whnf); first | done | refine ev_step ?_ | refine ops_step ?_ | refine scan_step ?_ | refine draw_step ?_ | refine each_step ?_ | refine sl_step ?_ | refine hp_step ?_ | refine guard_no (by decide) ?_ | refine guard_go ?_ | refine guard_old ?_ | apply cut_auto | with_reducible exact CutS.mk (Or.inl ⟨rfl, rfl, rfl⟩) | refine CutS.mk (Or.inr (sub_auto ?_)) | exact trivial | refine And.intro ?_ ?_ | refine cond_split ?_ ?_ | apply guess | exact Or.inl rfl | exact Or.inr rfl | exact Side.mk trivial | exact Side.mk (fun h => h) | exact Side.mk (fun h => ⟨h, h⟩) | with_reducible exact Side.mk rfl | with_reducible exact Side.mk ⟨rfl, rfl⟩ | with_reducible exact Side.mk (by assumption) | with_reducible rfl | intro _)
    all_goals try (conv => whnf)
    all_goals first | rfl | trace_state
  · have hps := pF_small hn hi
    have hsl := segsI_len ns i
    have hxl := segs_in ns i
    by_cases hlt : i < ns.length
    · have ks1 := k_shapes _ _ _ _ (net_sd hn hlt)
      have hps2 := pF_small hn (show i + 1 ≤ ns.length by omega)
      have e : ((pF (sN ns) (i + 1) : Nat) : Int) = ((pF (sN ns) i : Nat) : Int) * ((shapesV (ns.getD i default).a (ns.getD i default).b (ns.getD i default).c (ns.getD i default).d).length : Int) := by
        rw [pF]; push_cast; rfl
      have hsg : segsI ns (i + 1) = segsI ns i ++ [((xssI ns i).length + 0, (shapesV (ns.getD i default).a (ns.getD i default).b (ns.getD i default).c (ns.getD i default).d).length)] := by
        rw [segsI, xssI_len]; rfl
      have hxg : xssI ns (i + 1) = xssI ns i ++ shapesV (ns.getD i default).a (ns.getD i default).b (ns.getD i default).c (ns.getD i default).d := rfl
      have hE : segsI ns i ++ List.map (fun a => ((xssI ns i).length + a.1, a.2)) [((0 : Nat), (shapesV (ns.getD i default).a (ns.getD i default).b (ns.getD i default).c (ns.getD i default).d).length)] = segsI ns (i + 1) := hsg.symm
      have hEl : (segsI ns i ++ List.map (fun a => ((xssI ns i).length + a.1, a.2)) [((0 : Nat), (shapesV (ns.getD i default).a (ns.getD i default).b (ns.getD i default).c (ns.getD i default).d).length)]).length = i + 1 := by rw [hE, segsI_len]
      have hval : ((pF (sN ns) i : Nat) : Int) * (((segsI ns i ++ List.map (fun a => ((xssI ns i).length + a.1, a.2)) [((0 : Nat), (shapesV (ns.getD i default).a (ns.getD i default).b (ns.getD i default).c (ns.getD i default).d).length)]).getD (((segsI ns i ++ List.map (fun a => ((xssI ns i).length + a.1, a.2)) [((0 : Nat), (shapesV (ns.getD i default).a (ns.getD i default).b (ns.getD i default).c (ns.getD i default).d).length)]).length : Int) - 1).toNat (0, 0)).2 : Int) = ((pF (sN ns) (i + 1) : Nat) : Int) := by
        rw [hEl, hE, show (((i + 1 : Nat) : Int) - 1).toNat = i by omega, segsI_get ns (Nat.lt_succ_self i)]
        exact e.symm
      repeat' ((conv => whnf); first | done | refine ev_step ?_ | refine ops_step ?_ | refine scan_step ?_ | refine draw_step ?_ | refine each_step ?_ | refine sl_step ?_ | refine hp_step ?_ | refine guard_no (by decide) ?_ | refine guard_go ?_ | refine guard_old ?_ | apply cut_auto | with_reducible exact CutS.mk (Or.inl ⟨rfl, rfl, rfl⟩) | refine CutS.mk (Or.inr (sub_auto ?_)) | exact trivial | refine And.intro ?_ ?_ | (refine cond_split ?_ ?_ <;> intro _ <;> first | (exfalso; first | omega | (simp only [decide_eq_true_eq, decide_eq_false_iff_not, Bool.not_eq_true', Bool.not_eq_false', ne_eq, Bool.not_true, Bool.not_false, cond_true, cond_false, Bool.true_eq_false, Bool.false_eq_true, Bool.and_eq_true, Bool.and_eq_false_iff] at *; omega)) | skip) | apply guess | apply FnIs.useF (ks1) | exact Or.inl rfl | exact Or.inr rfl | exact Side.mk trivial | exact Side.mk (fun h => h) | exact Side.mk (fun h => ⟨h, h⟩) | with_reducible exact Side.mk rfl | with_reducible exact Side.mk ⟨rfl, rfl⟩ | with_reducible exact Side.mk (by assumption) | with_reducible rfl | intro _)
      all_goals try (conv => whnf)
      all_goals try simp only [Int.toNat_natCast]
      all_goals try (refine Side.mk ?_; first | (intros; omega) | (intro h1_ h2_; rw [h1_, h2_]; rfl) | (show List.length (_ ++ _) ≤ _; simp only [List.length_append, List.length_cons, List.length_nil, List.length_replicate, List.length_take]; omega) | (simp_all; done) | (simp_all; omega))
      all_goals try (refine Side.mk ?_; rw [hval]; unfold inI64; omega)
      all_goals try omega
      refine ⟨i + 1, by omega, by omega, ?_⟩
      repeat' ((conv => whnf); first | done | refine ev_step ?_ | refine ops_step ?_ | refine scan_step ?_ | refine draw_step ?_ | refine each_step ?_ | refine sl_step ?_ | refine hp_step ?_ | refine guard_no (by decide) ?_ | refine guard_go ?_ | refine guard_old ?_ | apply cut_auto | with_reducible exact CutS.mk (Or.inl ⟨rfl, rfl, rfl⟩) | refine CutS.mk (Or.inr (sub_auto ?_)) | exact trivial | refine And.intro ?_ ?_ | refine cond_split ?_ ?_ | apply guess | exact Or.inl rfl | exact Or.inr rfl | exact Side.mk trivial | exact Side.mk (fun h => h) | exact Side.mk (fun h => ⟨h, h⟩) | with_reducible exact Side.mk rfl | with_reducible exact Side.mk ⟨rfl, rfl⟩ | with_reducible exact Side.mk (by assumption) | with_reducible rfl | intro _)
      all_goals try (conv => whnf)
      all_goals first | rfl | omega | exact hval | exact hval.symm | exact hsg | exact hE | exact hEl | exact hEl.symm | trace_state
    · obtain rfl : i = ns.length := by omega
      have hbig2 : decide (20000 < ((pF (sN ns) ns.length : Nat) : Int)) = false := decide_eq_false (by omega)
      have ku := k_unused A V ⟨h.h.1, hg⟩
      have kg := k_growC A V ns (segsI ns ns.length) (xssI ns ns.length) hn h.h.1 (segs_ok ns) ns.length [] (choice_nil hn) (by simp)
      have e0 : vH (sN ns) [] ([] : List Int).length * pT (sN ns) ns.length ([] : List Int).length = 0 := by simp [vH]
      have e1 : (vH (sN ns) [] ([] : List Int).length + 1) * pT (sN ns) ns.length ([] : List Int).length = pF (sN ns) ns.length := by rw [pF_eq]; simp [vH]
      have e2 : bV A V ns 0 = ([], -1) := rfl
      have e3 : usedT (wN A) A.length ns [] ([] : List Int).length = zeroU (wN A) A.length := rfl
      simp only [GrowC, e0, e1, e2, e3] at kg
      generalize bV A V ns (pF (sN ns) ns.length) = B at *
      generalize zeroU (wN A) A.length = U at *
      repeat' ((conv => whnf); first | done | refine ev_step ?_ | refine ops_step ?_ | refine scan_step ?_ | refine draw_step ?_ | refine each_step ?_ | refine sl_step ?_ | refine hp_step ?_ | refine guard_no (by decide) ?_ | refine guard_go ?_ | refine guard_old ?_ | apply cut_auto | with_reducible exact CutS.mk (Or.inl ⟨rfl, rfl, rfl⟩) | refine CutS.mk (Or.inr (sub_auto ?_)) | exact trivial | refine And.intro ?_ ?_ | (refine cond_split ?_ ?_ <;> intro hq_ <;> first | (exfalso; first | omega | (simp only [hbig2, cond_true, cond_false, Bool.not_true, Bool.not_false, Bool.and_true, Bool.true_and, Bool.and_false, Bool.false_and, Bool.or_true, Bool.true_or, Bool.or_false, Bool.false_or, Bool.true_eq_false, Bool.false_eq_true, decide_true, decide_false, reduceCtorEq] at hq_; done) | (rw [decide_eq_false_iff_not] at hq_; omega) | (rw [decide_eq_true_eq] at hq_; omega) | (simp only [hbig2, reduceCtorEq] at hq_; done) | exact Bool.noConfusion (Eq.trans (Eq.symm hbig2) hq_)) | skip) | apply guess | apply FnIs.useF (ku) | exact Or.inl rfl | exact Or.inr rfl | exact Side.mk trivial | exact Side.mk (fun h => h) | exact Side.mk (fun h => ⟨h, h⟩) | with_reducible exact Side.mk rfl | with_reducible exact Side.mk ⟨rfl, rfl⟩ | with_reducible exact Side.mk (by assumption) | with_reducible rfl | intro _)
      all_goals try (conv => whnf)
      all_goals try (refine Side.mk ?_; first | (intros; omega) | (intro h1_ h2_; rw [h1_, h2_]; rfl) | (show List.length (_ ++ _) ≤ _; simp only [List.length_append, List.length_cons, List.length_nil, List.length_replicate, List.length_take]; omega) | (simp_all; done) | (simp_all; omega))
      refine ACall.nilbox 11 rfl ?_
      repeat' ((conv => whnf); first | done | refine ev_step ?_ | refine ops_step ?_ | refine scan_step ?_ | refine draw_step ?_ | refine each_step ?_ | refine sl_step ?_ | refine hp_step ?_ | refine guard_no (by decide) ?_ | refine guard_go ?_ | refine guard_old ?_ | apply cut_auto | with_reducible exact CutS.mk (Or.inl ⟨rfl, rfl, rfl⟩) | refine CutS.mk (Or.inr (sub_auto ?_)) | exact trivial | refine And.intro ?_ ?_ | (refine cond_split ?_ ?_ <;> intro _ <;> first | (exfalso; first | omega | (simp only [decide_eq_true_eq, decide_eq_false_iff_not, Bool.not_eq_true', Bool.not_eq_false', ne_eq, Bool.not_true, Bool.not_false, cond_true, cond_false, Bool.true_eq_false, Bool.false_eq_true, Bool.and_eq_true, Bool.and_eq_false_iff] at *; omega)) | skip) | apply guess | apply FnEx.useF2 (kg) | exact Or.inl rfl | exact Or.inr rfl | exact Side.mk trivial | exact Side.mk (fun h => h) | exact Side.mk (fun h => ⟨h, h⟩) | with_reducible exact Side.mk rfl | with_reducible exact Side.mk ⟨rfl, rfl⟩ | with_reducible exact Side.mk (by assumption) | with_reducible rfl | intro _)
      all_goals try (conv => whnf)
      all_goals try (refine Side.mk ?_; first | (intros; omega) | (intro h1_ h2_; rw [h1_, h2_]; rfl) | (show List.length (_ ++ _) ≤ _; simp only [List.length_append, List.length_cons, List.length_nil, List.length_replicate, List.length_take]; omega) | (simp_all; done) | (simp_all; omega))
      all_goals first | rfl | omega | trace_state
end Go.Sx.U
