/-
  FnExactRecoverJournal, as a contract.
-/
import Derived.Test.YtligakfmabjoeaaDoorT31
set_option linter.unusedSimpArgs false
namespace Go.Sx.U
set_option linter.unusedVariables false
set_option linter.unusedSimpArgs false
set_option maxRecDepth 100000
set_option maxHeartbeats 8000000
open Go Go.Sx Go.Proofs

/-- A mark as a text. -/
def mkT (k : Nat) : ByteArray := ⟨#[109]⟩ ++ decB k
def mkP (k : Nat) (a : Nat × ByteArray) : Prop := a.1 ≤ k ∧ (a.1 = 0 → 0 < k → a.2 = decB k) ∧ (0 < a.1 → Lib.decDigits a.1 ++ bl a.2 = Lib.decDigits k) ∧ a.2.size ≤ 21
theorem itoa_nat (k : Nat) : Lib.itoa (k : Int) = Lib.decDigits k := by
  unfold Lib.itoa
  rw [if_neg (by omega), Int.toNat_natCast]
theorem strOf_one (d : Nat) (h : d < 10) : strOfNums [48 + (d : Int)] = ⟨#[UInt8.ofNat (48 + d)]⟩ := by
  apply bl_ext
  simp only [bl, strOfNums_data, List.map_cons, List.map_nil]
  rw [show (48 + (d : Int)).toNat = 48 + d by omega]
theorem mkP_step {k r : Nat} {s : ByteArray} (hk : k ≤ 1000000000) (h : mkP k (r, s)) (hr : 0 < r) : mkP k (r / 10, ⟨#[UInt8.ofNat (48 + r % 10)]⟩ ++ s) := by
  obtain ⟨h1, _, h3, h4⟩ := h
  have h3 := h3 hr
  dsimp only at h1 h3 h4
  have key : Lib.decDigits r ++ bl s = (if r < 10 then [] else Lib.decDigits (r / 10)) ++ bl (⟨#[UInt8.ofNat (48 + r % 10)]⟩ ++ s) := by
    rw [bl_app, Lib.decDigits]
    by_cases h : r < 10
    · rw [dif_pos h, if_pos h, show r % 10 = r by omega]; rfl
    · rw [dif_neg h, if_neg h, List.append_assoc]
  rw [h3] at key
  have hlen : (bl (⟨#[UInt8.ofNat (48 + r % 10)]⟩ ++ s)).length ≤ 21 := by
    have h5 := decB_le (k : Int) (by omega) (by omega)
    rw [← bl_len, decB_bl, itoa_nat, key, List.length_append] at h5
    exact Nat.le_trans (Nat.le_add_left _ _) h5
  refine ⟨by show r / 10 ≤ k; omega, fun e _ => ?_, fun e => ?_, by rw [← bl_len]; exact hlen⟩
  · dsimp only at e ⊢
    rw [if_pos (by omega)] at key
    apply bl_ext
    rw [decB_bl, itoa_nat, key]; rfl
  · dsimp only at e ⊢
    rw [if_neg (by omega)] at key
    exact key.symm
theorem k_markText (k : Nat) (h : Side (1 ≤ k ∧ k ≤ 1000000000)) : FnIs Tryd.prog 31 [.int .i64 k] 0 [] (.str (mkT k)) 0 [] := by
  obtain ⟨h1, h2⟩ := h.h
  have hu8 : ∀ d : Nat, d < 10 → IntKind.u8.wrap (48 + (d : Int)) = 48 + (d : Int) := fun d hd => by
    unfold IntKind.wrap; simp [IntKind.bits, IntKind.signed]; omega
  refine fn_of_ev tok Tryd.func31 rfl rfl rfl ?_
  repeat' ((conv => whnf); first | done | refine ev_step ?_ | refine ops_step ?_ | refine scan_step ?_ | refine draw_step ?_ | refine each_step ?_ | refine sl_step ?_ | refine hp_step ?_ | refine guard_no (by decide) ?_ | refine guard_go ?_ | refine guard_old ?_ | apply cut_auto | with_reducible exact CutS.mk (Or.inl ⟨rfl, rfl, rfl⟩) | refine CutS.mk (Or.inr (Or.inl (sub_auto ?_))) | exact trivial | refine And.intro ?_ ?_ | (refine cond_split ?_ ?_ <;> intro _ <;> first | (exfalso; first | omega | (simp only [decide_eq_true_eq, decide_eq_false_iff_not, Bool.not_eq_true', Bool.not_eq_false', ne_eq, Bool.not_true, Bool.not_false, cond_true, cond_false, Bool.true_eq_false, Bool.false_eq_true, Bool.and_eq_true, Bool.and_eq_false_iff] at *; omega)) | skip) | apply guess | exact Or.inl rfl | exact Or.inr rfl | exact Side.mk trivial | exact Side.mk (fun h => h) | exact Side.mk (fun h => ⟨h, h⟩) | with_reducible exact Side.mk rfl | with_reducible exact Side.mk ⟨rfl, rfl⟩ | with_reducible exact Side.mk (by assumption) | with_reducible rfl | intro _)
  all_goals try (conv => whnf)
  refine loop_at (mkP k) 0 (fun a => [(0, .int .i64 a.1), (3, .str a.2)]) (fun _ => []) (fun a => a.1) (k, ByteArray.empty) ⟨Nat.le_refl _, fun e e2 => absurd e2 (by omega), fun _ => by simp [bl], by show ByteArray.empty.size ≤ 21; decide⟩ ?_ (fun a ha => ?_)
  · repeat' ((conv => whnf); first | done | refine ev_step ?_ | refine ops_step ?_ | refine scan_step ?_ | refine draw_step ?_ | refine each_step ?_ | refine sl_step ?_ | refine hp_step ?_ | refine guard_no (by decide) ?_ | refine guard_go ?_ | refine guard_old ?_ | apply cut_auto | with_reducible exact CutS.mk (Or.inl ⟨rfl, rfl, rfl⟩) | refine CutS.mk (Or.inr (Or.inl (sub_auto ?_))) | exact trivial | refine And.intro ?_ ?_ | refine cond_split ?_ ?_ | apply guess | exact Or.inl rfl | exact Or.inr rfl | exact Side.mk trivial | exact Side.mk (fun h => h) | exact Side.mk (fun h => ⟨h, h⟩) | with_reducible exact Side.mk rfl | with_reducible exact Side.mk ⟨rfl, rfl⟩ | with_reducible exact Side.mk (by assumption) | with_reducible rfl | intro _)
    all_goals try (conv => whnf)
    all_goals first | rfl | trace_state
  · obtain ⟨r, s⟩ := a
    have h4 := ha.2.2.2
    have h5 := ha.1
    dsimp only at h4 h5
    by_cases hr : 0 < r
    · have hm : ((r : Int).tmod 10) = ((r % 10 : Nat) : Int) := by rw [Int.tmod_eq_emod_of_nonneg (by omega)]; omega
      have hq : IntKind.i64.wrap ((r : Int).tdiv 10) = ((r / 10 : Nat) : Int) := by
        rw [Int.tdiv_eq_ediv_of_nonneg (by omega)]
        rw [show ((r : Int) / 10) = ((r / 10 : Nat) : Int) by omega]
        exact wrap_in ⟨by omega, by omega⟩
      have hd : r % 10 < 10 := Nat.mod_lt _ (by decide)
      have hst := mkP_step h2 ha hr
      repeat' ((conv => whnf); first | done | refine ev_step ?_ | refine ops_step ?_ | refine scan_step ?_ | refine draw_step ?_ | refine each_step ?_ | refine sl_step ?_ | refine hp_step ?_ | refine guard_no (by decide) ?_ | refine guard_go ?_ | refine guard_old ?_ | apply cut_auto | with_reducible exact CutS.mk (Or.inl ⟨rfl, rfl, rfl⟩) | refine CutS.mk (Or.inr (Or.inl (sub_auto ?_))) | exact trivial | refine And.intro ?_ ?_ | (refine cond_split ?_ ?_ <;> intro _ <;> first | (exfalso; first | omega | (simp only [decide_eq_true_eq, decide_eq_false_iff_not, Bool.not_eq_true', Bool.not_eq_false', ne_eq, Bool.not_true, Bool.not_false, cond_true, cond_false, Bool.true_eq_false, Bool.false_eq_true, Bool.and_eq_true, Bool.and_eq_false_iff] at *; omega)) | skip) | apply guess | exact Or.inl rfl | exact Or.inr rfl | exact Side.mk trivial | exact Side.mk (fun h => h) | exact Side.mk (fun h => ⟨h, h⟩) | with_reducible exact Side.mk rfl | with_reducible exact Side.mk ⟨rfl, rfl⟩ | with_reducible exact Side.mk (by assumption) | with_reducible rfl | intro _)
      all_goals try (conv => whnf)
      all_goals try dsimp only at *
      all_goals try simp only [hm, hq, hu8 _ hd, strOf_one _ hd] at *
      all_goals try (refine Side.mk ?_; decide)
      all_goals try (refine Side.mk ?_; first | (intros; omega) | (intro h1_ h2_; rw [h1_, h2_]; rfl) | (show List.length (_ ++ _) ≤ _; simp only [List.length_append, List.length_cons, List.length_nil, List.length_replicate, List.length_take]; omega) | (simp_all; done) | (simp_all; omega))
      all_goals try (refine Side.mk ?_; have e1 : (ByteArray.mk #[UInt8.ofNat (48 + r % 10)]).size = 1 := rfl; omega)
      refine ⟨_, hst, by show r / 10 < r; omega, ?_⟩
      repeat' ((conv => whnf); first | done | refine ev_step ?_ | refine ops_step ?_ | refine scan_step ?_ | refine draw_step ?_ | refine each_step ?_ | refine sl_step ?_ | refine hp_step ?_ | refine guard_no (by decide) ?_ | refine guard_go ?_ | refine guard_old ?_ | apply cut_auto | with_reducible exact CutS.mk (Or.inl ⟨rfl, rfl, rfl⟩) | refine CutS.mk (Or.inr (Or.inl (sub_auto ?_))) | exact trivial | refine And.intro ?_ ?_ | refine cond_split ?_ ?_ | apply guess | exact Or.inl rfl | exact Or.inr rfl | exact Side.mk trivial | exact Side.mk (fun h => h) | exact Side.mk (fun h => ⟨h, h⟩) | with_reducible exact Side.mk rfl | with_reducible exact Side.mk ⟨rfl, rfl⟩ | with_reducible exact Side.mk (by assumption) | with_reducible rfl | intro _)
      all_goals try (conv => whnf)
      all_goals first | rfl | trace_state
    · have hr0 : r = 0 := by omega
      subst hr0
      have e := ha.2.1 rfl (by omega)
      dsimp only at e
      subst e
      have e1 : (ByteArray.mk #[109]).size = 1 := rfl
      have e2 := decB_le (k : Int) (by omega) (by omega)
      repeat' ((conv => whnf); first | done | refine ev_step ?_ | refine ops_step ?_ | refine scan_step ?_ | refine draw_step ?_ | refine each_step ?_ | refine sl_step ?_ | refine hp_step ?_ | refine guard_no (by decide) ?_ | refine guard_go ?_ | refine guard_old ?_ | apply cut_auto | with_reducible exact CutS.mk (Or.inl ⟨rfl, rfl, rfl⟩) | refine CutS.mk (Or.inr (Or.inl (sub_auto ?_))) | exact trivial | refine And.intro ?_ ?_ | (refine cond_split ?_ ?_ <;> intro _ <;> first | (exfalso; first | omega | (simp only [decide_eq_true_eq, decide_eq_false_iff_not, Bool.not_eq_true', Bool.not_eq_false', ne_eq, Bool.not_true, Bool.not_false, cond_true, cond_false, Bool.true_eq_false, Bool.false_eq_true, Bool.and_eq_true, Bool.and_eq_false_iff] at *; omega)) | skip) | apply guess | exact Or.inl rfl | exact Or.inr rfl | exact Side.mk trivial | exact Side.mk (fun h => h) | exact Side.mk (fun h => ⟨h, h⟩) | with_reducible exact Side.mk rfl | with_reducible exact Side.mk ⟨rfl, rfl⟩ | with_reducible exact Side.mk (by assumption) | with_reducible rfl | intro _)
      all_goals try (conv => whnf)
      all_goals try dsimp only at *
      all_goals try (refine Side.mk ?_; first | (intros; omega) | (intro h1_ h2_; rw [h1_, h2_]; rfl) | (show List.length (_ ++ _) ≤ _; simp only [List.length_append, List.length_cons, List.length_nil, List.length_replicate, List.length_take]; omega) | (simp_all; done) | (simp_all; omega))
      all_goals first | rfl | trace_state
def mkL (n : Nat) : List ByteArray := (List.range n).map fun i => mkT (i + 1)
theorem mkL_len (n : Nat) : (mkL n).length = n := by simp [mkL]
theorem mkL_get {n i : Nat} (h : i < n) : (mkL n).getD i ByteArray.empty = mkT (i + 1) := by
  simp [mkL, List.getD, h]
theorem mkL_fill {xs : List ByteArray} {i : Nat} (h : i < xs.length) : (mkL i ++ xs.drop i).set i (mkT (i + 1)) = mkL (i + 1) ++ xs.drop (i + 1) := by
  rw [List.set_append_right _ _ (by rw [mkL_len]; exact Nat.le_refl _), mkL_len, Nat.sub_self]
  rw [drop_cons (d := ByteArray.empty) h]
  simp [mkL, List.range_succ]
theorem k_markStringS (xs : List ByteArray) (h : Side (xs.length ≤ 1048577)) : FnIs Tryd.prog 13 [.sl 0 [], .int .i64 1] 1 [(0, .flat true (.strs xs))] (.int .i64 (1 + (xs.length : Int))) 1 [(0, .flat true (.strs (mkL xs.length)))] := by
  have h1 := h.h
  refine fn_of_ev tok Tryd.func13 rfl rfl rfl ?_
  repeat' ((conv => whnf); first | done | refine ev_step ?_ | refine ops_step ?_ | refine scan_step ?_ | refine draw_step ?_ | refine each_step ?_ | refine sl_step ?_ | refine hp_step ?_ | refine guard_no (by decide) ?_ | refine guard_go ?_ | refine guard_old ?_ | apply cut_auto | with_reducible exact CutS.mk (Or.inl ⟨rfl, rfl, rfl⟩) | refine CutS.mk (Or.inr (Or.inl (sub_auto ?_))) | exact trivial | refine And.intro ?_ ?_ | refine cond_split ?_ ?_ | apply guess | exact Or.inl rfl | exact Or.inr rfl | exact Side.mk trivial | exact Side.mk (fun h => h) | exact Side.mk (fun h => ⟨h, h⟩) | with_reducible exact Side.mk rfl | with_reducible exact Side.mk ⟨rfl, rfl⟩ | with_reducible exact Side.mk (by assumption) | with_reducible rfl | intro _)
  all_goals try (conv => whnf)
  refine loop_at (fun i : Nat => i ≤ xs.length) 1 (fun i => [(5, .int .i64 i), (1, .int .i64 ((i + 1 : Nat) : Int))]) (fun i => [(0, .flat true (.strs (mkL i ++ xs.drop i)))]) (fun i => xs.length - i) 0 (Nat.zero_le _) ?_ (fun i hi => ?_)
  · repeat' ((conv => whnf); first | done | refine ev_step ?_ | refine ops_step ?_ | refine scan_step ?_ | refine draw_step ?_ | refine each_step ?_ | refine sl_step ?_ | refine hp_step ?_ | refine guard_no (by decide) ?_ | refine guard_go ?_ | refine guard_old ?_ | apply cut_auto | with_reducible exact CutS.mk (Or.inl ⟨rfl, rfl, rfl⟩) | refine CutS.mk (Or.inr (Or.inl (sub_auto ?_))) | exact trivial | refine And.intro ?_ ?_ | refine cond_split ?_ ?_ | apply guess | exact Or.inl rfl | exact Or.inr rfl | exact Side.mk trivial | exact Side.mk (fun h => h) | exact Side.mk (fun h => ⟨h, h⟩) | with_reducible exact Side.mk rfl | with_reducible exact Side.mk ⟨rfl, rfl⟩ | with_reducible exact Side.mk (by assumption) | with_reducible rfl | intro _)
    all_goals try (conv => whnf)
    all_goals first | rfl | (simp [mkL]; done) | trace_state
  · have hl : (mkL i ++ xs.drop i).length = xs.length := by rw [List.length_append, mkL_len, List.length_drop]; omega
    by_cases hlt : i < xs.length
    · repeat' ((conv => whnf); first | done | refine ev_step ?_ | refine ops_step ?_ | refine scan_step ?_ | refine draw_step ?_ | refine each_step ?_ | refine sl_step ?_ | refine hp_step ?_ | refine guard_no (by decide) ?_ | refine guard_go ?_ | refine guard_old ?_ | apply cut_auto | with_reducible exact CutS.mk (Or.inl ⟨rfl, rfl, rfl⟩) | refine CutS.mk (Or.inr (Or.inl (sub_auto ?_))) | exact trivial | refine And.intro ?_ ?_ | (refine cond_split ?_ ?_ <;> intro _ <;> first | (exfalso; first | omega | (simp only [decide_eq_true_eq, decide_eq_false_iff_not, Bool.not_eq_true', Bool.not_eq_false', ne_eq, Bool.not_true, Bool.not_false, cond_true, cond_false, Bool.true_eq_false, Bool.false_eq_true, Bool.and_eq_true, Bool.and_eq_false_iff] at *; omega)) | skip) | apply guess | apply FnIs.useF (k_markText (i + 1) _) | exact Or.inl rfl | exact Or.inr rfl | exact Side.mk trivial | exact Side.mk (fun h => h) | exact Side.mk (fun h => ⟨h, h⟩) | with_reducible exact Side.mk rfl | with_reducible exact Side.mk ⟨rfl, rfl⟩ | with_reducible exact Side.mk (by assumption) | with_reducible rfl | intro _)
      all_goals try (conv => whnf)
      all_goals try simp only [Int.toNat_natCast] at *
      all_goals try (refine Side.mk ?_; first | (intros; omega) | (intro h1_ h2_; rw [h1_, h2_]; rfl) | (show List.length (_ ++ _) ≤ _; simp only [List.length_append, List.length_cons, List.length_nil, List.length_replicate, List.length_take]; omega) | (simp_all; done) | (simp_all; omega))
      refine ⟨i + 1, by omega, by omega, ?_⟩
      repeat' ((conv => whnf); first | done | refine ev_step ?_ | refine ops_step ?_ | refine scan_step ?_ | refine draw_step ?_ | refine each_step ?_ | refine sl_step ?_ | refine hp_step ?_ | refine guard_no (by decide) ?_ | refine guard_go ?_ | refine guard_old ?_ | apply cut_auto | with_reducible exact CutS.mk (Or.inl ⟨rfl, rfl, rfl⟩) | refine CutS.mk (Or.inr (Or.inl (sub_auto ?_))) | exact trivial | refine And.intro ?_ ?_ | refine cond_split ?_ ?_ | apply guess | exact Or.inl rfl | exact Or.inr rfl | exact Side.mk trivial | exact Side.mk (fun h => h) | exact Side.mk (fun h => ⟨h, h⟩) | with_reducible exact Side.mk rfl | with_reducible exact Side.mk ⟨rfl, rfl⟩ | with_reducible exact Side.mk (by assumption) | with_reducible rfl | intro _)
      all_goals try (conv => whnf)
      all_goals first | rfl | omega | (rw [mkL_fill hlt]; done) | (exact (mkL_fill hlt).symm) | trace_state
    · repeat' ((conv => whnf); first | done | refine ev_step ?_ | refine ops_step ?_ | refine scan_step ?_ | refine draw_step ?_ | refine each_step ?_ | refine sl_step ?_ | refine hp_step ?_ | refine guard_no (by decide) ?_ | refine guard_go ?_ | refine guard_old ?_ | apply cut_auto | with_reducible exact CutS.mk (Or.inl ⟨rfl, rfl, rfl⟩) | refine CutS.mk (Or.inr (Or.inl (sub_auto ?_))) | exact trivial | refine And.intro ?_ ?_ | (refine cond_split ?_ ?_ <;> intro _ <;> first | (exfalso; first | omega | (simp only [decide_eq_true_eq, decide_eq_false_iff_not, Bool.not_eq_true', Bool.not_eq_false', ne_eq, Bool.not_true, Bool.not_false, cond_true, cond_false, Bool.true_eq_false, Bool.false_eq_true, Bool.and_eq_true, Bool.and_eq_false_iff] at *; omega)) | skip) | apply guess | exact Or.inl rfl | exact Or.inr rfl | exact Side.mk trivial | exact Side.mk (fun h => h) | exact Side.mk (fun h => ⟨h, h⟩) | with_reducible exact Side.mk rfl | with_reducible exact Side.mk ⟨rfl, rfl⟩ | with_reducible exact Side.mk (by assumption) | with_reducible rfl | intro _)
      all_goals try (conv => whnf)
      all_goals try (refine Side.mk ?_; first | (intros; omega) | (intro h1_ h2_; rw [h1_, h2_]; rfl) | (show List.length (_ ++ _) ≤ _; simp only [List.length_append, List.length_cons, List.length_nil, List.length_replicate, List.length_take]; omega) | (simp_all; done) | (simp_all; omega))
      all_goals first | rfl | omega | (rw [List.drop_eq_nil_of_le (by omega), List.append_nil, show i = xs.length by omega]; done) | trace_state
theorem k_heldStringS (n : Nat) (h : Side (n ≤ 1048577)) : FnIs Tryd.prog 14 [.sl 0 [], .int .i64 1] 1 [(0, .flat false (.strs (mkL n)))] (.int .i64 (1 + (n : Int))) 1 [] := by
  have h1 := h.h
  have hl := mkL_len n
  refine fn_of_ev tok Tryd.func14 rfl rfl rfl ?_
  repeat' ((conv => whnf); first | done | refine ev_step ?_ | refine ops_step ?_ | refine scan_step ?_ | refine draw_step ?_ | refine each_step ?_ | refine sl_step ?_ | refine hp_step ?_ | refine guard_no (by decide) ?_ | refine guard_go ?_ | refine guard_old ?_ | apply cut_auto | with_reducible exact CutS.mk (Or.inl ⟨rfl, rfl, rfl⟩) | refine CutS.mk (Or.inr (Or.inl (sub_auto ?_))) | exact trivial | refine And.intro ?_ ?_ | refine cond_split ?_ ?_ | apply guess | exact Or.inl rfl | exact Or.inr rfl | exact Side.mk trivial | exact Side.mk (fun h => h) | exact Side.mk (fun h => ⟨h, h⟩) | with_reducible exact Side.mk rfl | with_reducible exact Side.mk ⟨rfl, rfl⟩ | with_reducible exact Side.mk (by assumption) | with_reducible rfl | intro _)
  all_goals try (conv => whnf)
  refine loop_at (fun i : Nat => i ≤ n) 1 (fun i => [(5, .int .i64 i), (1, .int .i64 ((i + 1 : Nat) : Int))]) (fun _ => []) (fun i => n - i) 0 (Nat.zero_le _) ?_ (fun i hi => ?_)
  · repeat' ((conv => whnf); first | done | refine ev_step ?_ | refine ops_step ?_ | refine scan_step ?_ | refine draw_step ?_ | refine each_step ?_ | refine sl_step ?_ | refine hp_step ?_ | refine guard_no (by decide) ?_ | refine guard_go ?_ | refine guard_old ?_ | apply cut_auto | with_reducible exact CutS.mk (Or.inl ⟨rfl, rfl, rfl⟩) | refine CutS.mk (Or.inr (Or.inl (sub_auto ?_))) | exact trivial | refine And.intro ?_ ?_ | refine cond_split ?_ ?_ | apply guess | exact Or.inl rfl | exact Or.inr rfl | exact Side.mk trivial | exact Side.mk (fun h => h) | exact Side.mk (fun h => ⟨h, h⟩) | with_reducible exact Side.mk rfl | with_reducible exact Side.mk ⟨rfl, rfl⟩ | with_reducible exact Side.mk (by assumption) | with_reducible rfl | intro _)
    all_goals try (conv => whnf)
    all_goals first | rfl | trace_state
  · by_cases hlt : i < n
    · have hg := mkL_get hlt
      have f1 : (!(((mkL n).getD (i : Int).toNat ByteArray.empty).toList == (mkT (i + 1)).toList)) = false := by rw [Int.toNat_natCast, hg]; simp
      repeat' ((conv => whnf); first | done | refine ev_step ?_ | refine ops_step ?_ | refine scan_step ?_ | refine draw_step ?_ | refine each_step ?_ | refine sl_step ?_ | refine hp_step ?_ | refine guard_no (by decide) ?_ | refine guard_go ?_ | refine guard_old ?_ | apply cut_auto | with_reducible exact CutS.mk (Or.inl ⟨rfl, rfl, rfl⟩) | refine CutS.mk (Or.inr (Or.inl (sub_auto ?_))) | exact trivial | refine And.intro ?_ ?_ | (refine cond_split ?_ ?_ <;> intro hq_ <;> first | (exfalso; first | omega | (simp only [f1, cond_true, cond_false, Bool.not_true, Bool.not_false, Bool.and_true, Bool.true_and, Bool.and_false, Bool.false_and, Bool.or_true, Bool.true_or, Bool.or_false, Bool.false_or, Bool.true_eq_false, Bool.false_eq_true, decide_true, decide_false, reduceCtorEq] at hq_; done) | (rw [decide_eq_false_iff_not] at hq_; omega) | (rw [decide_eq_true_eq] at hq_; omega) | (simp only [f1, reduceCtorEq] at hq_; done) | exact Bool.noConfusion (Eq.trans (Eq.symm f1) hq_)) | skip) | apply guess | apply FnIs.useF (k_markText (i + 1) _) | exact Or.inl rfl | exact Or.inr rfl | exact Side.mk trivial | exact Side.mk (fun h => h) | exact Side.mk (fun h => ⟨h, h⟩) | with_reducible exact Side.mk rfl | with_reducible exact Side.mk ⟨rfl, rfl⟩ | with_reducible exact Side.mk (by assumption) | with_reducible rfl | intro _)
      all_goals try (conv => whnf)
      all_goals try simp only [Int.toNat_natCast] at *
      all_goals try (refine Side.mk ?_; first | (intros; omega) | (intro h1_ h2_; rw [h1_, h2_]; rfl) | (show List.length (_ ++ _) ≤ _; simp only [List.length_append, List.length_cons, List.length_nil, List.length_replicate, List.length_take]; omega) | (simp_all; done) | (simp_all; omega))
      refine ⟨i + 1, by omega, by omega, ?_⟩
      repeat' ((conv => whnf); first | done | refine ev_step ?_ | refine ops_step ?_ | refine scan_step ?_ | refine draw_step ?_ | refine each_step ?_ | refine sl_step ?_ | refine hp_step ?_ | refine guard_no (by decide) ?_ | refine guard_go ?_ | refine guard_old ?_ | apply cut_auto | with_reducible exact CutS.mk (Or.inl ⟨rfl, rfl, rfl⟩) | refine CutS.mk (Or.inr (Or.inl (sub_auto ?_))) | exact trivial | refine And.intro ?_ ?_ | refine cond_split ?_ ?_ | apply guess | exact Or.inl rfl | exact Or.inr rfl | exact Side.mk trivial | exact Side.mk (fun h => h) | exact Side.mk (fun h => ⟨h, h⟩) | with_reducible exact Side.mk rfl | with_reducible exact Side.mk ⟨rfl, rfl⟩ | with_reducible exact Side.mk (by assumption) | with_reducible rfl | intro _)
      all_goals try (conv => whnf)
      all_goals first | rfl | omega | trace_state
    · repeat' ((conv => whnf); first | done | refine ev_step ?_ | refine ops_step ?_ | refine scan_step ?_ | refine draw_step ?_ | refine each_step ?_ | refine sl_step ?_ | refine hp_step ?_ | refine guard_no (by decide) ?_ | refine guard_go ?_ | refine guard_old ?_ | apply cut_auto | with_reducible exact CutS.mk (Or.inl ⟨rfl, rfl, rfl⟩) | refine CutS.mk (Or.inr (Or.inl (sub_auto ?_))) | exact trivial | refine And.intro ?_ ?_ | (refine cond_split ?_ ?_ <;> intro _ <;> first | (exfalso; first | omega | (simp only [decide_eq_true_eq, decide_eq_false_iff_not, Bool.not_eq_true', Bool.not_eq_false', ne_eq, Bool.not_true, Bool.not_false, cond_true, cond_false, Bool.true_eq_false, Bool.false_eq_true, Bool.and_eq_true, Bool.and_eq_false_iff] at *; omega)) | skip) | apply guess | exact Or.inl rfl | exact Or.inr rfl | exact Side.mk trivial | exact Side.mk (fun h => h) | exact Side.mk (fun h => ⟨h, h⟩) | with_reducible exact Side.mk rfl | with_reducible exact Side.mk ⟨rfl, rfl⟩ | with_reducible exact Side.mk (by assumption) | with_reducible rfl | intro _)
      all_goals try (conv => whnf)
      all_goals try (refine Side.mk ?_; first | (intros; omega) | (intro h1_ h2_; rw [h1_, h2_]; rfl) | (show List.length (_ ++ _) ≤ _; simp only [List.length_append, List.length_cons, List.length_nil, List.length_replicate, List.length_take]; omega) | (simp_all; done) | (simp_all; omega))
      all_goals first | rfl | omega | trace_state
theorem k_eqStringS_nil : FnIs Tryd.prog 10 [.nilsl, .nilsl] 0 [] (.bool true) 0 [] := by
  refine fn_of_ev tok Tryd.func10 rfl rfl rfl ?_
  repeat' ((conv => whnf); first | done | refine ev_step ?_ | refine ops_step ?_ | refine scan_step ?_ | refine draw_step ?_ | refine each_step ?_ | refine sl_step ?_ | refine hp_step ?_ | refine guard_no (by decide) ?_ | refine guard_go ?_ | refine guard_old ?_ | apply cut_auto | with_reducible exact CutS.mk (Or.inl ⟨rfl, rfl, rfl⟩) | refine CutS.mk (Or.inr (Or.inl (sub_auto ?_))) | exact trivial | refine And.intro ?_ ?_ | refine cond_split ?_ ?_ | apply guess | exact Or.inl rfl | exact Or.inr rfl | exact Side.mk trivial | exact Side.mk (fun h => h) | exact Side.mk (fun h => ⟨h, h⟩) | with_reducible exact Side.mk rfl | with_reducible exact Side.mk ⟨rfl, rfl⟩ | with_reducible exact Side.mk (by assumption) | with_reducible rfl | intro _)
  all_goals try (conv => whnf)
  refine loop_at (fun _ : Unit => True) 0 (fun _ => []) (fun _ => []) (fun _ => 0) () trivial ?_ (fun i hi => ?_)
  · repeat' ((conv => whnf); first | done | refine ev_step ?_ | refine ops_step ?_ | refine scan_step ?_ | refine draw_step ?_ | refine each_step ?_ | refine sl_step ?_ | refine hp_step ?_ | refine guard_no (by decide) ?_ | refine guard_go ?_ | refine guard_old ?_ | apply cut_auto | with_reducible exact CutS.mk (Or.inl ⟨rfl, rfl, rfl⟩) | refine CutS.mk (Or.inr (Or.inl (sub_auto ?_))) | exact trivial | refine And.intro ?_ ?_ | refine cond_split ?_ ?_ | apply guess | exact Or.inl rfl | exact Or.inr rfl | exact Side.mk trivial | exact Side.mk (fun h => h) | exact Side.mk (fun h => ⟨h, h⟩) | with_reducible exact Side.mk rfl | with_reducible exact Side.mk ⟨rfl, rfl⟩ | with_reducible exact Side.mk (by assumption) | with_reducible rfl | intro _)
    all_goals try (conv => whnf)
    all_goals first | rfl | trace_state
  · repeat' ((conv => whnf); first | done | refine ev_step ?_ | refine ops_step ?_ | refine scan_step ?_ | refine draw_step ?_ | refine each_step ?_ | refine sl_step ?_ | refine hp_step ?_ | refine guard_no (by decide) ?_ | refine guard_go ?_ | refine guard_old ?_ | apply cut_auto | with_reducible exact CutS.mk (Or.inl ⟨rfl, rfl, rfl⟩) | refine CutS.mk (Or.inr (Or.inl (sub_auto ?_))) | exact trivial | refine And.intro ?_ ?_ | (refine cond_split ?_ ?_ <;> intro _ <;> first | (exfalso; first | omega | (simp only [decide_eq_true_eq, decide_eq_false_iff_not, Bool.not_eq_true', Bool.not_eq_false', ne_eq, Bool.not_true, Bool.not_false, cond_true, cond_false, Bool.true_eq_false, Bool.false_eq_true, Bool.and_eq_true, Bool.and_eq_false_iff] at *; omega)) | skip) | apply guess | exact Or.inl rfl | exact Or.inr rfl | exact Side.mk trivial | exact Side.mk (fun h => h) | exact Side.mk (fun h => ⟨h, h⟩) | with_reducible exact Side.mk rfl | with_reducible exact Side.mk ⟨rfl, rfl⟩ | with_reducible exact Side.mk (by assumption) | with_reducible rfl | intro _)
    all_goals try (conv => whnf)
    all_goals first | rfl | trace_state
theorem k_markStringS_nil : FnIs Tryd.prog 13 [.nilsl, .int .i64 1] 0 [] (.int .i64 1) 0 [] := by
  refine fn_of_ev tok Tryd.func13 rfl rfl rfl ?_
  repeat' ((conv => whnf); first | done | refine ev_step ?_ | refine ops_step ?_ | refine scan_step ?_ | refine draw_step ?_ | refine each_step ?_ | refine sl_step ?_ | refine hp_step ?_ | refine guard_no (by decide) ?_ | refine guard_go ?_ | refine guard_old ?_ | apply cut_auto | with_reducible exact CutS.mk (Or.inl ⟨rfl, rfl, rfl⟩) | refine CutS.mk (Or.inr (Or.inl (sub_auto ?_))) | exact trivial | refine And.intro ?_ ?_ | refine cond_split ?_ ?_ | apply guess | exact Or.inl rfl | exact Or.inr rfl | exact Side.mk trivial | exact Side.mk (fun h => h) | exact Side.mk (fun h => ⟨h, h⟩) | with_reducible exact Side.mk rfl | with_reducible exact Side.mk ⟨rfl, rfl⟩ | with_reducible exact Side.mk (by assumption) | with_reducible rfl | intro _)
  all_goals try (conv => whnf)
  refine loop_at (fun _ : Unit => True) 0 (fun _ => []) (fun _ => []) (fun _ => 0) () trivial ?_ (fun i hi => ?_)
  · repeat' ((conv => whnf); first | done | refine ev_step ?_ | refine ops_step ?_ | refine scan_step ?_ | refine draw_step ?_ | refine each_step ?_ | refine sl_step ?_ | refine hp_step ?_ | refine guard_no (by decide) ?_ | refine guard_go ?_ | refine guard_old ?_ | apply cut_auto | with_reducible exact CutS.mk (Or.inl ⟨rfl, rfl, rfl⟩) | refine CutS.mk (Or.inr (Or.inl (sub_auto ?_))) | exact trivial | refine And.intro ?_ ?_ | refine cond_split ?_ ?_ | apply guess | exact Or.inl rfl | exact Or.inr rfl | exact Side.mk trivial | exact Side.mk (fun h => h) | exact Side.mk (fun h => ⟨h, h⟩) | with_reducible exact Side.mk rfl | with_reducible exact Side.mk ⟨rfl, rfl⟩ | with_reducible exact Side.mk (by assumption) | with_reducible rfl | intro _)
    all_goals try (conv => whnf)
    all_goals first | rfl | trace_state
  · repeat' ((conv => whnf); first | done | refine ev_step ?_ | refine ops_step ?_ | refine scan_step ?_ | refine draw_step ?_ | refine each_step ?_ | refine sl_step ?_ | refine hp_step ?_ | refine guard_no (by decide) ?_ | refine guard_go ?_ | refine guard_old ?_ | apply cut_auto | with_reducible exact CutS.mk (Or.inl ⟨rfl, rfl, rfl⟩) | refine CutS.mk (Or.inr (Or.inl (sub_auto ?_))) | exact trivial | refine And.intro ?_ ?_ | (refine cond_split ?_ ?_ <;> intro _ <;> first | (exfalso; first | omega | (simp only [decide_eq_true_eq, decide_eq_false_iff_not, Bool.not_eq_true', Bool.not_eq_false', ne_eq, Bool.not_true, Bool.not_false, cond_true, cond_false, Bool.true_eq_false, Bool.false_eq_true, Bool.and_eq_true, Bool.and_eq_false_iff] at *; omega)) | skip) | apply guess | exact Or.inl rfl | exact Or.inr rfl | exact Side.mk trivial | exact Side.mk (fun h => h) | exact Side.mk (fun h => ⟨h, h⟩) | with_reducible exact Side.mk rfl | with_reducible exact Side.mk ⟨rfl, rfl⟩ | with_reducible exact Side.mk (by assumption) | with_reducible rfl | intro _)
    all_goals try (conv => whnf)
    all_goals first | rfl | trace_state
theorem k_heldStringS_nil : FnIs Tryd.prog 14 [.nilsl, .int .i64 1] 0 [] (.int .i64 1) 0 [] := by
  refine fn_of_ev tok Tryd.func14 rfl rfl rfl ?_
  repeat' ((conv => whnf); first | done | refine ev_step ?_ | refine ops_step ?_ | refine scan_step ?_ | refine draw_step ?_ | refine each_step ?_ | refine sl_step ?_ | refine hp_step ?_ | refine guard_no (by decide) ?_ | refine guard_go ?_ | refine guard_old ?_ | apply cut_auto | with_reducible exact CutS.mk (Or.inl ⟨rfl, rfl, rfl⟩) | refine CutS.mk (Or.inr (Or.inl (sub_auto ?_))) | exact trivial | refine And.intro ?_ ?_ | refine cond_split ?_ ?_ | apply guess | exact Or.inl rfl | exact Or.inr rfl | exact Side.mk trivial | exact Side.mk (fun h => h) | exact Side.mk (fun h => ⟨h, h⟩) | with_reducible exact Side.mk rfl | with_reducible exact Side.mk ⟨rfl, rfl⟩ | with_reducible exact Side.mk (by assumption) | with_reducible rfl | intro _)
  all_goals try (conv => whnf)
  refine loop_at (fun _ : Unit => True) 0 (fun _ => []) (fun _ => []) (fun _ => 0) () trivial ?_ (fun i hi => ?_)
  · repeat' ((conv => whnf); first | done | refine ev_step ?_ | refine ops_step ?_ | refine scan_step ?_ | refine draw_step ?_ | refine each_step ?_ | refine sl_step ?_ | refine hp_step ?_ | refine guard_no (by decide) ?_ | refine guard_go ?_ | refine guard_old ?_ | apply cut_auto | with_reducible exact CutS.mk (Or.inl ⟨rfl, rfl, rfl⟩) | refine CutS.mk (Or.inr (Or.inl (sub_auto ?_))) | exact trivial | refine And.intro ?_ ?_ | refine cond_split ?_ ?_ | apply guess | exact Or.inl rfl | exact Or.inr rfl | exact Side.mk trivial | exact Side.mk (fun h => h) | exact Side.mk (fun h => ⟨h, h⟩) | with_reducible exact Side.mk rfl | with_reducible exact Side.mk ⟨rfl, rfl⟩ | with_reducible exact Side.mk (by assumption) | with_reducible rfl | intro _)
    all_goals try (conv => whnf)
    all_goals first | rfl | trace_state
  · repeat' ((conv => whnf); first | done | refine ev_step ?_ | refine ops_step ?_ | refine scan_step ?_ | refine draw_step ?_ | refine each_step ?_ | refine sl_step ?_ | refine hp_step ?_ | refine guard_no (by decide) ?_ | refine guard_go ?_ | refine guard_old ?_ | apply cut_auto | with_reducible exact CutS.mk (Or.inl ⟨rfl, rfl, rfl⟩) | refine CutS.mk (Or.inr (Or.inl (sub_auto ?_))) | exact trivial | refine And.intro ?_ ?_ | (refine cond_split ?_ ?_ <;> intro _ <;> first | (exfalso; first | omega | (simp only [decide_eq_true_eq, decide_eq_false_iff_not, Bool.not_eq_true', Bool.not_eq_false', ne_eq, Bool.not_true, Bool.not_false, cond_true, cond_false, Bool.true_eq_false, Bool.false_eq_true, Bool.and_eq_true, Bool.and_eq_false_iff] at *; omega)) | skip) | apply guess | exact Or.inl rfl | exact Or.inr rfl | exact Side.mk trivial | exact Side.mk (fun h => h) | exact Side.mk (fun h => ⟨h, h⟩) | with_reducible exact Side.mk rfl | with_reducible exact Side.mk ⟨rfl, rfl⟩ | with_reducible exact Side.mk (by assumption) | with_reducible rfl | intro _)
    all_goals try (conv => whnf)
    all_goals first | rfl | trace_state
theorem linesB_len_le (t : ByteArray) : (linesB (bl t)).length ≤ t.size := by
  have h1 := linesB_len t
  have h2 := cutB_len t 10
  omega
theorem recT_len (t : ByteArray) : (recT t).1.length ≤ t.size := Nat.le_trans (recL_len 0 _) (linesB_len_le t)
theorem k_FnExactRecoverJournal (t : ByteArray) (hp : Side (t.size ≤ 9223372036854775807)) : FnIs Tryd.prog 4 [.str t] 0 [] (.bool true) 0 [] := by
  have hb := hp.h
  refine fn_of_ev tok Tryd.func4 rfl rfl rfl ?_
  by_cases c1 : 1048576 < t.size
  · repeat' ((conv => whnf); first | done | refine ev_step ?_ | refine ops_step ?_ | refine scan_step ?_ | refine draw_step ?_ | refine each_step ?_ | refine sl_step ?_ | refine hp_step ?_ | refine guard_no (by decide) ?_ | refine guard_go ?_ | refine guard_old ?_ | apply cut_auto | with_reducible exact CutS.mk (Or.inl ⟨rfl, rfl, rfl⟩) | refine CutS.mk (Or.inr (Or.inl (sub_auto ?_))) | exact trivial | refine And.intro ?_ ?_ | (refine cond_split ?_ ?_ <;> intro _ <;> first | (exfalso; first | omega | (simp only [decide_eq_true_eq, decide_eq_false_iff_not, Bool.not_eq_true', Bool.not_eq_false', ne_eq, Bool.not_true, Bool.not_false, cond_true, cond_false, Bool.true_eq_false, Bool.false_eq_true, Bool.and_eq_true, Bool.and_eq_false_iff] at *; omega)) | skip) | apply guess | exact Or.inl rfl | exact Or.inr rfl | exact Side.mk trivial | exact Side.mk (fun h => h) | exact Side.mk (fun h => ⟨h, h⟩) | with_reducible exact Side.mk rfl | with_reducible exact Side.mk ⟨rfl, rfl⟩ | with_reducible exact Side.mk (by assumption) | with_reducible rfl | intro _)
    all_goals try (conv => whnf)
    all_goals first | rfl | omega | trace_state
  · by_cases c2 : 4000 < t.size
    · repeat' ((conv => whnf); first | done | refine ev_step ?_ | refine ops_step ?_ | refine scan_step ?_ | refine draw_step ?_ | refine each_step ?_ | refine sl_step ?_ | refine hp_step ?_ | refine guard_no (by decide) ?_ | refine guard_go ?_ | refine guard_old ?_ | apply cut_auto | with_reducible exact CutS.mk (Or.inl ⟨rfl, rfl, rfl⟩) | refine CutS.mk (Or.inr (Or.inl (sub_auto ?_))) | exact trivial | refine And.intro ?_ ?_ | (refine cond_split ?_ ?_ <;> intro _ <;> first | (exfalso; first | omega | (simp only [decide_eq_true_eq, decide_eq_false_iff_not, Bool.not_eq_true', Bool.not_eq_false', ne_eq, Bool.not_true, Bool.not_false, cond_true, cond_false, Bool.true_eq_false, Bool.false_eq_true, Bool.and_eq_true, Bool.and_eq_false_iff] at *; omega)) | skip) | apply guess | apply FnIs.useF (k_specRecoverNo t ⟨by omega⟩) | apply FnIs.useF (k_RecoverNo t ⟨by omega⟩) | refine FnIs.useG (k_eqStringS_nil) rfl ?_ | refine FnIs.useG (k_markStringS_nil) rfl ?_ | refine FnIs.useG (k_heldStringS_nil) rfl ?_ | exact Or.inl rfl | exact Or.inr rfl | exact Side.mk trivial | exact Side.mk (fun h => h) | exact Side.mk (fun h => ⟨h, h⟩) | with_reducible exact Side.mk rfl | with_reducible exact Side.mk ⟨rfl, rfl⟩ | with_reducible exact Side.mk (by assumption) | with_reducible rfl | intro _)
      all_goals try (conv => whnf)
      all_goals first | rfl | omega | trace_state
    · have hl := recT_len t
      have f1 : (bif bif !true then true else decide (((recT t).2 : Int) ≠ ((recT t).2 : Int)) then true else !(true == true)) = false := by simp
      have f2 : decide (1 + ((recT t).1.length : Int) ≠ 1 + ((recT t).1.length : Int)) = false := by simp
      repeat' ((conv => whnf); first | done | refine ev_step ?_ | refine ops_step ?_ | refine scan_step ?_ | refine draw_step ?_ | refine each_step ?_ | refine sl_step ?_ | refine hp_step ?_ | refine guard_no (by decide) ?_ | refine guard_go ?_ | refine guard_old ?_ | apply cut_auto | with_reducible exact CutS.mk (Or.inl ⟨rfl, rfl, rfl⟩) | refine CutS.mk (Or.inr (Or.inl (sub_auto ?_))) | exact trivial | refine And.intro ?_ ?_ | (refine cond_split ?_ ?_ <;> intro hq_ <;> first | (exfalso; first | omega | (simp only [f1, f2, cond_true, cond_false, Bool.not_true, Bool.not_false, Bool.and_true, Bool.true_and, Bool.and_false, Bool.false_and, Bool.or_true, Bool.true_or, Bool.or_false, Bool.false_or, Bool.true_eq_false, Bool.false_eq_true, decide_true, decide_false, reduceCtorEq] at hq_; done) | (rw [decide_eq_false_iff_not] at hq_; omega) | (rw [decide_eq_true_eq] at hq_; omega) | (simp only [f1, f2, reduceCtorEq] at hq_; done) | exact Bool.noConfusion (Eq.trans (Eq.symm f1) hq_) | exact Bool.noConfusion (Eq.trans (Eq.symm f2) hq_)) | skip) | apply guess | apply FnIs.useF (k_specRecoverOk t ⟨by omega⟩) | apply FnIs.useF (k_RecoverOk t ⟨by omega⟩) | apply FnIs.useF (k_eqStringSH_same (recT t).1 ⟨by omega⟩) | apply FnIs.useF (k_markStringS (recT t).1 ⟨by omega⟩) | apply FnIs.useF (k_heldStringS (recT t).1.length ⟨by omega⟩) | exact Or.inl rfl | exact Or.inr rfl | exact Side.mk trivial | exact Side.mk (fun h => h) | exact Side.mk (fun h => ⟨h, h⟩) | with_reducible exact Side.mk rfl | with_reducible exact Side.mk ⟨rfl, rfl⟩ | with_reducible exact Side.mk (by assumption) | with_reducible rfl | intro _)
      all_goals try (conv => whnf)
      all_goals first | rfl | omega | trace_state
end Go.Sx.U
