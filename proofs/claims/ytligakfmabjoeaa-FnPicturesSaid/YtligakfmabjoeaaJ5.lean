/-
  FnPictures, as a contract.
-/
import Derived.Test.YtligakfmabjoeaaJ4
set_option linter.unusedSimpArgs false
namespace Go.Sx.U
set_option linter.unusedVariables false
set_option linter.unusedSimpArgs false
open Go Go.Sx Go.Proofs

theorem k_b10InJ (xs : List R2) (a b : Int) (h : Side (xs.length ≤ 1048577 ∧ inPts xs ∧ (0 ≤ a ∧ a ≤ 99) ∧ (0 ≤ b ∧ b ≤ 99))) : FnIs Try.prog 19 [.sl 0 [], pt2 a b] 1 [(0, .flat false (.r2 xs))] (.bool (mkB xs a b)) 1 [] := by
  obtain ⟨h1, h2, h3, h4⟩ := h.h
  refine fn_of_ev tok Try.func19 rfl rfl rfl ?_
  repeat' ((conv => whnf); first | done | refine ev_step ?_ | refine ops_step ?_ | refine scan_step ?_ | refine draw_step ?_ | refine each_step ?_ | refine sl_step ?_ | refine hp_step ?_ | refine guard_no (by decide) ?_ | refine guard_go ?_ | apply cut_auto | with_reducible exact CutS.mk (Or.inl ⟨rfl, rfl, rfl⟩) | refine CutS.mk (Or.inr (sub_auto ?_)) | exact trivial | refine And.intro ?_ ?_ | refine cond_split ?_ ?_ | apply guess | exact Or.inl rfl | exact Or.inr rfl | exact Side.mk trivial | exact Side.mk (fun h => h) | exact Side.mk (fun h => ⟨h, h⟩) | with_reducible exact Side.mk rfl | with_reducible exact Side.mk ⟨rfl, rfl⟩ | with_reducible exact Side.mk (by assumption) | with_reducible rfl | intro _)
  all_goals try (conv => whnf)
  refine loop_at (fun i : Nat => i ≤ xs.length ∧ (xs.take i).any (fun r => decide (r = ⟨a, b⟩)) = false) 2 (fun i => [(5, .int .i64 i)]) (fun _ => []) (fun i => xs.length - i) 0 ⟨Nat.zero_le _, rfl⟩ ?_ (fun i hi => ?_)
  · repeat' ((conv => whnf); first | done | refine ev_step ?_ | refine ops_step ?_ | refine scan_step ?_ | refine draw_step ?_ | refine each_step ?_ | refine sl_step ?_ | refine hp_step ?_ | refine guard_no (by decide) ?_ | refine guard_go ?_ | apply cut_auto | with_reducible exact CutS.mk (Or.inl ⟨rfl, rfl, rfl⟩) | refine CutS.mk (Or.inr (sub_auto ?_)) | exact trivial | refine And.intro ?_ ?_ | refine cond_split ?_ ?_ | apply guess | exact Or.inl rfl | exact Or.inr rfl | exact Side.mk trivial | exact Side.mk (fun h => h) | exact Side.mk (fun h => ⟨h, h⟩) | with_reducible exact Side.mk rfl | with_reducible exact Side.mk ⟨rfl, rfl⟩ | with_reducible exact Side.mk (by assumption) | with_reducible rfl | intro _)
    all_goals try (conv => whnf)
    all_goals first | rfl | exact ⟨by simp⟩ | trace_state
  · obtain ⟨hi1, hi2⟩ := hi
    by_cases hlt : i < xs.length
    · obtain ⟨b1, b2⟩ := h2 (xs.getD i default) (by simp only [List.getD, List.getElem?_eq_getElem hlt, Option.getD_some]; exact List.getElem_mem hlt)
      have hq : (decide ((xs.getD i default).a = a) && decide ((xs.getD i default).b = b)) = decide (xs.getD i default = ⟨a, b⟩) := r2_eqH _ ⟨a, b⟩
      cases hb : decide (xs.getD i default = ⟨a, b⟩) <;> rw [hb] at hq
      · repeat' ((conv => whnf); first | done | refine ev_step ?_ | refine ops_step ?_ | refine scan_step ?_ | refine draw_step ?_ | refine each_step ?_ | refine sl_step ?_ | refine hp_step ?_ | refine guard_no (by decide) ?_ | refine guard_go ?_ | apply cut_auto | with_reducible exact CutS.mk (Or.inl ⟨rfl, rfl, rfl⟩) | refine CutS.mk (Or.inr (sub_auto ?_)) | exact trivial | refine And.intro ?_ ?_ | (refine cond_split ?_ ?_ <;> intro hq_ <;> first | (exfalso; first | omega | (simp only [hq, cond_true, cond_false, Bool.not_true, Bool.not_false, Bool.and_true, Bool.true_and, Bool.and_false, Bool.false_and, Bool.or_true, Bool.true_or, Bool.or_false, Bool.false_or, Bool.true_eq_false, Bool.false_eq_true, decide_true, decide_false, reduceCtorEq] at hq_; done) | (rw [decide_eq_false_iff_not] at hq_; omega) | (rw [decide_eq_true_eq] at hq_; omega) | (simp only [hq, reduceCtorEq] at hq_; done) | exact Bool.noConfusion (Eq.trans (Eq.symm hq) hq_)) | skip) | apply guess | exact Or.inl rfl | exact Or.inr rfl | exact Side.mk trivial | exact Side.mk (fun h => h) | exact Side.mk (fun h => ⟨h, h⟩) | with_reducible exact Side.mk rfl | with_reducible exact Side.mk ⟨rfl, rfl⟩ | with_reducible exact Side.mk (by assumption) | with_reducible rfl | intro _)
        all_goals try (conv => whnf)
        all_goals try simp only [Int.toNat_natCast] at *
        all_goals try (refine Side.mk ?_; first | (intros; omega) | (show List.length (_ ++ _) ≤ _; simp only [List.length_append, List.length_cons, List.length_nil, List.length_replicate, List.length_take]; omega) | (simp_all; done) | (simp_all; omega))
        all_goals try omega
        refine ⟨i + 1, ⟨by omega, by rw [any_succ default hlt, hi2, hb]; rfl⟩, by omega, ?_⟩
        repeat' ((conv => whnf); first | done | refine ev_step ?_ | refine ops_step ?_ | refine scan_step ?_ | refine draw_step ?_ | refine each_step ?_ | refine sl_step ?_ | refine hp_step ?_ | refine guard_no (by decide) ?_ | refine guard_go ?_ | apply cut_auto | with_reducible exact CutS.mk (Or.inl ⟨rfl, rfl, rfl⟩) | refine CutS.mk (Or.inr (sub_auto ?_)) | exact trivial | refine And.intro ?_ ?_ | refine cond_split ?_ ?_ | apply guess | exact Or.inl rfl | exact Or.inr rfl | exact Side.mk trivial | exact Side.mk (fun h => h) | exact Side.mk (fun h => ⟨h, h⟩) | with_reducible exact Side.mk rfl | with_reducible exact Side.mk ⟨rfl, rfl⟩ | with_reducible exact Side.mk (by assumption) | with_reducible rfl | intro _)
        all_goals try (conv => whnf)
        all_goals first | rfl | omega | trace_state
      · repeat' ((conv => whnf); first | done | refine ev_step ?_ | refine ops_step ?_ | refine scan_step ?_ | refine draw_step ?_ | refine each_step ?_ | refine sl_step ?_ | refine hp_step ?_ | refine guard_no (by decide) ?_ | refine guard_go ?_ | apply cut_auto | with_reducible exact CutS.mk (Or.inl ⟨rfl, rfl, rfl⟩) | refine CutS.mk (Or.inr (sub_auto ?_)) | exact trivial | refine And.intro ?_ ?_ | (refine cond_split ?_ ?_ <;> intro hq_ <;> first | (exfalso; first | omega | (simp only [hq, cond_true, cond_false, Bool.not_true, Bool.not_false, Bool.and_true, Bool.true_and, Bool.and_false, Bool.false_and, Bool.or_true, Bool.true_or, Bool.or_false, Bool.false_or, Bool.true_eq_false, Bool.false_eq_true, decide_true, decide_false, reduceCtorEq] at hq_; done) | (rw [decide_eq_false_iff_not] at hq_; omega) | (rw [decide_eq_true_eq] at hq_; omega) | (simp only [hq, reduceCtorEq] at hq_; done) | exact Bool.noConfusion (Eq.trans (Eq.symm hq) hq_)) | skip) | apply guess | exact Or.inl rfl | exact Or.inr rfl | exact Side.mk trivial | exact Side.mk (fun h => h) | exact Side.mk (fun h => ⟨h, h⟩) | with_reducible exact Side.mk rfl | with_reducible exact Side.mk ⟨rfl, rfl⟩ | with_reducible exact Side.mk (by assumption) | with_reducible rfl | intro _)
        all_goals try (conv => whnf)
        all_goals try simp only [Int.toNat_natCast] at *
        all_goals try (refine Side.mk ?_; first | (intros; omega) | (show List.length (_ ++ _) ≤ _; simp only [List.length_append, List.length_cons, List.length_nil, List.length_replicate, List.length_take]; omega) | (simp_all; done) | (simp_all; omega))
        all_goals try omega
        show mkB xs a b = true
        unfold mkB
        rw [List.any_eq_true]
        refine ⟨xs.getD i default, ?_, hb⟩
        simp only [List.getD, List.getElem?_eq_getElem hlt, Option.getD_some]
        exact List.getElem_mem hlt
    · repeat' ((conv => whnf); first | done | refine ev_step ?_ | refine ops_step ?_ | refine scan_step ?_ | refine draw_step ?_ | refine each_step ?_ | refine sl_step ?_ | refine hp_step ?_ | refine guard_no (by decide) ?_ | refine guard_go ?_ | apply cut_auto | with_reducible exact CutS.mk (Or.inl ⟨rfl, rfl, rfl⟩) | refine CutS.mk (Or.inr (sub_auto ?_)) | exact trivial | refine And.intro ?_ ?_ | (refine cond_split ?_ ?_ <;> intro _ <;> first | (exfalso; first | omega | (simp only [decide_eq_true_eq, decide_eq_false_iff_not, Bool.not_eq_true', Bool.not_eq_false', ne_eq, Bool.not_true, Bool.not_false, cond_true, cond_false, Bool.true_eq_false, Bool.false_eq_true, Bool.and_eq_true, Bool.and_eq_false_iff] at *; omega)) | skip) | apply guess | exact Or.inl rfl | exact Or.inr rfl | exact Side.mk trivial | exact Side.mk (fun h => h) | exact Side.mk (fun h => ⟨h, h⟩) | with_reducible exact Side.mk rfl | with_reducible exact Side.mk ⟨rfl, rfl⟩ | with_reducible exact Side.mk (by assumption) | with_reducible rfl | intro _)
      all_goals try (conv => whnf)
      rw [take_all (by omega)] at hi2
      exact hi2
/-- What stands at a place of a picture. -/
theorem picT_get (L : List R2) (w : Nat) (h : Int) : ∀ (n k x : Nat), k < n → x ≤ w → (picT L w h n).getD (k * (w + 1) + x) 0 = if x < w then cond (mkB L (x : Int) (h - 1 - (k : Int))) 35 46 else 10 := by
  intro n
  induction n with
  | zero => intro k x hk; omega
  | succ n ih =>
    intro k x hk hx
    have hl := picT_len L w h n
    rw [picT_succ, List.append_assoc]
    by_cases hkn : k < n
    · have h1 : k * (w + 1) + x < n * (w + 1) := by
        have := Nat.mul_le_mul_right (w + 1) (show k + 1 ≤ n by omega)
        rw [Nat.add_mul] at this
        omega
      rw [← ih k x hkn hx]
      simp only [List.getD]
      rw [List.getElem?_append_left (by omega)]
    · obtain rfl : k = n := by omega
      simp only [List.getD]
      rw [List.getElem?_append_right (by omega), hl, show k * (w + 1) + x - k * (w + 1) = x by omega]
      by_cases hxw : x < w
      · rw [if_pos hxw, List.getElem?_append_left (by rw [rowT_len]; exact hxw)]
        simp [rowT, hxw]
      · obtain rfl : x = w := by omega
        rw [if_neg (by omega), List.getElem?_append_right (by rw [rowT_len]; exact Nat.le_refl _), rowT_len]
        simp
theorem bAt_strOf (xs : List Int) (n : Nat) (h : ∀ x ∈ xs, 0 ≤ x ∧ x < 256) : bAt (strOfNums xs) n = xs.getD n 0 := by
  unfold bAt
  rw [strOfNums_data]
  simp only [List.getD, List.getElem?_map]
  cases hx : xs[n]? with
  | none => simp
  | some a =>
    have := h a (List.mem_of_getElem? hx)
    simp only [Option.map_some, Option.getD_some, UInt8.toNat_ofNat']
    omega
theorem bAt_extract (s : ByteArray) (a n : Nat) (b : Nat) (hb : b = s.size) : bAt (s.extract a b) n = bAt s (a + n) := by
  subst hb
  unfold bAt
  congr 2
  have : (s.extract a s.size).data.toList = s.data.toList.drop a := by
    rw [ByteArray.data_extract, Array.toList_extract, List.extract_eq_take_drop, List.take_of_length_le]
    rw [List.length_drop, Array.length_toList]
    exact Nat.le_refl _
  rw [this]
  simp [List.getD]
theorem size_extract (s : ByteArray) (a b : Nat) (hb : b = s.size) : (s.extract a b).size = s.size - a := by
  subst hb
  simp [ByteArray.size_extract]
theorem lo_eq (n1 n2 y : Nat) (hy : y ≤ n2) : ((1 + (n2 : Int) - 1 - (y : Int)) * (1 + (n1 : Int) + 1)) = (((n2 - y) * (n1 + 1 + 1) : Nat) : Int) := by
  rw [show (1 + (n2 : Int) - 1 - (y : Int)) = ((n2 - y : Nat) : Int) by omega, show (1 + (n1 : Int) + 1) = ((n1 + 1 + 1 : Nat) : Int) by omega, ← Int.natCast_mul]
theorem lo_le (n1 n2 y : Nat) (hy : y ≤ n2) : (n2 - y) * (n1 + 1 + 1) + (n1 + 1 + 1) ≤ (n2 + 1) * (n1 + 1 + 1) := by
  have := Nat.mul_le_mul_right (n1 + 1 + 1) (show n2 - y + 1 ≤ n2 + 1 by omega)
  rw [Nat.add_mul] at this
  omega
theorem pic_row (L : List R2) (n1 n2 y x : Nat) (hy : y ≤ n2) (hx : x ≤ n1 + 1) (e : Nat) (he : e = (strOfNums (picT L (n1 + 1) (1 + (n2 : Int)) (n2 + 1))).size) :
    bAt ((strOfNums (picT L (n1 + 1) (1 + (n2 : Int)) (n2 + 1))).extract ((n2 - y) * (n1 + 1 + 1)) e) x = if x < n1 + 1 then cond (mkB L (x : Int) (y : Int)) 35 46 else 10 := by
  rw [bAt_extract _ _ _ _ he, bAt_strOf _ _ (picT_by _), picT_get L (n1 + 1) _ (n2 + 1) (n2 - y) x (by omega) hx]
  rw [show (1 + (n2 : Int) - 1 - ((n2 - y : Nat) : Int)) = y by omega]
set_option maxHeartbeats 2000000 in
theorem k_FnPictures (bs cs : List Int) (hp : Side ((bs.length ≤ 9223372036854775807 ∧ ∀ k ∈ bs, 0 ≤ k ∧ k ≤ 255) ∧ cs.length ≤ 9223372036854775807 ∧ ∀ k ∈ cs, 0 ≤ k ∧ k ≤ 255)) : FnIs Try.prog 5 [.sl 0 [], .sl 1 []] 2 [(1, .flat false (.ints .u8 cs)), (0, .flat false (.ints .u8 bs))] (.bool true) 2 [] := by
  obtain ⟨⟨b1, b2⟩, c1, c2⟩ := hp.h
  have k0 := k_b10LongJ bs cs ⟨⟨b1, c1⟩⟩
  refine fn_of_evk [0, 1, 4, 5, 6, 7, 8, 9, 10, 11, 12, 13, 16, 42, 45, 59, 66, 71, 75] tok Try.func5 rfl rfl rfl ?_
  by_cases hl : bs.length ≤ 1048576 ∧ cs.length ≤ 1048576
  · rw [show (decide (1048576 < (bs.length : Int)) || decide (1048576 < (cs.length : Int))) = false by rw [Bool.or_eq_false_iff, decide_eq_false_iff_not, decide_eq_false_iff_not]; omega] at k0
    have hb : bytesOk bs := ⟨by omega, b2⟩
    have hc : bytesOk cs := ⟨by omega, c2⟩
    repeat' ((conv => whnf); first | done | refine ev_step ?_ | refine ops_step ?_ | refine scan_step ?_ | refine draw_step ?_ | refine each_step ?_ | refine sl_step ?_ | refine hp_step ?_ | refine guard_no (by decide) ?_ | refine guard_go ?_ | apply cut_auto | with_reducible exact CutS.mk (Or.inl ⟨rfl, rfl, rfl⟩) | refine CutS.mk (Or.inr (sub_auto ?_)) | exact trivial | refine And.intro ?_ ?_ | (refine cond_split ?_ ?_ <;> intro _ <;> first | (exfalso; first | omega | (simp only [decide_eq_true_eq, decide_eq_false_iff_not, Bool.not_eq_true', Bool.not_eq_false', ne_eq, Bool.not_true, Bool.not_false, cond_true, cond_false, Bool.true_eq_false, Bool.false_eq_true, Bool.and_eq_true, Bool.and_eq_false_iff] at *; omega)) | skip) | apply guess | apply FnIs.useF (k0) | apply FnEx.useF (k_B10PointsJ bs ⟨hb⟩) | apply FnEx.useF (k_b10AtJ cs _ _ _) | exact Or.inl rfl | exact Or.inr rfl | exact Side.mk trivial | exact Side.mk (fun h => h) | exact Side.mk (fun h => ⟨h, h⟩) | with_reducible exact Side.mk rfl | with_reducible exact Side.mk ⟨rfl, rfl⟩ | with_reducible exact Side.mk (by assumption) | with_reducible rfl | intro _)
    all_goals try (conv => whnf)
    all_goals try exact Side.mk ⟨hc, by omega, by omega, by omega, by omega⟩
    all_goals try (refine Side.mk ?_; first | (intros; omega) | (show List.length (_ ++ _) ≤ _; simp only [List.length_append, List.length_cons, List.length_nil, List.length_replicate, List.length_take]; omega) | (simp_all; done) | (simp_all; omega))
    rename_i L hL a1 h1 a2 h2
    obtain ⟨hL1, hL2⟩ := hL
    obtain ⟨n1, rfl⟩ : ∃ n : Nat, a1 = (n : Int) := ⟨a1.toNat, by omega⟩
    obtain ⟨n2, rfl⟩ : ∃ n : Nat, a2 = (n : Int) := ⟨a2.toNat, by omega⟩
    have hpt : ptsB L = true := by
      unfold ptsB
      rw [decide_eq_true (by omega)]
      simp only [Bool.true_and, Bool.not_eq_true']
      rw [List.any_eq_false]
      intro r hr
      obtain ⟨q1, q2⟩ := hL2 r hr
      simp [ptB, q1, q2]
    have kP := k_PicOk L (n1 + 1) (n2 + 1) ⟨hpt, by omega, by omega⟩
    rw [show ((n1 + 1 : Nat) : Int) = 1 + (n1 : Int) by omega, show ((n2 + 1 : Nat) : Int) = 1 + (n2 : Int) by omega] at kP
    obtain ⟨s, hs⟩ : ∃ s, s = strOfNums (picT L (n1 + 1) (1 + (n2 : Int)) (n2 + 1)) := ⟨_, rfl⟩
    have hsz : s.size = (n2 + 1) * (n1 + 1 + 1) := by rw [hs, strOfNums_size, picT_len]
    have hrow : ∀ y x, y ≤ n2 → x ≤ n1 + 1 → bAt (s.extract ((n2 - y) * (n1 + 1 + 1)) s.size) x = if x < n1 + 1 then cond (mkB L (x : Int) (y : Int)) 35 46 else 10 := fun y x hy hx => by
      rw [hs]; exact pic_row L n1 n2 y x hy hx _ rfl
    rw [← hs] at kP
    have f1 : decide ((s.size : Int) ≠ (1 + (n1 : Int) + 1) * (1 + (n2 : Int))) = false := decide_eq_false (by
      rw [hsz, show (1 + (n1 : Int) + 1) = ((n1 + 1 + 1 : Nat) : Int) by omega, show (1 + (n2 : Int)) = ((n2 + 1 : Nat) : Int) by omega, ← Int.natCast_mul, Nat.mul_comm]
      simp)
    have hm : (1 + (n1 : Int) + 1) * (1 + (n2 : Int)) = (((n2 + 1) * (n1 + 1 + 1) : Nat) : Int) := by
      rw [show (1 + (n1 : Int) + 1) = ((n1 + 1 + 1 : Nat) : Int) by omega, show (1 + (n2 : Int)) = ((n2 + 1 : Nat) : Int) by omega, ← Int.natCast_mul, Nat.mul_comm]
    have hmb : (n2 + 1) * (n1 + 1 + 1) ≤ 12 * 13 := Nat.mul_le_mul (by omega) (by omega)
    have hmc : 0 ≤ (1 + (n1 : Int) + 1) * (1 + (n2 : Int)) ∧ (1 + (n1 : Int) + 1) * (1 + (n2 : Int)) ≤ 156 := by rw [hm]; omega
    repeat' ((conv => whnf); first | done | refine ev_step ?_ | refine ops_step ?_ | refine scan_step ?_ | refine draw_step ?_ | refine each_step ?_ | refine sl_step ?_ | refine hp_step ?_ | refine guard_no (by decide) ?_ | refine guard_go ?_ | apply cut_auto | with_reducible exact CutS.mk (Or.inl ⟨rfl, rfl, rfl⟩) | refine CutS.mk (Or.inr (sub_auto ?_)) | exact trivial | refine And.intro ?_ ?_ | (refine cond_split ?_ ?_ <;> intro hq_ <;> first | (exfalso; first | omega | (simp only [f1, cond_true, cond_false, Bool.not_true, Bool.not_false, Bool.and_true, Bool.true_and, Bool.and_false, Bool.false_and, Bool.or_true, Bool.true_or, Bool.or_false, Bool.false_or, Bool.true_eq_false, Bool.false_eq_true, decide_true, decide_false, reduceCtorEq] at hq_; done) | (rw [decide_eq_false_iff_not] at hq_; omega) | (rw [decide_eq_true_eq] at hq_; omega) | (simp only [f1, reduceCtorEq] at hq_; done) | exact Bool.noConfusion (Eq.trans (Eq.symm f1) hq_)) | skip) | apply guess | apply FnIs.useF (kP) | exact Or.inl rfl | exact Or.inr rfl | exact Side.mk trivial | exact Side.mk (fun h => h) | exact Side.mk (fun h => ⟨h, h⟩) | with_reducible exact Side.mk rfl | with_reducible exact Side.mk ⟨rfl, rfl⟩ | with_reducible exact Side.mk (by assumption) | with_reducible rfl | intro _)
    all_goals try (conv => whnf)
    all_goals try (refine Side.mk ?_; first | (intros; omega) | (show List.length (_ ++ _) ≤ _; simp only [List.length_append, List.length_cons, List.length_nil, List.length_replicate, List.length_take]; omega) | (simp_all; done) | (simp_all; omega))
    refine loop_at (fun y : Nat => y ≤ n2 + 1) 3 (fun y => [(10, .int .i64 y), (11, .top), (12, .top), (13, .top)]) (fun _ => []) (fun y => n2 + 1 - y) 0 (Nat.zero_le _) ?_ (fun y hy => ?_)
    · repeat' ((conv => whnf); first | done | refine ev_step ?_ | refine ops_step ?_ | refine scan_step ?_ | refine draw_step ?_ | refine each_step ?_ | refine sl_step ?_ | refine hp_step ?_ | refine guard_no (by decide) ?_ | refine guard_go ?_ | apply cut_auto | with_reducible exact CutS.mk (Or.inl ⟨rfl, rfl, rfl⟩) | refine CutS.mk (Or.inr (sub_auto ?_)) | exact trivial | refine And.intro ?_ ?_ | refine cond_split ?_ ?_ | apply guess | exact Or.inl rfl | exact Or.inr rfl | exact Side.mk trivial | exact Side.mk (fun h => h) | exact Side.mk (fun h => ⟨h, h⟩) | with_reducible exact Side.mk rfl | with_reducible exact Side.mk ⟨rfl, rfl⟩ | with_reducible exact Side.mk (by assumption) | with_reducible rfl | intro _)
      all_goals try (conv => whnf)
      all_goals first | rfl | (simp; done) | trace_state
    · by_cases hlt : y < n2 + 1
      · have hlo := lo_eq n1 n2 y (by omega)
        have hle := lo_le n1 n2 y (by omega)
        have hlb : 0 ≤ (1 + (n2 : Int) - 1 - (y : Int)) * (1 + (n1 : Int) + 1) ∧ (1 + (n2 : Int) - 1 - (y : Int)) * (1 + (n1 : Int) + 1) ≤ 156 ∧ (1 + (n2 : Int) - 1 - (y : Int)) * (1 + (n1 : Int) + 1) ≤ (s.size : Int) := by rw [hlo, hsz]; omega
        have hln : ((1 + (n2 : Int) - 1 - (y : Int)) * (1 + (n1 : Int) + 1)).toNat = (n2 - y) * (n1 + 1 + 1) := by rw [hlo]; exact Int.toNat_natCast _
        have hes : (s.extract ((1 + (n2 : Int) - 1 - (y : Int)) * (1 + (n1 : Int) + 1)).toNat s.size).size = s.size - (n2 - y) * (n1 + 1 + 1) := by rw [hln]; exact size_extract _ _ _ rfl
        have hr : ∀ x, x ≤ n1 + 1 → bAt (s.extract ((1 + (n2 : Int) - 1 - (y : Int)) * (1 + (n1 : Int) + 1)).toNat s.size) x = if x < n1 + 1 then cond (mkB L (x : Int) (y : Int)) 35 46 else 10 := fun x hx => by rw [hln]; exact hrow y x (by omega) hx
        repeat' ((conv => whnf); first | done | refine ev_step ?_ | refine ops_step ?_ | refine scan_step ?_ | refine draw_step ?_ | refine each_step ?_ | refine sl_step ?_ | refine hp_step ?_ | refine guard_no (by decide) ?_ | refine guard_go ?_ | apply cut_auto | with_reducible exact CutS.mk (Or.inl ⟨rfl, rfl, rfl⟩) | refine CutS.mk (Or.inr (sub_auto ?_)) | exact trivial | refine And.intro ?_ ?_ | (refine cond_split ?_ ?_ <;> intro _ <;> first | (exfalso; first | omega | (simp only [decide_eq_true_eq, decide_eq_false_iff_not, Bool.not_eq_true', Bool.not_eq_false', ne_eq, Bool.not_true, Bool.not_false, cond_true, cond_false, Bool.true_eq_false, Bool.false_eq_true, Bool.and_eq_true, Bool.and_eq_false_iff] at *; omega)) | skip) | apply guess | exact Or.inl rfl | exact Or.inr rfl | exact Side.mk trivial | exact Side.mk (fun h => h) | exact Side.mk (fun h => ⟨h, h⟩) | with_reducible exact Side.mk rfl | with_reducible exact Side.mk ⟨rfl, rfl⟩ | with_reducible exact Side.mk (by assumption) | with_reducible rfl | intro _)
        all_goals try (conv => whnf)
        all_goals try (refine Side.mk ?_; first | (intros; omega) | (show List.length (_ ++ _) ≤ _; simp only [List.length_append, List.length_cons, List.length_nil, List.length_replicate, List.length_take]; omega) | (simp_all; done) | (simp_all; omega))
        generalize hR : s.extract ((1 + (n2 : Int) - 1 - (y : Int)) * (1 + (n1 : Int) + 1)).toNat s.size = R at hes hr ⊢
        refine loop_at (fun x : Nat => x ≤ n1 + 1) 3 (fun x => [(12, .int .i64 x), (13, .top)]) (fun _ => []) (fun x => n1 + 1 - x) 0 (Nat.zero_le _) ?_ (fun x hx => ?_)
        · repeat' ((conv => whnf); first | done | refine ev_step ?_ | refine ops_step ?_ | refine scan_step ?_ | refine draw_step ?_ | refine each_step ?_ | refine sl_step ?_ | refine hp_step ?_ | refine guard_no (by decide) ?_ | refine guard_go ?_ | apply cut_auto | with_reducible exact CutS.mk (Or.inl ⟨rfl, rfl, rfl⟩) | refine CutS.mk (Or.inr (sub_auto ?_)) | exact trivial | refine And.intro ?_ ?_ | refine cond_split ?_ ?_ | apply guess | exact Or.inl rfl | exact Or.inr rfl | exact Side.mk trivial | exact Side.mk (fun h => h) | exact Side.mk (fun h => ⟨h, h⟩) | with_reducible exact Side.mk rfl | with_reducible exact Side.mk ⟨rfl, rfl⟩ | with_reducible exact Side.mk (by assumption) | with_reducible rfl | intro _)
          all_goals try (conv => whnf)
          all_goals first | rfl | (simp; done) | trace_state
        · have hrx := hr x hx
          by_cases hxl : x < n1 + 1
          · rw [if_pos hxl] at hrx
            have kb := k_b10InJ L (x : Int) (y : Int) ⟨by omega, hL2, by omega, by omega⟩
            cases hm : mkB L (x : Int) (y : Int) <;> rw [hm] at kb hrx
            · have f2 : decide (bAt R (x : Int).toNat ≠ 46) = false := decide_eq_false (by rw [Int.toNat_natCast, hrx]; decide)
              repeat' ((conv => whnf); first | done | refine ev_step ?_ | refine ops_step ?_ | refine scan_step ?_ | refine draw_step ?_ | refine each_step ?_ | refine sl_step ?_ | refine hp_step ?_ | refine guard_no (by decide) ?_ | refine guard_go ?_ | apply cut_auto | with_reducible exact CutS.mk (Or.inl ⟨rfl, rfl, rfl⟩) | refine CutS.mk (Or.inr (sub_auto ?_)) | exact trivial | refine And.intro ?_ ?_ | (refine cond_split ?_ ?_ <;> intro hq_ <;> first | (exfalso; first | omega | (simp only [f2, cond_true, cond_false, Bool.not_true, Bool.not_false, Bool.and_true, Bool.true_and, Bool.and_false, Bool.false_and, Bool.or_true, Bool.true_or, Bool.or_false, Bool.false_or, Bool.true_eq_false, Bool.false_eq_true, decide_true, decide_false, reduceCtorEq] at hq_; done) | (rw [decide_eq_false_iff_not] at hq_; omega) | (rw [decide_eq_true_eq] at hq_; omega) | (simp only [f2, reduceCtorEq] at hq_; done) | exact Bool.noConfusion (Eq.trans (Eq.symm f2) hq_)) | skip) | apply guess | apply FnIs.useF (kb) | exact Or.inl rfl | exact Or.inr rfl | exact Side.mk trivial | exact Side.mk (fun h => h) | exact Side.mk (fun h => ⟨h, h⟩) | with_reducible exact Side.mk rfl | with_reducible exact Side.mk ⟨rfl, rfl⟩ | with_reducible exact Side.mk (by assumption) | with_reducible rfl | intro _)
              all_goals try (conv => whnf)
              all_goals try (refine Side.mk ?_; first | (intros; omega) | (show List.length (_ ++ _) ≤ _; simp only [List.length_append, List.length_cons, List.length_nil, List.length_replicate, List.length_take]; omega) | (simp_all; done) | (simp_all; omega))
              all_goals try (refine Side.mk ?_; rw [hes]; omega)
              refine ⟨x + 1, by omega, by omega, ?_⟩
              repeat' ((conv => whnf); first | done | refine ev_step ?_ | refine ops_step ?_ | refine scan_step ?_ | refine draw_step ?_ | refine each_step ?_ | refine sl_step ?_ | refine hp_step ?_ | refine guard_no (by decide) ?_ | refine guard_go ?_ | apply cut_auto | with_reducible exact CutS.mk (Or.inl ⟨rfl, rfl, rfl⟩) | refine CutS.mk (Or.inr (sub_auto ?_)) | exact trivial | refine And.intro ?_ ?_ | refine cond_split ?_ ?_ | apply guess | exact Or.inl rfl | exact Or.inr rfl | exact Side.mk trivial | exact Side.mk (fun h => h) | exact Side.mk (fun h => ⟨h, h⟩) | with_reducible exact Side.mk rfl | with_reducible exact Side.mk ⟨rfl, rfl⟩ | with_reducible exact Side.mk (by assumption) | with_reducible rfl | intro _)
              all_goals try (conv => whnf)
              all_goals first | rfl | omega | trace_state
            · have f2 : decide (bAt R (x : Int).toNat ≠ 35) = false := decide_eq_false (by rw [Int.toNat_natCast, hrx]; decide)
              repeat' ((conv => whnf); first | done | refine ev_step ?_ | refine ops_step ?_ | refine scan_step ?_ | refine draw_step ?_ | refine each_step ?_ | refine sl_step ?_ | refine hp_step ?_ | refine guard_no (by decide) ?_ | refine guard_go ?_ | apply cut_auto | with_reducible exact CutS.mk (Or.inl ⟨rfl, rfl, rfl⟩) | refine CutS.mk (Or.inr (sub_auto ?_)) | exact trivial | refine And.intro ?_ ?_ | (refine cond_split ?_ ?_ <;> intro hq_ <;> first | (exfalso; first | omega | (simp only [f2, cond_true, cond_false, Bool.not_true, Bool.not_false, Bool.and_true, Bool.true_and, Bool.and_false, Bool.false_and, Bool.or_true, Bool.true_or, Bool.or_false, Bool.false_or, Bool.true_eq_false, Bool.false_eq_true, decide_true, decide_false, reduceCtorEq] at hq_; done) | (rw [decide_eq_false_iff_not] at hq_; omega) | (rw [decide_eq_true_eq] at hq_; omega) | (simp only [f2, reduceCtorEq] at hq_; done) | exact Bool.noConfusion (Eq.trans (Eq.symm f2) hq_)) | skip) | apply guess | apply FnIs.useF (kb) | exact Or.inl rfl | exact Or.inr rfl | exact Side.mk trivial | exact Side.mk (fun h => h) | exact Side.mk (fun h => ⟨h, h⟩) | with_reducible exact Side.mk rfl | with_reducible exact Side.mk ⟨rfl, rfl⟩ | with_reducible exact Side.mk (by assumption) | with_reducible rfl | intro _)
              all_goals try (conv => whnf)
              all_goals try (refine Side.mk ?_; first | (intros; omega) | (show List.length (_ ++ _) ≤ _; simp only [List.length_append, List.length_cons, List.length_nil, List.length_replicate, List.length_take]; omega) | (simp_all; done) | (simp_all; omega))
              all_goals try (refine Side.mk ?_; rw [hes]; omega)
              refine ⟨x + 1, by omega, by omega, ?_⟩
              repeat' ((conv => whnf); first | done | refine ev_step ?_ | refine ops_step ?_ | refine scan_step ?_ | refine draw_step ?_ | refine each_step ?_ | refine sl_step ?_ | refine hp_step ?_ | refine guard_no (by decide) ?_ | refine guard_go ?_ | apply cut_auto | with_reducible exact CutS.mk (Or.inl ⟨rfl, rfl, rfl⟩) | refine CutS.mk (Or.inr (sub_auto ?_)) | exact trivial | refine And.intro ?_ ?_ | refine cond_split ?_ ?_ | apply guess | exact Or.inl rfl | exact Or.inr rfl | exact Side.mk trivial | exact Side.mk (fun h => h) | exact Side.mk (fun h => ⟨h, h⟩) | with_reducible exact Side.mk rfl | with_reducible exact Side.mk ⟨rfl, rfl⟩ | with_reducible exact Side.mk (by assumption) | with_reducible rfl | intro _)
              all_goals try (conv => whnf)
              all_goals first | rfl | omega | trace_state
          · obtain rfl : x = n1 + 1 := by omega
            rw [if_neg hxl] at hrx
            have f3 : decide (bAt R (1 + (n1 : Int)).toNat ≠ 10) = false := decide_eq_false (by rw [show (1 + (n1 : Int)).toNat = n1 + 1 by omega, hrx]; decide)
            repeat' ((conv => whnf); first | done | refine ev_step ?_ | refine ops_step ?_ | refine scan_step ?_ | refine draw_step ?_ | refine each_step ?_ | refine sl_step ?_ | refine hp_step ?_ | refine guard_no (by decide) ?_ | refine guard_go ?_ | apply cut_auto | with_reducible exact CutS.mk (Or.inl ⟨rfl, rfl, rfl⟩) | refine CutS.mk (Or.inr (sub_auto ?_)) | exact trivial | refine And.intro ?_ ?_ | (refine cond_split ?_ ?_ <;> intro hq_ <;> first | (exfalso; first | omega | (simp only [f3, cond_true, cond_false, Bool.not_true, Bool.not_false, Bool.and_true, Bool.true_and, Bool.and_false, Bool.false_and, Bool.or_true, Bool.true_or, Bool.or_false, Bool.false_or, Bool.true_eq_false, Bool.false_eq_true, decide_true, decide_false, reduceCtorEq] at hq_; done) | (rw [decide_eq_false_iff_not] at hq_; omega) | (rw [decide_eq_true_eq] at hq_; omega) | (simp only [f3, reduceCtorEq] at hq_; done) | exact Bool.noConfusion (Eq.trans (Eq.symm f3) hq_)) | skip) | apply guess | exact Or.inl rfl | exact Or.inr rfl | exact Side.mk trivial | exact Side.mk (fun h => h) | exact Side.mk (fun h => ⟨h, h⟩) | with_reducible exact Side.mk rfl | with_reducible exact Side.mk ⟨rfl, rfl⟩ | with_reducible exact Side.mk (by assumption) | with_reducible rfl | intro _)
            all_goals try (conv => whnf)
            all_goals try (refine Side.mk ?_; first | (intros; omega) | (show List.length (_ ++ _) ≤ _; simp only [List.length_append, List.length_cons, List.length_nil, List.length_replicate, List.length_take]; omega) | (simp_all; done) | (simp_all; omega))
            all_goals try (refine Side.mk ?_; rw [hes]; omega)
            refine ⟨y + 1, by omega, by omega, ?_⟩
            repeat' ((conv => whnf); first | done | refine ev_step ?_ | refine ops_step ?_ | refine scan_step ?_ | refine draw_step ?_ | refine each_step ?_ | refine sl_step ?_ | refine hp_step ?_ | refine guard_no (by decide) ?_ | refine guard_go ?_ | apply cut_auto | with_reducible exact CutS.mk (Or.inl ⟨rfl, rfl, rfl⟩) | refine CutS.mk (Or.inr (sub_auto ?_)) | exact trivial | refine And.intro ?_ ?_ | refine cond_split ?_ ?_ | apply guess | exact Or.inl rfl | exact Or.inr rfl | exact Side.mk trivial | exact Side.mk (fun h => h) | exact Side.mk (fun h => ⟨h, h⟩) | with_reducible exact Side.mk rfl | with_reducible exact Side.mk ⟨rfl, rfl⟩ | with_reducible exact Side.mk (by assumption) | with_reducible rfl | intro _)
            all_goals try (conv => whnf)
            all_goals first | rfl | omega | trace_state
      · repeat' ((conv => whnf); first | done | refine ev_step ?_ | refine ops_step ?_ | refine scan_step ?_ | refine draw_step ?_ | refine each_step ?_ | refine sl_step ?_ | refine hp_step ?_ | refine guard_no (by decide) ?_ | refine guard_go ?_ | apply cut_auto | with_reducible exact CutS.mk (Or.inl ⟨rfl, rfl, rfl⟩) | refine CutS.mk (Or.inr (sub_auto ?_)) | exact trivial | refine And.intro ?_ ?_ | (refine cond_split ?_ ?_ <;> intro _ <;> first | (exfalso; first | omega | (simp only [decide_eq_true_eq, decide_eq_false_iff_not, Bool.not_eq_true', Bool.not_eq_false', ne_eq, Bool.not_true, Bool.not_false, cond_true, cond_false, Bool.true_eq_false, Bool.false_eq_true, Bool.and_eq_true, Bool.and_eq_false_iff] at *; omega)) | skip) | apply guess | exact Or.inl rfl | exact Or.inr rfl | exact Side.mk trivial | exact Side.mk (fun h => h) | exact Side.mk (fun h => ⟨h, h⟩) | with_reducible exact Side.mk rfl | with_reducible exact Side.mk ⟨rfl, rfl⟩ | with_reducible exact Side.mk (by assumption) | with_reducible rfl | intro _)
        all_goals try (conv => whnf)
        all_goals try (refine Side.mk ?_; first | (intros; omega) | (show List.length (_ ++ _) ≤ _; simp only [List.length_append, List.length_cons, List.length_nil, List.length_replicate, List.length_take]; omega) | (simp_all; done) | (simp_all; omega))
        all_goals first | rfl | omega | trace_state
  · rw [show (decide (1048576 < (bs.length : Int)) || decide (1048576 < (cs.length : Int))) = true by rw [Bool.or_eq_true, decide_eq_true_iff, decide_eq_true_iff]; omega] at k0
    repeat' ((conv => whnf); first | done | refine ev_step ?_ | refine ops_step ?_ | refine scan_step ?_ | refine draw_step ?_ | refine each_step ?_ | refine sl_step ?_ | refine hp_step ?_ | refine guard_no (by decide) ?_ | refine guard_go ?_ | apply cut_auto | with_reducible exact CutS.mk (Or.inl ⟨rfl, rfl, rfl⟩) | refine CutS.mk (Or.inr (sub_auto ?_)) | exact trivial | refine And.intro ?_ ?_ | (refine cond_split ?_ ?_ <;> intro _ <;> first | (exfalso; first | omega | (simp only [decide_eq_true_eq, decide_eq_false_iff_not, Bool.not_eq_true', Bool.not_eq_false', ne_eq, Bool.not_true, Bool.not_false, cond_true, cond_false, Bool.true_eq_false, Bool.false_eq_true, Bool.and_eq_true, Bool.and_eq_false_iff] at *; omega)) | skip) | apply guess | apply FnIs.useF (k0) | exact Or.inl rfl | exact Or.inr rfl | exact Side.mk trivial | exact Side.mk (fun h => h) | exact Side.mk (fun h => ⟨h, h⟩) | with_reducible exact Side.mk rfl | with_reducible exact Side.mk ⟨rfl, rfl⟩ | with_reducible exact Side.mk (by assumption) | with_reducible rfl | intro _)
    all_goals try (conv => whnf)
    all_goals first | rfl | omega | trace_state
end Go.Sx.U
