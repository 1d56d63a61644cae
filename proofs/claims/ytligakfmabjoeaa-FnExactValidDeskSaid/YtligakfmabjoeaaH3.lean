/-
  Chapter 11: desks (contracts).
-/
import Derived.Test.YtligakfmabjoeaaH2
set_option linter.unusedSimpArgs false
namespace Go.Sx.U
set_option linter.unusedVariables false
set_option linter.unusedSimpArgs false
open Go Go.Sx Go.Proofs

abbrev strA (xs : List ByteArray) (i : Nat) : ByteArray := xs.getD i ByteArray.empty
def deskAt (N : List ByteArray) (L : List (List R2)) (i : Nat) : Bool := nameB (strA N i) && ((decide (i = 0) || Op.bytesLess (strA N (i - 1)).toList (strA N i).toList) && ptsB (L.getD i []))
def deskB (N : List ByteArray) (L : List (List R2)) : Bool := decide ((N.length : Int) ≤ 6) && (decide (L.length = N.length) && (List.range N.length).all (deskAt N L))
theorem desk_bad {N : List ByteArray} {L : List (List R2)} {i : Nat} (hi : i < N.length) (h : deskAt N L i = false) : deskB N L = false := by
  unfold deskB
  rw [show (List.range N.length).all (deskAt N L) = false from List.all_eq_false.2 ⟨i, List.mem_range.2 hi, by rw [h]; simp⟩]
  simp
theorem desk_end {N : List ByteArray} {L : List (List R2)} (h6 : (N.length : Int) ≤ 6) (hl : L.length = N.length) (h : ∀ j, j < N.length → deskAt N L j = true) : deskB N L = true := by
  unfold deskB
  rw [decide_eq_true h6, decide_eq_true hl, List.all_eq_true.2 fun j hj => h j (List.mem_range.1 hj)]
  rfl
abbrev natD (N : List ByteArray) (L : List (List R2)) : Prop := (N.length ≤ 1048577 ∧ ∀ s ∈ N, s.size ≤ 1048577) ∧ natPH L
/-- The objects of a desk: names, rows' header, rows. -/
abbrev deskH (own : Bool) (N : List ByteArray) (L : List (List R2)) : Heap := [(0, .flat own (.strs N)), (2, .flat own (.rows 1 0 L.length)), (1, .nestR2 own L)]
abbrev deskV (a b : Nat) : AV := .agg [.sl a [], .sl b []]
theorem k_szDeskH (N : List ByteArray) (L : List (List R2)) (l : Int) (hl : Side (0 ≤ l ∧ l ≤ 1048576 ∧ (N.length ≤ 9223372036854775807 ∧ ∀ s ∈ N, s.size ≤ 9223372036854775807) ∧ L.length ≤ 9223372036854775807 ∧ ∀ xs ∈ L, xs.length ≤ 9223372036854775807)) : FnIs Try.prog 11 [deskV 0 2, .int .i64 l] 3 (deskH false N L) (.int .i64 (if szNS N l < 0 then -1 else if szNP L (szNS N l) < 0 then -1 else szNP L (szNS N l))) 3 [] := by
  obtain ⟨h1, h2, h3, h4⟩ := hl.h
  have k1 := k_szStringSH N l ⟨h1, h2, h3.1, h3.2⟩
  have hge := szNS_ge (xs := N) h1
  refine fn_of_ev tok Try.func11 rfl rfl rfl ?_
  by_cases c1 : szNS N l < 0
  · rw [if_pos c1]
    repeat' ((conv => whnf); first | done | refine ev_step ?_ | refine ops_step ?_ | refine scan_step ?_ | refine draw_step ?_ | refine each_step ?_ | refine sl_step ?_ | refine hp_step ?_ | refine guard_no (by decide) ?_ | refine guard_go ?_ | apply cut_auto | with_reducible exact CutS.mk (Or.inl ⟨rfl, rfl, rfl⟩) | refine CutS.mk (Or.inr (sub_auto ?_)) | exact trivial | refine And.intro ?_ ?_ | (refine cond_split ?_ ?_ <;> intro _ <;> first | (exfalso; first | omega | (simp only [decide_eq_true_eq, decide_eq_false_iff_not, Bool.not_eq_true', Bool.not_eq_false', ne_eq, Bool.not_true, Bool.not_false, cond_true, cond_false, Bool.true_eq_false, Bool.false_eq_true, Bool.and_eq_true, Bool.and_eq_false_iff] at *; omega)) | skip) | apply guess | apply FnIs.useF (k1) | exact Or.inl rfl | exact Or.inr rfl | exact Side.mk trivial | exact Side.mk (fun h => h) | exact Side.mk (fun h => ⟨h, h⟩) | with_reducible exact Side.mk rfl | with_reducible exact Side.mk ⟨rfl, rfl⟩ | with_reducible exact Side.mk (by assumption) | with_reducible rfl | intro _)
    all_goals try (conv => whnf)
    all_goals first | rfl | omega | trace_state
  · rw [if_neg c1]
    have hok := szNS_ok (xs := N) h1 (by omega)
    have k2 := k_szPointSSH L (szNS N l) ⟨by omega, by omega, h4.1, h4.2⟩
    by_cases c2 : szNP L (szNS N l) < 0
    · rw [if_pos c2]
      repeat' ((conv => whnf); first | done | refine ev_step ?_ | refine ops_step ?_ | refine scan_step ?_ | refine draw_step ?_ | refine each_step ?_ | refine sl_step ?_ | refine hp_step ?_ | refine guard_no (by decide) ?_ | refine guard_go ?_ | apply cut_auto | with_reducible exact CutS.mk (Or.inl ⟨rfl, rfl, rfl⟩) | refine CutS.mk (Or.inr (sub_auto ?_)) | exact trivial | refine And.intro ?_ ?_ | (refine cond_split ?_ ?_ <;> intro _ <;> first | (exfalso; first | omega | (simp only [decide_eq_true_eq, decide_eq_false_iff_not, Bool.not_eq_true', Bool.not_eq_false', ne_eq, Bool.not_true, Bool.not_false, cond_true, cond_false, Bool.true_eq_false, Bool.false_eq_true, Bool.and_eq_true, Bool.and_eq_false_iff] at *; omega)) | skip) | apply guess | apply FnIs.useF (k1) | apply FnIs.useF (k2) | exact Or.inl rfl | exact Or.inr rfl | exact Side.mk trivial | exact Side.mk (fun h => h) | exact Side.mk (fun h => ⟨h, h⟩) | with_reducible exact Side.mk rfl | with_reducible exact Side.mk ⟨rfl, rfl⟩ | with_reducible exact Side.mk (by assumption) | with_reducible rfl | intro _)
      all_goals try (conv => whnf)
      all_goals first | rfl | omega | trace_state
    · rw [if_neg c2]
      repeat' ((conv => whnf); first | done | refine ev_step ?_ | refine ops_step ?_ | refine scan_step ?_ | refine draw_step ?_ | refine each_step ?_ | refine sl_step ?_ | refine hp_step ?_ | refine guard_no (by decide) ?_ | refine guard_go ?_ | apply cut_auto | with_reducible exact CutS.mk (Or.inl ⟨rfl, rfl, rfl⟩) | refine CutS.mk (Or.inr (sub_auto ?_)) | exact trivial | refine And.intro ?_ ?_ | (refine cond_split ?_ ?_ <;> intro _ <;> first | (exfalso; first | omega | (simp only [decide_eq_true_eq, decide_eq_false_iff_not, Bool.not_eq_true', Bool.not_eq_false', ne_eq, Bool.not_true, Bool.not_false, cond_true, cond_false, Bool.true_eq_false, Bool.false_eq_true, Bool.and_eq_true, Bool.and_eq_false_iff] at *; omega)) | skip) | apply guess | apply FnIs.useF (k1) | apply FnIs.useF (k2) | exact Or.inl rfl | exact Or.inr rfl | exact Side.mk trivial | exact Side.mk (fun h => h) | exact Side.mk (fun h => ⟨h, h⟩) | with_reducible exact Side.mk rfl | with_reducible exact Side.mk ⟨rfl, rfl⟩ | with_reducible exact Side.mk (by assumption) | with_reducible rfl | intro _)
      all_goals try (conv => whnf)
      all_goals first | rfl | omega | trace_state
theorem k_toDeskH (N : List ByteArray) (L : List (List R2)) (h : Side (natD N L)) : FnIs Try.prog 13 [deskV 0 2] 3 (deskH false N L) (deskV 3 5) 6 [(3, .flat true (.strs N)), (5, .flat true (.rows 4 0 L.length)), (4, .nestR2 true L)] := by
  refine fn_of_ev tok Try.func13 rfl rfl rfl ?_
  repeat' ((conv => whnf); first | done | refine ev_step ?_ | refine ops_step ?_ | refine scan_step ?_ | refine draw_step ?_ | refine each_step ?_ | refine sl_step ?_ | refine hp_step ?_ | refine guard_no (by decide) ?_ | refine guard_go ?_ | apply cut_auto | with_reducible exact CutS.mk (Or.inl ⟨rfl, rfl, rfl⟩) | refine CutS.mk (Or.inr (sub_auto ?_)) | exact trivial | refine And.intro ?_ ?_ | refine cond_split ?_ ?_ | apply guess | apply FnIs.useF (k_toStringSH N ⟨h.h.1.1⟩) | apply FnIs.useF (k_toPointSSH L ⟨h.h.2⟩) | exact Or.inl rfl | exact Or.inr rfl | exact Side.mk trivial | exact Side.mk (fun h => h) | exact Side.mk (fun h => ⟨h, h⟩) | with_reducible exact Side.mk rfl | with_reducible exact Side.mk ⟨rfl, rfl⟩ | with_reducible exact Side.mk (by assumption) | with_reducible rfl | intro _)
  all_goals try (conv => whnf)
  all_goals first | rfl | trace_state
theorem k_eqDeskH (N : List ByteArray) (L : List (List R2)) (h : Side (natD N L)) : FnIs Try.prog 15 [deskV 0 2, deskV 3 5] 6 (deskH false N L ++ [(3, .flat false (.strs N)), (5, .flat false (.rows 4 0 L.length)), (4, .nestR2 false L)]) (.bool true) 6 [] := by
  have k1 := k_eqStringSH N N ⟨h.h.1.1⟩
  have k2 := k_eqPointSSH L L ⟨h.h.2⟩
  rw [decide_eq_true rfl] at k1 k2
  refine fn_of_ev tok Try.func15 rfl rfl rfl ?_
  repeat' ((conv => whnf); first | done | refine ev_step ?_ | refine ops_step ?_ | refine scan_step ?_ | refine draw_step ?_ | refine each_step ?_ | refine sl_step ?_ | refine hp_step ?_ | refine guard_no (by decide) ?_ | refine guard_go ?_ | apply cut_auto | with_reducible exact CutS.mk (Or.inl ⟨rfl, rfl, rfl⟩) | refine CutS.mk (Or.inr (sub_auto ?_)) | exact trivial | refine And.intro ?_ ?_ | refine cond_split ?_ ?_ | apply guess | apply FnIs.useF (k1) | apply FnIs.useF (k2) | exact Or.inl rfl | exact Or.inr rfl | exact Side.mk trivial | exact Side.mk (fun h => h) | exact Side.mk (fun h => ⟨h, h⟩) | with_reducible exact Side.mk rfl | with_reducible exact Side.mk ⟨rfl, rfl⟩ | with_reducible exact Side.mk (by assumption) | with_reducible rfl | intro _)
  all_goals try (conv => whnf)
  all_goals first | rfl | trace_state
theorem desk_cond (N : List ByteArray) (L : List (List R2)) (i : Nat) : (bif bif !nameB (strA N i) then true else bif decide (0 < (i : Int)) then !Op.bytesLess (N.getD ((i : Int) - 1).toNat ByteArray.empty).toList (N.getD (i : Int).toNat ByteArray.empty).toList else false then true else !ptsB (L.getD (i : Int).toNat [])) = !deskAt N L i := by
  rw [Int.toNat_natCast, show ((i : Int) - 1).toNat = i - 1 by omega]
  unfold deskAt
  cases nameB (strA N i)
  · rfl
  · by_cases h0 : i = 0
    · rw [decide_eq_true h0, decide_eq_false (show ¬ 0 < (i : Int) by omega)]
      simp
    · rw [decide_eq_false h0, decide_eq_true (show 0 < (i : Int) by omega)]
      cases Op.bytesLess (strA N (i - 1)).toList (strA N i).toList <;> rfl
theorem k_ValidDeskH (N : List ByteArray) (L : List (List R2)) (h : Side (natD N L)) : FnIs Try.prog 14 [deskV 0 2] 3 (deskH false N L) (.bool (deskB N L)) 3 [] := by
  obtain ⟨⟨h1, h2⟩, h3, h4⟩ := h.h
  refine fn_of_ev tok Try.func14 rfl rfl rfl ?_
  have fC : (bif decide (6 < (N.length : Int)) then true else decide ((L.length : Int) ≠ (N.length : Int))) = !(decide ((N.length : Int) ≤ 6) && decide (L.length = N.length)) := by
    by_cases c1 : 6 < (N.length : Int)
    · rw [decide_eq_true c1, decide_eq_false (show ¬ (N.length : Int) ≤ 6 by omega)]; rfl
    · rw [decide_eq_false c1, decide_eq_true (show (N.length : Int) ≤ 6 by omega)]
      by_cases c2 : L.length = N.length
      · rw [decide_eq_true c2, decide_eq_false (show ¬ (L.length : Int) ≠ N.length by omega)]; rfl
      · rw [decide_eq_false c2, decide_eq_true (show (L.length : Int) ≠ N.length by omega)]; rfl
  cases hc : decide ((N.length : Int) ≤ 6) && decide (L.length = N.length) with
  | false =>
    rw [hc, Bool.not_false] at fC
    have e : deskB N L = false := by
      unfold deskB
      rw [← Bool.and_assoc, hc, Bool.false_and]
    rw [e]
    repeat' ((conv => whnf); first | done | refine ev_step ?_ | refine ops_step ?_ | refine scan_step ?_ | refine draw_step ?_ | refine each_step ?_ | refine sl_step ?_ | refine hp_step ?_ | refine guard_no (by decide) ?_ | refine guard_go ?_ | apply cut_auto | with_reducible exact CutS.mk (Or.inl ⟨rfl, rfl, rfl⟩) | refine CutS.mk (Or.inr (sub_auto ?_)) | exact trivial | refine And.intro ?_ ?_ | (refine cond_split ?_ ?_ <;> intro hq_ <;> first | (exfalso; first | omega | (simp only [fC, cond_true, cond_false, Bool.not_true, Bool.not_false, Bool.and_true, Bool.true_and, Bool.and_false, Bool.false_and, Bool.or_true, Bool.true_or, Bool.or_false, Bool.false_or, Bool.true_eq_false, Bool.false_eq_true, decide_true, decide_false, reduceCtorEq] at hq_; done) | (rw [decide_eq_false_iff_not] at hq_; omega) | (rw [decide_eq_true_eq] at hq_; omega) | (simp only [fC, reduceCtorEq] at hq_; done) | exact Bool.noConfusion (Eq.trans (Eq.symm fC) hq_)) | skip) | apply guess | exact Or.inl rfl | exact Or.inr rfl | exact Side.mk trivial | exact Side.mk (fun h => h) | exact Side.mk (fun h => ⟨h, h⟩) | with_reducible exact Side.mk rfl | with_reducible exact Side.mk ⟨rfl, rfl⟩ | with_reducible exact Side.mk (by assumption) | with_reducible rfl | intro _)
    all_goals try (conv => whnf)
    all_goals try (refine Side.mk ?_; first | (intros; omega) | (show List.length (_ ++ _) ≤ _; simp only [List.length_append, List.length_cons, List.length_nil, List.length_replicate, List.length_take]; omega) | (simp_all; done) | (simp_all; omega))
    all_goals first | rfl | omega | trace_state
  | true =>
    rw [hc, Bool.not_true] at fC
    simp only [Bool.and_eq_true, decide_eq_true_eq] at hc
    repeat' ((conv => whnf); first | done | refine ev_step ?_ | refine ops_step ?_ | refine scan_step ?_ | refine draw_step ?_ | refine each_step ?_ | refine sl_step ?_ | refine hp_step ?_ | refine guard_no (by decide) ?_ | refine guard_go ?_ | apply cut_auto | with_reducible exact CutS.mk (Or.inl ⟨rfl, rfl, rfl⟩) | refine CutS.mk (Or.inr (sub_auto ?_)) | exact trivial | refine And.intro ?_ ?_ | (refine cond_split ?_ ?_ <;> intro hq_ <;> first | (exfalso; first | omega | (simp only [fC, cond_true, cond_false, Bool.not_true, Bool.not_false, Bool.and_true, Bool.true_and, Bool.and_false, Bool.false_and, Bool.or_true, Bool.true_or, Bool.or_false, Bool.false_or, Bool.true_eq_false, Bool.false_eq_true, decide_true, decide_false, reduceCtorEq] at hq_; done) | (rw [decide_eq_false_iff_not] at hq_; omega) | (rw [decide_eq_true_eq] at hq_; omega) | (simp only [fC, reduceCtorEq] at hq_; done) | exact Bool.noConfusion (Eq.trans (Eq.symm fC) hq_)) | skip) | apply guess | exact Or.inl rfl | exact Or.inr rfl | exact Side.mk trivial | exact Side.mk (fun h => h) | exact Side.mk (fun h => ⟨h, h⟩) | with_reducible exact Side.mk rfl | with_reducible exact Side.mk ⟨rfl, rfl⟩ | with_reducible exact Side.mk (by assumption) | with_reducible rfl | intro _)
    all_goals try (conv => whnf)
    all_goals try (refine Side.mk ?_; first | (intros; omega) | (show List.length (_ ++ _) ≤ _; simp only [List.length_append, List.length_cons, List.length_nil, List.length_replicate, List.length_take]; omega) | (simp_all; done) | (simp_all; omega))
    all_goals try omega
    refine loop_at (fun i : Nat => i ≤ N.length ∧ ∀ j, j < i → deskAt N L j = true) 4 (fun i => [(21, .int .i64 i), (3, .top), (4, .top)]) (fun _ => []) (fun i => N.length - i) 0 ⟨Nat.zero_le _, fun j hj => by omega⟩ ?_ (fun i hi => ?_)
    · repeat' ((conv => whnf); first | done | refine ev_step ?_ | refine ops_step ?_ | refine scan_step ?_ | refine draw_step ?_ | refine each_step ?_ | refine sl_step ?_ | refine hp_step ?_ | refine guard_no (by decide) ?_ | refine guard_go ?_ | apply cut_auto | with_reducible exact CutS.mk (Or.inl ⟨rfl, rfl, rfl⟩) | refine CutS.mk (Or.inr (sub_auto ?_)) | exact trivial | refine And.intro ?_ ?_ | refine cond_split ?_ ?_ | apply guess | exact Or.inl rfl | exact Or.inr rfl | exact Side.mk trivial | exact Side.mk (fun h => h) | exact Side.mk (fun h => ⟨h, h⟩) | with_reducible exact Side.mk rfl | with_reducible exact Side.mk ⟨rfl, rfl⟩ | with_reducible exact Side.mk (by assumption) | with_reducible rfl | intro _)
      all_goals try (conv => whnf)
      all_goals first | rfl | trace_state
    · obtain ⟨hi1, hi2⟩ := hi
      by_cases hlt : i < N.length
      · have k1 := k_IsNameH (strA N i) ⟨h2 _ (mem_of_getD hlt)⟩
        have k2 := k_ArePointsR L (i : Int).toNat ⟨⟨by omega, h4 _ (mem_of_getD (show (i : Int).toNat < L.length by omega))⟩⟩
        have fD := desk_cond N L i
        have e0 : N.getD (i : Int).toNat ByteArray.empty = strA N i := by rw [Int.toNat_natCast]
        cases hb : deskAt N L i with
        | false =>
          rw [hb, Bool.not_false] at fD
          repeat' ((conv => whnf); first | done | refine ev_step ?_ | refine ops_step ?_ | refine scan_step ?_ | refine draw_step ?_ | refine each_step ?_ | refine sl_step ?_ | refine hp_step ?_ | refine guard_no (by decide) ?_ | refine guard_go ?_ | apply cut_auto | with_reducible exact CutS.mk (Or.inl ⟨rfl, rfl, rfl⟩) | refine CutS.mk (Or.inr (sub_auto ?_)) | exact trivial | refine And.intro ?_ ?_ | (refine cond_split ?_ ?_ <;> intro hq_ <;> first | (exfalso; first | omega | (simp only [fD, cond_true, cond_false, Bool.not_true, Bool.not_false, Bool.and_true, Bool.true_and, Bool.and_false, Bool.false_and, Bool.or_true, Bool.true_or, Bool.or_false, Bool.false_or, Bool.true_eq_false, Bool.false_eq_true, decide_true, decide_false, reduceCtorEq] at hq_; done) | (rw [decide_eq_false_iff_not] at hq_; omega) | (rw [decide_eq_true_eq] at hq_; omega) | (simp only [fD, reduceCtorEq] at hq_; done) | exact Bool.noConfusion (Eq.trans (Eq.symm fD) hq_)) | skip) | apply guess | apply FnIs.useF (k1) | apply FnIs.useSR (k2) | exact Or.inl rfl | exact Or.inr rfl | exact Side.mk trivial | exact Side.mk (fun h => h) | exact Side.mk (fun h => ⟨h, h⟩) | with_reducible exact Side.mk rfl | with_reducible exact Side.mk ⟨rfl, rfl⟩ | with_reducible exact Side.mk (by assumption) | with_reducible rfl | intro _)
          all_goals try (conv => whnf)
          all_goals try exact e0.symm
          all_goals try (refine Side.mk ?_; intro hg; simp only [Bool.and_eq_true, decide_eq_true_eq] at hg; omega)
          all_goals try (refine Side.mk ?_; first | (intros; omega) | (show List.length (_ ++ _) ≤ _; simp only [List.length_append, List.length_cons, List.length_nil, List.length_replicate, List.length_take]; omega) | (simp_all; done) | (simp_all; omega))
          all_goals try (refine Side.mk ?_; intros; simp_all; done)
          all_goals first | omega | exact (desk_bad hlt hb).symm | exact desk_bad hlt hb | trace_state
        | true =>
          rw [hb, Bool.not_true] at fD
          repeat' ((conv => whnf); first | done | refine ev_step ?_ | refine ops_step ?_ | refine scan_step ?_ | refine draw_step ?_ | refine each_step ?_ | refine sl_step ?_ | refine hp_step ?_ | refine guard_no (by decide) ?_ | refine guard_go ?_ | apply cut_auto | with_reducible exact CutS.mk (Or.inl ⟨rfl, rfl, rfl⟩) | refine CutS.mk (Or.inr (sub_auto ?_)) | exact trivial | refine And.intro ?_ ?_ | (refine cond_split ?_ ?_ <;> intro hq_ <;> first | (exfalso; first | omega | (simp only [fD, cond_true, cond_false, Bool.not_true, Bool.not_false, Bool.and_true, Bool.true_and, Bool.and_false, Bool.false_and, Bool.or_true, Bool.true_or, Bool.or_false, Bool.false_or, Bool.true_eq_false, Bool.false_eq_true, decide_true, decide_false, reduceCtorEq] at hq_; done) | (rw [decide_eq_false_iff_not] at hq_; omega) | (rw [decide_eq_true_eq] at hq_; omega) | (simp only [fD, reduceCtorEq] at hq_; done) | exact Bool.noConfusion (Eq.trans (Eq.symm fD) hq_)) | skip) | apply guess | apply FnIs.useF (k1) | apply FnIs.useSR (k2) | exact Or.inl rfl | exact Or.inr rfl | exact Side.mk trivial | exact Side.mk (fun h => h) | exact Side.mk (fun h => ⟨h, h⟩) | with_reducible exact Side.mk rfl | with_reducible exact Side.mk ⟨rfl, rfl⟩ | with_reducible exact Side.mk (by assumption) | with_reducible rfl | intro _)
          all_goals try (conv => whnf)
          all_goals try exact e0.symm
          all_goals try (refine Side.mk ?_; intro hg; simp only [Bool.and_eq_true, decide_eq_true_eq] at hg; omega)
          all_goals try (refine Side.mk ?_; first | (intros; omega) | (show List.length (_ ++ _) ≤ _; simp only [List.length_append, List.length_cons, List.length_nil, List.length_replicate, List.length_take]; omega) | (simp_all; done) | (simp_all; omega))
          all_goals try (refine Side.mk ?_; intros; simp_all; done)
          all_goals try omega
          refine ⟨i + 1, ⟨by omega, fun j hj => ?_⟩, by omega, ?_⟩
          · by_cases e : j = i
            · rw [e]; exact hb
            · exact hi2 j (by omega)
          · repeat' ((conv => whnf); first | done | refine ev_step ?_ | refine ops_step ?_ | refine scan_step ?_ | refine draw_step ?_ | refine each_step ?_ | refine sl_step ?_ | refine hp_step ?_ | refine guard_no (by decide) ?_ | refine guard_go ?_ | apply cut_auto | with_reducible exact CutS.mk (Or.inl ⟨rfl, rfl, rfl⟩) | refine CutS.mk (Or.inr (sub_auto ?_)) | exact trivial | refine And.intro ?_ ?_ | refine cond_split ?_ ?_ | apply guess | exact Or.inl rfl | exact Or.inr rfl | exact Side.mk trivial | exact Side.mk (fun h => h) | exact Side.mk (fun h => ⟨h, h⟩) | with_reducible exact Side.mk rfl | with_reducible exact Side.mk ⟨rfl, rfl⟩ | with_reducible exact Side.mk (by assumption) | with_reducible rfl | intro _)
            all_goals try (conv => whnf)
            all_goals first | rfl | omega | trace_state
      · obtain rfl : i = N.length := by omega
        repeat' ((conv => whnf); first | done | refine ev_step ?_ | refine ops_step ?_ | refine scan_step ?_ | refine draw_step ?_ | refine each_step ?_ | refine sl_step ?_ | refine hp_step ?_ | refine guard_no (by decide) ?_ | refine guard_go ?_ | apply cut_auto | with_reducible exact CutS.mk (Or.inl ⟨rfl, rfl, rfl⟩) | refine CutS.mk (Or.inr (sub_auto ?_)) | exact trivial | refine And.intro ?_ ?_ | (refine cond_split ?_ ?_ <;> intro _ <;> first | (exfalso; first | omega | (simp only [decide_eq_true_eq, decide_eq_false_iff_not, Bool.not_eq_true', Bool.not_eq_false', ne_eq, Bool.not_true, Bool.not_false, cond_true, cond_false, Bool.true_eq_false, Bool.false_eq_true, Bool.and_eq_true, Bool.and_eq_false_iff] at *; omega)) | skip) | apply guess | exact Or.inl rfl | exact Or.inr rfl | exact Side.mk trivial | exact Side.mk (fun h => h) | exact Side.mk (fun h => ⟨h, h⟩) | with_reducible exact Side.mk rfl | with_reducible exact Side.mk ⟨rfl, rfl⟩ | with_reducible exact Side.mk (by assumption) | with_reducible rfl | intro _)
        all_goals try (conv => whnf)
        all_goals first | omega | exact (desk_end hc.1 hc.2 hi2).symm | exact desk_end hc.1 hc.2 hi2 | trace_state
end Go.Sx.U
