/-
  FnJournal, as a contract.
-/
import Derived.Test.YtligakfmabjoeaaDoorT40
import Derived.Test.YtligakfmabjoeaaDoorT41
set_option linter.unusedSimpArgs false
namespace Go.Sx.U
set_option linter.unusedVariables false
set_option linter.unusedSimpArgs false
set_option maxRecDepth 100000
set_option maxHeartbeats 8000000
open Go Go.Sx Go.Proofs

theorem jour_len6 {L : List ByteArray} (h : ∀ s ∈ L, s.size ≤ 640) : ∀ i, i ≤ L.length → (jour (L.take i)).2.size ≤ 663 * i
  | 0, _ => by simp [jour]
  | i + 1, hi => by
    have h1 := jour_len6 h i (by omega)
    have h2 := (jour_size_succ (ls := L) (i := i) (by omega)).2
    have h3 := h _ (mem_of_getD (d := ByteArray.empty) (i := i) (by omega))
    omega
theorem jok6 {L : List ByteArray} (h1 : L.length ≤ 6) (h2 : ∀ s ∈ L, okS 640 s) : jokB L = true ∧ jourV L = (jour L).2 ∧ (jour L).2.size ≤ 4000 ∧ ∀ s ∈ L, nlB s = false := by
  have h3 := jour_len6 (fun s hs => (h2 s hs).1) L.length (Nat.le_refl _)
  rw [List.take_length] at h3
  have h4 : jokB L = true := by
    unfold jokB
    rw [List.any_eq_false.2 (fun s hs => by rw [(h2 s hs).2]; exact Bool.false_ne_true), decide_eq_true (by omega)]
    rfl
  refine ⟨h4, by rw [jourV, h4, cond_true], by omega, fun s hs => (h2 s hs).2⟩
theorem k_JournalIs {L : List ByteArray} {t : ByteArray} (h1 : jokB L = true) (h2 : (jour L).2 = t) (h : Side (L.length ≤ 1048577 ∧ ∀ s ∈ L, s.size ≤ 1048577)) : FnIs Tryd.prog 9 [.sl 0 []] 1 [(0, .flat false (.strs L))] (.tuple [.str t, .bool true]) 1 [] := by
  have := k_JournalOf L h
  rwa [h1, show jourV L = t by rw [jourV, h1, cond_true, h2]] at this
theorem cnt10_succ {l : List UInt8} {i : Nat} (h : i < l.length) : cnt10 (l.take (i + 1)) = cnt10 (l.take i) + (bif l.getD i 0 == 10 then 1 else 0) := by
  rw [take_snocS (d := 0) h, cnt10_app]
  unfold cnt10
  rw [List.filter_cons, List.filter_nil]
  cases hb : (l.getD i 0 == 10) <;> rfl
theorem cnt10_le (l : List UInt8) (i : Nat) : cnt10 (l.take i) ≤ i := by
  unfold cnt10
  exact Nat.le_trans (List.length_filter_le ..) (by rw [List.length_take]; omega)
theorem byte10 {T : ByteArray} {i : Nat} {b : Bool} (h : ((bl T).getD i 0 == 10) = b) : decide (bAt T (Int.toNat (i : Int)) = 10) = b := by
  rw [Int.toNat_natCast]
  exact (bAt_eq (c := 10)).trans h
theorem getD_take {α : Type} {l : List α} {d : α} {i w : Nat} (h : i < w) : (l.take w).getD i d = l.getD i d := by
  simp only [List.getD_eq_getElem?_getD, List.getElem?_take, if_pos h]
theorem ba_assoc (a b c : ByteArray) : a ++ b ++ c = a ++ (b ++ c) := bl_ext (by rw [bl_app, bl_app, bl_app, bl_app, List.append_assoc])
theorem bsz1 (x : Int) : (strOfNums [x]).size = 1 := rfl
theorem sum3_mem : ∀ {L : List ByteArray} {s : ByteArray}, s ∈ L → s.size + 3 ≤ sum3 L
  | a :: r, s, h => by
    simp only [sum3, List.map_cons, List.sum_cons]
    rcases List.mem_cons.1 h with rfl | h
    · omega
    · have := sum3_mem h
      unfold sum3 at this
      omega
theorem sum3_gq : ∀ L : List ByteArray, 3 * L.length ≤ sum3 L
  | [] => Nat.le_refl _
  | a :: r => by
    have := sum3_gq r
    unfold sum3 at this ⊢
    simp only [List.map_cons, List.sum_cons, List.length_cons]
    omega
theorem jour_all {L : List ByteArray} : ∀ s ∈ L, s.size ≤ (jour L).2.size := fun s hs => by
  have h1 := sum3_le L L.length (Nat.le_refl _)
  rw [List.take_length] at h1
  have h2 := sum3_mem hs
  omega
theorem recT_sz (u : ByteArray) (h : u.size ≤ 4000) : (recT u).1.length ≤ 1048577 ∧ ∀ s ∈ (recT u).1, s.size ≤ 1048577 := by
  obtain ⟨h1, h2, h3⟩ := recT_jour u
  have h4 : (jour (recT u).1).2.size ≤ 4000 := by rw [h2, size_ext h1]; omega
  refine ⟨?_, fun s hs => ?_⟩
  · have h5 := sum3_le (recT u).1 (recT u).1.length (Nat.le_refl _)
    rw [List.take_length] at h5
    have h6 : 3 * (recT u).1.length ≤ sum3 (recT u).1 := sum3_gq _
    omega
  · have := jour_all s hs
    omega
theorem tmod_rng {x : Int} {n : Nat} (h : 0 ≤ x) (h2 : 0 < n) : 0 ≤ x.tmod (n : Int) ∧ x.tmod (n : Int) < n := ⟨Int.tmod_nonneg _ h, Int.tmod_lt_of_pos _ (by omega)⟩
set_option maxHeartbeats 8000000 in
theorem k_FnJournal (bs cs : List Int) (hp : Side ((bs.length ≤ 9223372036854775807 ∧ ∀ k ∈ bs, 0 ≤ k ∧ k ≤ 255) ∧ cs.length ≤ 9223372036854775807 ∧ ∀ k ∈ cs, 0 ≤ k ∧ k ≤ 255)) : FnIs Tryd.prog 5 [.sl 0 [], .sl 1 []] 2 [(1, .flat false (.ints .u8 cs)), (0, .flat false (.ints .u8 bs))] (.bool true) 2 [] := by
  obtain ⟨⟨b1, b2⟩, c1, c2⟩ := hp.h
  have k0 := k_b10LongJ bs cs ⟨⟨b1, c1⟩⟩
  refine fn_of_evk [0, 1, 4, 5, 6, 7, 8, 9, 10, 11, 12, 13, 14, 15, 16, 17, 18, 19, 20, 21, 22, 25, 36, 39, 67, 73, 103, 106, 117] tok Tryd.func5 rfl rfl rfl ?_
  by_cases hl : bs.length ≤ 1048576 ∧ cs.length ≤ 1048576
  · rw [show (decide (1048576 < (bs.length : Int)) || decide (1048576 < (cs.length : Int))) = false by rw [Bool.or_eq_false_iff, decide_eq_false_iff_not, decide_eq_false_iff_not]; omega] at k0
    have hb : bytesOk bs := ⟨by omega, b2⟩
    have hc : bytesOk cs := ⟨by omega, c2⟩
    repeat' ((conv => whnf); first | done | refine ev_step ?_ | refine ops_step ?_ | refine scan_step ?_ | refine draw_step ?_ | refine each_step ?_ | refine sl_step ?_ | refine hp_step ?_ | refine guard_no (by decide) ?_ | refine guard_go ?_ | refine guard_old ?_ | apply cut_auto | with_reducible exact CutS.mk (Or.inl ⟨rfl, rfl, rfl⟩) | refine CutS.mk (Or.inr (Or.inl (sub_auto ?_))) | exact trivial | refine And.intro ?_ ?_ | (refine cond_split ?_ ?_ <;> intro _ <;> first | (exfalso; first | omega | (simp only [decide_eq_true_eq, decide_eq_false_iff_not, Bool.not_eq_true', Bool.not_eq_false', ne_eq, Bool.not_true, Bool.not_false, cond_true, cond_false, Bool.true_eq_false, Bool.false_eq_true, Bool.and_eq_true, Bool.and_eq_false_iff] at *; omega)) | skip) | apply guess | apply FnIs.useF (k0) | apply FnEx.useF (k_B10DeskN cs ⟨hc⟩) | apply FnEx.useF (k_B10Lines bs _ _) | exact Or.inl rfl | exact Or.inr rfl | exact Side.mk trivial | exact Side.mk (fun h => h) | exact Side.mk (fun h => ⟨h, h⟩) | with_reducible exact Side.mk rfl | with_reducible exact Side.mk ⟨rfl, rfl⟩ | with_reducible exact Side.mk (by assumption) | with_reducible rfl | intro _)
    all_goals try (conv => whnf)
    all_goals try exact Side.mk ⟨hb, by assumption⟩
    all_goals try (show (_ : Nat) = _; rfl)
    rename_i N hN L hL
    obtain ⟨hL1, hL2⟩ := hL
    obtain ⟨j1, j2, j3, j4⟩ := jok6 hL1 hL2
    have kj := k_JournalIs (L := L) j1 rfl ⟨by omega, fun s hs => by have := (hL2 s hs).1; omega⟩
    have hs3 := sum3_le L L.length (Nat.le_refl _)
    rw [List.take_length] at hs3
    generalize hT : (jour L).2 = T at *
    by_cases h0 : T.size = 0
    · have e0 : L.length = 0 := by
        cases L with
        | nil => rfl
        | cons s r => simp only [sum3, List.map_cons, List.sum_cons] at hs3; omega
      have f0 : decide ((L.length : Int) = 0) = true := decide_eq_true (by omega)
      have f1 : decide ((T.size : Int) = 0) = true := decide_eq_true (by omega)
      repeat' ((conv => whnf); first | done | refine ev_step ?_ | refine ops_step ?_ | refine scan_step ?_ | refine draw_step ?_ | refine each_step ?_ | refine sl_step ?_ | refine hp_step ?_ | refine guard_no (by decide) ?_ | refine guard_go ?_ | refine guard_old ?_ | apply cut_auto | with_reducible exact CutS.mk (Or.inl ⟨rfl, rfl, rfl⟩) | refine CutS.mk (Or.inr (Or.inl (sub_auto ?_))) | exact trivial | refine And.intro ?_ ?_ | (refine cond_split ?_ ?_ <;> intro hq_ <;> first | (exfalso; first | omega | (simp only [f0, f1, cond_true, cond_false, Bool.not_true, Bool.not_false, Bool.and_true, Bool.true_and, Bool.and_false, Bool.false_and, Bool.or_true, Bool.true_or, Bool.or_false, Bool.false_or, Bool.true_eq_false, Bool.false_eq_true, decide_true, decide_false, reduceCtorEq] at hq_; done) | (rw [decide_eq_false_iff_not] at hq_; omega) | (rw [decide_eq_true_eq] at hq_; omega) | (simp only [f0, f1, reduceCtorEq] at hq_; done) | exact Bool.noConfusion (Eq.trans (Eq.symm f0) hq_) | exact Bool.noConfusion (Eq.trans (Eq.symm f1) hq_)) | skip) | apply guess | apply FnIs.useF (kj) | exact Or.inl rfl | exact Or.inr rfl | exact Side.mk trivial | exact Side.mk (fun h => h) | exact Side.mk (fun h => ⟨h, h⟩) | with_reducible exact Side.mk rfl | with_reducible exact Side.mk ⟨rfl, rfl⟩ | with_reducible exact Side.mk (by assumption) | with_reducible rfl | intro _)
      all_goals try (conv => whnf)
      all_goals first | exact f0.symm | rfl | omega | trace_state
    · have f1 : decide ((T.size : Int) = 0) = false := decide_eq_false (by omega)
      repeat' ((conv => whnf); first | done | refine ev_step ?_ | refine ops_step ?_ | refine scan_step ?_ | refine draw_step ?_ | refine each_step ?_ | refine sl_step ?_ | refine hp_step ?_ | refine guard_no (by decide) ?_ | refine guard_go ?_ | refine guard_old ?_ | apply cut_auto | with_reducible exact CutS.mk (Or.inl ⟨rfl, rfl, rfl⟩) | refine CutS.mk (Or.inr (Or.inl (sub_auto ?_))) | exact trivial | refine And.intro ?_ ?_ | (refine cond_split ?_ ?_ <;> intro hq_ <;> first | (exfalso; first | omega | (simp only [f1, cond_true, cond_false, Bool.not_true, Bool.not_false, Bool.and_true, Bool.true_and, Bool.and_false, Bool.false_and, Bool.or_true, Bool.true_or, Bool.or_false, Bool.false_or, Bool.true_eq_false, Bool.false_eq_true, decide_true, decide_false, reduceCtorEq] at hq_; done) | (rw [decide_eq_false_iff_not] at hq_; omega) | (rw [decide_eq_true_eq] at hq_; omega) | (simp only [f1, reduceCtorEq] at hq_; done) | exact Bool.noConfusion (Eq.trans (Eq.symm f1) hq_)) | skip) | apply guess | apply FnIs.useF (kj) | apply FnEx.useF (k_b10AtJ cs _ _ _) | exact Or.inl rfl | exact Or.inr rfl | exact Side.mk trivial | exact Side.mk (fun h => h) | exact Side.mk (fun h => ⟨h, h⟩) | with_reducible exact Side.mk rfl | with_reducible exact Side.mk ⟨rfl, rfl⟩ | with_reducible exact Side.mk (by assumption) | with_reducible rfl | intro _)
      all_goals try (conv => whnf)
      all_goals try exact Side.mk ⟨hc, by omega, by omega, by omega, by omega⟩
      all_goals try (refine Side.mk ?_; first | (intros; omega) | (intro h1_ h2_; rw [h1_, h2_]; rfl) | (show List.length (_ ++ _) ≤ _; simp only [List.length_append, List.length_cons, List.length_nil, List.length_replicate, List.length_take]; omega) | (simp_all; done) | (simp_all; omega))
      all_goals try (rename_i a ha b hb2; have ht := tmod_rng (x := a * 256 + b) (n := T.size) (by omega) (by omega); refine Side.mk ?_; first | omega | (refine ⟨?_, ?_⟩ <;> omega))
      rename_i a ha b hb2
      have ht := tmod_rng (x := a * 256 + b) (n := T.size) (by omega) (by omega)
      generalize (a * 256 + b).tmod (T.size : Int) = at' at ht ⊢
      obtain ⟨k, rfl⟩ : ∃ k : Nat, at' = (k : Int) := ⟨at'.toNat, by omega⟩
      have hk : k < T.size := by omega
      have hP : T.extract 0 (Int.toNat (k : Int)) = T.extract 0 k := by rw [Int.toNat_natCast]
      obtain ⟨w1, w2⟩ := recT_cut j4 k
      rw [hT] at w1 w2
      have hPs : (T.extract 0 k).size = k := by rw [size_ext (by omega)]; omega
      rw [← hP] at hPs w2
      generalize T.extract 0 (Int.toNat (k : Int)) = P at *
      have kR := k_RecoverOk P ⟨by omega⟩
      obtain ⟨r1, r2, r3⟩ := recT_jour P
      have r4 := recT_ok (u := P) (by omega)
      have r5 : P.extract 0 (recT P).2 = T.extract 0 (recT P).2 := by
        have hm : (recT P).2 ≤ k := by omega
        generalize (recT P).2 = m at hm
        rw [hP]; apply bl_ext; rw [bl_sub, bl_sub, bl_sub, List.drop_zero, List.drop_zero, List.drop_zero, List.take_take, Nat.min_eq_left hm]
      rw [r5] at r2
      have r6 : (recT P).1.length ≤ 1048577 ∧ ∀ s ∈ (recT P).1, s.size ≤ 1048577 := by
        rw [w2]
        exact ⟨by rw [List.length_take]; omega, fun s hs => Nat.le_trans (hL2 s (List.mem_of_mem_take hs)).1 (by decide)⟩
      have kU := k_JournalIs r4 r2 ⟨r6⟩
      generalize hRn : recT P = Rn at *
      obtain ⟨R, n⟩ := Rn
      dsimp only at *
      have w3 : R.length = cnt10 ((bl T).take k) := by rw [w2, List.length_take]; omega
      repeat' ((conv => whnf); first | done | refine ev_step ?_ | refine ops_step ?_ | refine scan_step ?_ | refine draw_step ?_ | refine each_step ?_ | refine sl_step ?_ | refine hp_step ?_ | refine guard_no (by decide) ?_ | refine guard_go ?_ | refine guard_old ?_ | apply cut_auto | with_reducible exact CutS.mk (Or.inl ⟨rfl, rfl, rfl⟩) | refine CutS.mk (Or.inr (Or.inl (sub_auto ?_))) | exact trivial | refine And.intro ?_ ?_ | (refine cond_split ?_ ?_ <;> intro _ <;> first | (exfalso; first | omega | (simp only [decide_eq_true_eq, decide_eq_false_iff_not, Bool.not_eq_true', Bool.not_eq_false', ne_eq, Bool.not_true, Bool.not_false, cond_true, cond_false, Bool.true_eq_false, Bool.false_eq_true, Bool.and_eq_true, Bool.and_eq_false_iff] at *; omega)) | skip) | apply guess | apply FnIs.useF (kR) | apply FnIs.useF (kU) | exact Or.inl rfl | exact Or.inr rfl | exact Side.mk trivial | exact Side.mk (fun h => h) | exact Side.mk (fun h => ⟨h, h⟩) | with_reducible exact Side.mk rfl | with_reducible exact Side.mk ⟨rfl, rfl⟩ | with_reducible exact Side.mk (by assumption) | with_reducible rfl | intro _)
      all_goals try (conv => whnf)
      all_goals try (refine Side.mk ?_; first | (intros; omega) | (intro h1_ h2_; rw [h1_, h2_]; rfl) | (show List.length (_ ++ _) ≤ _; simp only [List.length_append, List.length_cons, List.length_nil, List.length_replicate, List.length_take]; omega) | (simp_all; done) | (simp_all; omega))
      refine loop_at (fun i : Nat => i ≤ k) 6 (fun i => [(15, .int .i64 i), (14, .int .i64 (cnt10 ((bl T).take i))), (67, .top), (73, .top)]) (fun i => []) (fun i => k - i) 0 (Nat.zero_le _) ?_ (fun i hi => ?_)
      · repeat' ((conv => whnf); first | done | refine ev_step ?_ | refine ops_step ?_ | refine scan_step ?_ | refine draw_step ?_ | refine each_step ?_ | refine sl_step ?_ | refine hp_step ?_ | refine guard_no (by decide) ?_ | refine guard_go ?_ | refine guard_old ?_ | apply cut_auto | with_reducible exact CutS.mk (Or.inl ⟨rfl, rfl, rfl⟩) | refine CutS.mk (Or.inr (Or.inl (sub_auto ?_))) | exact trivial | refine And.intro ?_ ?_ | refine cond_split ?_ ?_ | apply guess | exact Or.inl rfl | exact Or.inr rfl | exact Side.mk trivial | exact Side.mk (fun h => h) | exact Side.mk (fun h => ⟨h, h⟩) | with_reducible exact Side.mk rfl | with_reducible exact Side.mk ⟨rfl, rfl⟩ | with_reducible exact Side.mk (by assumption) | with_reducible rfl | intro _)
        all_goals try (conv => whnf)
        all_goals first | rfl | trace_state
      · by_cases hlt : i < k
        · have hq := cnt10_succ (l := bl T) (i := i) (by rw [bl_len]; omega)
          have hci := cnt10_le (bl T) i
          have fl : decide ((i : Int) < (k : Int)) = true := decide_eq_true (by omega)
          cases hb10 : ((bl T).getD i 0 == 10)
          · rw [hb10, cond_false] at hq
            have fb := byte10 hb10
            repeat' ((conv => whnf); first | done | refine ev_step ?_ | refine ops_step ?_ | refine scan_step ?_ | refine draw_step ?_ | refine each_step ?_ | refine sl_step ?_ | refine hp_step ?_ | refine guard_no (by decide) ?_ | refine guard_go ?_ | refine guard_old ?_ | apply cut_auto | with_reducible exact CutS.mk (Or.inl ⟨rfl, rfl, rfl⟩) | refine CutS.mk (Or.inr (Or.inl (sub_auto ?_))) | exact trivial | refine And.intro ?_ ?_ | (refine cond_split ?_ ?_ <;> intro hq_ <;> first | (exfalso; first | omega | (simp only [fl, fb, cond_true, cond_false, Bool.not_true, Bool.not_false, Bool.and_true, Bool.true_and, Bool.and_false, Bool.false_and, Bool.or_true, Bool.true_or, Bool.or_false, Bool.false_or, Bool.true_eq_false, Bool.false_eq_true, decide_true, decide_false, reduceCtorEq] at hq_; done) | (rw [decide_eq_false_iff_not] at hq_; omega) | (rw [decide_eq_true_eq] at hq_; omega) | (simp only [fl, fb, reduceCtorEq] at hq_; done) | exact Bool.noConfusion (Eq.trans (Eq.symm fl) hq_) | exact Bool.noConfusion (Eq.trans (Eq.symm fb) hq_)) | skip) | apply guess | exact Or.inl rfl | exact Or.inr rfl | exact Side.mk trivial | exact Side.mk (fun h => h) | exact Side.mk (fun h => ⟨h, h⟩) | with_reducible exact Side.mk rfl | with_reducible exact Side.mk ⟨rfl, rfl⟩ | with_reducible exact Side.mk (by assumption) | with_reducible rfl | intro _)
            all_goals try (conv => whnf)
            all_goals try (refine Side.mk ?_; unfold inI64; omega)
            all_goals try (refine Side.mk ?_; first | (intros; omega) | (intro h1_ h2_; rw [h1_, h2_]; rfl) | (show List.length (_ ++ _) ≤ _; simp only [List.length_append, List.length_cons, List.length_nil, List.length_replicate, List.length_take]; omega) | (simp_all; done) | (simp_all; omega))
            refine ⟨i + 1, by omega, by omega, ?_⟩
            repeat' ((conv => whnf); first | done | refine ev_step ?_ | refine ops_step ?_ | refine scan_step ?_ | refine draw_step ?_ | refine each_step ?_ | refine sl_step ?_ | refine hp_step ?_ | refine guard_no (by decide) ?_ | refine guard_go ?_ | refine guard_old ?_ | apply cut_auto | with_reducible exact CutS.mk (Or.inl ⟨rfl, rfl, rfl⟩) | refine CutS.mk (Or.inr (Or.inl (sub_auto ?_))) | exact trivial | refine And.intro ?_ ?_ | refine cond_split ?_ ?_ | apply guess | exact Or.inl rfl | exact Or.inr rfl | exact Side.mk trivial | exact Side.mk (fun h => h) | exact Side.mk (fun h => ⟨h, h⟩) | with_reducible exact Side.mk rfl | with_reducible exact Side.mk ⟨rfl, rfl⟩ | with_reducible exact Side.mk (by assumption) | with_reducible rfl | intro _)
            all_goals try (conv => whnf)
            all_goals first | rfl | (rw [hq]; rfl) | (show _ = _; omega) | trace_state
          · rw [hb10, cond_true] at hq
            have fb := byte10 hb10
            repeat' ((conv => whnf); first | done | refine ev_step ?_ | refine ops_step ?_ | refine scan_step ?_ | refine draw_step ?_ | refine each_step ?_ | refine sl_step ?_ | refine hp_step ?_ | refine guard_no (by decide) ?_ | refine guard_go ?_ | refine guard_old ?_ | apply cut_auto | with_reducible exact CutS.mk (Or.inl ⟨rfl, rfl, rfl⟩) | refine CutS.mk (Or.inr (Or.inl (sub_auto ?_))) | exact trivial | refine And.intro ?_ ?_ | (refine cond_split ?_ ?_ <;> intro hq_ <;> first | (exfalso; first | omega | (simp only [fl, fb, cond_true, cond_false, Bool.not_true, Bool.not_false, Bool.and_true, Bool.true_and, Bool.and_false, Bool.false_and, Bool.or_true, Bool.true_or, Bool.or_false, Bool.false_or, Bool.true_eq_false, Bool.false_eq_true, decide_true, decide_false, reduceCtorEq] at hq_; done) | (rw [decide_eq_false_iff_not] at hq_; omega) | (rw [decide_eq_true_eq] at hq_; omega) | (simp only [fl, fb, reduceCtorEq] at hq_; done) | exact Bool.noConfusion (Eq.trans (Eq.symm fl) hq_) | exact Bool.noConfusion (Eq.trans (Eq.symm fb) hq_)) | skip) | apply guess | exact Or.inl rfl | exact Or.inr rfl | exact Side.mk trivial | exact Side.mk (fun h => h) | exact Side.mk (fun h => ⟨h, h⟩) | with_reducible exact Side.mk rfl | with_reducible exact Side.mk ⟨rfl, rfl⟩ | with_reducible exact Side.mk (by assumption) | with_reducible rfl | intro _)
            all_goals try (conv => whnf)
            all_goals try (refine Side.mk ?_; unfold inI64; omega)
            all_goals try (refine Side.mk ?_; first | (intros; omega) | (intro h1_ h2_; rw [h1_, h2_]; rfl) | (show List.length (_ ++ _) ≤ _; simp only [List.length_append, List.length_cons, List.length_nil, List.length_replicate, List.length_take]; omega) | (simp_all; done) | (simp_all; omega))
            refine ⟨i + 1, by omega, by omega, ?_⟩
            repeat' ((conv => whnf); first | done | refine ev_step ?_ | refine ops_step ?_ | refine scan_step ?_ | refine draw_step ?_ | refine each_step ?_ | refine sl_step ?_ | refine hp_step ?_ | refine guard_no (by decide) ?_ | refine guard_go ?_ | refine guard_old ?_ | apply cut_auto | with_reducible exact CutS.mk (Or.inl ⟨rfl, rfl, rfl⟩) | refine CutS.mk (Or.inr (Or.inl (sub_auto ?_))) | exact trivial | refine And.intro ?_ ?_ | refine cond_split ?_ ?_ | apply guess | exact Or.inl rfl | exact Or.inr rfl | exact Side.mk trivial | exact Side.mk (fun h => h) | exact Side.mk (fun h => ⟨h, h⟩) | with_reducible exact Side.mk rfl | with_reducible exact Side.mk ⟨rfl, rfl⟩ | with_reducible exact Side.mk (by assumption) | with_reducible rfl | intro _)
            all_goals try (conv => whnf)
            all_goals first | rfl | (rw [hq]; rfl) | (show _ = _; omega) | trace_state
        · obtain rfl : i = k := by omega
          have e1 : decide ((i : Int) < (i : Int)) = false := decide_eq_false (by omega)
          have e2 : decide ((R.length : Int) ≠ (cnt10 ((bl T).take i) : Int)) = false := decide_eq_false (by omega)
          have e3 : decide ((n : Int) < 0) = false := decide_eq_false (by omega)
          have e4 : decide ((i : Int) < (n : Int)) = false := decide_eq_false (by omega)
          have e5 : ((T.extract 0 n).toList == (T.extract 0 (Int.toNat (n : Int))).toList) = true := by rw [Int.toNat_natCast]; exact beq_self_eq_true _
          repeat' ((conv => whnf); first | done | refine ev_step ?_ | refine ops_step ?_ | refine scan_step ?_ | refine draw_step ?_ | refine each_step ?_ | refine sl_step ?_ | refine hp_step ?_ | refine guard_no (by decide) ?_ | refine guard_go ?_ | refine guard_old ?_ | apply cut_auto | with_reducible exact CutS.mk (Or.inl ⟨rfl, rfl, rfl⟩) | refine CutS.mk (Or.inr (Or.inl (sub_auto ?_))) | exact trivial | refine And.intro ?_ ?_ | (refine cond_split ?_ ?_ <;> intro hq_ <;> first | (exfalso; first | omega | (simp only [e1, e2, e3, e4, e5, cond_true, cond_false, Bool.not_true, Bool.not_false, Bool.and_true, Bool.true_and, Bool.and_false, Bool.false_and, Bool.or_true, Bool.true_or, Bool.or_false, Bool.false_or, Bool.true_eq_false, Bool.false_eq_true, decide_true, decide_false, reduceCtorEq] at hq_; done) | (rw [decide_eq_false_iff_not] at hq_; omega) | (rw [decide_eq_true_eq] at hq_; omega) | (simp only [e1, e2, e3, e4, e5, reduceCtorEq] at hq_; done) | exact Bool.noConfusion (Eq.trans (Eq.symm e1) hq_) | exact Bool.noConfusion (Eq.trans (Eq.symm e2) hq_) | exact Bool.noConfusion (Eq.trans (Eq.symm e3) hq_) | exact Bool.noConfusion (Eq.trans (Eq.symm e4) hq_) | exact Bool.noConfusion (Eq.trans (Eq.symm e5) hq_)) | skip) | apply guess | exact Or.inl rfl | exact Or.inr rfl | exact Side.mk trivial | exact Side.mk (fun h => h) | exact Side.mk (fun h => ⟨h, h⟩) | with_reducible exact Side.mk rfl | with_reducible exact Side.mk ⟨rfl, rfl⟩ | with_reducible exact Side.mk (by assumption) | with_reducible rfl | intro _)
          all_goals try (conv => whnf)
          all_goals try (refine Side.mk ?_; first | (intros; omega) | (intro h1_ h2_; rw [h1_, h2_]; rfl) | (show List.length (_ ++ _) ≤ _; simp only [List.length_append, List.length_cons, List.length_nil, List.length_replicate, List.length_take]; omega) | (simp_all; done) | (simp_all; omega))
          generalize hw : cnt10 ((bl T).take i) = w at *
          refine loop_at (fun j : Nat => j ≤ w) 6 (fun j => [(16, .int .i64 j), (106, .top), (117, .top)]) (fun j => []) (fun j => w - j) 0 (Nat.zero_le _) ?_ (fun j hj => ?_)
          · repeat' ((conv => whnf); first | done | refine ev_step ?_ | refine ops_step ?_ | refine scan_step ?_ | refine draw_step ?_ | refine each_step ?_ | refine sl_step ?_ | refine hp_step ?_ | refine guard_no (by decide) ?_ | refine guard_go ?_ | refine guard_old ?_ | apply cut_auto | with_reducible exact CutS.mk (Or.inl ⟨rfl, rfl, rfl⟩) | refine CutS.mk (Or.inr (Or.inl (sub_auto ?_))) | exact trivial | refine And.intro ?_ ?_ | refine cond_split ?_ ?_ | apply guess | exact Or.inl rfl | exact Or.inr rfl | exact Side.mk trivial | exact Side.mk (fun h => h) | exact Side.mk (fun h => ⟨h, h⟩) | with_reducible exact Side.mk rfl | with_reducible exact Side.mk ⟨rfl, rfl⟩ | with_reducible exact Side.mk (by assumption) | with_reducible rfl | intro _)
            all_goals try (conv => whnf)
            all_goals first | rfl | trace_state
          · by_cases hlt2 : j < w
            · have g1 : decide ((j : Int) < (w : Int)) = true := decide_eq_true (by omega)
              have g2 : ((R.getD (Int.toNat (j : Int)) ByteArray.empty).toList == (L.getD (Int.toNat (j : Int)) ByteArray.empty).toList) = true := by
                rw [Int.toNat_natCast, w2, getD_take hlt2]; exact beq_self_eq_true _
              repeat' ((conv => whnf); first | done | refine ev_step ?_ | refine ops_step ?_ | refine scan_step ?_ | refine draw_step ?_ | refine each_step ?_ | refine sl_step ?_ | refine hp_step ?_ | refine guard_no (by decide) ?_ | refine guard_go ?_ | refine guard_old ?_ | apply cut_auto | with_reducible exact CutS.mk (Or.inl ⟨rfl, rfl, rfl⟩) | refine CutS.mk (Or.inr (Or.inl (sub_auto ?_))) | exact trivial | refine And.intro ?_ ?_ | (refine cond_split ?_ ?_ <;> intro hq_ <;> first | (exfalso; first | omega | (simp only [g1, g2, cond_true, cond_false, Bool.not_true, Bool.not_false, Bool.and_true, Bool.true_and, Bool.and_false, Bool.false_and, Bool.or_true, Bool.true_or, Bool.or_false, Bool.false_or, Bool.true_eq_false, Bool.false_eq_true, decide_true, decide_false, reduceCtorEq] at hq_; done) | (rw [decide_eq_false_iff_not] at hq_; omega) | (rw [decide_eq_true_eq] at hq_; omega) | (simp only [g1, g2, reduceCtorEq] at hq_; done) | exact Bool.noConfusion (Eq.trans (Eq.symm g1) hq_) | exact Bool.noConfusion (Eq.trans (Eq.symm g2) hq_)) | skip) | apply guess | exact Or.inl rfl | exact Or.inr rfl | exact Side.mk trivial | exact Side.mk (fun h => h) | exact Side.mk (fun h => ⟨h, h⟩) | with_reducible exact Side.mk rfl | with_reducible exact Side.mk ⟨rfl, rfl⟩ | with_reducible exact Side.mk (by assumption) | with_reducible rfl | intro _)
              all_goals try (conv => whnf)
              all_goals try (refine Side.mk ?_; unfold inI64; omega)
              all_goals try (refine Side.mk ?_; rw [Int.toNat_natCast]; omega)
              all_goals try (refine Side.mk ?_; first | (intros; omega) | (intro h1_ h2_; rw [h1_, h2_]; rfl) | (show List.length (_ ++ _) ≤ _; simp only [List.length_append, List.length_cons, List.length_nil, List.length_replicate, List.length_take]; omega) | (simp_all; done) | (simp_all; omega))
              refine ⟨j + 1, by omega, by omega, ?_⟩
              repeat' ((conv => whnf); first | done | refine ev_step ?_ | refine ops_step ?_ | refine scan_step ?_ | refine draw_step ?_ | refine each_step ?_ | refine sl_step ?_ | refine hp_step ?_ | refine guard_no (by decide) ?_ | refine guard_go ?_ | refine guard_old ?_ | apply cut_auto | with_reducible exact CutS.mk (Or.inl ⟨rfl, rfl, rfl⟩) | refine CutS.mk (Or.inr (Or.inl (sub_auto ?_))) | exact trivial | refine And.intro ?_ ?_ | refine cond_split ?_ ?_ | apply guess | exact Or.inl rfl | exact Or.inr rfl | exact Side.mk trivial | exact Side.mk (fun h => h) | exact Side.mk (fun h => ⟨h, h⟩) | with_reducible exact Side.mk rfl | with_reducible exact Side.mk ⟨rfl, rfl⟩ | with_reducible exact Side.mk (by assumption) | with_reducible rfl | intro _)
              all_goals try (conv => whnf)
              all_goals first | rfl | (show _ = _; omega) | trace_state
            · have g1 : decide ((j : Int) < (w : Int)) = false := decide_eq_false (by omega)
              have z0 : (T.extract 0 (Int.toNat (i : Int))).size = i := by rw [Int.toNat_natCast, size_ext (by omega)]; omega
              have z2 : (T.extract (Int.toNat ((i : Int) + 1)) T.size).size = T.size - (i + 1) := by rw [size_ext (Nat.le_refl _)]; omega
              repeat' ((conv => whnf); first | done | refine ev_step ?_ | refine ops_step ?_ | refine scan_step ?_ | refine draw_step ?_ | refine each_step ?_ | refine sl_step ?_ | refine hp_step ?_ | refine guard_no (by decide) ?_ | refine guard_go ?_ | refine guard_old ?_ | with_reducible exact CutS.mk (Or.inl ⟨rfl, rfl, rfl⟩) | refine CutS.mk (Or.inr (Or.inl (sub_auto ?_))) | exact trivial | refine And.intro ?_ ?_ | (refine cond_split ?_ ?_ <;> intro hq_ <;> first | (exfalso; first | omega | (simp only [g1, cond_true, cond_false, Bool.not_true, Bool.not_false, Bool.and_true, Bool.true_and, Bool.and_false, Bool.false_and, Bool.or_true, Bool.true_or, Bool.or_false, Bool.false_or, Bool.true_eq_false, Bool.false_eq_true, decide_true, decide_false, reduceCtorEq] at hq_; done) | (rw [decide_eq_false_iff_not] at hq_; omega) | (rw [decide_eq_true_eq] at hq_; omega) | (simp only [g1, reduceCtorEq] at hq_; done) | exact Bool.noConfusion (Eq.trans (Eq.symm g1) hq_)) | skip) | apply guess | exact Or.inl rfl | exact Or.inr rfl | exact Side.mk trivial | exact Side.mk (fun h => h) | exact Side.mk (fun h => ⟨h, h⟩) | with_reducible exact Side.mk rfl | with_reducible exact Side.mk ⟨rfl, rfl⟩ | with_reducible exact Side.mk (by assumption) | with_reducible rfl | intro _)
              conv => whnf
              refine CutG.mk (Or.inl ?_)
              repeat' ((conv => whnf); first | done | refine ev_step ?_ | refine ops_step ?_ | refine scan_step ?_ | refine draw_step ?_ | refine each_step ?_ | refine sl_step ?_ | refine hp_step ?_ | refine guard_no (by decide) ?_ | refine guard_go ?_ | refine guard_old ?_ | with_reducible exact CutS.mk (Or.inl ⟨rfl, rfl, rfl⟩) | refine CutS.mk (Or.inr (Or.inl (sub_auto ?_))) | exact trivial | refine And.intro ?_ ?_ | (refine cond_split ?_ ?_ <;> intro hq_ <;> first | (exfalso; first | omega | (simp only [g1, cond_true, cond_false, Bool.not_true, Bool.not_false, Bool.and_true, Bool.true_and, Bool.and_false, Bool.false_and, Bool.or_true, Bool.true_or, Bool.or_false, Bool.false_or, Bool.true_eq_false, Bool.false_eq_true, decide_true, decide_false, reduceCtorEq] at hq_; done) | (rw [decide_eq_false_iff_not] at hq_; omega) | (rw [decide_eq_true_eq] at hq_; omega) | (simp only [g1, reduceCtorEq] at hq_; done) | exact Bool.noConfusion (Eq.trans (Eq.symm g1) hq_)) | skip) | apply guess | apply FnEx.useF (k_b10AtJ cs _ _ _) | exact Or.inl rfl | exact Or.inr rfl | exact Side.mk trivial | exact Side.mk (fun h => h) | exact Side.mk (fun h => ⟨h, h⟩) | with_reducible exact Side.mk rfl | with_reducible exact Side.mk ⟨rfl, rfl⟩ | with_reducible exact Side.mk (by assumption) | with_reducible rfl | intro _)
              all_goals try exact Side.mk ⟨hc, by omega, by omega, by omega, by omega⟩
              all_goals try (refine Side.mk ?_; first | (intros; omega) | (intro h1_ h2_; rw [h1_, h2_]; rfl) | (show List.length (_ ++ _) ≤ _; simp only [List.length_append, List.length_cons, List.length_nil, List.length_replicate, List.length_take]; omega) | (simp_all; done) | (simp_all; omega))
              all_goals try (refine Side.mk ?_; first | (rw [bl_size_app, z0, z2]; simp only [bsz1]; omega) | (rw [z0]; simp only [bsz1]; omega))
              rename_i z hz
              have z1 : (strOfNums [IntKind.u8.wrap z]).size = 1 := bsz1 _
              have hB1 : (T.extract 0 (Int.toNat (i : Int)) ++ strOfNums [IntKind.u8.wrap z] ++ T.extract (Int.toNat ((i : Int) + 1)) T.size).size = T.size := by
                rw [bl_size_app, bl_size_app, z0, z1, z2]; omega
              have hB2 : n ≤ (recT (T.extract 0 (Int.toNat (i : Int)) ++ strOfNums [IntKind.u8.wrap z] ++ T.extract (Int.toNat ((i : Int) + 1)) T.size)).2 := by
                have := recT_app P (strOfNums [IntKind.u8.wrap z] ++ T.extract (Int.toNat ((i : Int) + 1)) T.size)
                rw [hRn, hP] at this
                rw [ba_assoc, Int.toNat_natCast]
                exact this
              generalize T.extract 0 (Int.toNat (i : Int)) ++ strOfNums [IntKind.u8.wrap z] ++ T.extract (Int.toNat ((i : Int) + 1)) T.size = B at *
              have kR2 := k_RecoverOk B ⟨by omega⟩
              obtain ⟨s1, s2, s3⟩ := recT_jour B
              have s4 := recT_ok (u := B) (by omega)
              have s6 := recT_sz B (by omega)
              have kU2 := k_JournalIs s4 s2 ⟨s6⟩
              generalize hRm : recT B = Rm at *
              obtain ⟨R', m⟩ := Rm
              dsimp only at *
              have v1 : decide ((n : Int) ≤ (m : Int)) = true := decide_eq_true (by omega)
              have v2 : decide ((m : Int) ≤ (B.size : Int)) = true := decide_eq_true (by omega)
              have v3 : ((B.extract 0 m).toList == (B.extract 0 (Int.toNat (m : Int))).toList) = true := by rw [Int.toNat_natCast]; exact beq_self_eq_true _
              repeat' ((conv => whnf); first | done | refine ev_step ?_ | refine ops_step ?_ | refine scan_step ?_ | refine draw_step ?_ | refine each_step ?_ | refine sl_step ?_ | refine hp_step ?_ | refine guard_no (by decide) ?_ | refine guard_go ?_ | refine guard_old ?_ | apply cut_auto | with_reducible exact CutS.mk (Or.inl ⟨rfl, rfl, rfl⟩) | refine CutS.mk (Or.inr (Or.inl (sub_auto ?_))) | exact trivial | refine And.intro ?_ ?_ | (refine cond_split ?_ ?_ <;> intro hq_ <;> first | (exfalso; first | omega | (simp only [v1, v2, v3, cond_true, cond_false, Bool.not_true, Bool.not_false, Bool.and_true, Bool.true_and, Bool.and_false, Bool.false_and, Bool.or_true, Bool.true_or, Bool.or_false, Bool.false_or, Bool.true_eq_false, Bool.false_eq_true, decide_true, decide_false, reduceCtorEq] at hq_; done) | (rw [decide_eq_false_iff_not] at hq_; omega) | (rw [decide_eq_true_eq] at hq_; omega) | (simp only [v1, v2, v3, reduceCtorEq] at hq_; done) | exact Bool.noConfusion (Eq.trans (Eq.symm v1) hq_) | exact Bool.noConfusion (Eq.trans (Eq.symm v2) hq_) | exact Bool.noConfusion (Eq.trans (Eq.symm v3) hq_)) | skip) | apply guess | apply FnIs.useF (kR2) | apply FnIs.useF (kU2) | exact Or.inl rfl | exact Or.inr rfl | exact Side.mk trivial | exact Side.mk (fun h => h) | exact Side.mk (fun h => ⟨h, h⟩) | with_reducible exact Side.mk rfl | with_reducible exact Side.mk ⟨rfl, rfl⟩ | with_reducible exact Side.mk (by assumption) | with_reducible rfl | intro _)
              all_goals try (conv => whnf)
              all_goals try (refine Side.mk ?_; first | (intros; omega) | (intro h1_ h2_; rw [h1_, h2_]; rfl) | (show List.length (_ ++ _) ≤ _; simp only [List.length_append, List.length_cons, List.length_nil, List.length_replicate, List.length_take]; omega) | (simp_all; done) | (simp_all; omega))
              rw [v1, v2, v3]
              rfl
  · rw [show (decide (1048576 < (bs.length : Int)) || decide (1048576 < (cs.length : Int))) = true by rw [Bool.or_eq_true, decide_eq_true_eq, decide_eq_true_eq]; omega] at k0
    repeat' ((conv => whnf); first | done | refine ev_step ?_ | refine ops_step ?_ | refine scan_step ?_ | refine draw_step ?_ | refine each_step ?_ | refine sl_step ?_ | refine hp_step ?_ | refine guard_no (by decide) ?_ | refine guard_go ?_ | refine guard_old ?_ | apply cut_auto | with_reducible exact CutS.mk (Or.inl ⟨rfl, rfl, rfl⟩) | refine CutS.mk (Or.inr (Or.inl (sub_auto ?_))) | exact trivial | refine And.intro ?_ ?_ | (refine cond_split ?_ ?_ <;> intro _ <;> first | (exfalso; first | omega | (simp only [decide_eq_true_eq, decide_eq_false_iff_not, Bool.not_eq_true', Bool.not_eq_false', ne_eq, Bool.not_true, Bool.not_false, cond_true, cond_false, Bool.true_eq_false, Bool.false_eq_true, Bool.and_eq_true, Bool.and_eq_false_iff] at *; omega)) | skip) | apply guess | apply FnIs.useF (k0) | exact Or.inl rfl | exact Or.inr rfl | exact Side.mk trivial | exact Side.mk (fun h => h) | exact Side.mk (fun h => ⟨h, h⟩) | with_reducible exact Side.mk rfl | with_reducible exact Side.mk ⟨rfl, rfl⟩ | with_reducible exact Side.mk (by assumption) | with_reducible rfl | intro _)
    all_goals try (conv => whnf)
    all_goals first | rfl | omega | trace_state
end Go.Sx.U
