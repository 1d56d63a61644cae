/-
  Chapter 10: the program's first order.
-/
import Derived.Test.YtjojnolcohjebaaC20
namespace Go.Sx.U
set_option linter.unusedVariables false
set_option linter.unusedSimpArgs false
set_option maxRecDepth 100000
set_option maxHeartbeats 8000000
open Go Go.Sx Go.Proofs Go.Sx.M0

theorem meas_le {st : List (R3 × Int × Nat)} {seen : List Nat} {b : Nat} : (st.filter fun y => decide (y.2.2 ∉ b :: seen)).length ≤ (st.filter fun y => decide (y.2.2 ∉ seen)).length := by
  induction st with
  | nil => exact Nat.le_refl _
  | cons z r ih =>
    simp only [List.filter_cons]
    by_cases h1 : z.2.2 ∈ seen
    · rw [decide_eq_false (show ¬ z.2.2 ∉ seen from fun h => h h1), decide_eq_false (show ¬ z.2.2 ∉ b :: seen from fun h => h (List.mem_cons_of_mem _ h1))]
      simpa using ih
    · rw [decide_eq_true h1]
      by_cases h2 : z.2.2 ∉ b :: seen
      · rw [decide_eq_true h2]
        simpa using ih
      · rw [decide_eq_false h2]
        simp only [if_true, Bool.false_eq_true, if_false, List.length_cons]
        omega
theorem meas_lt {st : List (R3 × Int × Nat)} {seen : List Nat} {x : R3 × Int × Nat} (hx : x ∈ st) (hs : x.2.2 ∉ seen) : (st.filter fun y => decide (y.2.2 ∉ x.2.2 :: seen)).length < (st.filter fun y => decide (y.2.2 ∉ seen)).length := by
  induction st with
  | nil => cases hx
  | cons z r ih =>
    simp only [List.filter_cons]
    rcases List.mem_cons.1 hx with h | h
    · subst h
      rw [decide_eq_true hs, decide_eq_false (show ¬ x.2.2 ∉ x.2.2 :: seen from fun h => h List.mem_cons_self)]
      have := meas_le (st := r) (seen := seen) (b := x.2.2)
      simp only [if_true, Bool.false_eq_true, if_false, List.length_cons]
      omega
    · have ih := ih h
      by_cases h1 : z.2.2 ∈ seen
      · rw [decide_eq_false (show ¬ z.2.2 ∉ seen from fun h => h h1), decide_eq_false (show ¬ z.2.2 ∉ x.2.2 :: seen from fun h => h (List.mem_cons_of_mem _ h1))]
        simpa using ih
      · rw [decide_eq_true h1]
        by_cases h2 : z.2.2 ∉ x.2.2 :: seen
        · rw [decide_eq_true h2]
          simpa using ih
        · rw [decide_eq_false h2]
          simp only [if_true, Bool.false_eq_true, if_false, List.length_cons]
          omega
theorem NX.none {W : List (List Int)} {e : Int} {m : Nat} {P : Nat → Nat → Prop} (h : ∀ a b, ¬ P a b) : NX W e m P W.length [] :=
  ⟨Nat.le_refl _, fun w k hp => (h w k hp).elim, fun hl => by omega, fun x hx => (List.not_mem_nil hx).elim, fun k hp => (h _ k hp).elim⟩
theorem k_order (W : List (List Int)) (hW : okW W) (e : Int) (cnt : Nat) (first : Int) (bs : List Nat) (c : Nat) (kvs : List (R3 × Int × Nat)) (hc : cnt ≤ 8) (h0 : 0 ≤ begL W e cnt first) (hM : MemoOk W e kvs) (hbl : bs.length ≤ 9) (hbs : ∀ i, i < bs.length → bs.getD i 0 < W.length)
    (hmem : ∀ v, (v < W.length ∧ (first < 0 ∨ (v : Int) = first)) ↔ ∃ i, i < bs.length ∧ bs.getD i 0 = v) (hsort : ∀ i j, i < j → j < bs.length → bs.getD i 0 < bs.getD j 0) :
    FnEx Try.prog 71 [.ptr 3 [] 0 0, .sl 5 [], .int .i64 cnt] 6 (planH W e c kvs ++ [(5, .flat false (.ints .i64 (natL bs)))]) (fun _ : Nat × List (R3 × Int × Nat) => True) (fun _ => .tuple [.sl 6 [], .int .i64 (begL W e cnt first), .bool true]) 7 (fun a => [(4, .mp (.r3 a.1 a.2)), (6, .flat true (.ints .i64 (folO W e cnt first)))]) := by
  have hn := hW.1
  have hP := pow9 hn.2
  have hbn := natL_len bs
  refine ex_of_evk [0, 1, 2, 3, 6, 7, 8, 9, 10, 12, 13, 14, 15, 16, 17, 18, 19, 20, 21, 22, 23, 43, 48, 69, 80, 82] tok Try.func71 rfl rfl rfl ?_
  repeat' ((conv => whnf); first | done | refine ev_step ?_ | refine ops_step ?_ | refine scan_step ?_ | refine draw_step ?_ | refine each_step ?_ | refine sl_step ?_ | refine hp_step ?_ | refine guard_no (by decide) ?_ | refine guard_go ?_ | refine guard_old ?_ | apply cut_auto | with_reducible exact CutS.mk (Or.inl ⟨rfl, rfl, rfl⟩) | refine CutS.mk (Or.inr (sub_auto ?_)) | exact trivial | refine And.intro ?_ ?_ | (refine cond_split ?_ ?_ <;> intro _ <;> first | (exfalso; first | omega | (simp only [decide_eq_true_eq, decide_eq_false_iff_not, Bool.not_eq_true', Bool.not_eq_false', ne_eq, Bool.not_true, Bool.not_false, cond_true, cond_false, Bool.true_eq_false, Bool.false_eq_true, Bool.and_eq_true, Bool.and_eq_false_iff] at *; omega)) | skip) | apply guess | exact Or.inl rfl | exact Or.inr rfl | exact Side.mk trivial | exact Side.mk (fun h => h) | exact Side.mk (fun h => ⟨h, h⟩) | with_reducible exact Side.mk rfl | with_reducible exact Side.mk ⟨rfl, rfl⟩ | with_reducible exact Side.mk (by assumption) | with_reducible rfl | intro _)
  all_goals try (conv => whnf)
  all_goals try (refine Side.mk ?_; first | (intros; omega) | (intro h1_ h2_; rw [h1_, h2_]; rfl) | (show List.length (_ ++ _) ≤ _; simp only [List.length_append, List.length_cons, List.length_nil, List.length_replicate, List.length_take]; omega) | (simp_all; done) | (simp_all; omega))
  refine loop_at (fun a : Nat × Int × Nat × Nat × List (R3 × Int × Nat) => a.1 ≤ bs.length ∧ BegP W e cnt bs a.1 a.2.1 a.2.2.1 ∧ (-1 ≤ a.2.1 ∧ a.2.1 ≤ 9000) ∧ MemoOk W e a.2.2.2.2) 7 (fun a => [(22, .int .i64 a.1), (9, .int .i64 a.2.1), (10, .int .i64 a.2.2.1), (12, .top), (13, .top)]) (fun a => [(4, .mp (.r3 a.2.2.2.1 a.2.2.2.2))]) (fun a => bs.length - a.1) (0, -1, 0, c, kvs) ⟨Nat.zero_le _, BegP.zero _ _ _ _ _, by dsimp only; omega, hM⟩ ?_ (fun a ha => ?_)
  · repeat' ((conv => whnf); first | done | refine ev_step ?_ | refine ops_step ?_ | refine scan_step ?_ | refine draw_step ?_ | refine each_step ?_ | refine sl_step ?_ | refine hp_step ?_ | refine guard_no (by decide) ?_ | refine guard_go ?_ | refine guard_old ?_ | apply cut_auto | with_reducible exact CutS.mk (Or.inl ⟨rfl, rfl, rfl⟩) | refine CutS.mk (Or.inr (sub_auto ?_)) | exact trivial | refine And.intro ?_ ?_ | refine cond_split ?_ ?_ | apply guess | exact Or.inl rfl | exact Or.inr rfl | exact Side.mk trivial | exact Side.mk (fun h => h) | exact Side.mk (fun h => ⟨h, h⟩) | with_reducible exact Side.mk rfl | with_reducible exact Side.mk ⟨rfl, rfl⟩ | with_reducible exact Side.mk (by assumption) | with_reducible rfl | intro _)
    all_goals try (conv => whnf)
    all_goals first | rfl | trace_state
  · obtain ⟨j, best, w, c2, kvs2⟩ := a
    obtain ⟨hj, hB, hbb, hM2⟩ := ha
    dsimp only at hj hB hbb hM2 ⊢
    by_cases hj2 : j < bs.length
    · have hw := hbs j hj2
      have hget : (natL bs).getD (j : Int).toNat 0 = ((bs.getD j 0 : Nat) : Int) := natL_get hj2
      have hsh : shlI .i64 1 ((natL bs).getD (j : Int).toNat 0) = ((2 ^ bs.getD j 0 : Nat) : Int) := by rw [hget]; exact b_shl (by omega)
      have hpj : 2 ^ bs.getD j 0 < 2 ^ W.length := Nat.pow_lt_pow_right (by omega) hw
      have hrb := Lt_bd9 hW (e := e) (m := 2 ^ bs.getD j 0) (k := cnt) hw
      have k1 := k_left W hW e _ (2 ^ bs.getD j 0) (bs.getD j 0) cnt c2 kvs2 hpj hw hc rfl hM2
      have htake := hB.take
      have hpass := hB.pass
      generalize hrr : Lt W e (2 ^ bs.getD j 0) (bs.getD j 0) cnt = r at k1 hrb htake hpass
      unfold tsk at k1
      rw [← hsh, ← hget] at k1
      have hcv : (bif decide (0 ≤ r) then bif decide (best < 0) then true else decide (r < best) else false) = decide (0 ≤ r ∧ (best < 0 ∨ r < best)) := by
        by_cases h1 : 0 ≤ r <;> by_cases h2 : best < 0 <;> simp [h1, h2]
      by_cases hq : 0 ≤ r ∧ (best < 0 ∨ r < best)
      · rw [decide_eq_true hq] at hcv
        repeat' ((conv => whnf); first | done | refine ev_step ?_ | refine ops_step ?_ | refine scan_step ?_ | refine draw_step ?_ | refine each_step ?_ | refine sl_step ?_ | refine hp_step ?_ | refine guard_no (by decide) ?_ | refine guard_go ?_ | refine guard_old ?_ | with_reducible exact CutS.mk (Or.inl ⟨rfl, rfl, rfl⟩) | refine CutS.mk (Or.inr (sub_auto ?_)) | exact trivial | refine And.intro ?_ ?_ | (refine cond_split ?_ ?_ <;> intro hq_ <;> first | (exfalso; first | omega | (simp only [hcv, cond_true, cond_false, Bool.not_true, Bool.not_false, Bool.and_true, Bool.true_and, Bool.and_false, Bool.false_and, Bool.or_true, Bool.true_or, Bool.or_false, Bool.false_or, Bool.true_eq_false, Bool.false_eq_true, decide_true, decide_false, reduceCtorEq] at hq_; done) | (rw [decide_eq_false_iff_not] at hq_; omega) | (rw [decide_eq_true_eq] at hq_; omega) | (simp only [hcv, reduceCtorEq] at hq_; done) | exact Bool.noConfusion (Eq.trans (Eq.symm hcv) hq_)) | skip) | apply guess | exact Or.inl rfl | exact Or.inr rfl | exact Side.mk trivial | exact Side.mk (fun h => h) | exact Side.mk (fun h => ⟨h, h⟩) | with_reducible exact Side.mk rfl | with_reducible exact Side.mk ⟨rfl, rfl⟩ | with_reducible exact Side.mk (by assumption) | with_reducible rfl | intro _)
        all_goals try (refine Side.mk ?_; first | (intros; omega) | (intro h1_ h2_; rw [h1_, h2_]; rfl) | (show List.length (_ ++ _) ≤ _; simp only [List.length_append, List.length_cons, List.length_nil, List.length_replicate, List.length_take]; omega) | (simp_all; done) | (simp_all; omega))
        all_goals try omega
        conv => whnf
        refine CutG.mk (Or.inl ?_)
        repeat' ((conv => whnf); first | done | refine ev_step ?_ | refine ops_step ?_ | refine scan_step ?_ | refine draw_step ?_ | refine each_step ?_ | refine sl_step ?_ | refine hp_step ?_ | refine guard_no (by decide) ?_ | refine guard_go ?_ | refine guard_old ?_ | with_reducible exact CutS.mk (Or.inl ⟨rfl, rfl, rfl⟩) | refine CutS.mk (Or.inr (sub_auto ?_)) | exact trivial | refine And.intro ?_ ?_ | (refine cond_split ?_ ?_ <;> intro hq_ <;> first | (exfalso; first | omega | (simp only [hcv, cond_true, cond_false, Bool.not_true, Bool.not_false, Bool.and_true, Bool.true_and, Bool.and_false, Bool.false_and, Bool.or_true, Bool.true_or, Bool.or_false, Bool.false_or, Bool.true_eq_false, Bool.false_eq_true, decide_true, decide_false, reduceCtorEq] at hq_; done) | (rw [decide_eq_false_iff_not] at hq_; omega) | (rw [decide_eq_true_eq] at hq_; omega) | (simp only [hcv, reduceCtorEq] at hq_; done) | exact Bool.noConfusion (Eq.trans (Eq.symm hcv) hq_)) | skip) | apply guess | apply FnEx.useF (k1) | exact Or.inl rfl | exact Or.inr rfl | exact Side.mk trivial | exact Side.mk (fun h => h) | exact Side.mk (fun h => ⟨h, h⟩) | with_reducible exact Side.mk rfl | with_reducible exact Side.mk ⟨rfl, rfl⟩ | with_reducible exact Side.mk (by assumption) | with_reducible rfl | intro _)
        all_goals try (refine Side.mk ?_; first | (intros; omega) | (intro h1_ h2_; rw [h1_, h2_]; rfl) | (show List.length (_ ++ _) ≤ _; simp only [List.length_append, List.length_cons, List.length_nil, List.length_replicate, List.length_take]; omega) | (simp_all; done) | (simp_all; omega))
        all_goals try omega
        rename_i a ha
        refine ⟨(j + 1, r, bs.getD j 0, a.1, a.2), ⟨by dsimp only; omega, htake hq.1 hq.2, by dsimp only; omega, ha⟩, by dsimp only; omega, ?_⟩
        repeat' ((conv => whnf); first | done | refine ev_step ?_ | refine ops_step ?_ | refine scan_step ?_ | refine draw_step ?_ | refine each_step ?_ | refine sl_step ?_ | refine hp_step ?_ | refine guard_no (by decide) ?_ | refine guard_go ?_ | refine guard_old ?_ | apply cut_auto | with_reducible exact CutS.mk (Or.inl ⟨rfl, rfl, rfl⟩) | refine CutS.mk (Or.inr (sub_auto ?_)) | exact trivial | refine And.intro ?_ ?_ | refine cond_split ?_ ?_ | apply guess | exact Or.inl rfl | exact Or.inr rfl | exact Side.mk trivial | exact Side.mk (fun h => h) | exact Side.mk (fun h => ⟨h, h⟩) | with_reducible exact Side.mk rfl | with_reducible exact Side.mk ⟨rfl, rfl⟩ | with_reducible exact Side.mk (by assumption) | with_reducible rfl | intro _)
        all_goals try (conv => whnf)
        all_goals first | rfl | omega | exact hget.symm | trace_state
      · rw [decide_eq_false hq] at hcv
        repeat' ((conv => whnf); first | done | refine ev_step ?_ | refine ops_step ?_ | refine scan_step ?_ | refine draw_step ?_ | refine each_step ?_ | refine sl_step ?_ | refine hp_step ?_ | refine guard_no (by decide) ?_ | refine guard_go ?_ | refine guard_old ?_ | with_reducible exact CutS.mk (Or.inl ⟨rfl, rfl, rfl⟩) | refine CutS.mk (Or.inr (sub_auto ?_)) | exact trivial | refine And.intro ?_ ?_ | (refine cond_split ?_ ?_ <;> intro hq_ <;> first | (exfalso; first | omega | (simp only [hcv, cond_true, cond_false, Bool.not_true, Bool.not_false, Bool.and_true, Bool.true_and, Bool.and_false, Bool.false_and, Bool.or_true, Bool.true_or, Bool.or_false, Bool.false_or, Bool.true_eq_false, Bool.false_eq_true, decide_true, decide_false, reduceCtorEq] at hq_; done) | (rw [decide_eq_false_iff_not] at hq_; omega) | (rw [decide_eq_true_eq] at hq_; omega) | (simp only [hcv, reduceCtorEq] at hq_; done) | exact Bool.noConfusion (Eq.trans (Eq.symm hcv) hq_)) | skip) | apply guess | exact Or.inl rfl | exact Or.inr rfl | exact Side.mk trivial | exact Side.mk (fun h => h) | exact Side.mk (fun h => ⟨h, h⟩) | with_reducible exact Side.mk rfl | with_reducible exact Side.mk ⟨rfl, rfl⟩ | with_reducible exact Side.mk (by assumption) | with_reducible rfl | intro _)
        all_goals try (refine Side.mk ?_; first | (intros; omega) | (intro h1_ h2_; rw [h1_, h2_]; rfl) | (show List.length (_ ++ _) ≤ _; simp only [List.length_append, List.length_cons, List.length_nil, List.length_replicate, List.length_take]; omega) | (simp_all; done) | (simp_all; omega))
        all_goals try omega
        conv => whnf
        refine CutG.mk (Or.inl ?_)
        repeat' ((conv => whnf); first | done | refine ev_step ?_ | refine ops_step ?_ | refine scan_step ?_ | refine draw_step ?_ | refine each_step ?_ | refine sl_step ?_ | refine hp_step ?_ | refine guard_no (by decide) ?_ | refine guard_go ?_ | refine guard_old ?_ | with_reducible exact CutS.mk (Or.inl ⟨rfl, rfl, rfl⟩) | refine CutS.mk (Or.inr (sub_auto ?_)) | exact trivial | refine And.intro ?_ ?_ | (refine cond_split ?_ ?_ <;> intro hq_ <;> first | (exfalso; first | omega | (simp only [hcv, cond_true, cond_false, Bool.not_true, Bool.not_false, Bool.and_true, Bool.true_and, Bool.and_false, Bool.false_and, Bool.or_true, Bool.true_or, Bool.or_false, Bool.false_or, Bool.true_eq_false, Bool.false_eq_true, decide_true, decide_false, reduceCtorEq] at hq_; done) | (rw [decide_eq_false_iff_not] at hq_; omega) | (rw [decide_eq_true_eq] at hq_; omega) | (simp only [hcv, reduceCtorEq] at hq_; done) | exact Bool.noConfusion (Eq.trans (Eq.symm hcv) hq_)) | skip) | apply guess | apply FnEx.useF (k1) | exact Or.inl rfl | exact Or.inr rfl | exact Side.mk trivial | exact Side.mk (fun h => h) | exact Side.mk (fun h => ⟨h, h⟩) | with_reducible exact Side.mk rfl | with_reducible exact Side.mk ⟨rfl, rfl⟩ | with_reducible exact Side.mk (by assumption) | with_reducible rfl | intro _)
        all_goals try (refine Side.mk ?_; first | (intros; omega) | (intro h1_ h2_; rw [h1_, h2_]; rfl) | (show List.length (_ ++ _) ≤ _; simp only [List.length_append, List.length_cons, List.length_nil, List.length_replicate, List.length_take]; omega) | (simp_all; done) | (simp_all; omega))
        all_goals try omega
        rename_i a ha
        refine ⟨(j + 1, best, w, a.1, a.2), ⟨by dsimp only; omega, hpass hq, by dsimp only; omega, ha⟩, by dsimp only; omega, ?_⟩
        repeat' ((conv => whnf); first | done | refine ev_step ?_ | refine ops_step ?_ | refine scan_step ?_ | refine draw_step ?_ | refine each_step ?_ | refine sl_step ?_ | refine hp_step ?_ | refine guard_no (by decide) ?_ | refine guard_go ?_ | refine guard_old ?_ | apply cut_auto | with_reducible exact CutS.mk (Or.inl ⟨rfl, rfl, rfl⟩) | refine CutS.mk (Or.inr (sub_auto ?_)) | exact trivial | refine And.intro ?_ ?_ | refine cond_split ?_ ?_ | apply guess | exact Or.inl rfl | exact Or.inr rfl | exact Side.mk trivial | exact Side.mk (fun h => h) | exact Side.mk (fun h => ⟨h, h⟩) | with_reducible exact Side.mk rfl | with_reducible exact Side.mk ⟨rfl, rfl⟩ | with_reducible exact Side.mk (by assumption) | with_reducible rfl | intro _)
        all_goals try (conv => whnf)
        all_goals first | rfl | omega | trace_state
    · obtain rfl : j = bs.length := by omega
      obtain ⟨hb1, hb2⟩ := hB.fin hmem hsort
      obtain ⟨hw, hg, hgb⟩ := hb2 (by omega)
      have hF := FolP.start h0 hw hg hgb
      have hLb : Lt W e (2 ^ w) w cnt = best := by
        unfold begB at hg
        rw [Bool.and_eq_true, decide_eq_true_eq, decide_eq_true_eq] at hg
        rw [hg.2, hb1]
      have hshw : shlI .i64 1 (w : Int) = ((2 ^ w : Nat) : Int) := b_shl (by omega)
      have hks : ok64 (shlI .i64 1 (w : Int)) ∧ ok64 (w : Int) ∧ ok64 (cnt : Int) := by
        have h1 : 2 ^ w < 2 ^ W.length := Nat.pow_lt_pow_right (by omega) hw
        unfold ok64; rw [hshw]
        generalize 2 ^ w = q at h1 ⊢
        omega
      repeat' ((conv => whnf); first | done | refine ev_step ?_ | refine ops_step ?_ | refine scan_step ?_ | refine draw_step ?_ | refine each_step ?_ | refine sl_step ?_ | refine hp_step ?_ | refine guard_no (by decide) ?_ | refine guard_go ?_ | refine guard_old ?_ | apply cut_auto | with_reducible exact CutS.mk (Or.inl ⟨rfl, rfl, rfl⟩) | refine CutS.mk (Or.inr (sub_auto ?_)) | exact trivial | refine And.intro ?_ ?_ | (refine cond_split ?_ ?_ <;> intro _ <;> first | (exfalso; first | omega | (simp only [decide_eq_true_eq, decide_eq_false_iff_not, Bool.not_eq_true', Bool.not_eq_false', ne_eq, Bool.not_true, Bool.not_false, cond_true, cond_false, Bool.true_eq_false, Bool.false_eq_true, Bool.and_eq_true, Bool.and_eq_false_iff] at *; omega)) | skip) | apply guess | exact Or.inl rfl | exact Or.inr rfl | exact Side.mk trivial | exact Side.mk (fun h => h) | exact Side.mk (fun h => ⟨h, h⟩) | with_reducible exact Side.mk rfl | with_reducible exact Side.mk ⟨rfl, rfl⟩ | with_reducible exact Side.mk (by assumption) | with_reducible rfl | intro _)
      all_goals try (conv => whnf)
      all_goals try (first | exact Side.mk hks | exact hks)
      all_goals try (refine Side.mk ?_; first | (intros; omega) | (intro h1_ h2_; rw [h1_, h2_]; rfl) | (show List.length (_ ++ _) ≤ _; simp only [List.length_append, List.length_cons, List.length_nil, List.length_replicate, List.length_take]; omega) | (simp_all; done) | (simp_all; omega))
      have hS : StP W e (2 ^ w) w (put3 0 [] ⟨shlI .i64 1 (w : Int), (w : Int), (cnt : Int)⟩ best) [cnt] := by
        refine ⟨fun x hx => ⟨cnt, List.mem_singleton.2 rfl, ?_⟩, fun k hk => ?_⟩
        · rcases mput_mem hx with rfl | hx
          · exact ⟨by rw [hshw], hLb.symm⟩
          · exact (List.not_mem_nil hx).elim
        · rw [List.mem_singleton.1 hk, ← hshw]
          exact mput_has
      refine loop_at (fun a : List Int × Nat × Nat × List Nat × (Nat × List (R3 × Int × Nat)) × Nat × List (R3 × Int × Nat) => FolP W e cnt (folO W e cnt first) a.1 a.2.1 a.2.2.1 a.2.2.2.1 ∧ StP W e a.2.1 a.2.2.1 a.2.2.2.2.1.2 a.2.2.2.1 ∧ MemoOk W e a.2.2.2.2.2.2) 9 (fun a => [(14, .sl 7 []), (15, .map 8), (16, .top), (17, .top), (18, .top), (19, .top), (69, .top), (80, .top), (82, .top)]) (fun a => [(7, .flat true (.ints .i64 a.1)), (8, .mp (.r3 a.2.2.2.2.1.1 a.2.2.2.2.1.2)), (4, .mp (.r3 a.2.2.2.2.2.1 a.2.2.2.2.2.2))]) (fun a => W.length - a.1.length) ([(w : Int)], 2 ^ w, w, [cnt], (clk3 0 [] ⟨shlI .i64 1 (w : Int), (w : Int), (cnt : Int)⟩, put3 0 [] ⟨shlI .i64 1 (w : Int), (w : Int), (cnt : Int)⟩ best), c2, kvs2) ⟨hF, hS, hM2⟩ ?_ (fun a ha => ?_)
      · repeat' ((conv => whnf); first | done | refine ev_step ?_ | refine ops_step ?_ | refine scan_step ?_ | refine draw_step ?_ | refine each_step ?_ | refine sl_step ?_ | refine hp_step ?_ | refine guard_no (by decide) ?_ | refine guard_go ?_ | refine guard_old ?_ | apply cut_auto | with_reducible exact CutS.mk (Or.inl ⟨rfl, rfl, rfl⟩) | refine CutS.mk (Or.inr (sub_auto ?_)) | exact trivial | refine And.intro ?_ ?_ | refine cond_split ?_ ?_ | apply guess | exact Or.inl rfl | exact Or.inr rfl | exact Side.mk trivial | exact Side.mk (fun h => h) | exact Side.mk (fun h => ⟨h, h⟩) | with_reducible exact Side.mk rfl | with_reducible exact Side.mk ⟨rfl, rfl⟩ | with_reducible exact Side.mk (by assumption) | with_reducible rfl | intro _)
        all_goals try (conv => whnf)
        all_goals first | rfl | trace_state
      · obtain ⟨o, m, l, K, ⟨cs, st⟩, c3, kvs3⟩ := a
        obtain ⟨hF2, hS2, hM3⟩ := ha
        dsimp only at hF2 hS2 hM3 ⊢
        have hlen := hF2.len
        by_cases ho : o.length < W.length
        · repeat' ((conv => whnf); first | done | refine ev_step ?_ | refine ops_step ?_ | refine scan_step ?_ | refine draw_step ?_ | refine each_step ?_ | refine sl_step ?_ | refine hp_step ?_ | refine guard_no (by decide) ?_ | refine guard_go ?_ | refine guard_old ?_ | apply cut_auto | with_reducible exact CutS.mk (Or.inl ⟨rfl, rfl, rfl⟩) | refine CutS.mk (Or.inr (sub_auto ?_)) | exact trivial | refine And.intro ?_ ?_ | (refine cond_split ?_ ?_ <;> intro _ <;> first | (exfalso; first | omega | (simp only [decide_eq_true_eq, decide_eq_false_iff_not, Bool.not_eq_true', Bool.not_eq_false', ne_eq, Bool.not_true, Bool.not_false, cond_true, cond_false, Bool.true_eq_false, Bool.false_eq_true, Bool.and_eq_true, Bool.and_eq_false_iff] at *; omega)) | skip) | apply guess | exact Or.inl rfl | exact Or.inr rfl | exact Side.mk trivial | exact Side.mk (fun h => h) | exact Side.mk (fun h => ⟨h, h⟩) | with_reducible exact Side.mk rfl | with_reducible exact Side.mk ⟨rfl, rfl⟩ | with_reducible exact Side.mk (by assumption) | with_reducible rfl | intro _)
          all_goals try (conv => whnf)
          all_goals try (refine Side.mk ?_; first | (intros; omega) | (intro h1_ h2_; rw [h1_, h2_]; rfl) | (show List.length (_ ++ _) ≤ _; simp only [List.length_append, List.length_cons, List.length_nil, List.length_replicate, List.length_take]; omega) | (simp_all; done) | (simp_all; omega))
          refine loop_at (fun b : List Nat × Option (R3 × Int × Nat) × (Nat × List (R3 × Int × Nat)) × Nat × Nat × List (R3 × Int × Nat) => MemoOk W e b.2.2.1.2 ∧ NX W e m (PS W e m l st b.1) b.2.2.2.1 b.2.2.2.2.2) 13 (fun b => [(18, .top), (19, .top), (82, .top)]) (fun b => [(12, .it cs b.1 b.2.1), (4, .mp (.r3 b.2.2.1.1 b.2.2.1.2)), (10, .flat true (.gen 1 [[.int .i64 b.2.2.2.1]])), (9, .mp (.r3 b.2.2.2.2.1 b.2.2.2.2.2))]) (fun b => (st.filter fun y => decide (y.2.2 ∉ b.1)).length) ([], none, (c3, kvs3), W.length, 0, []) ⟨hM3, NX.none fun a b ⟨x, _, h, _⟩ => (List.not_mem_nil h).elim⟩ ?_ (fun b hb => ?_)
          · repeat' ((conv => whnf); first | done | refine ev_step ?_ | refine ops_step ?_ | refine scan_step ?_ | refine draw_step ?_ | refine each_step ?_ | refine sl_step ?_ | refine hp_step ?_ | refine guard_no (by decide) ?_ | refine guard_go ?_ | refine guard_old ?_ | apply cut_auto | with_reducible exact CutS.mk (Or.inl ⟨rfl, rfl, rfl⟩) | refine CutS.mk (Or.inr (sub_auto ?_)) | exact trivial | refine And.intro ?_ ?_ | refine cond_split ?_ ?_ | apply guess | exact Or.inl rfl | exact Or.inr rfl | exact Side.mk trivial | exact Side.mk (fun h => h) | exact Side.mk (fun h => ⟨h, h⟩) | with_reducible exact Side.mk rfl | with_reducible exact Side.mk ⟨rfl, rfl⟩ | with_reducible exact Side.mk (by assumption) | with_reducible rfl | intro _)
            all_goals try (conv => whnf)
            all_goals first | rfl | trace_state
          · obtain ⟨seen, lst, ⟨c4, kvs4⟩, wv, cn, nk⟩ := b
            obtain ⟨hM4, hN⟩ := hb
            dsimp only at hM4 hN ⊢
            repeat' ((conv => whnf); first | done | refine ev_step ?_ | refine ops_step ?_ | refine scan_step ?_ | refine draw_step ?_ | refine each_step ?_ | refine sl_step ?_ | refine hp_step ?_ | refine guard_no (by decide) ?_ | refine guard_go ?_ | refine guard_old ?_ | apply cut_auto | with_reducible exact CutS.mk (Or.inl ⟨rfl, rfl, rfl⟩) | refine CutS.mk (Or.inr (sub_auto ?_)) | exact trivial | refine And.intro ?_ ?_ | (refine cond_split ?_ ?_ <;> intro _ <;> first | (exfalso; first | omega | (simp only [decide_eq_true_eq, decide_eq_false_iff_not, Bool.not_eq_true', Bool.not_eq_false', ne_eq, Bool.not_true, Bool.not_false, cond_true, cond_false, Bool.true_eq_false, Bool.false_eq_true, Bool.and_eq_true, Bool.and_eq_false_iff] at *; omega)) | skip) | apply guess | exact Or.inl rfl | exact Or.inr rfl | exact Side.mk trivial | exact Side.mk (fun h => h) | exact Side.mk (fun h => ⟨h, h⟩) | with_reducible exact Side.mk rfl | with_reducible exact Side.mk ⟨rfl, rfl⟩ | with_reducible exact Side.mk (by assumption) | with_reducible rfl | intro _)
            all_goals try (conv => whnf)
            all_goals try (refine Side.mk ?_; first | (intros; omega) | (intro h1_ h2_; rw [h1_, h2_]; rfl) | (show List.length (_ ++ _) ≤ _; simp only [List.length_append, List.length_cons, List.length_nil, List.length_replicate, List.length_take]; omega) | (simp_all; done) | (simp_all; omega))
            refine NextG.mk (fun hnd hall => ?_) (fun hnd x hx hs => ?_)
            · obtain ⟨hf1, hf2⟩ := hN.fin hW hc hF2 ho hS2 hall
              repeat' ((conv => whnf); first | done | refine ev_step ?_ | refine ops_step ?_ | refine scan_step ?_ | refine draw_step ?_ | refine each_step ?_ | refine sl_step ?_ | refine hp_step ?_ | refine guard_no (by decide) ?_ | refine guard_go ?_ | refine guard_old ?_ | apply cut_auto | with_reducible exact CutS.mk (Or.inl ⟨rfl, rfl, rfl⟩) | refine CutS.mk (Or.inr (sub_auto ?_)) | exact trivial | refine And.intro ?_ ?_ | (refine cond_split ?_ ?_ <;> intro _ <;> first | (exfalso; first | omega | (simp only [decide_eq_true_eq, decide_eq_false_iff_not, Bool.not_eq_true', Bool.not_eq_false', ne_eq, Bool.not_true, Bool.not_false, cond_true, cond_false, Bool.true_eq_false, Bool.false_eq_true, Bool.and_eq_true, Bool.and_eq_false_iff] at *; omega)) | skip) | apply guess | exact Or.inl rfl | exact Or.inr rfl | exact Side.mk trivial | exact Side.mk (fun h => h) | exact Side.mk (fun h => ⟨h, h⟩) | with_reducible exact Side.mk rfl | with_reducible exact Side.mk ⟨rfl, rfl⟩ | with_reducible exact Side.mk (by assumption) | with_reducible rfl | intro _)
              all_goals try (conv => whnf)
              all_goals try (refine Side.mk ?_; first | (intros; omega) | (intro h1_ h2_; rw [h1_, h2_]; rfl) | (show List.length (_ ++ _) ≤ _; simp only [List.length_append, List.length_cons, List.length_nil, List.length_replicate, List.length_take]; omega) | (simp_all; done) | (simp_all; omega))
              refine ⟨(o ++ [(wv : Int)], m ||| 2 ^ wv, wv, nxtK W e K m l wv, (cn, nk), c4, kvs4), ⟨hf1, hf2, hM4⟩, ?_, ?_⟩
              · dsimp only
                rw [List.length_append, List.length_singleton]
                omega
              · repeat' ((conv => whnf); first | done | refine ev_step ?_ | refine ops_step ?_ | refine scan_step ?_ | refine draw_step ?_ | refine each_step ?_ | refine sl_step ?_ | refine hp_step ?_ | refine guard_no (by decide) ?_ | refine guard_go ?_ | refine guard_old ?_ | apply cut_auto | with_reducible exact CutS.mk (Or.inl ⟨rfl, rfl, rfl⟩) | refine CutS.mk (Or.inr (sub_auto ?_)) | exact trivial | refine And.intro ?_ ?_ | refine cond_split ?_ ?_ | apply guess | exact Or.inl rfl | exact Or.inr rfl | exact Side.mk trivial | exact Side.mk (fun h => h) | exact Side.mk (fun h => ⟨h, h⟩) | with_reducible exact Side.mk rfl | with_reducible exact Side.mk ⟨rfl, rfl⟩ | with_reducible exact Side.mk (by assumption) | with_reducible rfl | intro _)
                all_goals try (conv => whnf)
                all_goals first | rfl | omega | trace_state
            · obtain ⟨k, hk, hx1, hx2⟩ := hS2.inn x hx
              have hlt := meas_lt hx hs
              obtain ⟨x1, x2, x3⟩ := x
              dsimp only at hx1 hx2 hs hlt ⊢
              subst hx1 hx2
              have hpc := PS_cons (W := W) (e := e) (seen := seen) hnd hx rfl
              have kc := k_choicesO W hW e m l k c4 wv cn (PS W e m l st seen) kvs4 nk hF2.hm hF2.hl (by have := (hF2.Kle k hk).1; omega) hM4 hN
              repeat' ((conv => whnf); first | done | refine ev_step ?_ | refine ops_step ?_ | refine scan_step ?_ | refine draw_step ?_ | refine each_step ?_ | refine sl_step ?_ | refine hp_step ?_ | refine guard_no (by decide) ?_ | refine guard_go ?_ | refine guard_old ?_ | apply cut_auto | with_reducible exact CutS.mk (Or.inl ⟨rfl, rfl, rfl⟩) | refine CutS.mk (Or.inr (sub_auto ?_)) | exact trivial | refine And.intro ?_ ?_ | (refine cond_split ?_ ?_ <;> intro _ <;> first | (exfalso; first | omega | (simp only [decide_eq_true_eq, decide_eq_false_iff_not, Bool.not_eq_true', Bool.not_eq_false', ne_eq, Bool.not_true, Bool.not_false, cond_true, cond_false, Bool.true_eq_false, Bool.false_eq_true, Bool.and_eq_true, Bool.and_eq_false_iff] at *; omega)) | skip) | apply guess | apply FnEx.useF (kc) | exact Or.inl rfl | exact Or.inr rfl | exact Side.mk trivial | exact Side.mk (fun h => h) | exact Side.mk (fun h => ⟨h, h⟩) | with_reducible exact Side.mk rfl | with_reducible exact Side.mk ⟨rfl, rfl⟩ | with_reducible exact Side.mk (by assumption) | with_reducible rfl | intro _)
              all_goals try (conv => whnf)
              all_goals try exact Side.mk ⟨rfl, hx, _, rfl⟩
              all_goals try (refine Side.mk ?_; first | (intros; omega) | (intro h1_ h2_; rw [h1_, h2_]; rfl) | (show List.length (_ ++ _) ≤ _; simp only [List.length_append, List.length_cons, List.length_nil, List.length_replicate, List.length_take]; omega) | (simp_all; done) | (simp_all; omega))
              rename_i a ha
              refine ⟨(x3 :: seen, some (⟨(m : Int), (l : Int), (k : Int)⟩, Lt W e m l k, x3), a.1, a.2.1, a.2.2), ⟨ha.1, ha.2.same hpc⟩, hlt, ?_⟩
              repeat' ((conv => whnf); first | done | refine ev_step ?_ | refine ops_step ?_ | refine scan_step ?_ | refine draw_step ?_ | refine each_step ?_ | refine sl_step ?_ | refine hp_step ?_ | refine guard_no (by decide) ?_ | refine guard_go ?_ | refine guard_old ?_ | apply cut_auto | with_reducible exact CutS.mk (Or.inl ⟨rfl, rfl, rfl⟩) | refine CutS.mk (Or.inr (sub_auto ?_)) | exact trivial | refine And.intro ?_ ?_ | refine cond_split ?_ ?_ | apply guess | exact Or.inl rfl | exact Or.inr rfl | exact Side.mk trivial | exact Side.mk (fun h => h) | exact Side.mk (fun h => ⟨h, h⟩) | with_reducible exact Side.mk rfl | with_reducible exact Side.mk ⟨rfl, rfl⟩ | with_reducible exact Side.mk (by assumption) | with_reducible rfl | intro _)
              all_goals try (conv => whnf)
              all_goals first | rfl | omega | trace_state
        · obtain rfl := hF2.fin (by omega)
          repeat' ((conv => whnf); first | done | refine ev_step ?_ | refine ops_step ?_ | refine scan_step ?_ | refine draw_step ?_ | refine each_step ?_ | refine sl_step ?_ | refine hp_step ?_ | refine guard_no (by decide) ?_ | refine guard_go ?_ | refine guard_old ?_ | apply cut_auto | with_reducible exact CutS.mk (Or.inl ⟨rfl, rfl, rfl⟩) | refine CutS.mk (Or.inr (sub_auto ?_)) | exact trivial | refine And.intro ?_ ?_ | (refine cond_split ?_ ?_ <;> intro _ <;> first | (exfalso; first | omega | (simp only [decide_eq_true_eq, decide_eq_false_iff_not, Bool.not_eq_true', Bool.not_eq_false', ne_eq, Bool.not_true, Bool.not_false, cond_true, cond_false, Bool.true_eq_false, Bool.false_eq_true, Bool.and_eq_true, Bool.and_eq_false_iff] at *; omega)) | skip) | apply guess | exact Or.inl rfl | exact Or.inr rfl | exact Side.mk trivial | exact Side.mk (fun h => h) | exact Side.mk (fun h => ⟨h, h⟩) | with_reducible exact Side.mk rfl | with_reducible exact Side.mk ⟨rfl, rfl⟩ | with_reducible exact Side.mk (by assumption) | with_reducible rfl | intro _)
          all_goals try (conv => whnf)
          all_goals try (refine Side.mk ?_; first | (intros; omega) | (intro h1_ h2_; rw [h1_, h2_]; rfl) | (show List.length (_ ++ _) ≤ _; simp only [List.length_append, List.length_cons, List.length_nil, List.length_replicate, List.length_take]; omega) | (simp_all; done) | (simp_all; omega))
          refine ⟨(c3, kvs3), trivial, ?_⟩
          repeat' ((conv => whnf); first | done | refine ev_step ?_ | refine ops_step ?_ | refine scan_step ?_ | refine draw_step ?_ | refine each_step ?_ | refine sl_step ?_ | refine hp_step ?_ | refine guard_no (by decide) ?_ | refine guard_go ?_ | refine guard_old ?_ | apply cut_auto | with_reducible exact CutS.mk (Or.inl ⟨rfl, rfl, rfl⟩) | refine CutS.mk (Or.inr (sub_auto ?_)) | exact trivial | refine And.intro ?_ ?_ | refine cond_split ?_ ?_ | apply guess | exact Or.inl rfl | exact Or.inr rfl | exact Side.mk trivial | exact Side.mk (fun h => h) | exact Side.mk (fun h => ⟨h, h⟩) | with_reducible exact Side.mk rfl | with_reducible exact Side.mk ⟨rfl, rfl⟩ | with_reducible exact Side.mk (by assumption) | with_reducible rfl | intro _)
          all_goals try (conv => whnf)
          all_goals first | rfl | omega | trace_state
end Go.Sx.U
