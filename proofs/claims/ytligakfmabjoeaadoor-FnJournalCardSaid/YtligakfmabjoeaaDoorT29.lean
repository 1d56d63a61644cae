/-
  Chapter 11: the journal that is recovered: the program's (contract).
-/
import Derived.Test.YtligakfmabjoeaaDoorT28
set_option linter.unusedSimpArgs false
namespace Go.Sx.U
set_option linter.unusedVariables false
set_option linter.unusedSimpArgs false
set_option maxRecDepth 100000
set_option maxHeartbeats 8000000
open Go Go.Sx Go.Proofs

theorem okLine_no {c : Int} {l : ByteArray} (h : ¬ 0 ≤ Lib.indexByte (bl l) 32) : okLine c l = none := by
  unfold okLine; rw [decide_eq_false h]; rfl
theorem okLine_at {c : Int} {l : ByteArray} {o : Nat} (h : Lib.indexByte (bl l) 32 = o) : okLine c l = (bif decide (l.extract 0 o = decB (chk c (l.extract (o + 1) l.size))) then some (l.extract (o + 1) l.size) else none) := by
  unfold okLine; rw [h, decide_eq_true (by omega), Int.toNat_natCast]; rfl
theorem rec_line {t : ByteArray} {a e : Nat} (h : Lib.indexByte ((bl t).drop a) 10 = e) : a + e < t.size ∧ linesB ((bl t).drop a) = t.extract a (a + e) :: linesB ((bl t).drop (a + e + 1)) := by
  obtain ⟨h1, h2, h3⟩ := idx_some h
  rw [List.length_drop, bl_len] at h1
  refine ⟨by omega, ?_⟩
  rw [h2, linesB_at h3, ofB_extract]
  congr 1
  · congr 1
    rw [List.take_drop]
  · rw [List.drop_drop]
    rfl
theorem bl_from (t : ByteArray) (a : Nat) : bl (t.extract a t.size) = (bl t).drop a := by
  rw [bl_sub, List.take_of_length_le (by rw [bl_len]; exact Nat.le_refl _)]
theorem size_ext {t : ByteArray} {a b : Nat} (h : b ≤ t.size) : (t.extract a b).size = b - a := by
  rw [← bl_len, bl_sub, List.length_drop, List.length_take, bl_len]; omega

set_option maxHeartbeats 4000000 in
theorem k_RecoverOk (t : ByteArray) (h : Side (t.size ≤ 4000)) : FnIs Tryd.prog 12 [.str t] 0 [] (.tuple [.sl 0 [], .int .i64 (recT t).2, .bool true]) 1 [(0, .flat true (.strs (recT t).1))] := by
  have ht := h.h
  refine fn_of_ev tok Tryd.func12 rfl rfl rfl ?_
  repeat' ((conv => whnf); first | done | refine ev_step ?_ | refine ops_step ?_ | refine scan_step ?_ | refine draw_step ?_ | refine each_step ?_ | refine sl_step ?_ | refine hp_step ?_ | refine guard_no (by decide) ?_ | refine guard_go ?_ | refine guard_old ?_ | apply cut_auto | with_reducible exact CutS.mk (Or.inl ⟨rfl, rfl, rfl⟩) | refine CutS.mk (Or.inr (Or.inl (sub_auto ?_))) | exact trivial | refine And.intro ?_ ?_ | (refine cond_split ?_ ?_ <;> intro _ <;> first | (exfalso; first | omega | (simp only [decide_eq_true_eq, decide_eq_false_iff_not, Bool.not_eq_true', Bool.not_eq_false', ne_eq, Bool.not_true, Bool.not_false, cond_true, cond_false, Bool.true_eq_false, Bool.false_eq_true, Bool.and_eq_true, Bool.and_eq_false_iff] at *; omega)) | skip) | apply guess | exact Or.inl rfl | exact Or.inr rfl | exact Side.mk trivial | exact Side.mk (fun h => h) | exact Side.mk (fun h => ⟨h, h⟩) | with_reducible exact Side.mk rfl | with_reducible exact Side.mk ⟨rfl, rfl⟩ | with_reducible exact Side.mk (by assumption) | with_reducible rfl | intro _)
  all_goals try (conv => whnf)
  refine loop_at (fun a : Nat × List ByteArray × Int => a.1 ≤ t.size ∧ a.2.1.length ≤ a.1 ∧ chkOk a.2.2 ∧ recT t = (a.2.1 ++ (recL a.2.2 (linesB ((bl t).drop a.1))).1, a.1 + (recL a.2.2 (linesB ((bl t).drop a.1))).2)) 1
    (fun a => [(6, .int .i64 a.1), (5, .sl 0 []), (7, .int .i64 a.2.2), (8, .top), (9, .top), (10, .top), (11, .top), (12, .top), (13, .top), (17, .top)]) (fun a => [(0, .flat true (.strs a.2.1))]) (fun a => t.size - a.1) (0, [], 0) ⟨Nat.zero_le _, Nat.le_refl _, by decide, by simp [recT]⟩ ?_ (fun a ha => ?_)
  · repeat' ((conv => whnf); first | done | refine ev_step ?_ | refine ops_step ?_ | refine scan_step ?_ | refine draw_step ?_ | refine each_step ?_ | refine sl_step ?_ | refine hp_step ?_ | refine guard_no (by decide) ?_ | refine guard_go ?_ | refine guard_old ?_ | apply cut_auto | with_reducible exact CutS.mk (Or.inl ⟨rfl, rfl, rfl⟩) | refine CutS.mk (Or.inr (Or.inl (sub_auto ?_))) | exact trivial | refine And.intro ?_ ?_ | refine cond_split ?_ ?_ | apply guess | exact Or.inl rfl | exact Or.inr rfl | exact Side.mk trivial | exact Side.mk (fun h => h) | exact Side.mk (fun h => ⟨h, h⟩) | with_reducible exact Side.mk rfl | with_reducible exact Side.mk ⟨rfl, rfl⟩ | with_reducible exact Side.mk (by assumption) | with_reducible rfl | intro _)
    all_goals try (conv => whnf)
    all_goals first | rfl | trace_state
  · obtain ⟨a, acc, c⟩ := a
    obtain ⟨h1, h2, h3, h4⟩ := ha
    dsimp only at h1 h2 h3 h4
    have hge := Lib.indexByte_ge ((bl t).drop a) 10
    have k1 := k_IndexByte (t.extract a t.size) 10
    rw [bl_from] at k1
    by_cases h0 : 0 ≤ Lib.indexByte ((bl t).drop a) 10
    · obtain ⟨e, he⟩ : ∃ e : Nat, Lib.indexByte ((bl t).drop a) 10 = e := ⟨(Lib.indexByte ((bl t).drop a) 10).toNat, by omega⟩
      obtain ⟨g1, g2⟩ := rec_line he
      rw [he] at k1
      rw [g2] at h4
      have hsz := size_ext (t := t) (a := a) (b := a + e) (by omega)
      have k2 := k_Cut1 (t.extract a (a + e)) 32 ⟨by omega⟩
      generalize hl : t.extract a (a + e) = l at *
      have hl2 : t.extract (a : Int).toNat ((a : Int) + (e : Int)).toNat = l := by rw [← hl]; congr 1
      by_cases hs : 0 ≤ Lib.indexByte (bl l) 32
      · obtain ⟨o, ho⟩ : ∃ o : Nat, Lib.indexByte (bl l) 32 = o := ⟨(Lib.indexByte (bl l) 32).toNat, by omega⟩
        have hol := (idx_some ho).1
        rw [bl_len] at hol
        have hcut : cut1 l 32 = (l.extract 0 o, l.extract (o + 1) l.size, true) := by unfold cut1; rw [ho, decide_eq_true (by omega), Int.toNat_natCast]; rfl
        rw [hcut] at k2
        have hok := okLine_at (c := c) ho
        have hiff := okLine_eq (c := c) ho
        have hls := size_ext (t := l) (a := o + 1) (b := l.size) (Nat.le_refl _)
        generalize hli : l.extract (o + 1) l.size = li at *
        have hco := chk_ok h3 li
        have hdl := decB_le (chk c li) (by omega) (by omega)
        have k3 := k_CheckOf c li ⟨h3, by omega⟩
        have k4 := k_Decimal (chk c li) ⟨by omega, by omega⟩
        have e1 : (ByteArray.mk #[32]).size = 1 := rfl
        by_cases hd : l.extract 0 o = decB (chk c li)
        · rw [decide_eq_true hd] at hok
          rw [recL_some hok] at h4
          have fc : (!((decB (chk c li) ++ ⟨#[32]⟩ ++ li).toList == (t.extract (a : Int).toNat ((a : Int) + (e : Int)).toNat).toList)) = false := by rw [hl2, bytes_eq, decide_eq_true (hiff.2 hd)]; rfl
          repeat' ((conv => whnf); first | done | refine ev_step ?_ | refine ops_step ?_ | refine scan_step ?_ | refine draw_step ?_ | refine each_step ?_ | refine sl_step ?_ | refine hp_step ?_ | refine guard_no (by decide) ?_ | refine guard_go ?_ | refine guard_old ?_ | apply cut_auto | with_reducible exact CutS.mk (Or.inl ⟨rfl, rfl, rfl⟩) | refine CutS.mk (Or.inr (Or.inl (sub_auto ?_))) | exact trivial | refine And.intro ?_ ?_ | (refine cond_split ?_ ?_ <;> intro hq_ <;> first | (exfalso; first | omega | (simp only [fc, cond_true, cond_false, Bool.not_true, Bool.not_false, Bool.and_true, Bool.true_and, Bool.and_false, Bool.false_and, Bool.or_true, Bool.true_or, Bool.or_false, Bool.false_or, Bool.true_eq_false, Bool.false_eq_true, decide_true, decide_false, reduceCtorEq] at hq_; done) | (rw [decide_eq_false_iff_not] at hq_; omega) | (rw [decide_eq_true_eq] at hq_; omega) | (simp only [fc, reduceCtorEq] at hq_; done) | exact Bool.noConfusion (Eq.trans (Eq.symm fc) hq_)) | skip) | apply guess | apply FnIs.useF (k1) | apply FnIs.useF (k2) | apply FnIs.useF (k3) | apply FnIs.useF (k4) | exact Or.inl rfl | exact Or.inr rfl | exact Side.mk trivial | exact Side.mk (fun h => h) | exact Side.mk (fun h => ⟨h, h⟩) | with_reducible exact Side.mk rfl | with_reducible exact Side.mk ⟨rfl, rfl⟩ | with_reducible exact Side.mk (by assumption) | with_reducible rfl | intro _)
          all_goals try (conv => whnf)
          all_goals try dsimp only at *
          all_goals try simp only [hl2, Int.toNat_natCast, bl_size_app, e1] at *
          all_goals try rfl
          all_goals try (refine Side.mk ?_; first | (intros; omega) | (intro h1_ h2_; rw [h1_, h2_]; rfl) | (show List.length (_ ++ _) ≤ _; simp only [List.length_append, List.length_cons, List.length_nil, List.length_replicate, List.length_take]; omega) | (simp_all; done) | (simp_all; omega))
          all_goals try (refine Side.mk ?_; simp only [Flat.n, List.length_append, List.length_singleton]; omega)
          all_goals try exact Side.mk (fun _ => ⟨rfl, rfl, rfl⟩)
          refine ⟨(a + e + 1, acc ++ [li], chk c li), ⟨by show a + e + 1 ≤ t.size; omega, by show (acc ++ [li]).length ≤ a + e + 1; simp only [List.length_append, List.length_singleton]; omega, hco, ?_⟩, by show t.size - (a + e + 1) < t.size - a; omega, ?_⟩
          · rw [h4]
            simp only [List.append_assoc, List.singleton_append]
            rw [show a + (l.size + 1 + (recL (chk c li) (linesB ((bl t).drop (a + e + 1)))).2) = a + e + 1 + (recL (chk c li) (linesB ((bl t).drop (a + e + 1)))).2 by omega]
          · repeat' ((conv => whnf); first | done | refine ev_step ?_ | refine ops_step ?_ | refine scan_step ?_ | refine draw_step ?_ | refine each_step ?_ | refine sl_step ?_ | refine hp_step ?_ | refine guard_no (by decide) ?_ | refine guard_go ?_ | refine guard_old ?_ | apply cut_auto | with_reducible exact CutS.mk (Or.inl ⟨rfl, rfl, rfl⟩) | refine CutS.mk (Or.inr (Or.inl (sub_auto ?_))) | exact trivial | refine And.intro ?_ ?_ | refine cond_split ?_ ?_ | apply guess | exact Or.inl rfl | exact Or.inr rfl | exact Side.mk trivial | exact Side.mk (fun h => h) | exact Side.mk (fun h => ⟨h, h⟩) | with_reducible exact Side.mk rfl | with_reducible exact Side.mk ⟨rfl, rfl⟩ | with_reducible exact Side.mk (by assumption) | with_reducible rfl | intro _)
            all_goals try (conv => whnf)
            all_goals first | rfl | omega | trace_state
        · rw [decide_eq_false hd] at hok
          rw [recL_none hok] at h4
          have fc : (!((decB (chk c li) ++ ⟨#[32]⟩ ++ li).toList == (t.extract (a : Int).toNat ((a : Int) + (e : Int)).toNat).toList)) = true := by rw [hl2, bytes_eq, decide_eq_false (fun e => hd (hiff.1 e))]; rfl
          simp only [List.append_nil, Nat.add_zero] at h4
          rw [h4]
          repeat' ((conv => whnf); first | done | refine ev_step ?_ | refine ops_step ?_ | refine scan_step ?_ | refine draw_step ?_ | refine each_step ?_ | refine sl_step ?_ | refine hp_step ?_ | refine guard_no (by decide) ?_ | refine guard_go ?_ | refine guard_old ?_ | apply cut_auto | with_reducible exact CutS.mk (Or.inl ⟨rfl, rfl, rfl⟩) | refine CutS.mk (Or.inr (Or.inl (sub_auto ?_))) | exact trivial | refine And.intro ?_ ?_ | (refine cond_split ?_ ?_ <;> intro hq_ <;> first | (exfalso; first | omega | (simp only [fc, cond_true, cond_false, Bool.not_true, Bool.not_false, Bool.and_true, Bool.true_and, Bool.and_false, Bool.false_and, Bool.or_true, Bool.true_or, Bool.or_false, Bool.false_or, Bool.true_eq_false, Bool.false_eq_true, decide_true, decide_false, reduceCtorEq] at hq_; done) | (rw [decide_eq_false_iff_not] at hq_; omega) | (rw [decide_eq_true_eq] at hq_; omega) | (simp only [fc, reduceCtorEq] at hq_; done) | exact Bool.noConfusion (Eq.trans (Eq.symm fc) hq_)) | skip) | apply guess | apply FnIs.useF (k1) | apply FnIs.useF (k2) | apply FnIs.useF (k3) | apply FnIs.useF (k4) | exact Or.inl rfl | exact Or.inr rfl | exact Side.mk trivial | exact Side.mk (fun h => h) | exact Side.mk (fun h => ⟨h, h⟩) | with_reducible exact Side.mk rfl | with_reducible exact Side.mk ⟨rfl, rfl⟩ | with_reducible exact Side.mk (by assumption) | with_reducible rfl | intro _)
          all_goals try (conv => whnf)
          all_goals try dsimp only at *
          all_goals try simp only [hl2, Int.toNat_natCast, bl_size_app, e1] at *
          all_goals try rfl
          all_goals try (refine Side.mk ?_; first | (intros; omega) | (intro h1_ h2_; rw [h1_, h2_]; rfl) | (show List.length (_ ++ _) ≤ _; simp only [List.length_append, List.length_cons, List.length_nil, List.length_replicate, List.length_take]; omega) | (simp_all; done) | (simp_all; omega))
      · have hcut : cut1 l 32 = (l, ByteArray.empty, false) := by unfold cut1; rw [decide_eq_false hs]; rfl
        rw [hcut] at k2
        have hok := okLine_no (c := c) hs
        rw [recL_none hok] at h4
        simp only [List.append_nil, Nat.add_zero] at h4
        rw [h4]
        have k3 := k_CheckOf c ByteArray.empty ⟨h3, by decide⟩
        have hco := chk_ok h3 ByteArray.empty
        have k4 := k_Decimal (chk c ByteArray.empty) ⟨by omega, by omega⟩
        repeat' ((conv => whnf); first | done | refine ev_step ?_ | refine ops_step ?_ | refine scan_step ?_ | refine draw_step ?_ | refine each_step ?_ | refine sl_step ?_ | refine hp_step ?_ | refine guard_no (by decide) ?_ | refine guard_go ?_ | refine guard_old ?_ | apply cut_auto | with_reducible exact CutS.mk (Or.inl ⟨rfl, rfl, rfl⟩) | refine CutS.mk (Or.inr (Or.inl (sub_auto ?_))) | exact trivial | refine And.intro ?_ ?_ | (refine cond_split ?_ ?_ <;> intro _ <;> first | (exfalso; first | omega | (simp only [decide_eq_true_eq, decide_eq_false_iff_not, Bool.not_eq_true', Bool.not_eq_false', ne_eq, Bool.not_true, Bool.not_false, cond_true, cond_false, Bool.true_eq_false, Bool.false_eq_true, Bool.and_eq_true, Bool.and_eq_false_iff] at *; omega)) | skip) | apply guess | apply FnIs.useF (k1) | apply FnIs.useF (k2) | apply FnIs.useF (k3) | apply FnIs.useF (k4) | exact Or.inl rfl | exact Or.inr rfl | exact Side.mk trivial | exact Side.mk (fun h => h) | exact Side.mk (fun h => ⟨h, h⟩) | with_reducible exact Side.mk rfl | with_reducible exact Side.mk ⟨rfl, rfl⟩ | with_reducible exact Side.mk (by assumption) | with_reducible rfl | intro _)
        all_goals try (conv => whnf)
        all_goals try dsimp only at *
        all_goals try simp only [hl2, Int.toNat_natCast] at *
        all_goals try rfl
        all_goals try (refine Side.mk ?_; first | (intros; omega) | (intro h1_ h2_; rw [h1_, h2_]; rfl) | (show List.length (_ ++ _) ≤ _; simp only [List.length_append, List.length_cons, List.length_nil, List.length_replicate, List.length_take]; omega) | (simp_all; done) | (simp_all; omega))
    · have hln := linesB_no (idx_none (by omega : Lib.indexByte ((bl t).drop a) 10 < 0))
      rw [hln] at h4
      simp only [recL, List.append_nil, Nat.add_zero] at h4
      rw [h4]
      repeat' ((conv => whnf); first | done | refine ev_step ?_ | refine ops_step ?_ | refine scan_step ?_ | refine draw_step ?_ | refine each_step ?_ | refine sl_step ?_ | refine hp_step ?_ | refine guard_no (by decide) ?_ | refine guard_go ?_ | refine guard_old ?_ | apply cut_auto | with_reducible exact CutS.mk (Or.inl ⟨rfl, rfl, rfl⟩) | refine CutS.mk (Or.inr (Or.inl (sub_auto ?_))) | exact trivial | refine And.intro ?_ ?_ | (refine cond_split ?_ ?_ <;> intro _ <;> first | (exfalso; first | omega | (simp only [decide_eq_true_eq, decide_eq_false_iff_not, Bool.not_eq_true', Bool.not_eq_false', ne_eq, Bool.not_true, Bool.not_false, cond_true, cond_false, Bool.true_eq_false, Bool.false_eq_true, Bool.and_eq_true, Bool.and_eq_false_iff] at *; omega)) | skip) | apply guess | apply FnIs.useF (k1) | exact Or.inl rfl | exact Or.inr rfl | exact Side.mk trivial | exact Side.mk (fun h => h) | exact Side.mk (fun h => ⟨h, h⟩) | with_reducible exact Side.mk rfl | with_reducible exact Side.mk ⟨rfl, rfl⟩ | with_reducible exact Side.mk (by assumption) | with_reducible rfl | intro _)
      all_goals try (conv => whnf)
      all_goals try dsimp only at *
      all_goals try (refine Side.mk ?_; first | (intros; omega) | (intro h1_ h2_; rw [h1_, h2_]; rfl) | (show List.length (_ ++ _) ≤ _; simp only [List.length_append, List.length_cons, List.length_nil, List.length_replicate, List.length_take]; omega) | (simp_all; done) | (simp_all; omega))
      all_goals first | rfl | trace_state
end Go.Sx.U
