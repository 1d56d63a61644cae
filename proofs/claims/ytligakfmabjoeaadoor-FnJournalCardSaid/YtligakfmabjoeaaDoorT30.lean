/-
  Chapter 11: the journal that is recovered: the reference's (contract).
-/
import Derived.Test.YtligakfmabjoeaaDoorT29
set_option linter.unusedSimpArgs false
namespace Go.Sx.U
set_option linter.unusedVariables false
set_option linter.unusedSimpArgs false
set_option maxRecDepth 100000
set_option maxHeartbeats 8000000
open Go Go.Sx Go.Proofs

theorem k_RecoverNo (t : ByteArray) (h : Side (4000 < t.size ∧ t.size ≤ 1048577)) : FnIs Tryd.prog 12 [.str t] 0 [] (.tuple [.nilsl, .int .i64 0, .bool false]) 0 [] := by
  have ht := h.h
  refine fn_of_ev tok Tryd.func12 rfl rfl rfl ?_
  repeat' ((conv => whnf); first | done | refine ev_step ?_ | refine ops_step ?_ | refine scan_step ?_ | refine draw_step ?_ | refine each_step ?_ | refine sl_step ?_ | refine hp_step ?_ | refine guard_no (by decide) ?_ | refine guard_go ?_ | refine guard_old ?_ | apply cut_auto | with_reducible exact CutS.mk (Or.inl ⟨rfl, rfl, rfl⟩) | refine CutS.mk (Or.inr (Or.inl (sub_auto ?_))) | exact trivial | refine And.intro ?_ ?_ | (refine cond_split ?_ ?_ <;> intro _ <;> first | (exfalso; first | omega | (simp only [decide_eq_true_eq, decide_eq_false_iff_not, Bool.not_eq_true', Bool.not_eq_false', ne_eq, Bool.not_true, Bool.not_false, cond_true, cond_false, Bool.true_eq_false, Bool.false_eq_true, Bool.and_eq_true, Bool.and_eq_false_iff] at *; omega)) | skip) | apply guess | exact Or.inl rfl | exact Or.inr rfl | exact Side.mk trivial | exact Side.mk (fun h => h) | exact Side.mk (fun h => ⟨h, h⟩) | with_reducible exact Side.mk rfl | with_reducible exact Side.mk ⟨rfl, rfl⟩ | with_reducible exact Side.mk (by assumption) | with_reducible rfl | intro _)
  all_goals try (conv => whnf)
  all_goals first | rfl | trace_state
theorem k_specRecoverNo (t : ByteArray) (h : Side (4000 < t.size ∧ t.size ≤ 1048577)) : FnIs Tryd.prog 11 [.str t] 0 [] (.tuple [.nilsl, .int .i64 0, .bool false]) 0 [] := by
  have ht := h.h
  refine fn_of_ev tok Tryd.func11 rfl rfl rfl ?_
  repeat' ((conv => whnf); first | done | refine ev_step ?_ | refine ops_step ?_ | refine scan_step ?_ | refine draw_step ?_ | refine each_step ?_ | refine sl_step ?_ | refine hp_step ?_ | refine guard_no (by decide) ?_ | refine guard_go ?_ | refine guard_old ?_ | apply cut_auto | with_reducible exact CutS.mk (Or.inl ⟨rfl, rfl, rfl⟩) | refine CutS.mk (Or.inr (Or.inl (sub_auto ?_))) | exact trivial | refine And.intro ?_ ?_ | (refine cond_split ?_ ?_ <;> intro _ <;> first | (exfalso; first | omega | (simp only [decide_eq_true_eq, decide_eq_false_iff_not, Bool.not_eq_true', Bool.not_eq_false', ne_eq, Bool.not_true, Bool.not_false, cond_true, cond_false, Bool.true_eq_false, Bool.false_eq_true, Bool.and_eq_true, Bool.and_eq_false_iff] at *; omega)) | skip) | apply guess | exact Or.inl rfl | exact Or.inr rfl | exact Side.mk trivial | exact Side.mk (fun h => h) | exact Side.mk (fun h => ⟨h, h⟩) | with_reducible exact Side.mk rfl | with_reducible exact Side.mk ⟨rfl, rfl⟩ | with_reducible exact Side.mk (by assumption) | with_reducible rfl | intro _)
  all_goals try (conv => whnf)
  all_goals first | rfl | trace_state
theorem cutB_len (s : ByteArray) (c : UInt8) : 1 ≤ (cutB s c).length ∧ (cutB s c).length ≤ s.size + 1 := by
  have h1 := splitB_ne c (bl s)
  have h2 := splitB_len c (bl s)
  rw [bl_len] at h2
  have h3 := List.length_pos_iff.2 h1
  simp only [cutB, List.length_map]
  omega
theorem linesB_len (t : ByteArray) : (linesB (bl t)).length = (cutB t 10).length - 1 := by
  simp [linesB, cutB]
theorem linesB_get {t : ByteArray} {i : Nat} (h : i < (linesB (bl t)).length) : (cutB t 10).getD i ByteArray.empty = (linesB (bl t)).getD i ByteArray.empty := by
  have h' := h
  simp only [linesB, List.length_map, List.length_dropLast] at h'
  unfold cutB linesB
  simp only [List.getD, List.getElem?_map]
  rw [List.getElem?_dropLast, if_pos (by omega)]
theorem linesB_size {t : ByteArray} {i : Nat} (h : i < (linesB (bl t)).length) : ((linesB (bl t)).getD i ByteArray.empty).size ≤ t.size := by
  have := mem_of_getD (d := ByteArray.empty) h
  unfold linesB at this ⊢
  obtain ⟨a, ha, e⟩ := List.mem_map.1 this
  rw [← e]
  have h1 := splitB_mem 10 (bl t) a (List.dropLast_subset _ ha)
  rw [bl_len] at h1
  rw [← bl_len, bl_mk]
  exact h1
theorem k_l11Lines (t : ByteArray) (h : Side (t.size ≤ 1048577)) : FnIs Tryd.prog 26 [.str t] 0 [] (.tuple [.sub 0 [] 0 ((cutB t 10).length - 1) none, .str ((cutB t 10).getD ((cutB t 10).length - 1) ByteArray.empty)]) 1 [(0, .flat true (.strs (cutB t 10)))] := by
  have ht := h.h
  obtain ⟨h1, h2⟩ := cutB_len t 10
  have e : (((cutB t 10).length : Int) - 1).toNat = (cutB t 10).length - 1 := by omega
  refine fn_of_ev tok Tryd.func26 rfl rfl rfl ?_
  repeat' ((conv => whnf); first | done | refine ev_step ?_ | refine ops_step ?_ | refine scan_step ?_ | refine draw_step ?_ | refine each_step ?_ | refine sl_step ?_ | refine hp_step ?_ | refine guard_no (by decide) ?_ | refine guard_go ?_ | refine guard_old ?_ | apply cut_auto | with_reducible exact CutS.mk (Or.inl ⟨rfl, rfl, rfl⟩) | refine CutS.mk (Or.inr (Or.inl (sub_auto ?_))) | exact trivial | refine And.intro ?_ ?_ | refine cond_split ?_ ?_ | apply guess | apply FnIs.useF (k_l01Cut t 10 h) | exact Or.inl rfl | exact Or.inr rfl | exact Side.mk trivial | exact Side.mk (fun h => h) | exact Side.mk (fun h => ⟨h, h⟩) | with_reducible exact Side.mk rfl | with_reducible exact Side.mk ⟨rfl, rfl⟩ | with_reducible exact Side.mk (by assumption) | with_reducible rfl | intro _)
  all_goals try (conv => whnf)
  all_goals try simp only [e] at *
  all_goals try (refine Side.mk ?_; first | (intros; omega) | (intro h1_ h2_; rw [h1_, h2_]; rfl) | (show List.length (_ ++ _) ≤ _; simp only [List.length_append, List.length_cons, List.length_nil, List.length_replicate, List.length_take]; omega) | (simp_all; done) | (simp_all; omega))
  all_goals first | rfl | (simp; done) | trace_state
theorem idx_neg {l : List UInt8} {c : UInt8} (h : (l.any fun x => x == c) = false) : Lib.indexByte l c = -1 := by
  have hge := Lib.indexByte_ge l c
  by_cases h0 : Lib.indexByte l c < 0
  · omega
  · obtain ⟨o, ho⟩ : ∃ o : Nat, Lib.indexByte l c = o := ⟨(Lib.indexByte l c).toNat, by omega⟩
    have h1 := (Lib.indexByte_some ho).1
    have := List.any_eq_false.1 h c (List.mem_of_getElem? h1)
    simp at this
theorem idx_here {l : List UInt8} {c : UInt8} {k : Nat} (hk : k < l.length) (h : ((l.take k).any fun x => x == c) = false) (hb : (l.getD k 0 == c) = true) : Lib.indexByte l c = k := by
  have hc : l[k] = c := by
    have := beq_iff_eq.1 hb
    rw [← this]; simp only [List.getD, List.getElem?_eq_getElem hk, Option.getD_some]
  have e : l = l.take k ++ c :: l.drop (k + 1) := by
    rw [← hc, ← List.drop_eq_getElem_cons hk, List.take_append_drop]
  rw [e, idx_of h, List.length_take]
  omega

set_option maxHeartbeats 4000000 in
theorem k_specRecoverOk (t : ByteArray) (h : Side (t.size ≤ 4000)) : FnIs Tryd.prog 11 [.str t] 0 [] (.tuple [.sl 0 [], .int .i64 (recT t).2, .bool true]) 1 [(0, .flat true (.strs (recT t).1))] := by
  have ht := h.h
  obtain ⟨hc1, hc2⟩ := cutB_len t 10
  have hll := linesB_len t
  have kl := k_l11Lines t ⟨by omega⟩
  refine fn_of_ev tok Tryd.func11 rfl rfl rfl ?_
  repeat' ((conv => whnf); first | done | refine ev_step ?_ | refine ops_step ?_ | refine scan_step ?_ | refine draw_step ?_ | refine each_step ?_ | refine sl_step ?_ | refine hp_step ?_ | refine guard_no (by decide) ?_ | refine guard_go ?_ | refine guard_old ?_ | apply cut_auto | with_reducible exact CutS.mk (Or.inl ⟨rfl, rfl, rfl⟩) | refine CutS.mk (Or.inr (Or.inl (sub_auto ?_))) | exact trivial | refine And.intro ?_ ?_ | (refine cond_split ?_ ?_ <;> intro _ <;> first | (exfalso; first | omega | (simp only [decide_eq_true_eq, decide_eq_false_iff_not, Bool.not_eq_true', Bool.not_eq_false', ne_eq, Bool.not_true, Bool.not_false, cond_true, cond_false, Bool.true_eq_false, Bool.false_eq_true, Bool.and_eq_true, Bool.and_eq_false_iff] at *; omega)) | skip) | apply guess | apply FnIs.useF (kl) | exact Or.inl rfl | exact Or.inr rfl | exact Side.mk trivial | exact Side.mk (fun h => h) | exact Side.mk (fun h => ⟨h, h⟩) | with_reducible exact Side.mk rfl | with_reducible exact Side.mk ⟨rfl, rfl⟩ | with_reducible exact Side.mk (by assumption) | with_reducible rfl | intro _)
  all_goals try (conv => whnf)
  refine loop_at (fun a : Nat × List ByteArray × Int × Nat => a.1 ≤ (linesB (bl t)).length ∧ a.2.1.length ≤ a.1 ∧ chkOk a.2.2.1 ∧ a.2.2.2 ≤ a.1 * 4001 ∧ recT t = (a.2.1 ++ (recL a.2.2.1 ((linesB (bl t)).drop a.1)).1, a.2.2.2 + (recL a.2.2.1 ((linesB (bl t)).drop a.1)).2)) 2
    (fun a => [(10, .int .i64 a.1), (7, .sl 1 []), (8, .int .i64 a.2.2.1), (9, .int .i64 a.2.2.2), (11, .top), (12, .top), (21, .top)]) (fun a => [(1, .flat true (.strs a.2.1))]) (fun a => (linesB (bl t)).length - a.1) (0, [], 0, 0) ⟨Nat.zero_le _, Nat.le_refl _, by decide, Nat.le_refl _, by simp [recT]⟩ ?_ (fun a ha => ?_)
  · repeat' ((conv => whnf); first | done | refine ev_step ?_ | refine ops_step ?_ | refine scan_step ?_ | refine draw_step ?_ | refine each_step ?_ | refine sl_step ?_ | refine hp_step ?_ | refine guard_no (by decide) ?_ | refine guard_go ?_ | refine guard_old ?_ | apply cut_auto | with_reducible exact CutS.mk (Or.inl ⟨rfl, rfl, rfl⟩) | refine CutS.mk (Or.inr (Or.inl (sub_auto ?_))) | exact trivial | refine And.intro ?_ ?_ | refine cond_split ?_ ?_ | apply guess | exact Or.inl rfl | exact Or.inr rfl | exact Side.mk trivial | exact Side.mk (fun h => h) | exact Side.mk (fun h => ⟨h, h⟩) | with_reducible exact Side.mk rfl | with_reducible exact Side.mk ⟨rfl, rfl⟩ | with_reducible exact Side.mk (by assumption) | with_reducible rfl | intro _)
    all_goals try (conv => whnf)
    all_goals first | rfl | trace_state
  · obtain ⟨i, acc, c, n⟩ := a
    obtain ⟨h1, h2, h3, h5, h4⟩ := ha
    dsimp only at h1 h2 h3 h4 h5
    by_cases hlt : i < (linesB (bl t)).length
    · have hg := linesB_get hlt
      have hsz := linesB_size hlt
      rw [drop_cons (d := ByteArray.empty) hlt] at h4
      generalize (linesB (bl t)).getD i ByteArray.empty = l at *
      have hg2 : (cutB t 10).getD (0 + (i : Int).toNat) ByteArray.empty = l := by rw [Nat.zero_add, Int.toNat_natCast]; exact hg
      repeat' ((conv => whnf); first | done | refine ev_step ?_ | refine ops_step ?_ | refine scan_step ?_ | refine draw_step ?_ | refine each_step ?_ | refine sl_step ?_ | refine hp_step ?_ | refine guard_no (by decide) ?_ | refine guard_go ?_ | refine guard_old ?_ | apply cut_auto | with_reducible exact CutS.mk (Or.inl ⟨rfl, rfl, rfl⟩) | refine CutS.mk (Or.inr (Or.inl (sub_auto ?_))) | exact trivial | refine And.intro ?_ ?_ | (refine cond_split ?_ ?_ <;> intro _ <;> first | (exfalso; first | omega | (simp only [decide_eq_true_eq, decide_eq_false_iff_not, Bool.not_eq_true', Bool.not_eq_false', ne_eq, Bool.not_true, Bool.not_false, cond_true, cond_false, Bool.true_eq_false, Bool.false_eq_true, Bool.and_eq_true, Bool.and_eq_false_iff] at *; omega)) | skip) | apply guess | exact Or.inl rfl | exact Or.inr rfl | exact Side.mk trivial | exact Side.mk (fun h => h) | exact Side.mk (fun h => ⟨h, h⟩) | with_reducible exact Side.mk rfl | with_reducible exact Side.mk ⟨rfl, rfl⟩ | with_reducible exact Side.mk (by assumption) | with_reducible rfl | intro _)
      all_goals try (conv => whnf)
      all_goals try dsimp only at *
      all_goals try simp only [hg2, Int.toNat_natCast] at *
      all_goals try (refine Side.mk ?_; first | (intros; omega) | (intro h1_ h2_; rw [h1_, h2_]; rfl) | (show List.length (_ ++ _) ≤ _; simp only [List.length_append, List.length_cons, List.length_nil, List.length_replicate, List.length_take]; omega) | (simp_all; done) | (simp_all; omega))
      have hg3 : (cutB t 10).getD (0 + (i : Int).toNat) ByteArray.empty = l := by rw [Int.toNat_natCast]; exact hg2
      refine loop_at (fun k : Nat => k ≤ l.size ∧ ((bl l).take k).any (fun x => x == 32) = false) 2 (fun k => [(11, .int .i64 k)]) (fun _ => []) (fun k => l.size - k) 0 ⟨Nat.zero_le _, rfl⟩ ?_ (fun k hk => ?_)
      · repeat' ((conv => whnf); first | done | refine ev_step ?_ | refine ops_step ?_ | refine scan_step ?_ | refine draw_step ?_ | refine each_step ?_ | refine sl_step ?_ | refine hp_step ?_ | refine guard_no (by decide) ?_ | refine guard_go ?_ | refine guard_old ?_ | apply cut_auto | with_reducible exact CutS.mk (Or.inl ⟨rfl, rfl, rfl⟩) | refine CutS.mk (Or.inr (Or.inl (sub_auto ?_))) | exact trivial | refine And.intro ?_ ?_ | refine cond_split ?_ ?_ | apply guess | exact Or.inl rfl | exact Or.inr rfl | exact Side.mk trivial | exact Side.mk (fun h => h) | exact Side.mk (fun h => ⟨h, h⟩) | with_reducible exact Side.mk rfl | with_reducible exact Side.mk ⟨rfl, rfl⟩ | with_reducible exact Side.mk (by assumption) | with_reducible rfl | intro _)
        all_goals try (conv => whnf)
        all_goals first | rfl | trace_state
      · obtain ⟨k1, k2⟩ := hk
        have hbk := bAt_by l k
        by_cases hkl : k < l.size
        · have hkl' : k < (bl l).length := by rw [bl_len]; exact hkl
          have hq := bAt_eq (s := l) (i := k) (c := 32)
          have f1 : decide ((k : Int) < (((cutB t 10).getD (0 + (i : Int).toNat) ByteArray.empty).size : Int)) = true := by rw [hg3]; exact decide_eq_true (by omega)
          cases hb : ((bl l).getD k 0 == 32) with
          | true =>
            rw [hb] at hq
            have ho := idx_here hkl' k2 hb
            have hok := okLine_at (c := c) ho
            have hls := size_ext (t := l) (a := k + 1) (b := l.size) (Nat.le_refl _)
            have hl3 : ((cutB t 10).getD (0 + (i : Int).toNat) ByteArray.empty).extract ((k : Int) + 1).toNat ((cutB t 10).getD (0 + (i : Int).toNat) ByteArray.empty).size = l.extract (k + 1) l.size := by rw [hg3]; rfl
            have kc := k_l01Check c (l.extract (k + 1) l.size) ⟨h3, by omega⟩
            rw [← hl3] at kc
            have hco := chk_ok h3 (l.extract (k + 1) l.size)
            have kd := k_l01Dec (chk c (l.extract (k + 1) l.size)) ⟨by omega, by omega⟩
            rw [← hl3] at kd
            have f2 : (bif decide ((k : Int) < (((cutB t 10).getD (0 + (i : Int).toNat) ByteArray.empty).size : Int)) then decide (bAt ((cutB t 10).getD (0 + (i : Int).toNat) ByteArray.empty) (k : Int).toNat ≠ 32) else false) = false := by
              rw [f1, hg3, Int.toNat_natCast, cond_true]
              exact decide_eq_false (fun e => e (of_decide_eq_true hq))
            have f3 : decide ((k : Int) = (((cutB t 10).getD (0 + (i : Int).toNat) ByteArray.empty).size : Int)) = false := by rw [hg3]; exact decide_eq_false (by omega)
            by_cases hd : l.extract 0 k = decB (chk c (l.extract (k + 1) l.size))
            · rw [decide_eq_true hd] at hok
              rw [recL_some hok] at h4
              have f4 : (!((((cutB t 10).getD (0 + (i : Int).toNat) ByteArray.empty).extract 0 (k : Int).toNat).toList == (decB (chk c (((cutB t 10).getD (0 + (i : Int).toNat) ByteArray.empty).extract ((k : Int) + 1).toNat ((cutB t 10).getD (0 + (i : Int).toNat) ByteArray.empty).size))).toList)) = false := by
                rw [hl3, hg3, Int.toNat_natCast, bytes_eq, decide_eq_true hd]; rfl
              repeat' ((conv => whnf); first | done | refine ev_step ?_ | refine ops_step ?_ | refine scan_step ?_ | refine draw_step ?_ | refine each_step ?_ | refine sl_step ?_ | refine hp_step ?_ | refine guard_no (by decide) ?_ | refine guard_go ?_ | refine guard_old ?_ | apply cut_auto | with_reducible exact CutS.mk (Or.inl ⟨rfl, rfl, rfl⟩) | refine CutS.mk (Or.inr (Or.inl (sub_auto ?_))) | exact trivial | refine And.intro ?_ ?_ | (refine cond_split ?_ ?_ <;> intro hq_ <;> first | (exfalso; first | omega | (simp only [f2, f3, f4, cond_true, cond_false, Bool.not_true, Bool.not_false, Bool.and_true, Bool.true_and, Bool.and_false, Bool.false_and, Bool.or_true, Bool.true_or, Bool.or_false, Bool.false_or, Bool.true_eq_false, Bool.false_eq_true, decide_true, decide_false, reduceCtorEq] at hq_; done) | (rw [decide_eq_false_iff_not] at hq_; omega) | (rw [decide_eq_true_eq] at hq_; omega) | (simp only [f2, f3, f4, reduceCtorEq] at hq_; done) | exact Bool.noConfusion (Eq.trans (Eq.symm f2) hq_) | exact Bool.noConfusion (Eq.trans (Eq.symm f3) hq_) | exact Bool.noConfusion (Eq.trans (Eq.symm f4) hq_)) | skip) | apply guess | apply FnIs.useF (kc) | apply FnIs.useF (kd) | exact Or.inl rfl | exact Or.inr rfl | exact Side.mk trivial | exact Side.mk (fun h => h) | exact Side.mk (fun h => ⟨h, h⟩) | with_reducible exact Side.mk rfl | with_reducible exact Side.mk ⟨rfl, rfl⟩ | with_reducible exact Side.mk (by assumption) | with_reducible rfl | intro _)
              all_goals try (conv => whnf)
              all_goals try dsimp only at *
              all_goals try simp only [hg2, Int.toNat_natCast] at *
              all_goals try (refine Side.mk ?_; first | (intros; omega) | (intro h1_ h2_; rw [h1_, h2_]; rfl) | (show List.length (_ ++ _) ≤ _; simp only [List.length_append, List.length_cons, List.length_nil, List.length_replicate, List.length_take]; omega) | (simp_all; done) | (simp_all; omega))
              refine ⟨(i + 1, acc ++ [l.extract (k + 1) l.size], chk c (l.extract (k + 1) l.size), n + (l.size + 1)), ⟨by show i + 1 ≤ _; omega, by show (acc ++ [_]).length ≤ i + 1; simp only [List.length_append, List.length_singleton]; omega, hco, by show n + (l.size + 1) ≤ (i + 1) * 4001; omega, ?_⟩, by show _ - (i + 1) < _ - i; omega, ?_⟩
              · rw [h4]
                simp only [List.append_assoc, List.singleton_append]
                rw [Nat.add_assoc n (l.size + 1)]
              · repeat' ((conv => whnf); first | done | refine ev_step ?_ | refine ops_step ?_ | refine scan_step ?_ | refine draw_step ?_ | refine each_step ?_ | refine sl_step ?_ | refine hp_step ?_ | refine guard_no (by decide) ?_ | refine guard_go ?_ | refine guard_old ?_ | apply cut_auto | with_reducible exact CutS.mk (Or.inl ⟨rfl, rfl, rfl⟩) | refine CutS.mk (Or.inr (Or.inl (sub_auto ?_))) | exact trivial | refine And.intro ?_ ?_ | refine cond_split ?_ ?_ | apply guess | exact Or.inl rfl | exact Or.inr rfl | exact Side.mk trivial | exact Side.mk (fun h => h) | exact Side.mk (fun h => ⟨h, h⟩) | with_reducible exact Side.mk rfl | with_reducible exact Side.mk ⟨rfl, rfl⟩ | with_reducible exact Side.mk (by assumption) | with_reducible rfl | intro _)
                all_goals try (conv => whnf)
                all_goals first | rfl | omega | trace_state
            · rw [decide_eq_false hd] at hok
              rw [recL_none hok] at h4
              simp only [List.append_nil, Nat.add_zero] at h4
              rw [h4]
              have f4 : (!((((cutB t 10).getD (0 + (i : Int).toNat) ByteArray.empty).extract 0 (k : Int).toNat).toList == (decB (chk c (((cutB t 10).getD (0 + (i : Int).toNat) ByteArray.empty).extract ((k : Int) + 1).toNat ((cutB t 10).getD (0 + (i : Int).toNat) ByteArray.empty).size))).toList)) = true := by
                rw [hl3, hg3, Int.toNat_natCast, bytes_eq, decide_eq_false hd]; rfl
              repeat' ((conv => whnf); first | done | refine ev_step ?_ | refine ops_step ?_ | refine scan_step ?_ | refine draw_step ?_ | refine each_step ?_ | refine sl_step ?_ | refine hp_step ?_ | refine guard_no (by decide) ?_ | refine guard_go ?_ | refine guard_old ?_ | apply cut_auto | with_reducible exact CutS.mk (Or.inl ⟨rfl, rfl, rfl⟩) | refine CutS.mk (Or.inr (Or.inl (sub_auto ?_))) | exact trivial | refine And.intro ?_ ?_ | (refine cond_split ?_ ?_ <;> intro hq_ <;> first | (exfalso; first | omega | (simp only [f2, f3, f4, cond_true, cond_false, Bool.not_true, Bool.not_false, Bool.and_true, Bool.true_and, Bool.and_false, Bool.false_and, Bool.or_true, Bool.true_or, Bool.or_false, Bool.false_or, Bool.true_eq_false, Bool.false_eq_true, decide_true, decide_false, reduceCtorEq] at hq_; done) | (rw [decide_eq_false_iff_not] at hq_; omega) | (rw [decide_eq_true_eq] at hq_; omega) | (simp only [f2, f3, f4, reduceCtorEq] at hq_; done) | exact Bool.noConfusion (Eq.trans (Eq.symm f2) hq_) | exact Bool.noConfusion (Eq.trans (Eq.symm f3) hq_) | exact Bool.noConfusion (Eq.trans (Eq.symm f4) hq_)) | skip) | apply guess | apply FnIs.useF (kc) | apply FnIs.useF (kd) | exact Or.inl rfl | exact Or.inr rfl | exact Side.mk trivial | exact Side.mk (fun h => h) | exact Side.mk (fun h => ⟨h, h⟩) | with_reducible exact Side.mk rfl | with_reducible exact Side.mk ⟨rfl, rfl⟩ | with_reducible exact Side.mk (by assumption) | with_reducible rfl | intro _)
              all_goals try (conv => whnf)
              all_goals try dsimp only at *
              all_goals try simp only [hg2, Int.toNat_natCast] at *
              all_goals try (refine Side.mk ?_; first | (intros; omega) | (intro h1_ h2_; rw [h1_, h2_]; rfl) | (show List.length (_ ++ _) ≤ _; simp only [List.length_append, List.length_cons, List.length_nil, List.length_replicate, List.length_take]; omega) | (simp_all; done) | (simp_all; omega))
          | false =>
            rw [hb] at hq
            have f2 : (bif decide ((k : Int) < (((cutB t 10).getD (0 + (i : Int).toNat) ByteArray.empty).size : Int)) then decide (bAt ((cutB t 10).getD (0 + (i : Int).toNat) ByteArray.empty) (k : Int).toNat ≠ 32) else false) = true := by
              rw [f1, hg3, Int.toNat_natCast, cond_true]
              exact decide_eq_true (of_decide_eq_false hq)
            repeat' ((conv => whnf); first | done | refine ev_step ?_ | refine ops_step ?_ | refine scan_step ?_ | refine draw_step ?_ | refine each_step ?_ | refine sl_step ?_ | refine hp_step ?_ | refine guard_no (by decide) ?_ | refine guard_go ?_ | refine guard_old ?_ | apply cut_auto | with_reducible exact CutS.mk (Or.inl ⟨rfl, rfl, rfl⟩) | refine CutS.mk (Or.inr (Or.inl (sub_auto ?_))) | exact trivial | refine And.intro ?_ ?_ | (refine cond_split ?_ ?_ <;> intro hq_ <;> first | (exfalso; first | omega | (simp only [f2, cond_true, cond_false, Bool.not_true, Bool.not_false, Bool.and_true, Bool.true_and, Bool.and_false, Bool.false_and, Bool.or_true, Bool.true_or, Bool.or_false, Bool.false_or, Bool.true_eq_false, Bool.false_eq_true, decide_true, decide_false, reduceCtorEq] at hq_; done) | (rw [decide_eq_false_iff_not] at hq_; omega) | (rw [decide_eq_true_eq] at hq_; omega) | (simp only [f2, reduceCtorEq] at hq_; done) | exact Bool.noConfusion (Eq.trans (Eq.symm f2) hq_)) | skip) | apply guess | exact Or.inl rfl | exact Or.inr rfl | exact Side.mk trivial | exact Side.mk (fun h => h) | exact Side.mk (fun h => ⟨h, h⟩) | with_reducible exact Side.mk rfl | with_reducible exact Side.mk ⟨rfl, rfl⟩ | with_reducible exact Side.mk (by assumption) | with_reducible rfl | intro _)
            all_goals try (conv => whnf)
            all_goals try dsimp only at *
            all_goals try simp only [hg2, Int.toNat_natCast] at *
            all_goals try (refine Side.mk ?_; first | (intros; omega) | (intro h1_ h2_; rw [h1_, h2_]; rfl) | (show List.length (_ ++ _) ≤ _; simp only [List.length_append, List.length_cons, List.length_nil, List.length_replicate, List.length_take]; omega) | (simp_all; done) | (simp_all; omega))
            refine ⟨k + 1, ⟨by omega, by rw [any_succ 0 hkl', k2, hb]; rfl⟩, by omega, ?_⟩
            repeat' ((conv => whnf); first | done | refine ev_step ?_ | refine ops_step ?_ | refine scan_step ?_ | refine draw_step ?_ | refine each_step ?_ | refine sl_step ?_ | refine hp_step ?_ | refine guard_no (by decide) ?_ | refine guard_go ?_ | refine guard_old ?_ | apply cut_auto | with_reducible exact CutS.mk (Or.inl ⟨rfl, rfl, rfl⟩) | refine CutS.mk (Or.inr (Or.inl (sub_auto ?_))) | exact trivial | refine And.intro ?_ ?_ | refine cond_split ?_ ?_ | apply guess | exact Or.inl rfl | exact Or.inr rfl | exact Side.mk trivial | exact Side.mk (fun h => h) | exact Side.mk (fun h => ⟨h, h⟩) | with_reducible exact Side.mk rfl | with_reducible exact Side.mk ⟨rfl, rfl⟩ | with_reducible exact Side.mk (by assumption) | with_reducible rfl | intro _)
            all_goals try (conv => whnf)
            all_goals first | rfl | omega | trace_state
        · have hkk : k = l.size := by omega
          rw [List.take_of_length_le (by rw [bl_len]; omega)] at k2
          have hok := okLine_no (c := c) (l := l) (by rw [idx_neg k2]; decide)
          rw [recL_none hok] at h4
          simp only [List.append_nil, Nat.add_zero] at h4
          rw [h4]
          have f1 : decide ((k : Int) < (((cutB t 10).getD (0 + (i : Int).toNat) ByteArray.empty).size : Int)) = false := by rw [hg3]; exact decide_eq_false (by omega)
          have f2 : (bif decide ((k : Int) < (((cutB t 10).getD (0 + (i : Int).toNat) ByteArray.empty).size : Int)) then decide (bAt ((cutB t 10).getD (0 + (i : Int).toNat) ByteArray.empty) (k : Int).toNat ≠ 32) else false) = false := by
            rw [f1]; rfl
          have f3 : decide ((k : Int) = (((cutB t 10).getD (0 + (i : Int).toNat) ByteArray.empty).size : Int)) = true := by rw [hg3]; exact decide_eq_true (by omega)
          repeat' ((conv => whnf); first | done | refine ev_step ?_ | refine ops_step ?_ | refine scan_step ?_ | refine draw_step ?_ | refine each_step ?_ | refine sl_step ?_ | refine hp_step ?_ | refine guard_no (by decide) ?_ | refine guard_go ?_ | refine guard_old ?_ | apply cut_auto | with_reducible exact CutS.mk (Or.inl ⟨rfl, rfl, rfl⟩) | refine CutS.mk (Or.inr (Or.inl (sub_auto ?_))) | exact trivial | refine And.intro ?_ ?_ | (refine cond_split ?_ ?_ <;> intro hq_ <;> first | (exfalso; first | omega | (simp only [f1, f2, f3, cond_true, cond_false, Bool.not_true, Bool.not_false, Bool.and_true, Bool.true_and, Bool.and_false, Bool.false_and, Bool.or_true, Bool.true_or, Bool.or_false, Bool.false_or, Bool.true_eq_false, Bool.false_eq_true, decide_true, decide_false, reduceCtorEq] at hq_; done) | (rw [decide_eq_false_iff_not] at hq_; omega) | (rw [decide_eq_true_eq] at hq_; omega) | (simp only [f1, f2, f3, reduceCtorEq] at hq_; done) | exact Bool.noConfusion (Eq.trans (Eq.symm f1) hq_) | exact Bool.noConfusion (Eq.trans (Eq.symm f2) hq_) | exact Bool.noConfusion (Eq.trans (Eq.symm f3) hq_)) | skip) | apply guess | exact Or.inl rfl | exact Or.inr rfl | exact Side.mk trivial | exact Side.mk (fun h => h) | exact Side.mk (fun h => ⟨h, h⟩) | with_reducible exact Side.mk rfl | with_reducible exact Side.mk ⟨rfl, rfl⟩ | with_reducible exact Side.mk (by assumption) | with_reducible rfl | intro _)
          all_goals try (conv => whnf)
          all_goals try dsimp only at *
          all_goals try simp only [hg2, Int.toNat_natCast] at *
          all_goals try (refine Side.mk ?_; first | (intros; omega) | (intro h1_ h2_; rw [h1_, h2_]; rfl) | (show List.length (_ ++ _) ≤ _; simp only [List.length_append, List.length_cons, List.length_nil, List.length_replicate, List.length_take]; omega) | (simp_all; done) | (simp_all; omega))
    · have hdr : (linesB (bl t)).drop i = [] := List.drop_eq_nil_of_le (by omega)
      rw [hdr] at h4
      simp only [recL, List.append_nil, Nat.add_zero] at h4
      rw [h4]
      repeat' ((conv => whnf); first | done | refine ev_step ?_ | refine ops_step ?_ | refine scan_step ?_ | refine draw_step ?_ | refine each_step ?_ | refine sl_step ?_ | refine hp_step ?_ | refine guard_no (by decide) ?_ | refine guard_go ?_ | refine guard_old ?_ | apply cut_auto | with_reducible exact CutS.mk (Or.inl ⟨rfl, rfl, rfl⟩) | refine CutS.mk (Or.inr (Or.inl (sub_auto ?_))) | exact trivial | refine And.intro ?_ ?_ | (refine cond_split ?_ ?_ <;> intro _ <;> first | (exfalso; first | omega | (simp only [decide_eq_true_eq, decide_eq_false_iff_not, Bool.not_eq_true', Bool.not_eq_false', ne_eq, Bool.not_true, Bool.not_false, cond_true, cond_false, Bool.true_eq_false, Bool.false_eq_true, Bool.and_eq_true, Bool.and_eq_false_iff] at *; omega)) | skip) | apply guess | exact Or.inl rfl | exact Or.inr rfl | exact Side.mk trivial | exact Side.mk (fun h => h) | exact Side.mk (fun h => ⟨h, h⟩) | with_reducible exact Side.mk rfl | with_reducible exact Side.mk ⟨rfl, rfl⟩ | with_reducible exact Side.mk (by assumption) | with_reducible rfl | intro _)
      all_goals try (conv => whnf)
      all_goals try dsimp only at *
      all_goals try (refine Side.mk ?_; first | (intros; omega) | (intro h1_ h2_; rw [h1_, h2_]; rfl) | (show List.length (_ ++ _) ≤ _; simp only [List.length_append, List.length_cons, List.length_nil, List.length_replicate, List.length_take]; omega) | (simp_all; done) | (simp_all; omega))
      all_goals first | rfl | trace_state
end Go.Sx.U
