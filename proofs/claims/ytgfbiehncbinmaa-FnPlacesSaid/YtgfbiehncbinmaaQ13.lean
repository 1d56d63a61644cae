/-
  Chapter 9: slices.Repeat; the program's latest places and freedom.
-/
import Derived.Test.YtgfbiehncbinmaaQ12
namespace Go.Sx.U
set_option linter.unusedVariables false
set_option linter.unusedSimpArgs false
set_option maxRecDepth 100000
set_option maxHeartbeats 8000000
open Go Go.Sx Go.Sx.M9 Go.Proofs
set_option maxHeartbeats 2000000
set_option maxRecDepth 100000

theorem c119 (x y : Int) (h : Side (0 ≤ x ∧ x < 65536 ∧ 0 ≤ y ∧ y < 65536)) : FnIs Try.prog 84 [.int .u64 x, .int .u64 y] 0 [] (.tuple [.int .u64 0, .int .u64 (x * y)]) 0 [] := by
  refine fn_of_ev tok Try.func84 rfl rfl rfl ?_
  repeat' ((conv => whnf); first | done | refine ev_step ?_ | refine ops_step ?_ | refine scan_step ?_ | refine draw_step ?_ | refine each_step ?_ | refine sl_step ?_ | refine hp_step ?_ | refine guard_no (by decide) ?_ | refine guard_go ?_ | refine guard_old ?_ | apply cut_auto | with_reducible exact CutS.mk (Or.inl ⟨rfl, rfl, rfl⟩) | refine CutS.mk (Or.inr (sub_auto ?_)) | exact trivial | refine And.intro ?_ ?_ | refine cond_split ?_ ?_ | apply guess | apply FnIs.useF (c139 _ _ h) | exact Or.inl rfl | exact Or.inr rfl | exact Side.mk trivial | exact Side.mk (fun h => h) | exact Side.mk (fun h => ⟨h, h⟩) | with_reducible exact Side.mk rfl | with_reducible exact Side.mk ⟨rfl, rfl⟩ | with_reducible exact Side.mk (by assumption) | with_reducible rfl | intro _)
  all_goals try (conv => whnf)
theorem splice_rep (w : Int) {n p m : Nat} (h : n + m ≤ p) (hm : m ≤ n) : spliceL (List.replicate n w ++ List.replicate (p - n) 0) (List.replicate n w) n m = List.replicate (n + m) w ++ List.replicate (p - (n + m)) 0 := by
  unfold spliceL
  rw [List.take_left' (by simp), List.take_replicate, Nat.min_eq_left hm, List.drop_append, List.drop_replicate, List.drop_replicate]
  rw [show n - (n + m) = 0 by omega]
  simp only [List.length_replicate, List.replicate_zero, List.nil_append, List.replicate_append_replicate]
  congr 2
  omega
theorem wrap_i {x : Int} (h0 : 0 ≤ x) (h : x < 65536) : IntKind.i64.wrap x = x := by
  unfold IntKind.wrap; simp [IntKind.bits, IntKind.signed]; omega
theorem c116 (w p : Int) (h : Side (1 ≤ p ∧ p ≤ 16)) : FnIs Try.prog 90 [.sl 0 [], .int .i64 p] 1 [(0, .flat false (.ints .i64 [w]))] (.sl 1 []) 2 [(1, .flat true (.ints .i64 (List.replicate p.toNat w)))] := by
  obtain ⟨h1, h2⟩ := h.h
  have e1 : IntKind.u64.wrap ((([w] : List Int).length : Nat) : Int) = 1 := rfl
  have e2 : IntKind.u64.wrap p = p := wrap_u (by omega) (by omega)
  have e3 : IntKind.i64.wrap (1 * p) = p := by rw [Int.one_mul]; exact wrap_i (by omega) (by omega)
  have e4 : IntKind.u64.wrap (1 * p) = p := by rw [Int.one_mul]; exact e2
  refine fn_of_ev tok Try.func90 rfl rfl rfl ?_
  have e5 : Nat.min ([w] : List Int).length (List.replicate p.toNat (0 : Int)).length = 1 := by
    have : (List.replicate p.toNat (0 : Int)).length = p.toNat := by simp
    show Nat.min 1 _ = 1
    rw [this]
    exact Nat.min_eq_left (by omega)
  have e6 : spliceL (List.replicate p.toNat 0) [w] 0 1 = List.replicate 1 w ++ List.replicate (p.toNat - 1) 0 := by
    simp [spliceL]
  repeat' ((conv => whnf); first | done | refine ev_step ?_ | refine ops_step ?_ | refine scan_step ?_ | refine draw_step ?_ | refine each_step ?_ | refine sl_step ?_ | refine hp_step ?_ | refine guard_no (by decide) ?_ | refine guard_go ?_ | refine guard_old ?_ | apply cut_auto | with_reducible exact CutS.mk (Or.inl ⟨rfl, rfl, rfl⟩) | refine CutS.mk (Or.inr (sub_auto ?_)) | exact trivial | refine And.intro ?_ ?_ | (refine cond_split ?_ ?_ <;> intro _ <;> first | (exfalso; first | omega | (simp only [decide_eq_true_eq, decide_eq_false_iff_not, Bool.not_eq_true', Bool.not_eq_false', ne_eq, Bool.not_true, Bool.not_false, cond_true, cond_false, Bool.true_eq_false, Bool.false_eq_true, Bool.and_eq_true, Bool.and_eq_false_iff] at *; omega)) | skip) | apply guess | apply FnIs.useF (c119 _ _ _) | exact Or.inl rfl | exact Or.inr rfl | exact Side.mk trivial | exact Side.mk (fun h => h) | exact Side.mk (fun h => ⟨h, h⟩) | with_reducible exact Side.mk rfl | with_reducible exact Side.mk ⟨rfl, rfl⟩ | with_reducible exact Side.mk (by assumption) | with_reducible rfl | intro _)
  all_goals try (conv => whnf)
  · rename_i hq
    rw [e1, e2] at hq
    simp at hq
    omega
  all_goals rw [e1, e2]
  all_goals try rw [e3]
  · exact Side.mk ⟨by omega, by omega⟩
  · rw [e5, e6]
    refine loop_at (fun n : Nat => 1 ≤ n ∧ n ≤ p.toNat) 2 (fun n => [(8, .int .i64 n)]) (fun n => [(1, .flat true (.ints .i64 (List.replicate n w ++ List.replicate (p.toNat - n) 0)))]) (fun n => p.toNat - n) 1 ⟨Nat.le_refl _, by omega⟩ ?_ (fun n hn => ?_)
    · repeat' ((conv => whnf); first | done | refine ev_step ?_ | refine ops_step ?_ | refine scan_step ?_ | refine draw_step ?_ | refine each_step ?_ | refine sl_step ?_ | refine hp_step ?_ | refine guard_no (by decide) ?_ | refine guard_go ?_ | refine guard_old ?_ | apply cut_auto | with_reducible exact CutS.mk (Or.inl ⟨rfl, rfl, rfl⟩) | refine CutS.mk (Or.inr (sub_auto ?_)) | exact trivial | refine And.intro ?_ ?_ | refine cond_split ?_ ?_ | apply guess | exact Or.inl rfl | exact Or.inr rfl | exact Side.mk trivial | exact Side.mk (fun h => h) | exact Side.mk (fun h => ⟨h, h⟩) | with_reducible exact Side.mk rfl | with_reducible exact Side.mk ⟨rfl, rfl⟩ | with_reducible exact Side.mk (by assumption) | with_reducible rfl | intro _)
      all_goals try (conv => whnf)
      all_goals first | rfl | trace_state
    · have hl : (List.replicate n w ++ List.replicate (p.toNat - n) (0 : Int)).length = p.toNat := by simp; omega
      have hs : List.take (n.sub 0) (List.drop (Nat.add 0 0) (List.replicate n w ++ List.replicate (p.toNat - n) (0 : Int))) = List.replicate n w := by
        show List.take (n - 0) (List.drop (0 + 0) _) = _
        simp
      have hm : (List.take (n.sub 0) (List.drop (Nat.add 0 0) (List.replicate n w ++ List.replicate (p.toNat - n) (0 : Int)))).length.min ((List.replicate n w ++ List.replicate (p.toNat - n) (0 : Int)).length.sub n) = min n (p.toNat - n) := by
        rw [hs, hl, List.length_replicate]; rfl
      by_cases hlt : n < p.toNat
      · repeat' ((conv => whnf); first | done | refine ev_step ?_ | refine ops_step ?_ | refine scan_step ?_ | refine draw_step ?_ | refine each_step ?_ | refine sl_step ?_ | refine hp_step ?_ | refine guard_no (by decide) ?_ | refine guard_go ?_ | refine guard_old ?_ | apply cut_auto | with_reducible exact CutS.mk (Or.inl ⟨rfl, rfl, rfl⟩) | refine CutS.mk (Or.inr (sub_auto ?_)) | exact trivial | refine And.intro ?_ ?_ | (refine cond_split ?_ ?_ <;> intro _ <;> first | (exfalso; first | omega | (simp only [decide_eq_true_eq, decide_eq_false_iff_not, Bool.not_eq_true', Bool.not_eq_false', ne_eq, Bool.not_true, Bool.not_false, cond_true, cond_false, Bool.true_eq_false, Bool.false_eq_true, Bool.and_eq_true, Bool.and_eq_false_iff] at *; omega)) | skip) | apply guess | exact Or.inl rfl | exact Or.inr rfl | exact Side.mk trivial | exact Side.mk (fun h => h) | exact Side.mk (fun h => ⟨h, h⟩) | with_reducible exact Side.mk rfl | with_reducible exact Side.mk ⟨rfl, rfl⟩ | with_reducible exact Side.mk (by assumption) | with_reducible rfl | intro _)
        all_goals try (conv => whnf)
        all_goals try simp only [Int.toNat_natCast] at *
        all_goals try (refine Side.mk ?_; first | (intros; omega) | (intro h1_ h2_; rw [h1_, h2_]; rfl) | (show List.length (_ ++ _) ≤ _; simp only [List.length_append, List.length_cons, List.length_nil, List.length_replicate, List.length_take]; omega) | (simp_all; done) | (simp_all; omega))
        all_goals first | (refine Side.mk ?_; show 0 + (n - 0) ≤ (List.replicate n w ++ List.replicate (p.toNat - n) (0 : Int)).length; omega) | (refine Side.mk ?_; rw [hm]; omega) | skip
        · refine ⟨n + min n (p.toNat - n), by omega, by omega, ?_⟩
          have hz : Nat.add 0 n = n := Nat.zero_add n
          rw [hm, hs, hz, splice_rep w (p := p.toNat) (n := n) (m := min n (p.toNat - n)) (by omega) (by omega)]
          repeat' ((conv => whnf); first | done | refine ev_step ?_ | refine ops_step ?_ | refine scan_step ?_ | refine draw_step ?_ | refine each_step ?_ | refine sl_step ?_ | refine hp_step ?_ | refine guard_no (by decide) ?_ | refine guard_go ?_ | refine guard_old ?_ | apply cut_auto | with_reducible exact CutS.mk (Or.inl ⟨rfl, rfl, rfl⟩) | refine CutS.mk (Or.inr (sub_auto ?_)) | exact trivial | refine And.intro ?_ ?_ | refine cond_split ?_ ?_ | apply guess | exact Or.inl rfl | exact Or.inr rfl | exact Side.mk trivial | exact Side.mk (fun h => h) | exact Side.mk (fun h => ⟨h, h⟩) | with_reducible exact Side.mk rfl | with_reducible exact Side.mk ⟨rfl, rfl⟩ | with_reducible exact Side.mk (by assumption) | with_reducible rfl | intro _)
          all_goals try (conv => whnf)
          all_goals first | rfl | omega | trace_state
      · obtain rfl : n = p.toNat := by omega
        repeat' ((conv => whnf); first | done | refine ev_step ?_ | refine ops_step ?_ | refine scan_step ?_ | refine draw_step ?_ | refine each_step ?_ | refine sl_step ?_ | refine hp_step ?_ | refine guard_no (by decide) ?_ | refine guard_go ?_ | refine guard_old ?_ | apply cut_auto | with_reducible exact CutS.mk (Or.inl ⟨rfl, rfl, rfl⟩) | refine CutS.mk (Or.inr (sub_auto ?_)) | exact trivial | refine And.intro ?_ ?_ | (refine cond_split ?_ ?_ <;> intro _ <;> first | (exfalso; first | omega | (simp only [decide_eq_true_eq, decide_eq_false_iff_not, Bool.not_eq_true', Bool.not_eq_false', ne_eq, Bool.not_true, Bool.not_false, cond_true, cond_false, Bool.true_eq_false, Bool.false_eq_true, Bool.and_eq_true, Bool.and_eq_false_iff] at *; omega)) | skip) | apply guess | exact Or.inl rfl | exact Or.inr rfl | exact Side.mk trivial | exact Side.mk (fun h => h) | exact Side.mk (fun h => ⟨h, h⟩) | with_reducible exact Side.mk rfl | with_reducible exact Side.mk ⟨rfl, rfl⟩ | with_reducible exact Side.mk (by assumption) | with_reducible rfl | intro _)
        all_goals try (conv => whnf)
        all_goals first | done | (simp; done) | trace_state
  · exact Side.mk (by omega)

/-! ### The program's latest places -/
def lateI (p w : Int) (rs : List R3) : Bool := match leastR p rs with
  | some L0 => decide (maxL L0 ≤ w)
  | none => false
theorem lateI_eq {p w : Int} {rs : List R3} (hp : okPress p rs = true) (h0 : 0 ≤ w) (hw : w ≤ 16000) : lateI p w rs = lateOk p w rs := by
  rw [Bool.eq_iff_iff, late_iff hp h0 hw]
  unfold lateI
  cases h : leastR p rs with
  | none => simp
  | some L0 => simp
theorem outK_fix {rs : List R3} {z L : List Int} {K : Nat} (hL : L = outK rs z K) (hf : (pass rs L).2 = false) : outK rs z (K + 1) = L := by
  rw [outK, ← hL]
  exact (pass_false hf).1
theorem c86 (p w : Int) (rs : List R3) (h : Side (okPress p rs = true ∧ inPl w = true)) : FnIs Try.prog 67 [.ptr 0 [] 0 0, .int .i64 w] 2 [(0, .flat false (.gen 2 [[.int .i64 p, .sl 1 []]])), (1, .flat false (.r3 rs))] (.tuple [.sl 2 [], .bool (late? p w rs).isSome]) 3 [(2, .flat true (.ints .i64 ((late? p w rs).getD [])))] := by
  obtain ⟨hp, hw⟩ := h.h
  obtain ⟨hw1, hw2⟩ := inPl_bd hw
  have hb := okPress_bd hp
  have hp' := okPress_flps hp
  have hfl : (flps rs).length = rs.length := by simp [flps]
  have k1 := c77 p rs ⟨hp⟩
  have hI := lateI_eq hp hw1 hw2
  refine fn_of_ev tok Try.func67 rfl rfl rfl ?_
  cases hL0 : leastR p rs with
  | none =>
    rw [hL0] at k1
    rw [late?_none (by rw [← hI]; simp [lateI, hL0])]
    repeat' ((conv => whnf); first | done | refine ev_step ?_ | refine ops_step ?_ | refine scan_step ?_ | refine draw_step ?_ | refine each_step ?_ | refine sl_step ?_ | refine hp_step ?_ | refine guard_no (by decide) ?_ | refine guard_go ?_ | refine guard_old ?_ | apply cut_auto | with_reducible exact CutS.mk (Or.inl ⟨rfl, rfl, rfl⟩) | refine CutS.mk (Or.inr (sub_auto ?_)) | exact trivial | refine And.intro ?_ ?_ | refine cond_split ?_ ?_ | apply guess | apply FnIs.useF (k1) | apply FnIs.useF (c80 _ _) | exact Or.inl rfl | exact Or.inr rfl | exact Side.mk trivial | exact Side.mk (fun h => h) | exact Side.mk (fun h => ⟨h, h⟩) | with_reducible exact Side.mk rfl | with_reducible exact Side.mk ⟨rfl, rfl⟩ | with_reducible exact Side.mk (by assumption) | with_reducible rfl | intro _)
    all_goals try (conv => whnf)
    all_goals first | done | rfl | (refine Side.mk ?_; simp; done) | (exfalso; simp_all; done) | trace_state
  | some L0 =>
    rw [hL0] at k1
    obtain ⟨m1, m2, m3⟩ := leastR_max hp hL0
    obtain ⟨l1, l2, l3, l4⟩ := leastR_spec hp hL0
    simp only [Option.getD_some, Option.isSome_some] at k1
    have k2 := c80 L0 ⟨by omega⟩
    by_cases hm : maxL L0 ≤ w
    · have hok : lateOk p w rs = true := by rw [← hI]; simp [lateI, hL0, hm]
      obtain ⟨L, hL, eL⟩ := late?_some hp hw hok
      obtain ⟨K, hK, hKL, hKt, hKf⟩ := leastF_fix hL
      have hK1 := outK_fix hKL hKf
      rw [eL]
      repeat' ((conv => whnf); first | done | refine ev_step ?_ | refine ops_step ?_ | refine scan_step ?_ | refine draw_step ?_ | refine each_step ?_ | refine sl_step ?_ | refine hp_step ?_ | refine guard_no (by decide) ?_ | refine guard_go ?_ | refine guard_old ?_ | apply cut_auto | with_reducible exact CutS.mk (Or.inl ⟨rfl, rfl, rfl⟩) | refine CutS.mk (Or.inr (sub_auto ?_)) | exact trivial | refine And.intro ?_ ?_ | (refine cond_split ?_ ?_ <;> intro _ <;> first | (exfalso; first | omega | (simp_all; done) | (simp_all; omega)) | skip) | apply guess | apply FnIs.useF (k1) | apply FnIs.useF (k2) | apply FnIs.useF (c116 _ _ _) | exact Or.inl rfl | exact Or.inr rfl | exact Side.mk trivial | exact Side.mk (fun h => h) | exact Side.mk (fun h => ⟨h, h⟩) | with_reducible exact Side.mk rfl | with_reducible exact Side.mk ⟨rfl, rfl⟩ | with_reducible exact Side.mk (by assumption) | with_reducible rfl | intro _)
      all_goals try (conv => whnf)
      all_goals first | exact Side.mk (by omega) | skip
      refine loop_at (fun k : Nat => k ≤ K + 1) 5 (fun k => [(9, .bool (decide (k ≤ K)))]) (fun k => [(4, .flat true (.ints .i64 (comp w (outK (flps rs) (zeros p) k))))]) (fun k => K + 1 - k) 0 (Nat.zero_le _) ?_ (fun k hk => ?_)
      · repeat' ((conv => whnf); first | done | refine ev_step ?_ | refine ops_step ?_ | refine scan_step ?_ | refine draw_step ?_ | refine each_step ?_ | refine sl_step ?_ | refine hp_step ?_ | refine guard_no (by decide) ?_ | refine guard_go ?_ | refine guard_old ?_ | apply cut_auto | with_reducible exact CutS.mk (Or.inl ⟨rfl, rfl, rfl⟩) | refine CutS.mk (Or.inr (sub_auto ?_)) | exact trivial | refine And.intro ?_ ?_ | refine cond_split ?_ ?_ | apply guess | exact Or.inl rfl | exact Or.inr rfl | exact Side.mk trivial | exact Side.mk (fun h => h) | exact Side.mk (fun h => ⟨h, h⟩) | with_reducible exact Side.mk rfl | with_reducible exact Side.mk ⟨rfl, rfl⟩ | with_reducible exact Side.mk (by assumption) | with_reducible rfl | intro _)
        all_goals try (conv => whnf)
        all_goals first | rfl | (rw [outK, comp_zeros])
      · by_cases hkk : k ≤ K
        · have hpk : (pass (flps rs) (outK (flps rs) (zeros p) k)).2 = decide (k + 1 ≤ K) := by
            by_cases hlt : k < K
            · rw [hKt k hlt, decide_eq_true (by omega)]
            · obtain rfl : k = K := by omega
              rw [← hKL, hKf, decide_eq_false (by omega)]
          repeat' ((conv => whnf); first | done | refine ev_step ?_ | refine ops_step ?_ | refine scan_step ?_ | refine draw_step ?_ | refine each_step ?_ | refine sl_step ?_ | refine hp_step ?_ | refine guard_no (by decide) ?_ | refine guard_go ?_ | refine guard_old ?_ | apply cut_auto | with_reducible exact CutS.mk (Or.inl ⟨rfl, rfl, rfl⟩) | refine CutS.mk (Or.inr (sub_auto ?_)) | exact trivial | refine And.intro ?_ ?_ | (refine cond_split ?_ ?_ <;> intro _ <;> first | (exfalso; first | omega | (simp only [decide_eq_true_eq, decide_eq_false_iff_not, Bool.not_eq_true', Bool.not_eq_false', ne_eq, Bool.not_true, Bool.not_false, cond_true, cond_false, Bool.true_eq_false, Bool.false_eq_true, Bool.and_eq_true, Bool.and_eq_false_iff] at *; omega)) | skip) | apply guess | exact Or.inl rfl | exact Or.inr rfl | exact Side.mk trivial | exact Side.mk (fun h => h) | exact Side.mk (fun h => ⟨h, h⟩) | with_reducible exact Side.mk rfl | with_reducible exact Side.mk ⟨rfl, rfl⟩ | with_reducible exact Side.mk (by assumption) | with_reducible rfl | intro _)
          all_goals try (conv => whnf)
          refine loop_at (fun j : Nat => j ≤ rs.length) 5 (fun j => [(9, .bool (passT (flps rs) (outK (flps rs) (zeros p) k) j).2), (39, .int .i64 j)]) (fun j => [(4, .flat true (.ints .i64 (comp w (passT (flps rs) (outK (flps rs) (zeros p) k) j).1)))]) (fun j => rs.length - j) 0 (Nat.zero_le _) ?_ (fun j hj => ?_)
          · repeat' ((conv => whnf); first | done | refine ev_step ?_ | refine ops_step ?_ | refine scan_step ?_ | refine draw_step ?_ | refine each_step ?_ | refine sl_step ?_ | refine hp_step ?_ | refine guard_no (by decide) ?_ | refine guard_go ?_ | refine guard_old ?_ | apply cut_auto | with_reducible exact CutS.mk (Or.inl ⟨rfl, rfl, rfl⟩) | refine CutS.mk (Or.inr (sub_auto ?_)) | exact trivial | refine And.intro ?_ ?_ | refine cond_split ?_ ?_ | apply guess | exact Or.inl rfl | exact Or.inr rfl | exact Side.mk trivial | exact Side.mk (fun h => h) | exact Side.mk (fun h => ⟨h, h⟩) | with_reducible exact Side.mk rfl | with_reducible exact Side.mk ⟨rfl, rfl⟩ | with_reducible exact Side.mk (by assumption) | with_reducible rfl | intro _)
            all_goals try (conv => whnf)
            all_goals first | rfl | simp [passT_zero]
          · have hlz : (outK (flps rs) (zeros p) k).length = p.toNat := by rw [outK_length, zeros_length]
            have hlen : (passT (flps rs) (outK (flps rs) (zeros p) k) j).1.length = p.toNat := by rw [passT_length, hlz]
            have hcl := comp_length w (passT (flps rs) (outK (flps rs) (zeros p) k) j).1
            by_cases hjl : j < rs.length
            · have bj := okPress_get hp hjl
              have hbd := (Bd.outK hp' k).passT (okPress_bd hp').2.2.2 j (by omega)
              have b1 := comp_bd hbd hw1 (rs.getD j default).a.toNat (by omega)
              have b2 := comp_bd hbd hw1 (rs.getD j default).b.toNat (by omega)
              repeat' ((conv => whnf); first | done | refine ev_step ?_ | refine ops_step ?_ | refine scan_step ?_ | refine draw_step ?_ | refine each_step ?_ | refine sl_step ?_ | refine hp_step ?_ | refine guard_no (by decide) ?_ | refine guard_go ?_ | refine guard_old ?_ | apply cut_auto | with_reducible exact CutS.mk (Or.inl ⟨rfl, rfl, rfl⟩) | refine CutS.mk (Or.inr (sub_auto ?_)) | exact trivial | refine And.intro ?_ ?_ | (refine cond_split ?_ ?_ <;> intro _ <;> first | (exfalso; first | omega | (simp only [decide_eq_true_eq, decide_eq_false_iff_not, Bool.not_eq_true', Bool.not_eq_false', ne_eq, Bool.not_true, Bool.not_false, cond_true, cond_false, Bool.true_eq_false, Bool.false_eq_true, Bool.and_eq_true, Bool.and_eq_false_iff] at *; omega)) | skip) | apply guess | exact Or.inl rfl | exact Or.inr rfl | exact Side.mk trivial | exact Side.mk (fun h => h) | exact Side.mk (fun h => ⟨h, h⟩) | with_reducible exact Side.mk rfl | with_reducible exact Side.mk ⟨rfl, rfl⟩ | with_reducible exact Side.mk (by assumption) | with_reducible rfl | intro _)
              all_goals try (conv => whnf)
              all_goals try simp only [Int.toNat_natCast] at *
              all_goals try (refine Side.mk ?_; first | (intros; omega) | (intro h1_ h2_; rw [h1_, h2_]; rfl) | (show List.length (_ ++ _) ≤ _; simp only [List.length_append, List.length_cons, List.length_nil, List.length_replicate, List.length_take]; omega) | (simp_all; done) | (simp_all; omega))
              · rename_i hlt
                obtain ⟨e1, e2⟩ := comp_rise hjl (by omega) (by omega) (by omega) (of_decide_eq_true hlt)
                refine ⟨j + 1, by omega, by omega, ?_⟩
                rw [e1, e2]
                repeat' ((conv => whnf); first | done | refine ev_step ?_ | refine ops_step ?_ | refine scan_step ?_ | refine draw_step ?_ | refine each_step ?_ | refine sl_step ?_ | refine hp_step ?_ | refine guard_no (by decide) ?_ | refine guard_go ?_ | refine guard_old ?_ | apply cut_auto | with_reducible exact CutS.mk (Or.inl ⟨rfl, rfl, rfl⟩) | refine CutS.mk (Or.inr (sub_auto ?_)) | exact trivial | refine And.intro ?_ ?_ | refine cond_split ?_ ?_ | apply guess | exact Or.inl rfl | exact Or.inr rfl | exact Side.mk trivial | exact Side.mk (fun h => h) | exact Side.mk (fun h => ⟨h, h⟩) | with_reducible exact Side.mk rfl | with_reducible exact Side.mk ⟨rfl, rfl⟩ | with_reducible exact Side.mk (by assumption) | with_reducible rfl | intro _)
                all_goals try (conv => whnf)
                all_goals first | rfl | omega
              · rename_i hlt
                refine ⟨j + 1, by omega, by omega, ?_⟩
                rw [comp_keep (w := w) hjl (by omega) (by omega) (by omega) (of_decide_eq_false hlt)]
                repeat' ((conv => whnf); first | done | refine ev_step ?_ | refine ops_step ?_ | refine scan_step ?_ | refine draw_step ?_ | refine each_step ?_ | refine sl_step ?_ | refine hp_step ?_ | refine guard_no (by decide) ?_ | refine guard_go ?_ | refine guard_old ?_ | apply cut_auto | with_reducible exact CutS.mk (Or.inl ⟨rfl, rfl, rfl⟩) | refine CutS.mk (Or.inr (sub_auto ?_)) | exact trivial | refine And.intro ?_ ?_ | refine cond_split ?_ ?_ | apply guess | exact Or.inl rfl | exact Or.inr rfl | exact Side.mk trivial | exact Side.mk (fun h => h) | exact Side.mk (fun h => ⟨h, h⟩) | with_reducible exact Side.mk rfl | with_reducible exact Side.mk ⟨rfl, rfl⟩ | with_reducible exact Side.mk (by assumption) | with_reducible rfl | intro _)
                all_goals try (conv => whnf)
                all_goals first | rfl | omega
            · have e : passT (flps rs) (outK (flps rs) (zeros p) k) j = pass (flps rs) (outK (flps rs) (zeros p) k) := passT_all (by omega)
              rw [e] at hcl hlen ⊢
              rw [hpk]
              repeat' ((conv => whnf); first | done | refine ev_step ?_ | refine ops_step ?_ | refine scan_step ?_ | refine draw_step ?_ | refine each_step ?_ | refine sl_step ?_ | refine hp_step ?_ | refine guard_no (by decide) ?_ | refine guard_go ?_ | refine guard_old ?_ | apply cut_auto | with_reducible exact CutS.mk (Or.inl ⟨rfl, rfl, rfl⟩) | refine CutS.mk (Or.inr (sub_auto ?_)) | exact trivial | refine And.intro ?_ ?_ | (refine cond_split ?_ ?_ <;> intro _ <;> first | (exfalso; first | omega | (simp only [decide_eq_true_eq, decide_eq_false_iff_not, Bool.not_eq_true', Bool.not_eq_false', ne_eq, Bool.not_true, Bool.not_false, cond_true, cond_false, Bool.true_eq_false, Bool.false_eq_true, Bool.and_eq_true, Bool.and_eq_false_iff] at *; omega)) | skip) | apply guess | exact Or.inl rfl | exact Or.inr rfl | exact Side.mk trivial | exact Side.mk (fun h => h) | exact Side.mk (fun h => ⟨h, h⟩) | with_reducible exact Side.mk rfl | with_reducible exact Side.mk ⟨rfl, rfl⟩ | with_reducible exact Side.mk (by assumption) | with_reducible rfl | intro _)
              all_goals try (conv => whnf)
              all_goals try (refine Side.mk ?_; first | (intros; omega) | (intro h1_ h2_; rw [h1_, h2_]; rfl) | (show List.length (_ ++ _) ≤ _; simp only [List.length_append, List.length_cons, List.length_nil, List.length_replicate, List.length_take]; omega) | (simp_all; done) | (simp_all; omega))
              refine ⟨k + 1, by omega, by omega, ?_⟩
              repeat' ((conv => whnf); first | done | refine ev_step ?_ | refine ops_step ?_ | refine scan_step ?_ | refine draw_step ?_ | refine each_step ?_ | refine sl_step ?_ | refine hp_step ?_ | refine guard_no (by decide) ?_ | refine guard_go ?_ | refine guard_old ?_ | apply cut_auto | with_reducible exact CutS.mk (Or.inl ⟨rfl, rfl, rfl⟩) | refine CutS.mk (Or.inr (sub_auto ?_)) | exact trivial | refine And.intro ?_ ?_ | refine cond_split ?_ ?_ | apply guess | exact Or.inl rfl | exact Or.inr rfl | exact Side.mk trivial | exact Side.mk (fun h => h) | exact Side.mk (fun h => ⟨h, h⟩) | with_reducible exact Side.mk rfl | with_reducible exact Side.mk ⟨rfl, rfl⟩ | with_reducible exact Side.mk (by assumption) | with_reducible rfl | intro _)
              all_goals try (conv => whnf)
              all_goals first | rfl | omega | trace_state
        · obtain rfl : k = K + 1 := by omega
          rw [hK1]
          repeat' ((conv => whnf); first | done | refine ev_step ?_ | refine ops_step ?_ | refine scan_step ?_ | refine draw_step ?_ | refine each_step ?_ | refine sl_step ?_ | refine hp_step ?_ | refine guard_no (by decide) ?_ | refine guard_go ?_ | refine guard_old ?_ | apply cut_auto | with_reducible exact CutS.mk (Or.inl ⟨rfl, rfl, rfl⟩) | refine CutS.mk (Or.inr (sub_auto ?_)) | exact trivial | refine And.intro ?_ ?_ | (refine cond_split ?_ ?_ <;> intro _ <;> first | (exfalso; first | omega | (simp only [decide_eq_true_eq, decide_eq_false_iff_not, Bool.not_eq_true', Bool.not_eq_false', ne_eq, Bool.not_true, Bool.not_false, cond_true, cond_false, Bool.true_eq_false, Bool.false_eq_true, Bool.and_eq_true, Bool.and_eq_false_iff] at *; omega)) | skip) | apply guess | exact Or.inl rfl | exact Or.inr rfl | exact Side.mk trivial | exact Side.mk (fun h => h) | exact Side.mk (fun h => ⟨h, h⟩) | with_reducible exact Side.mk rfl | with_reducible exact Side.mk ⟨rfl, rfl⟩ | with_reducible exact Side.mk (by assumption) | with_reducible rfl | intro _)
          all_goals try (conv => whnf)
          all_goals first | done | rfl | trace_state
    · have hok : lateOk p w rs = false := by rw [← hI]; simp [lateI, hL0]; omega
      rw [late?_none (by rw [hok]; simp)]
      repeat' ((conv => whnf); first | done | refine ev_step ?_ | refine ops_step ?_ | refine scan_step ?_ | refine draw_step ?_ | refine each_step ?_ | refine sl_step ?_ | refine hp_step ?_ | refine guard_no (by decide) ?_ | refine guard_go ?_ | refine guard_old ?_ | apply cut_auto | with_reducible exact CutS.mk (Or.inl ⟨rfl, rfl, rfl⟩) | refine CutS.mk (Or.inr (sub_auto ?_)) | exact trivial | refine And.intro ?_ ?_ | (refine cond_split ?_ ?_ <;> intro _ <;> first | (exfalso; first | omega | (simp_all; done) | (simp_all; omega)) | skip) | apply guess | apply FnIs.useF (k1) | apply FnIs.useF (k2) | exact Or.inl rfl | exact Or.inr rfl | exact Side.mk trivial | exact Side.mk (fun h => h) | exact Side.mk (fun h => ⟨h, h⟩) | with_reducible exact Side.mk rfl | with_reducible exact Side.mk ⟨rfl, rfl⟩ | with_reducible exact Side.mk (by assumption) | with_reducible rfl | intro _)
      all_goals try (conv => whnf)
      all_goals first | done | rfl | trace_state
theorem c38 (p w : Int) (rs : List R3) (h : Side (inI64 p ∧ rs.length ≤ 1048577)) : FnIs Try.prog 27 [.agg [.int .i64 p, .sl 0 []], .int .i64 w] 1 [(0, .flat false (.r3 rs))] (.tuple [.sl 1 [], .bool (late? p w rs).isSome]) 2 [(1, .flat true (.ints .i64 ((late? p w rs).getD [])))] := by
  have k1 := c22 p rs h
  have k2 := c68 w 0 16000
  refine fn_of_ev tok Try.func27 rfl rfl rfl ?_
  cases hp : okPress p rs with
  | false =>
    rw [hp] at k1
    rw [late?_none (by rw [hp]; simp)]
    repeat' ((conv => whnf); first | done | refine ev_step ?_ | refine ops_step ?_ | refine scan_step ?_ | refine draw_step ?_ | refine each_step ?_ | refine sl_step ?_ | refine hp_step ?_ | refine guard_no (by decide) ?_ | refine guard_go ?_ | refine guard_old ?_ | apply cut_auto | with_reducible exact CutS.mk (Or.inl ⟨rfl, rfl, rfl⟩) | refine CutS.mk (Or.inr (sub_auto ?_)) | exact trivial | refine And.intro ?_ ?_ | refine cond_split ?_ ?_ | apply guess | apply FnIs.useF (k1) | apply FnIs.useF (k2) | exact Or.inl rfl | exact Or.inr rfl | exact Side.mk trivial | exact Side.mk (fun h => h) | exact Side.mk (fun h => ⟨h, h⟩) | with_reducible exact Side.mk rfl | with_reducible exact Side.mk ⟨rfl, rfl⟩ | with_reducible exact Side.mk (by assumption) | with_reducible rfl | intro _)
    all_goals try (conv => whnf)
    all_goals first | done | rfl | (refine Side.mk ?_; simp; done)
  | true =>
    rw [hp] at k1
    change FnIs Try.prog 60 _ _ _ (.bool (inPl w)) _ _ at k2
    cases hw : inPl w with
    | false =>
      rw [hw] at k2
      rw [late?_none (by rw [hw]; simp)]
      repeat' ((conv => whnf); first | done | refine ev_step ?_ | refine ops_step ?_ | refine scan_step ?_ | refine draw_step ?_ | refine each_step ?_ | refine sl_step ?_ | refine hp_step ?_ | refine guard_no (by decide) ?_ | refine guard_go ?_ | refine guard_old ?_ | apply cut_auto | with_reducible exact CutS.mk (Or.inl ⟨rfl, rfl, rfl⟩) | refine CutS.mk (Or.inr (sub_auto ?_)) | exact trivial | refine And.intro ?_ ?_ | refine cond_split ?_ ?_ | apply guess | apply FnIs.useF (k1) | apply FnIs.useF (k2) | exact Or.inl rfl | exact Or.inr rfl | exact Side.mk trivial | exact Side.mk (fun h => h) | exact Side.mk (fun h => ⟨h, h⟩) | with_reducible exact Side.mk rfl | with_reducible exact Side.mk ⟨rfl, rfl⟩ | with_reducible exact Side.mk (by assumption) | with_reducible rfl | intro _)
      all_goals try (conv => whnf)
      all_goals first | done | rfl | (refine Side.mk ?_; simp; done)
    | true =>
      rw [hw] at k2
      have k3 := c86 p w rs ⟨⟨hp, hw⟩⟩
      repeat' ((conv => whnf); first | done | refine ev_step ?_ | refine ops_step ?_ | refine scan_step ?_ | refine draw_step ?_ | refine each_step ?_ | refine sl_step ?_ | refine hp_step ?_ | refine guard_no (by decide) ?_ | refine guard_go ?_ | refine guard_old ?_ | apply cut_auto | with_reducible exact CutS.mk (Or.inl ⟨rfl, rfl, rfl⟩) | refine CutS.mk (Or.inr (sub_auto ?_)) | exact trivial | refine And.intro ?_ ?_ | refine cond_split ?_ ?_ | apply guess | apply FnIs.useF (k1) | apply FnIs.useF (k2) | apply FnIs.useF (k3) | exact Or.inl rfl | exact Or.inr rfl | exact Side.mk trivial | exact Side.mk (fun h => h) | exact Side.mk (fun h => ⟨h, h⟩) | with_reducible exact Side.mk rfl | with_reducible exact Side.mk ⟨rfl, rfl⟩ | with_reducible exact Side.mk (by assumption) | with_reducible rfl | intro _)
      all_goals try (conv => whnf)
      all_goals first | done | rfl | (refine Side.mk ?_; simp; done)
end Go.Sx.U
