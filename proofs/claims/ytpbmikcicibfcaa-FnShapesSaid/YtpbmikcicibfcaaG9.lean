/-
  slices.Repeat of one number (contracts).
-/
import Derived.Test.YtpbmikcicibfcaaK1
namespace Go.Sx.U
set_option linter.unusedVariables false
set_option linter.unusedSimpArgs false
set_option maxRecDepth 100000
set_option maxHeartbeats 8000000
open Go Go.Sx Go.Proofs

theorem and_maskU {x : Int} (h0 : 0 ≤ x) (h : x < 65536) : andI .u64 x 4294967295 = x := by
  rw [andI_nat (.inr rfl) (by unfold inB; omega) (by unfold inB; omega)]
  rw [show (4294967295 : Int).toNat = 2 ^ 32 - 1 from rfl, Nat.and_two_pow_sub_one_eq_mod, Nat.mod_eq_of_lt (by omega)]
  omega
theorem shr_zeroU {x : Int} (h0 : 0 ≤ x) (h : x < 4294967296) : shrI .u64 x 32 = 0 := by
  rw [shrI_in (.inr rfl) (by omega), show (2 : Int) ^ (32 : Int).toNat = 4294967296 from rfl]
  omega
theorem wrap_u {x : Int} (h0 : 0 ≤ x) (h : x < 18446744073709551616) : IntKind.u64.wrap x = x := by
  unfold IntKind.wrap; simp [IntKind.bits, IntKind.signed]; omega
theorem wrap_i {x : Int} (h0 : 0 ≤ x) (h : x < 65536) : IntKind.i64.wrap x = x := by
  unfold IntKind.wrap; simp [IntKind.bits, IntKind.signed]; omega
theorem k_Mul64 (x y : Int) (h : Side (0 ≤ x ∧ x < 65536 ∧ 0 ≤ y ∧ y < 65536)) : FnIs Try.prog 141 [.int .u64 x, .int .u64 y] 0 [] (.tuple [.int .u64 0, .int .u64 (x * y)]) 0 [] := by
  obtain ⟨h1, h2, h3, h4⟩ := h.h
  have e1 := and_maskU h1 h2
  have e2 := and_maskU h3 h4
  have e3 : shrI .u64 x 32 = 0 := shr_zeroU h1 (by omega)
  have e4 : shrI .u64 y 32 = 0 := shr_zeroU h3 (by omega)
  have m1 : 0 ≤ x * y := Int.mul_nonneg h1 h3
  have m2 : x * y ≤ 65535 * 65535 := Int.mul_le_mul (by omega) (by omega) h3 (by omega)
  have e5 : IntKind.u64.wrap (x * y) = x * y := wrap_u m1 (by omega)
  have e6 : shrI .u64 (x * y) 32 = 0 := shr_zeroU m1 (by omega)
  have e7 : IntKind.u64.wrap 0 = 0 := rfl
  have e8 : shrI .u64 0 32 = 0 := rfl
  have e9 : andI .u64 0 4294967295 = 0 := rfl
  refine fn_of_ev tok Try.func141 rfl rfl rfl ?_
  repeat' ((conv => whnf); first | done | refine ev_step ?_ | refine ops_step ?_ | refine scan_step ?_ | refine draw_step ?_ | refine each_step ?_ | refine sl_step ?_ | refine hp_step ?_ | refine guard_no (by decide) ?_ | refine guard_go ?_ | refine guard_old ?_ | apply cut_auto | with_reducible exact CutS.mk (Or.inl ⟨rfl, rfl, rfl⟩) | refine CutS.mk (Or.inr (sub_auto ?_)) | exact trivial | refine And.intro ?_ ?_ | refine cond_split ?_ ?_ | apply guess | exact Or.inl rfl | exact Or.inr rfl | exact Side.mk trivial | exact Side.mk (fun h => h) | exact Side.mk (fun h => ⟨h, h⟩) | with_reducible exact Side.mk rfl | with_reducible exact Side.mk ⟨rfl, rfl⟩ | with_reducible exact Side.mk (by assumption) | with_reducible rfl | intro _)
  all_goals try (conv => whnf)
  all_goals try simp only [e1, e2, e3, e4, e5, e6, e7, e8, e9, Int.zero_mul, Int.mul_zero, Int.add_zero, Int.zero_add]
  all_goals first | done | (refine Side.mk ?_; omega) | (refine Side.mk ?_; simp [inB]; omega) | trace_state
theorem k_Mul (x y : Int) (h : Side (0 ≤ x ∧ x < 65536 ∧ 0 ≤ y ∧ y < 65536)) : FnIs Try.prog 130 [.int .u64 x, .int .u64 y] 0 [] (.tuple [.int .u64 0, .int .u64 (x * y)]) 0 [] := by
  refine fn_of_ev tok Try.func130 rfl rfl rfl ?_
  repeat' ((conv => whnf); first | done | refine ev_step ?_ | refine ops_step ?_ | refine scan_step ?_ | refine draw_step ?_ | refine each_step ?_ | refine sl_step ?_ | refine hp_step ?_ | refine guard_no (by decide) ?_ | refine guard_go ?_ | refine guard_old ?_ | apply cut_auto | with_reducible exact CutS.mk (Or.inl ⟨rfl, rfl, rfl⟩) | refine CutS.mk (Or.inr (sub_auto ?_)) | exact trivial | refine And.intro ?_ ?_ | refine cond_split ?_ ?_ | apply guess | apply FnIs.useF (k_Mul64 _ _ h) | exact Or.inl rfl | exact Or.inr rfl | exact Side.mk trivial | exact Side.mk (fun h => h) | exact Side.mk (fun h => ⟨h, h⟩) | with_reducible exact Side.mk rfl | with_reducible exact Side.mk ⟨rfl, rfl⟩ | with_reducible exact Side.mk (by assumption) | with_reducible rfl | intro _)
  all_goals try (conv => whnf)
theorem splice_rep (w : Int) {n p m : Nat} (h : n + m ≤ p) (hm : m ≤ n) : spliceL (List.replicate n w ++ List.replicate (p - n) 0) (List.replicate n w) n m = List.replicate (n + m) w ++ List.replicate (p - (n + m)) 0 := by
  unfold spliceL
  rw [List.take_left' (by simp), List.take_replicate, Nat.min_eq_left hm, List.drop_append, List.drop_replicate, List.drop_replicate]
  rw [show n - (n + m) = 0 by omega]
  simp only [List.length_replicate, List.replicate_zero, List.nil_append, List.replicate_append_replicate]
  congr 2
  omega
theorem k_Repeat0 (w : Int) : FnIs Try.prog 114 [.sl 0 [], .int .i64 0] 1 [(0, .flat false (.ints .i64 [w]))] (.sl 1 []) 2 [(1, .flat true (.ints .i64 []))] := by
  have e1 : IntKind.u64.wrap ((([w] : List Int).length : Nat) : Int) = 1 := rfl
  have e2 : IntKind.u64.wrap 0 = 0 := rfl
  have e3 : IntKind.i64.wrap (1 * 0) = 0 := rfl
  have e4 : IntKind.u64.wrap (1 * 0) = 0 := rfl
  refine fn_of_ev tok Try.func114 rfl rfl rfl ?_
  have k1 := k_Mul 1 0 ⟨by omega⟩
  rw [show (1 : Int) * 0 = 0 from rfl] at k1
  repeat' ((conv => whnf); first | done | refine ev_step ?_ | refine ops_step ?_ | refine scan_step ?_ | refine draw_step ?_ | refine each_step ?_ | refine sl_step ?_ | refine hp_step ?_ | refine guard_no (by decide) ?_ | refine guard_go ?_ | refine guard_old ?_ | apply cut_auto | with_reducible exact CutS.mk (Or.inl ⟨rfl, rfl, rfl⟩) | refine CutS.mk (Or.inr (sub_auto ?_)) | exact trivial | refine And.intro ?_ ?_ | (refine cond_split ?_ ?_ <;> intro _ <;> first | (exfalso; first | omega | (simp only [decide_eq_true_eq, decide_eq_false_iff_not, Bool.not_eq_true', Bool.not_eq_false', ne_eq, Bool.not_true, Bool.not_false, cond_true, cond_false, Bool.true_eq_false, Bool.false_eq_true, Bool.and_eq_true, Bool.and_eq_false_iff] at *; omega)) | skip) | apply guess | apply FnIs.useF (k1) | exact Or.inl rfl | exact Or.inr rfl | exact Side.mk trivial | exact Side.mk (fun h => h) | exact Side.mk (fun h => ⟨h, h⟩) | with_reducible exact Side.mk rfl | with_reducible exact Side.mk ⟨rfl, rfl⟩ | with_reducible exact Side.mk (by assumption) | with_reducible rfl | intro _)
  all_goals try (conv => whnf)
  all_goals try (refine Side.mk ?_; first | (intros; omega) | (intro h1_ h2_; rw [h1_, h2_]; rfl) | (show List.length (_ ++ _) ≤ _; simp only [List.length_append, List.length_cons, List.length_nil, List.length_replicate, List.length_take]; omega) | (simp_all; done) | (simp_all; omega))
  all_goals try (first | exact e1.symm | exact e2.symm | exact e1 | exact e2)
  refine loop_at (fun n : Nat => n = 0) 2 (fun n => [(8, .int .i64 n)]) (fun n => [(1, .flat true (.ints .i64 []))]) (fun n => 0) 0 rfl ?_ (fun n hn => ?_)
  · repeat' ((conv => whnf); first | done | refine ev_step ?_ | refine ops_step ?_ | refine scan_step ?_ | refine draw_step ?_ | refine each_step ?_ | refine sl_step ?_ | refine hp_step ?_ | refine guard_no (by decide) ?_ | refine guard_go ?_ | refine guard_old ?_ | apply cut_auto | with_reducible exact CutS.mk (Or.inl ⟨rfl, rfl, rfl⟩) | refine CutS.mk (Or.inr (sub_auto ?_)) | exact trivial | refine And.intro ?_ ?_ | refine cond_split ?_ ?_ | apply guess | exact Or.inl rfl | exact Or.inr rfl | exact Side.mk trivial | exact Side.mk (fun h => h) | exact Side.mk (fun h => ⟨h, h⟩) | with_reducible exact Side.mk rfl | with_reducible exact Side.mk ⟨rfl, rfl⟩ | with_reducible exact Side.mk (by assumption) | with_reducible rfl | intro _)
    all_goals try (conv => whnf)
    all_goals first | rfl | trace_state
  · subst hn
    repeat' ((conv => whnf); first | done | refine ev_step ?_ | refine ops_step ?_ | refine scan_step ?_ | refine draw_step ?_ | refine each_step ?_ | refine sl_step ?_ | refine hp_step ?_ | refine guard_no (by decide) ?_ | refine guard_go ?_ | refine guard_old ?_ | apply cut_auto | with_reducible exact CutS.mk (Or.inl ⟨rfl, rfl, rfl⟩) | refine CutS.mk (Or.inr (sub_auto ?_)) | exact trivial | refine And.intro ?_ ?_ | (refine cond_split ?_ ?_ <;> intro _ <;> first | (exfalso; first | omega | (simp only [decide_eq_true_eq, decide_eq_false_iff_not, Bool.not_eq_true', Bool.not_eq_false', ne_eq, Bool.not_true, Bool.not_false, cond_true, cond_false, Bool.true_eq_false, Bool.false_eq_true, Bool.and_eq_true, Bool.and_eq_false_iff] at *; omega)) | skip) | apply guess | exact Or.inl rfl | exact Or.inr rfl | exact Side.mk trivial | exact Side.mk (fun h => h) | exact Side.mk (fun h => ⟨h, h⟩) | with_reducible exact Side.mk rfl | with_reducible exact Side.mk ⟨rfl, rfl⟩ | with_reducible exact Side.mk (by assumption) | with_reducible rfl | intro _)
    all_goals try (conv => whnf)
    all_goals first | done | rfl | trace_state
theorem k_Repeat (w p : Int) (h : Side (1 ≤ p ∧ p ≤ 16)) : FnIs Try.prog 114 [.sl 0 [], .int .i64 p] 1 [(0, .flat false (.ints .i64 [w]))] (.sl 1 []) 2 [(1, .flat true (.ints .i64 (List.replicate p.toNat w)))] := by
  obtain ⟨h1, h2⟩ := h.h
  have e1 : IntKind.u64.wrap ((([w] : List Int).length : Nat) : Int) = 1 := rfl
  have e2 : IntKind.u64.wrap p = p := wrap_u (by omega) (by omega)
  have e3 : IntKind.i64.wrap (1 * p) = p := by rw [Int.one_mul]; exact wrap_i (by omega) (by omega)
  have e4 : IntKind.u64.wrap (1 * p) = p := by rw [Int.one_mul]; exact e2
  refine fn_of_ev tok Try.func114 rfl rfl rfl ?_
  have e5 : Nat.min ([w] : List Int).length (List.replicate p.toNat (0 : Int)).length = 1 := by
    have : (List.replicate p.toNat (0 : Int)).length = p.toNat := by simp
    show Nat.min 1 _ = 1
    rw [this]
    exact Nat.min_eq_left (by omega)
  have e6 : spliceL (List.replicate p.toNat 0) [w] 0 1 = List.replicate 1 w ++ List.replicate (p.toNat - 1) 0 := by
    simp [spliceL]
  repeat' ((conv => whnf); first | done | refine ev_step ?_ | refine ops_step ?_ | refine scan_step ?_ | refine draw_step ?_ | refine each_step ?_ | refine sl_step ?_ | refine hp_step ?_ | refine guard_no (by decide) ?_ | refine guard_go ?_ | refine guard_old ?_ | apply cut_auto | with_reducible exact CutS.mk (Or.inl ⟨rfl, rfl, rfl⟩) | refine CutS.mk (Or.inr (sub_auto ?_)) | exact trivial | refine And.intro ?_ ?_ | (refine cond_split ?_ ?_ <;> intro _ <;> first | (exfalso; first | omega | (simp only [decide_eq_true_eq, decide_eq_false_iff_not, Bool.not_eq_true', Bool.not_eq_false', ne_eq, Bool.not_true, Bool.not_false, cond_true, cond_false, Bool.true_eq_false, Bool.false_eq_true, Bool.and_eq_true, Bool.and_eq_false_iff] at *; omega)) | skip) | apply guess | apply FnIs.useF (k_Mul _ _ _) | exact Or.inl rfl | exact Or.inr rfl | exact Side.mk trivial | exact Side.mk (fun h => h) | exact Side.mk (fun h => ⟨h, h⟩) | with_reducible exact Side.mk rfl | with_reducible exact Side.mk ⟨rfl, rfl⟩ | with_reducible exact Side.mk (by assumption) | with_reducible rfl | intro _)
  all_goals try (conv => whnf)
  · rename_i hq
    rw [e1, e2] at hq
    simp at hq
    omega
  all_goals rw [e1, e2]
  all_goals try rw [e3]
  · exact Side.mk ⟨by omega, by omega⟩
  · rw [e5, e6]
    refine loop_at (fun n : Nat => 1 ≤ n ∧ n ≤ p.toNat) 2 (fun n => [(8, .int .i64 n)]) (fun n => [(1, .flat true (.ints .i64 (List.replicate n w ++ List.replicate (p.toNat - n) 0)))]) (fun n => p.toNat - n) 1 ⟨Nat.le_refl _, by omega⟩ ?_ (fun n hn => ?_)
    · repeat' ((conv => whnf); first | done | refine ev_step ?_ | refine ops_step ?_ | refine scan_step ?_ | refine draw_step ?_ | refine each_step ?_ | refine sl_step ?_ | refine hp_step ?_ | refine guard_no (by decide) ?_ | refine guard_go ?_ | refine guard_old ?_ | apply cut_auto | with_reducible exact CutS.mk (Or.inl ⟨rfl, rfl, rfl⟩) | refine CutS.mk (Or.inr (sub_auto ?_)) | exact trivial | refine And.intro ?_ ?_ | refine cond_split ?_ ?_ | apply guess | exact Or.inl rfl | exact Or.inr rfl | exact Side.mk trivial | exact Side.mk (fun h => h) | exact Side.mk (fun h => ⟨h, h⟩) | with_reducible exact Side.mk rfl | with_reducible exact Side.mk ⟨rfl, rfl⟩ | with_reducible exact Side.mk (by assumption) | with_reducible rfl | intro _)
      all_goals try (conv => whnf)
      all_goals first | rfl | trace_state
    · have hl : (List.replicate n w ++ List.replicate (p.toNat - n) (0 : Int)).length = p.toNat := by simp; omega
      have hs : List.take (n.sub 0) (List.drop (Nat.add 0 0) (List.replicate n w ++ List.replicate (p.toNat - n) (0 : Int))) = List.replicate n w := by
        show List.take (n - 0) (List.drop (0 + 0) _) = _
        simp
      have hm : (List.take (n.sub 0) (List.drop (Nat.add 0 0) (List.replicate n w ++ List.replicate (p.toNat - n) (0 : Int)))).length.min ((List.replicate n w ++ List.replicate (p.toNat - n) (0 : Int)).length.sub n) = min n (p.toNat - n) := by
        rw [hs, hl, List.length_replicate]; rfl
      by_cases hlt : n < p.toNat
      · repeat' ((conv => whnf); first | done | refine ev_step ?_ | refine ops_step ?_ | refine scan_step ?_ | refine draw_step ?_ | refine each_step ?_ | refine sl_step ?_ | refine hp_step ?_ | refine guard_no (by decide) ?_ | refine guard_go ?_ | refine guard_old ?_ | apply cut_auto | with_reducible exact CutS.mk (Or.inl ⟨rfl, rfl, rfl⟩) | refine CutS.mk (Or.inr (sub_auto ?_)) | exact trivial | refine And.intro ?_ ?_ | (refine cond_split ?_ ?_ <;> intro _ <;> first | (exfalso; first | omega | (simp only [decide_eq_true_eq, decide_eq_false_iff_not, Bool.not_eq_true', Bool.not_eq_false', ne_eq, Bool.not_true, Bool.not_false, cond_true, cond_false, Bool.true_eq_false, Bool.false_eq_true, Bool.and_eq_true, Bool.and_eq_false_iff] at *; omega)) | skip) | apply guess | exact Or.inl rfl | exact Or.inr rfl | exact Side.mk trivial | exact Side.mk (fun h => h) | exact Side.mk (fun h => ⟨h, h⟩) | with_reducible exact Side.mk rfl | with_reducible exact Side.mk ⟨rfl, rfl⟩ | with_reducible exact Side.mk (by assumption) | with_reducible rfl | intro _)
        all_goals try (conv => whnf)
        all_goals try simp only [Int.toNat_natCast] at *
        all_goals try (refine Side.mk ?_; first | (intros; omega) | (intro h1_ h2_; rw [h1_, h2_]; rfl) | (show List.length (_ ++ _) ≤ _; simp only [List.length_append, List.length_cons, List.length_nil, List.length_replicate, List.length_take]; omega) | (simp_all; done) | (simp_all; omega))
        all_goals first | (refine Side.mk ?_; show 0 + (n - 0) ≤ (List.replicate n w ++ List.replicate (p.toNat - n) (0 : Int)).length; omega) | (refine Side.mk ?_; rw [hm]; omega) | skip
        · refine ⟨n + min n (p.toNat - n), by omega, by omega, ?_⟩
          have hz : Nat.add 0 n = n := Nat.zero_add n
          rw [hm, hs, hz, splice_rep w (p := p.toNat) (n := n) (m := min n (p.toNat - n)) (by omega) (by omega)]
          repeat' ((conv => whnf); first | done | refine ev_step ?_ | refine ops_step ?_ | refine scan_step ?_ | refine draw_step ?_ | refine each_step ?_ | refine sl_step ?_ | refine hp_step ?_ | refine guard_no (by decide) ?_ | refine guard_go ?_ | refine guard_old ?_ | apply cut_auto | with_reducible exact CutS.mk (Or.inl ⟨rfl, rfl, rfl⟩) | refine CutS.mk (Or.inr (sub_auto ?_)) | exact trivial | refine And.intro ?_ ?_ | refine cond_split ?_ ?_ | apply guess | exact Or.inl rfl | exact Or.inr rfl | exact Side.mk trivial | exact Side.mk (fun h => h) | exact Side.mk (fun h => ⟨h, h⟩) | with_reducible exact Side.mk rfl | with_reducible exact Side.mk ⟨rfl, rfl⟩ | with_reducible exact Side.mk (by assumption) | with_reducible rfl | intro _)
          all_goals try (conv => whnf)
          all_goals first | rfl | omega | trace_state
      · obtain rfl : n = p.toNat := by omega
        repeat' ((conv => whnf); first | done | refine ev_step ?_ | refine ops_step ?_ | refine scan_step ?_ | refine draw_step ?_ | refine each_step ?_ | refine sl_step ?_ | refine hp_step ?_ | refine guard_no (by decide) ?_ | refine guard_go ?_ | refine guard_old ?_ | apply cut_auto | with_reducible exact CutS.mk (Or.inl ⟨rfl, rfl, rfl⟩) | refine CutS.mk (Or.inr (sub_auto ?_)) | exact trivial | refine And.intro ?_ ?_ | (refine cond_split ?_ ?_ <;> intro _ <;> first | (exfalso; first | omega | (simp only [decide_eq_true_eq, decide_eq_false_iff_not, Bool.not_eq_true', Bool.not_eq_false', ne_eq, Bool.not_true, Bool.not_false, cond_true, cond_false, Bool.true_eq_false, Bool.false_eq_true, Bool.and_eq_true, Bool.and_eq_false_iff] at *; omega)) | skip) | apply guess | exact Or.inl rfl | exact Or.inr rfl | exact Side.mk trivial | exact Side.mk (fun h => h) | exact Side.mk (fun h => ⟨h, h⟩) | with_reducible exact Side.mk rfl | with_reducible exact Side.mk ⟨rfl, rfl⟩ | with_reducible exact Side.mk (by assumption) | with_reducible rfl | intro _)
        all_goals try (conv => whnf)
        all_goals first | done | (simp; done) | trace_state
  · exact Side.mk (by omega)
end Go.Sx.U
