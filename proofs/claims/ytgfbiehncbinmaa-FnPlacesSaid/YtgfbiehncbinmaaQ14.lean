/-
  Chapter 9: freedom; the laws of latest places and of freedom.
-/
import Derived.Test.YtgfbiehncbinmaaQ13
namespace Go.Sx.U
set_option linter.unusedVariables false
set_option linter.unusedSimpArgs false
set_option maxRecDepth 100000
set_option maxHeartbeats 8000000
open Go Go.Sx Go.Sx.M9 Go.Proofs
set_option maxHeartbeats 2000000
set_option maxRecDepth 100000

def diffL (A B : List Int) (n : Nat) : List Int := (List.range n).map fun i => A.getD i 0 - B.getD i 0
theorem diffL_len (A B : List Int) (n : Nat) : (diffL A B n).length = n := by simp [diffL]
theorem diffL_succ (A B : List Int) (n : Nat) : diffL A B (n + 1) = diffL A B n ++ [A.getD n 0 - B.getD n 0] := by simp [diffL, List.range_succ]
theorem diffL_set {A B : List Int} {i : Nat} (h : i < A.length) : (diffL A B i ++ A.drop i).set i (A.getD i 0 - B.getD i 0) = diffL A B (i + 1) ++ A.drop (i + 1) := by
  rw [List.set_append_right _ _ (by simp [diffL]), diffL_len, Nat.sub_self, List.drop_eq_getElem_cons h, List.set_cons_zero, diffL_succ]
  simp
theorem diffL_get {A B : List Int} {i : Nat} (h : i < A.length) : (diffL A B i ++ A.drop i).getD i 0 = A.getD i 0 := by
  simp [List.getD, List.getElem?_append, diffL]
def free? (p w : Int) (rs : List R3) : Option (List Int) := (late? p w rs).map fun A => diffL A ((leastR p rs).getD []) p.toNat
theorem late?_all {p w : Int} {rs : List R3} {A : List Int} (h : late? p w rs = some A) : okPress p rs = true ∧ inPl w = true ∧ lateOk p w rs = true ∧ A.length = p.toNat ∧ (∀ i, 0 ≤ A.getD i 0 ∧ A.getD i 0 ≤ 16000) ∧ p ≤ 16 ∧ ∃ L0, leastR p rs = some L0 ∧ L0.length = p.toNat ∧ ∀ i, 0 ≤ L0.getD i 0 ∧ L0.getD i 0 ≤ 16000 := by
  by_cases hc : okPress p rs = true ∧ inPl w = true ∧ lateOk p w rs = true
  · obtain ⟨hp, hw, hl⟩ := hc
    obtain ⟨L, hL, e⟩ := late?_some hp hw hl
    rw [e] at h
    injection h with h
    subst h
    have hl2 := hl
    unfold lateOk late1 at hl2
    rw [hL] at hl2
    simp only [Option.map_some] at hl2
    obtain ⟨q1, q2⟩ := placed_bd hl2
    obtain ⟨hw1, hw2⟩ := inPl_bd hw
    obtain ⟨L0, k1, k2⟩ := (late_iff hp hw1 hw2).1 hl
    obtain ⟨l1, l2, _, l4⟩ := leastR_spec hp k1
    have hb := okPress_bd hp
    exact ⟨hp, hw, hl, by omega, inPl_get q2, by omega, L0, k1, l1, fun i => ⟨l2 i, l4 i⟩⟩
  · rw [late?_none hc] at h; cases h
theorem late?_len (p w : Int) (rs : List R3) : ((late? p w rs).getD []).length ≤ 16 := by
  cases h : late? p w rs with
  | none => simp
  | some A => have := (late?_all h).2.2.2; simp; omega
theorem free?_len (p w : Int) (rs : List R3) : ((free? p w rs).getD []).length ≤ 16 := by
  unfold free?
  cases h : late? p w rs with
  | none => simp
  | some A => have := (late?_all h).2.2.2; simp [diffL_len]; omega
theorem free?_some {p w : Int} {rs : List R3} {A L0 : List Int} (h : late? p w rs = some A) (h0 : leastR p rs = some L0) : free? p w rs = some (diffL A L0 p.toNat) := by
  unfold free?; rw [h, h0]; rfl
theorem free?_none {p w : Int} {rs : List R3} (h : late? p w rs = none) : free? p w rs = none := by
  unfold free?; rw [h]; rfl

theorem c40 (p w : Int) (rs : List R3) (h : Side (inI64 p ∧ rs.length ≤ 1048577)) : FnIs Try.prog 28 [.agg [.int .i64 p, .sl 0 []], .int .i64 w] 1 [(0, .flat false (.r3 rs))] (.tuple [.sl 1 [], .bool (free? p w rs).isSome]) 2 [(1, .flat true (.ints .i64 ((free? p w rs).getD [])))] := by
  have k1 := c38 p w rs h
  refine fn_of_ev tok Try.func28 rfl rfl rfl ?_
  cases hA : late? p w rs with
  | none =>
    rw [hA] at k1
    rw [free?_none hA]
    repeat' ((conv => whnf); first | done | refine ev_step ?_ | refine ops_step ?_ | refine scan_step ?_ | refine draw_step ?_ | refine each_step ?_ | refine sl_step ?_ | refine hp_step ?_ | refine guard_no (by decide) ?_ | refine guard_go ?_ | refine guard_old ?_ | apply cut_auto | with_reducible exact CutS.mk (Or.inl ⟨rfl, rfl, rfl⟩) | refine CutS.mk (Or.inr (sub_auto ?_)) | exact trivial | refine And.intro ?_ ?_ | refine cond_split ?_ ?_ | apply guess | apply FnIs.useF (k1) | exact Or.inl rfl | exact Or.inr rfl | exact Side.mk trivial | exact Side.mk (fun h => h) | exact Side.mk (fun h => ⟨h, h⟩) | with_reducible exact Side.mk rfl | with_reducible exact Side.mk ⟨rfl, rfl⟩ | with_reducible exact Side.mk (by assumption) | with_reducible rfl | intro _)
    all_goals try (conv => whnf)
    all_goals first | done | rfl
  | some A =>
    rw [hA] at k1
    obtain ⟨hp, _, _, a1, a2, hp16, L0, l0, l1, l2⟩ := late?_all hA
    rw [free?_some hA l0]
    have k2 := c77 p rs ⟨hp⟩
    rw [l0] at k2
    simp only [Option.getD_some, Option.isSome_some] at k1 k2 ⊢
    repeat' ((conv => whnf); first | done | refine ev_step ?_ | refine ops_step ?_ | refine scan_step ?_ | refine draw_step ?_ | refine each_step ?_ | refine sl_step ?_ | refine hp_step ?_ | refine guard_no (by decide) ?_ | refine guard_go ?_ | refine guard_old ?_ | apply cut_auto | with_reducible exact CutS.mk (Or.inl ⟨rfl, rfl, rfl⟩) | refine CutS.mk (Or.inr (sub_auto ?_)) | exact trivial | refine And.intro ?_ ?_ | refine cond_split ?_ ?_ | apply guess | apply FnIs.useF (k1) | apply FnIs.useF (k2) | exact Or.inl rfl | exact Or.inr rfl | exact Side.mk trivial | exact Side.mk (fun h => h) | exact Side.mk (fun h => ⟨h, h⟩) | with_reducible exact Side.mk rfl | with_reducible exact Side.mk ⟨rfl, rfl⟩ | with_reducible exact Side.mk (by assumption) | with_reducible rfl | intro _)
    all_goals try (conv => whnf)
    refine loop_at (fun i : Nat => i ≤ A.length) 4 (fun i => [(25, .int .i64 i)]) (fun i => [(2, .flat true (.ints .i64 (diffL A L0 i ++ A.drop i)))]) (fun i => A.length - i) 0 (Nat.zero_le _) ?_ (fun i hi => ?_)
    · repeat' ((conv => whnf); first | done | refine ev_step ?_ | refine ops_step ?_ | refine scan_step ?_ | refine draw_step ?_ | refine each_step ?_ | refine sl_step ?_ | refine hp_step ?_ | refine guard_no (by decide) ?_ | refine guard_go ?_ | refine guard_old ?_ | apply cut_auto | with_reducible exact CutS.mk (Or.inl ⟨rfl, rfl, rfl⟩) | refine CutS.mk (Or.inr (sub_auto ?_)) | exact trivial | refine And.intro ?_ ?_ | refine cond_split ?_ ?_ | apply guess | exact Or.inl rfl | exact Or.inr rfl | exact Side.mk trivial | exact Side.mk (fun h => h) | exact Side.mk (fun h => ⟨h, h⟩) | with_reducible exact Side.mk rfl | with_reducible exact Side.mk ⟨rfl, rfl⟩ | with_reducible exact Side.mk (by assumption) | with_reducible rfl | intro _)
      all_goals try (conv => whnf)
      all_goals first | rfl | trace_state
    · have hl : (diffL A L0 i ++ A.drop i).length = A.length := by simp [diffL_len]; omega
      by_cases hlt : i < A.length
      · have hg := diffL_get (B := L0) hlt
        have b1 := a2 i
        have b2 := l2 i
        repeat' ((conv => whnf); first | done | refine ev_step ?_ | refine ops_step ?_ | refine scan_step ?_ | refine draw_step ?_ | refine each_step ?_ | refine sl_step ?_ | refine hp_step ?_ | refine guard_no (by decide) ?_ | refine guard_go ?_ | refine guard_old ?_ | apply cut_auto | with_reducible exact CutS.mk (Or.inl ⟨rfl, rfl, rfl⟩) | refine CutS.mk (Or.inr (sub_auto ?_)) | exact trivial | refine And.intro ?_ ?_ | (refine cond_split ?_ ?_ <;> intro _ <;> first | (exfalso; first | omega | (simp only [decide_eq_true_eq, decide_eq_false_iff_not, Bool.not_eq_true', Bool.not_eq_false', ne_eq, Bool.not_true, Bool.not_false, cond_true, cond_false, Bool.true_eq_false, Bool.false_eq_true, Bool.and_eq_true, Bool.and_eq_false_iff] at *; omega)) | skip) | apply guess | exact Or.inl rfl | exact Or.inr rfl | exact Side.mk trivial | exact Side.mk (fun h => h) | exact Side.mk (fun h => ⟨h, h⟩) | with_reducible exact Side.mk rfl | with_reducible exact Side.mk ⟨rfl, rfl⟩ | with_reducible exact Side.mk (by assumption) | with_reducible rfl | intro _)
        all_goals try (conv => whnf)
        all_goals try simp only [Int.toNat_natCast] at *
        all_goals try rw [hg]
        all_goals try (refine Side.mk ?_; first | (intros; omega) | (intro h1_ h2_; rw [h1_, h2_]; rfl) | (show List.length (_ ++ _) ≤ _; simp only [List.length_append, List.length_cons, List.length_nil, List.length_replicate, List.length_take]; omega) | (simp_all; done) | (simp_all; omega))
        refine ⟨i + 1, by omega, by omega, ?_⟩
        repeat' ((conv => whnf); first | done | refine ev_step ?_ | refine ops_step ?_ | refine scan_step ?_ | refine draw_step ?_ | refine each_step ?_ | refine sl_step ?_ | refine hp_step ?_ | refine guard_no (by decide) ?_ | refine guard_go ?_ | refine guard_old ?_ | apply cut_auto | with_reducible exact CutS.mk (Or.inl ⟨rfl, rfl, rfl⟩) | refine CutS.mk (Or.inr (sub_auto ?_)) | exact trivial | refine And.intro ?_ ?_ | refine cond_split ?_ ?_ | apply guess | exact Or.inl rfl | exact Or.inr rfl | exact Side.mk trivial | exact Side.mk (fun h => h) | exact Side.mk (fun h => ⟨h, h⟩) | with_reducible exact Side.mk rfl | with_reducible exact Side.mk ⟨rfl, rfl⟩ | with_reducible exact Side.mk (by assumption) | with_reducible rfl | intro _)
        all_goals try (conv => whnf)
        all_goals first | rfl | omega | (rw [diffL_set hlt]) | trace_state
      · obtain rfl : i = A.length := by omega
        repeat' ((conv => whnf); first | done | refine ev_step ?_ | refine ops_step ?_ | refine scan_step ?_ | refine draw_step ?_ | refine each_step ?_ | refine sl_step ?_ | refine hp_step ?_ | refine guard_no (by decide) ?_ | refine guard_go ?_ | refine guard_old ?_ | apply cut_auto | with_reducible exact CutS.mk (Or.inl ⟨rfl, rfl, rfl⟩) | refine CutS.mk (Or.inr (sub_auto ?_)) | exact trivial | refine And.intro ?_ ?_ | (refine cond_split ?_ ?_ <;> intro _ <;> first | (exfalso; first | omega | (simp only [decide_eq_true_eq, decide_eq_false_iff_not, Bool.not_eq_true', Bool.not_eq_false', ne_eq, Bool.not_true, Bool.not_false, cond_true, cond_false, Bool.true_eq_false, Bool.false_eq_true, Bool.and_eq_true, Bool.and_eq_false_iff] at *; omega)) | skip) | apply guess | exact Or.inl rfl | exact Or.inr rfl | exact Side.mk trivial | exact Side.mk (fun h => h) | exact Side.mk (fun h => ⟨h, h⟩) | with_reducible exact Side.mk rfl | with_reducible exact Side.mk ⟨rfl, rfl⟩ | with_reducible exact Side.mk (by assumption) | with_reducible rfl | intro _)
        all_goals try (conv => whnf)
        all_goals first | done | (rw [List.drop_length, List.append_nil, a1]; done) | trace_state
end Go.Sx.U
