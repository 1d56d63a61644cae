/-
  Chapter 9: a rule more; the laws of tight rules and of a rule more.
-/
import Derived.Test.YtgfbiehncbinmaaQ7
namespace Go.Sx.U
set_option linter.unusedVariables false
set_option linter.unusedSimpArgs false
set_option maxRecDepth 100000
set_option maxHeartbeats 8000000
open Go Go.Sx Go.Sx.M9 Go.Proofs
set_option maxHeartbeats 2000000
set_option maxRecDepth 100000

theorem c95 (xs : List R3) (h : Side (xs.length ≤ 1048577)) : FnIs Try.prog 68 [.sl 0 []] 1 [(0, .flat false (.r3 xs))] (.sl 1 []) 2 [(1, .flat true (.r3 xs))] := by
  have := h.h
  refine fn_of_ev tok Try.func68 rfl rfl rfl ?_
  repeat' ((conv => whnf); first | done | refine ev_step ?_ | refine ops_step ?_ | refine scan_step ?_ | refine draw_step ?_ | refine each_step ?_ | refine sl_step ?_ | refine hp_step ?_ | refine guard_no (by decide) ?_ | refine guard_go ?_ | refine guard_old ?_ | apply cut_auto | with_reducible exact CutS.mk (Or.inl ⟨rfl, rfl, rfl⟩) | refine CutS.mk (Or.inr (Or.inl (sub_auto ?_))) | exact trivial | refine And.intro ?_ ?_ | refine cond_split ?_ ?_ | apply guess | exact Or.inl rfl | exact Or.inr rfl | exact Side.mk trivial | exact Side.mk (fun h => h) | exact Side.mk (fun h => ⟨h, h⟩) | with_reducible exact Side.mk rfl | with_reducible exact Side.mk ⟨rfl, rfl⟩ | with_reducible exact Side.mk (by assumption) | with_reducible rfl | intro _)
  all_goals try (conv => whnf)
  · rename_i b hb hb2
    simp only [Cnd.holds] at hb
    exact List.eq_nil_of_length_eq_zero (hb trivial hb2)
  · refine Side.mk ?_
    show (_ : List R3).length ≤ _
    simp; omega
  · rfl
/-- What a rule more leads to. -/
def addOk (p : Int) (xs : List R3) (r : R3) : Bool := (least? p xs).isSome && (least? p (xs ++ [r])).isSome
theorem addOk_bd {p : Int} {xs : List R3} {r : R3} (h : addOk p xs r = true) : ∃ L M, least? p xs = some L ∧ least? p (xs ++ [r]) = some M := by
  simp only [addOk, Bool.and_eq_true, Option.isSome_iff_exists] at h
  obtain ⟨⟨L, h1⟩, M, h2⟩ := h
  exact ⟨L, M, h1, h2⟩
theorem maxL_bd {L : List Int} (h1 : 0 < L.length) (h : ∀ i, 0 ≤ L.getD i 0 ∧ L.getD i 0 ≤ 16000) : 0 ≤ maxL L ∧ maxL L ≤ 16000 := by
  obtain ⟨i, _, e⟩ := maxL_mem h1
  rw [e]; exact h i
theorem c47 (p : Int) (xs : List R3) (r : R3) (h : Side (inI64 p ∧ xs.length ≤ 1048576)) : FnIs Try.prog 32 [.agg [.int .i64 p, .sl 0 []], .agg [.int .i64 r.a, .int .i64 r.b, .int .i64 r.c]] 1 [(0, .flat false (.r3 xs))]
    (.tuple [.agg [.int .i64 (if addOk p xs r = true then p else 0), .sl 1 []], .int .i64 (if addOk p xs r = true then maxL ((least? p (xs ++ [r])).getD []) - maxL ((least? p xs).getD []) else 0), .bool (addOk p xs r)]) 2 [(1, .flat true (.r3 (if addOk p xs r = true then xs ++ [r] else [])))] := by
  obtain ⟨h1, h2⟩ := h.h
  have k3 := c95 xs ⟨by omega⟩
  refine fn_of_ev tok Try.func32 rfl rfl rfl ?_
  cases hL : least? p xs with
  | none =>
    rw [show addOk p xs r = false by simp [addOk, hL]]
    repeat' ((conv => whnf); first | done | refine ev_step ?_ | refine ops_step ?_ | refine scan_step ?_ | refine draw_step ?_ | refine each_step ?_ | refine sl_step ?_ | refine hp_step ?_ | refine guard_no (by decide) ?_ | refine guard_go ?_ | refine guard_old ?_ | apply cut_auto | with_reducible exact CutS.mk (Or.inl ⟨rfl, rfl, rfl⟩) | refine CutS.mk (Or.inr (Or.inl (sub_auto ?_))) | exact trivial | refine And.intro ?_ ?_ | (refine cond_split ?_ ?_ <;> intro _ <;> first | (exfalso; first | omega | (simp_all; done) | (simp_all; omega)) | skip) | apply guess | apply FnIs.useF (c34 _ _ _) | apply FnIs.useF (k3) | exact Or.inl rfl | exact Or.inr rfl | exact Side.mk trivial | exact Side.mk (fun h => h) | exact Side.mk (fun h => ⟨h, h⟩) | with_reducible exact Side.mk rfl | with_reducible exact Side.mk ⟨rfl, rfl⟩ | with_reducible exact Side.mk (by assumption) | with_reducible rfl | intro _)
    all_goals try (conv => whnf)
    all_goals first | (refine Side.mk ?_; show (_ : List R3).length ≤ _; simp; omega) | skip
    all_goals try (refine Side.mk ?_; first | (intros; omega) | (intro h1_ h2_; rw [h1_, h2_]; rfl) | (show List.length (_ ++ _) ≤ _; simp only [List.length_append, List.length_cons, List.length_nil, List.length_replicate, List.length_take]; omega) | (simp_all; done) | (simp_all; omega))
    all_goals first | done | rfl | exact Side.mk rfl | (show _ = maxL ((least? p (xs ++ [r])).getD []) - maxL ((least? p xs).getD []); rw [hM, hL]; rfl) | trace_state
  | some L =>
    cases hM : least? p (xs ++ [r]) with
    | none =>
      rw [show addOk p xs r = false by simp [addOk, hM]]
      repeat' ((conv => whnf); first | done | refine ev_step ?_ | refine ops_step ?_ | refine scan_step ?_ | refine draw_step ?_ | refine each_step ?_ | refine sl_step ?_ | refine hp_step ?_ | refine guard_no (by decide) ?_ | refine guard_go ?_ | refine guard_old ?_ | apply cut_auto | with_reducible exact CutS.mk (Or.inl ⟨rfl, rfl, rfl⟩) | refine CutS.mk (Or.inr (Or.inl (sub_auto ?_))) | exact trivial | refine And.intro ?_ ?_ | (refine cond_split ?_ ?_ <;> intro _ <;> first | (exfalso; first | omega | (simp_all; done) | (simp_all; omega)) | skip) | apply guess | apply FnIs.useF (c34 _ _ _) | apply FnIs.useF (k3) | exact Or.inl rfl | exact Or.inr rfl | exact Side.mk trivial | exact Side.mk (fun h => h) | exact Side.mk (fun h => ⟨h, h⟩) | with_reducible exact Side.mk rfl | with_reducible exact Side.mk ⟨rfl, rfl⟩ | with_reducible exact Side.mk (by assumption) | with_reducible rfl | intro _)
      all_goals try (conv => whnf)
      all_goals first | (refine Side.mk ?_; show (_ : List R3).length ≤ _; simp; omega) | skip
      all_goals try (refine Side.mk ?_; first | (intros; omega) | (intro h1_ h2_; rw [h1_, h2_]; rfl) | (show List.length (_ ++ _) ≤ _; simp only [List.length_append, List.length_cons, List.length_nil, List.length_replicate, List.length_take]; omega) | (simp_all; done) | (simp_all; omega))
      all_goals first | done | rfl | exact Side.mk rfl | (show _ = maxL ((least? p (xs ++ [r])).getD []) - maxL ((least? p xs).getD []); rw [hM, hL]; rfl) | trace_state
    | some M =>
      rw [show addOk p xs r = true by simp [addOk, hL, hM]]
      obtain ⟨_, _, q1, _, q2⟩ := least?_fit hL
      obtain ⟨_, _, q3, _, q4⟩ := least?_fit hM
      have b1 := maxL_bd q1 q2
      have b2 := maxL_bd q3 q4
      repeat' ((conv => whnf); first | done | refine ev_step ?_ | refine ops_step ?_ | refine scan_step ?_ | refine draw_step ?_ | refine each_step ?_ | refine sl_step ?_ | refine hp_step ?_ | refine guard_no (by decide) ?_ | refine guard_go ?_ | refine guard_old ?_ | apply cut_auto | with_reducible exact CutS.mk (Or.inl ⟨rfl, rfl, rfl⟩) | refine CutS.mk (Or.inr (Or.inl (sub_auto ?_))) | exact trivial | refine And.intro ?_ ?_ | (refine cond_split ?_ ?_ <;> intro _ <;> first | (exfalso; first | omega | (simp_all; done) | (simp_all; omega)) | skip) | apply guess | apply FnIs.useF (c34 _ _ _) | apply FnIs.useF (k3) | exact Or.inl rfl | exact Or.inr rfl | exact Side.mk trivial | exact Side.mk (fun h => h) | exact Side.mk (fun h => ⟨h, h⟩) | with_reducible exact Side.mk rfl | with_reducible exact Side.mk ⟨rfl, rfl⟩ | with_reducible exact Side.mk (by assumption) | with_reducible rfl | intro _)
      all_goals try (conv => whnf)
      all_goals first | (refine Side.mk ?_; show (_ : List R3).length ≤ _; simp; omega) | skip
      all_goals try (refine Side.mk ?_; first | (intros; omega) | (intro h1_ h2_; rw [h1_, h2_]; rfl) | (show List.length (_ ++ _) ≤ _; simp only [List.length_append, List.length_cons, List.length_nil, List.length_replicate, List.length_take]; omega) | (simp_all; done) | (simp_all; omega))
      all_goals first | done | rfl | exact Side.mk rfl | (show _ = maxL ((least? p (xs ++ [r])).getD []) - maxL ((least? p xs).getD []); rw [hM, hL]; rfl) | trace_state
theorem least?_of {p : Int} {rs : List R3} (hp : okPress p rs = true) : least? p rs = leastR p rs := if_pos hp
theorem least?_no {p : Int} {rs : List R3} (hp : okPress p rs = false) : least? p rs = none := if_neg (by rw [hp]; simp)
theorem c45 (p : Int) (xs : List R3) (r : R3) (h : Side (inI64 p ∧ xs.length ≤ 1048576)) : FnIs Try.prog 33 [.agg [.int .i64 p, .sl 0 []], .agg [.int .i64 r.a, .int .i64 r.b, .int .i64 r.c]] 1 [(0, .flat false (.r3 xs))]
    (.tuple [.agg [.int .i64 (if addOk p xs r = true then p else 0), .sl 1 []], .int .i64 (if addOk p xs r = true then maxL ((least? p (xs ++ [r])).getD []) - maxL ((least? p xs).getD []) else 0), .bool (addOk p xs r)]) 2 [(1, .flat true (.r3 (if addOk p xs r = true then xs ++ [r] else [])))] := by
  obtain ⟨h1, h2⟩ := h.h
  refine fn_of_ev tok Try.func33 rfl rfl rfl ?_
  cases hp : okPress p xs with
  | false =>
    rw [show addOk p xs r = false by simp [addOk, least?_no hp]]
    repeat' ((conv => whnf); first | done | refine ev_step ?_ | refine ops_step ?_ | refine scan_step ?_ | refine draw_step ?_ | refine each_step ?_ | refine sl_step ?_ | refine hp_step ?_ | refine guard_no (by decide) ?_ | refine guard_go ?_ | refine guard_old ?_ | apply cut_auto | with_reducible exact CutS.mk (Or.inl ⟨rfl, rfl, rfl⟩) | refine CutS.mk (Or.inr (Or.inl (sub_auto ?_))) | exact trivial | refine And.intro ?_ ?_ | (refine cond_split ?_ ?_ <;> intro _ <;> first | (exfalso; first | omega | (simp_all; done) | (simp_all; omega)) | skip) | apply guess | apply FnIs.useF (c66 _ _ _) | exact Or.inl rfl | exact Or.inr rfl | exact Side.mk trivial | exact Side.mk (fun h => h) | exact Side.mk (fun h => ⟨h, h⟩) | with_reducible exact Side.mk rfl | with_reducible exact Side.mk ⟨rfl, rfl⟩ | with_reducible exact Side.mk (by assumption) | with_reducible rfl | intro _)
    all_goals try (conv => whnf)
    all_goals try (refine Side.mk ?_; first | (intros; omega) | (intro h1_ h2_; rw [h1_, h2_]; rfl) | (show List.length (_ ++ _) ≤ _; simp only [List.length_append, List.length_cons, List.length_nil, List.length_replicate, List.length_take]; omega) | (simp_all; done) | (simp_all; omega))
    all_goals first | done | rfl | exact Side.mk rfl | (show _ = maxL ((leastR p (xs ++ [r])).getD []) - maxL ((leastR p xs).getD []); rw [hM, hL]; rfl) | trace_state
  | true =>
    cases hq : okPress p (xs ++ [r]) with
    | false =>
      rw [show addOk p xs r = false by simp [addOk, least?_no hq]]
      repeat' ((conv => whnf); first | done | refine ev_step ?_ | refine ops_step ?_ | refine scan_step ?_ | refine draw_step ?_ | refine each_step ?_ | refine sl_step ?_ | refine hp_step ?_ | refine guard_no (by decide) ?_ | refine guard_go ?_ | refine guard_old ?_ | apply cut_auto | with_reducible exact CutS.mk (Or.inl ⟨rfl, rfl, rfl⟩) | refine CutS.mk (Or.inr (Or.inl (sub_auto ?_))) | exact trivial | refine And.intro ?_ ?_ | (refine cond_split ?_ ?_ <;> intro _ <;> first | (exfalso; first | omega | (simp_all; done) | (simp_all; omega)) | skip) | apply guess | apply FnIs.useF (c66 _ _ _) | exact Or.inl rfl | exact Or.inr rfl | exact Side.mk trivial | exact Side.mk (fun h => h) | exact Side.mk (fun h => ⟨h, h⟩) | with_reducible exact Side.mk rfl | with_reducible exact Side.mk ⟨rfl, rfl⟩ | with_reducible exact Side.mk (by assumption) | with_reducible rfl | intro _)
      all_goals try (conv => whnf)
      all_goals first | (refine Side.mk ?_; show (_ : List R3).length ≤ _; simp; omega) | skip
      all_goals try (refine Side.mk ?_; first | (intros; omega) | (intro h1_ h2_; rw [h1_, h2_]; rfl) | (show List.length (_ ++ _) ≤ _; simp only [List.length_append, List.length_cons, List.length_nil, List.length_replicate, List.length_take]; omega) | (simp_all; done) | (simp_all; omega))
      all_goals first | done | rfl | exact Side.mk rfl | (show _ = maxL ((leastR p (xs ++ [r])).getD []) - maxL ((leastR p xs).getD []); rw [hM, hL]; rfl) | trace_state
    | true =>
      cases hL : leastR p xs with
      | none =>
        rw [show addOk p xs r = false by simp [addOk, least?_of hp, hL]]
        repeat' ((conv => whnf); first | done | refine ev_step ?_ | refine ops_step ?_ | refine scan_step ?_ | refine draw_step ?_ | refine each_step ?_ | refine sl_step ?_ | refine hp_step ?_ | refine guard_no (by decide) ?_ | refine guard_go ?_ | refine guard_old ?_ | apply cut_auto | with_reducible exact CutS.mk (Or.inl ⟨rfl, rfl, rfl⟩) | refine CutS.mk (Or.inr (Or.inl (sub_auto ?_))) | exact trivial | refine And.intro ?_ ?_ | (refine cond_split ?_ ?_ <;> intro _ <;> first | (exfalso; first | omega | (simp_all; done) | (simp_all; omega)) | skip) | apply guess | apply FnIs.useF (c66 _ _ _) | apply FnIs.useF (c76 _ _ _) | exact Or.inl rfl | exact Or.inr rfl | exact Side.mk trivial | exact Side.mk (fun h => h) | exact Side.mk (fun h => ⟨h, h⟩) | with_reducible exact Side.mk rfl | with_reducible exact Side.mk ⟨rfl, rfl⟩ | with_reducible exact Side.mk (by assumption) | with_reducible rfl | intro _)
        all_goals try (conv => whnf)
        all_goals first | (refine Side.mk ?_; show (_ : List R3).length ≤ _; simp; omega) | skip
        all_goals try (refine Side.mk ?_; first | (intros; omega) | (intro h1_ h2_; rw [h1_, h2_]; rfl) | (show List.length (_ ++ _) ≤ _; simp only [List.length_append, List.length_cons, List.length_nil, List.length_replicate, List.length_take]; omega) | (simp_all; done) | (simp_all; omega))
        all_goals first | done | rfl | exact Side.mk rfl | (show _ = maxL ((leastR p (xs ++ [r])).getD []) - maxL ((leastR p xs).getD []); rw [hM, hL]; rfl) | trace_state
      | some L =>
        cases hM : leastR p (xs ++ [r]) with
        | none =>
          rw [show addOk p xs r = false by simp [addOk, least?_of hq, hM]]
          repeat' ((conv => whnf); first | done | refine ev_step ?_ | refine ops_step ?_ | refine scan_step ?_ | refine draw_step ?_ | refine each_step ?_ | refine sl_step ?_ | refine hp_step ?_ | refine guard_no (by decide) ?_ | refine guard_go ?_ | refine guard_old ?_ | apply cut_auto | with_reducible exact CutS.mk (Or.inl ⟨rfl, rfl, rfl⟩) | refine CutS.mk (Or.inr (Or.inl (sub_auto ?_))) | exact trivial | refine And.intro ?_ ?_ | (refine cond_split ?_ ?_ <;> intro _ <;> first | (exfalso; first | omega | (simp_all; done) | (simp_all; omega)) | skip) | apply guess | apply FnIs.useF (c66 _ _ _) | apply FnIs.useF (c76 _ _ _) | exact Or.inl rfl | exact Or.inr rfl | exact Side.mk trivial | exact Side.mk (fun h => h) | exact Side.mk (fun h => ⟨h, h⟩) | with_reducible exact Side.mk rfl | with_reducible exact Side.mk ⟨rfl, rfl⟩ | with_reducible exact Side.mk (by assumption) | with_reducible rfl | intro _)
          all_goals try (conv => whnf)
          all_goals first | (refine Side.mk ?_; show (_ : List R3).length ≤ _; simp; omega) | skip
          all_goals try (refine Side.mk ?_; first | (intros; omega) | (intro h1_ h2_; rw [h1_, h2_]; rfl) | (show List.length (_ ++ _) ≤ _; simp only [List.length_append, List.length_cons, List.length_nil, List.length_replicate, List.length_take]; omega) | (simp_all; done) | (simp_all; omega))
          all_goals first | done | rfl | exact Side.mk rfl | (show _ = maxL ((leastR p (xs ++ [r])).getD []) - maxL ((leastR p xs).getD []); rw [hM, hL]; rfl) | trace_state
        | some M =>
          rw [show addOk p xs r = true by simp [addOk, least?_of hp, least?_of hq, hL, hM], least?_of hp, least?_of hq, hL, hM]
          obtain ⟨_, _, q1, q1', q2⟩ := least?_fit (by rw [least?_of hp, hL])
          obtain ⟨_, _, q3, q3', q4⟩ := least?_fit (by rw [least?_of hq, hM])
          have b1 := maxL_bd q1 q2
          have b2 := maxL_bd q3 q4
          repeat' ((conv => whnf); first | done | refine ev_step ?_ | refine ops_step ?_ | refine scan_step ?_ | refine draw_step ?_ | refine each_step ?_ | refine sl_step ?_ | refine hp_step ?_ | refine guard_no (by decide) ?_ | refine guard_go ?_ | refine guard_old ?_ | apply cut_auto | with_reducible exact CutS.mk (Or.inl ⟨rfl, rfl, rfl⟩) | refine CutS.mk (Or.inr (Or.inl (sub_auto ?_))) | exact trivial | refine And.intro ?_ ?_ | (refine cond_split ?_ ?_ <;> intro _ <;> first | (exfalso; first | omega | (simp_all; done) | (simp_all; omega)) | skip) | apply guess | apply FnIs.useF (c66 _ _ _) | apply FnIs.useF (c76 _ _ _) | apply FnIs.useF (c79 _ _) | exact Or.inl rfl | exact Or.inr rfl | exact Side.mk trivial | exact Side.mk (fun h => h) | exact Side.mk (fun h => ⟨h, h⟩) | with_reducible exact Side.mk rfl | with_reducible exact Side.mk ⟨rfl, rfl⟩ | with_reducible exact Side.mk (by assumption) | with_reducible rfl | intro _)
          all_goals try (conv => whnf)
          all_goals first | (refine Side.mk ?_; show (_ : List R3).length ≤ _; simp; omega) | skip
          all_goals try (refine Side.mk ?_; first | (intros; omega) | (intro h1_ h2_; rw [h1_, h2_]; rfl) | (show List.length (_ ++ _) ≤ _; simp only [List.length_append, List.length_cons, List.length_nil, List.length_replicate, List.length_take]; omega) | (simp_all; done) | (simp_all; omega))
          all_goals first | done | rfl | exact Side.mk rfl | (show _ = maxL ((leastR p (xs ++ [r])).getD []) - maxL ((leastR p xs).getD []); rw [hM, hL]; rfl) | trace_state
end Go.Sx.U
