/-
  A builder that nothing has been written to (contracts).
-/
import Derived.Test.YtligakfmabjoeaaDoorT23
set_option linter.unusedSimpArgs false
namespace Go.Proofs
set_option linter.unusedVariables false
set_option linter.unusedSimpArgs false
set_option maxRecDepth 100000
set_option maxHeartbeats 8000000
open Go.RowKit
set_option maxHeartbeats 1000000 in
set_option maxRecDepth 100000 in
theorem bl_string0 (b : Nat) (w : World) (h1 : w.cell? ⟨b, 1, none⟩ = some (.slice none 0 0)) :
    Calls Tryd.prog 25 #[.pointer (some ⟨b, 0, none⟩)] w fun e w' => e = .returned (.string .empty) ∧ w' = w.drew := by
  have c1 : w.drew.cell? ⟨b, 1, none⟩ = some (.slice none 0 0) := h1
  have hSD : (Builtin.unsafeSliceData_ #[32] 70 #[.slice none 0 0]).run Tryd.prog w.drew = .ok (.pointer none) w.drew := rfl
  have hUS : (Builtin.unsafeString_ #[70, 3] 9 #[.pointer none, .int .i64 0]).run Tryd.prog w.drew = .ok (.string .empty) w.drew := Lib.run_unsafeString_none _ _ _ _ _
  go_enter Tryd.func25, Tryd.ntmps25
  go_wp2
  go_region
  all_goals (go_wp2; go_ret; exact ⟨rfl, rfl⟩)
end Go.Proofs
namespace Go.Sx.U
open Go Go.Sx Go.Proofs Go.RowKit

/-- A builder whose bytes are nil. -/
abbrev blG0 (b : Bool) : Heap := [(0, .flat true (.bld 43 (cond b (.ptr 0 [] 0 0) .nilptr) .nilsl))]

theorem k_bCheck0 (b : Bool) : FnIs Tryd.prog 38 [.ptr 0 [] 0 0] 1 (blG0 b) (.tuple []) 1 (blG0 true) := by
  refine ⟨⟨⟨⟨_, Tryd.func38, rfl, rfl⟩⟩, fun ρ w cargs hgk hH hv => ?_⟩⟩
  have ho : hget (blG0 b) 0 = some (.flat true (.bld 43 (cond b (.ptr 0 [] 0 0) .nilptr) .nilsl)) := rfl
  obtain ⟨c, t, h1, h2, h3, h4⟩ := own_block hH ho Nat.zero_lt_one
  obtain ⟨rfl, hoff⟩ := h4 43 rfl
  have hn := NodeAt.of_get ho (rfl : (AObj.flat true (.bld 43 (cond b (.ptr 0 [] 0 0) .nilptr) .nilsl)).node 0 [] = some _)
  obtain ⟨v0, c0, r0, o0⟩ := hH.rd 0 [] _ _ hn 0 Nat.zero_lt_one 0 Nat.zero_lt_two
  obtain ⟨v1, c1, r1, o1⟩ := hH.rd 0 [] _ _ hn 0 Nat.zero_lt_one 1 Nat.one_lt_two
  simp only [Flat.node, Flat.sz, Flat.cell, hoff, Nat.zero_mul, Nat.zero_add, Nat.add_zero] at c0 r0 c1 r1
  simp only [VRL, VR, hoff, Nat.zero_mul, Nat.zero_add, Nat.add_zero] at hv
  obtain ⟨a, r, rfl, ⟨_, rfl⟩, rfl⟩ := hv
  cases b with
  | true =>
    simp only [cond_true, VR, hoff, Nat.zero_mul, Nat.zero_add, Nat.add_zero] at r0
    obtain ⟨_, rfl⟩ := r0
    refine (bl_check_used _ w c0).mono fun e w' ⟨e1, e2⟩ => ?_
    subst e1 e2
    exact ⟨_, rfl, ⟨⟨.tuple [], ρ, 1, _, ⟨rfl, rfl, rfl⟩, by simp only [VR, VRL]; exact ⟨[], rfl, rfl⟩, hH, Nat.le_refl _, fun _ _ => rfl, FrameW.refl _ _, fun _ h => .inr h⟩⟩⟩
  | false =>
    simp only [cond_false, VR] at r0
    subst r0
    have hs2 : 2 ≤ c.size := by
      rw [cell_of_row w _ _ c 43 (0, 0) h1] at c1
      have := (Array.getElem?_eq_some_iff.1 c1).1
      omega
    have hsh : w.shape? (ρ 0 []).b = some (43, c.size) := by simp [World.shape?, h1]
    refine (bl_check_fresh _ c.size w c0 hs2 hsh (frozen_of_row w _ _ c 43 h1)).mono fun e w' ⟨e1, e2⟩ => ?_
    subst e1 e2
    obtain ⟨c', hc1, hc2, hc3⟩ := setCells_block (ρ 0 []).b 43 (0, 0) [.pointer (some ⟨(ρ 0 []).b, 0, none⟩)] 0 w c h1
    have hq : (w.setCells (ρ 0 []).b 0 [.pointer (some ⟨(ρ 0 []).b, 0, none⟩)]) = w.setCell ⟨(ρ 0 []).b, 0, none⟩ (.pointer (some ⟨(ρ 0 []).b, 0, none⟩)) := rfl
    obtain ⟨q1, q2, q3⟩ := put_flat hH ho (f' := .bld 43 (.ptr 0 [] 0 0) .nilsl) rfl rfl (w' := w.setCell ⟨(ρ 0 []).b, 0, none⟩ (.pointer (some ⟨(ρ 0 []).b, 0, none⟩))) (by decide) (hq ▸ setCells_frame _ _ _ _) ⟨c', 43, hq ▸ hc1, hc2.trans h2, fun t' ht => ⟨by simpa [Flat.ty] using ht, hoff⟩⟩ (fun i hi j hj => by
      simp only [Flat.n, Flat.sz] at hi hj
      obtain rfl : i = 0 := by omega
      have hj2 : j = 0 ∨ j = 1 := by omega
      rw [cell_of_row _ _ _ c' 43 (0, 0) (hq ▸ hc1), hc3]
      rw [cell_of_row w _ _ c 43 (0, 0) h1] at c0 c1
      rcases hj2 with rfl | rfl
      · refine ⟨.pointer (some ⟨(ρ 0 []).b, 0, none⟩), ?_, ?_, rfl⟩
        · simp only [hoff, Flat.sz]
          rw [if_pos ⟨by simp, by simp, by omega⟩]
          simp
        · simp only [Flat.cell, VR, hoff]
          exact ⟨by decide, by simp⟩
      · refine ⟨v1, ?_, r1, o1⟩
        simp only [hoff, Flat.sz]
        rw [if_neg (by simp)]
        simpa using c1)
    exact ⟨_, rfl, ⟨⟨.tuple [], ρ, 1, _, ⟨rfl, rfl, rfl⟩, by simp only [VR, VRL]; exact ⟨[], rfl, rfl⟩, q1, Nat.le_refl _, fun _ _ => rfl, q2, fun b hb => .inr (q3 b hb)⟩⟩⟩


theorem k_bString0 (b : Bool) : FnIs Tryd.prog 25 [.ptr 0 [] 0 0] 1 (blG0 b) (.str ByteArray.empty) 1 [] := by
  refine ⟨⟨⟨⟨_, Tryd.func25, rfl, rfl⟩⟩, fun ρ w cargs hgk hH hv => ?_⟩⟩
  have ho : hget (blG0 b) 0 = some (.flat true (.bld 43 (cond b (.ptr 0 [] 0 0) .nilptr) .nilsl)) := rfl
  obtain ⟨c, t, h1, h2, h3, h4⟩ := own_block hH ho Nat.zero_lt_one
  obtain ⟨rfl, hoff⟩ := h4 43 rfl
  have hn := NodeAt.of_get ho (rfl : (AObj.flat true (.bld 43 (cond b (.ptr 0 [] 0 0) .nilptr) .nilsl)).node 0 [] = some _)
  obtain ⟨v1, c1, r1, o1⟩ := hH.rd 0 [] _ _ hn 0 Nat.zero_lt_one 1 Nat.one_lt_two
  simp only [Flat.node, Flat.sz, Flat.cell, Flat.n, hoff, Nat.zero_mul, Nat.zero_add, Nat.add_zero, VR] at c1 r1
  subst r1
  simp only [VRL, VR, hoff, Nat.zero_mul, Nat.zero_add, Nat.add_zero] at hv
  obtain ⟨a, r, rfl, ⟨_, rfl⟩, rfl⟩ := hv
  refine (bl_string0 _ w c1).mono fun e w' ⟨e1, e2⟩ => ?_
  subst e1 e2
  have no : ∀ {id p nd own}, ¬ NodeAt ([] : Heap) id p nd own := fun {id p nd own} h => by
    obtain ⟨o, h, _⟩ := h.ex
    cases h
  exact ⟨_, rfl, ⟨⟨.str ByteArray.empty, ρ, 1, [], ⟨rfl, rfl, rfl⟩, by simp only [VR], ⟨fun _ _ h => by (cases h), fun _ _ _ _ h => absurd h no, fun _ _ _ _ h => absurd h no, fun _ _ _ h => absurd h no, fun _ _ _ _ _ _ _ h => absurd h no⟩, Nat.le_refl _, fun _ _ => rfl, ⟨rfl, rfl, rfl, Nat.le_refl _, fun _ _ _ => rfl, Nat.le_succ _⟩, fun b hb => absurd hb owns_nil⟩⟩⟩
theorem k_bLen0 (b : Bool) : FnIs Tryd.prog 21 [.ptr 0 [] 0 0] 1 (blG0 b) (.int .i64 0) 1 (blG0 b) := by
  refine fn_of_ev tok Tryd.func21 rfl rfl rfl ?_
  cases b
  · repeat' ((conv => whnf); first | done | refine ev_step ?_ | refine ops_step ?_ | refine scan_step ?_ | refine draw_step ?_ | refine each_step ?_ | refine sl_step ?_ | refine hp_step ?_ | refine guard_no (by decide) ?_ | refine guard_go ?_ | refine guard_old ?_ | apply cut_auto | with_reducible exact CutS.mk (Or.inl ⟨rfl, rfl, rfl⟩) | refine CutS.mk (Or.inr (Or.inl (sub_auto ?_))) | exact trivial | refine And.intro ?_ ?_ | refine cond_split ?_ ?_ | apply guess | exact Or.inl rfl | exact Or.inr rfl | exact Side.mk trivial | exact Side.mk (fun h => h) | exact Side.mk (fun h => ⟨h, h⟩) | with_reducible exact Side.mk rfl | with_reducible exact Side.mk ⟨rfl, rfl⟩ | with_reducible exact Side.mk (by assumption) | with_reducible rfl | intro _)
    all_goals try (conv => whnf)
    all_goals try (refine Side.mk ?_; first | (intros; omega) | (intro h1_ h2_; rw [h1_, h2_]; rfl) | (show List.length (_ ++ _) ≤ _; simp only [List.length_append, List.length_cons, List.length_nil, List.length_replicate, List.length_take]; omega) | (simp_all; done) | (simp_all; omega))
    all_goals first | rfl | trace_state
  · repeat' ((conv => whnf); first | done | refine ev_step ?_ | refine ops_step ?_ | refine scan_step ?_ | refine draw_step ?_ | refine each_step ?_ | refine sl_step ?_ | refine hp_step ?_ | refine guard_no (by decide) ?_ | refine guard_go ?_ | refine guard_old ?_ | apply cut_auto | with_reducible exact CutS.mk (Or.inl ⟨rfl, rfl, rfl⟩) | refine CutS.mk (Or.inr (Or.inl (sub_auto ?_))) | exact trivial | refine And.intro ?_ ?_ | refine cond_split ?_ ?_ | apply guess | exact Or.inl rfl | exact Or.inr rfl | exact Side.mk trivial | exact Side.mk (fun h => h) | exact Side.mk (fun h => ⟨h, h⟩) | with_reducible exact Side.mk rfl | with_reducible exact Side.mk ⟨rfl, rfl⟩ | with_reducible exact Side.mk (by assumption) | with_reducible rfl | intro _)
    all_goals try (conv => whnf)
    all_goals try (refine Side.mk ?_; first | (intros; omega) | (intro h1_ h2_; rw [h1_, h2_]; rfl) | (show List.length (_ ++ _) ≤ _; simp only [List.length_append, List.length_cons, List.length_nil, List.length_replicate, List.length_take]; omega) | (simp_all; done) | (simp_all; omega))
    all_goals first | rfl | trace_state
theorem k_bWrite0 (b : Bool) (s : ByteArray) (h : Side (s.size ≤ 1048577)) : FnIs Tryd.prog 23 [.ptr 0 [] 0 0, .str s] 1 (blG0 b) .top 2 [(1, .flat true (.tby 5 (numsOf s))), (0, .flat true (.bld 43 (.ptr 0 [] 0 0) (.sl 1 [])))] := by
  have h2 := h.h
  have h3 := numsOf_length s
  cases b
  · refine fn_of_ev tok Tryd.func23 rfl rfl rfl ?_
    repeat' ((conv => whnf); first | done | refine ev_step ?_ | refine ops_step ?_ | refine scan_step ?_ | refine draw_step ?_ | refine each_step ?_ | refine sl_step ?_ | refine hp_step ?_ | refine guard_no (by decide) ?_ | refine guard_go ?_ | refine guard_old ?_ | apply cut_auto | with_reducible exact CutS.mk (Or.inl ⟨rfl, rfl, rfl⟩) | refine CutS.mk (Or.inr (Or.inl (sub_auto ?_))) | exact trivial | refine And.intro ?_ ?_ | refine cond_split ?_ ?_ | apply guess | apply FnIs.useF (k_bCheck0 false) | exact Or.inl rfl | exact Or.inr rfl | exact Side.mk trivial | exact Side.mk (fun h => h) | exact Side.mk (fun h => ⟨h, h⟩) | with_reducible exact Side.mk rfl | with_reducible exact Side.mk ⟨rfl, rfl⟩ | with_reducible exact Side.mk (by assumption) | with_reducible rfl | intro _)
    all_goals try (conv => whnf)
    all_goals try (refine Side.mk ?_; first | (intros; omega) | (intro h1_ h2_; rw [h1_, h2_]; rfl) | (show List.length (_ ++ _) ≤ _; simp only [List.length_append, List.length_cons, List.length_nil, List.length_replicate, List.length_take]; omega) | (simp_all; done) | (simp_all; omega))
    all_goals first | rfl | trace_state
  · refine fn_of_ev tok Tryd.func23 rfl rfl rfl ?_
    repeat' ((conv => whnf); first | done | refine ev_step ?_ | refine ops_step ?_ | refine scan_step ?_ | refine draw_step ?_ | refine each_step ?_ | refine sl_step ?_ | refine hp_step ?_ | refine guard_no (by decide) ?_ | refine guard_go ?_ | refine guard_old ?_ | apply cut_auto | with_reducible exact CutS.mk (Or.inl ⟨rfl, rfl, rfl⟩) | refine CutS.mk (Or.inr (Or.inl (sub_auto ?_))) | exact trivial | refine And.intro ?_ ?_ | refine cond_split ?_ ?_ | apply guess | apply FnIs.useF (k_bCheck0 true) | exact Or.inl rfl | exact Or.inr rfl | exact Side.mk trivial | exact Side.mk (fun h => h) | exact Side.mk (fun h => ⟨h, h⟩) | with_reducible exact Side.mk rfl | with_reducible exact Side.mk ⟨rfl, rfl⟩ | with_reducible exact Side.mk (by assumption) | with_reducible rfl | intro _)
    all_goals try (conv => whnf)
    all_goals try (refine Side.mk ?_; first | (intros; omega) | (intro h1_ h2_; rw [h1_, h2_]; rfl) | (show List.length (_ ++ _) ≤ _; simp only [List.length_append, List.length_cons, List.length_nil, List.length_replicate, List.length_take]; omega) | (simp_all; done) | (simp_all; omega))
    all_goals first | rfl | trace_state
end Go.Sx.U
