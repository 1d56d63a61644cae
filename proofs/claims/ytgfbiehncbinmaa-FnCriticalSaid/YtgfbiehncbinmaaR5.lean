/-
  Chapter 9: a press that a test draws (contracts).
-/
import Derived.Test.YtgfbiehncbinmaaM9
import Derived.Test.YtgfbiehncbinmaaKR1
import Derived.Test.YtgfbiehncbinmaaSd
set_option linter.unusedSimpArgs false
namespace Go.Sx.U
set_option linter.unusedVariables false
set_option linter.unusedSimpArgs false
set_option maxRecDepth 100000
set_option maxHeartbeats 8000000
open Go Go.Sx Go.Sx.M9 Go.Proofs

theorem k_oneP (bs : List Int) (st : Int × Int) (n : Int) (h : Side (bytesOk bs ∧ stOk st ∧ st.1 ≤ 999990 ∧ 1 ≤ n ∧ n ≤ 60000)) : FnEx Try.prog 86 [.ptr 0 [] 0 0, .int .i64 n] 2 [(0, srcO 1 st), (1, .flat false (.ints .u8 bs))] (fun a : Bool × Int × Int => stGe st 2 a.2) (fun a => .bool a.1) 2 (fun a => [(0, srcO 1 a.2)]) := by
  obtain ⟨h1, h2, h3, h4, h5⟩ := h.h
  refine ex_of_evk [] tok Try.func86 rfl rfl rfl ?_
  repeat' ((conv => whnf); first | done | refine ev_step ?_ | refine ops_step ?_ | refine scan_step ?_ | refine draw_step ?_ | refine each_step ?_ | refine sl_step ?_ | refine hp_step ?_ | refine guard_no (by decide) ?_ | refine guard_go ?_ | refine guard_old ?_ | apply cut_auto | with_reducible exact CutS.mk (Or.inl ⟨rfl, rfl, rfl⟩) | refine CutS.mk (Or.inr (Or.inl (sub_auto ?_))) | exact trivial | refine And.intro ?_ ?_ | (refine cond_split ?_ ?_ <;> intro _ <;> first | (exfalso; first | omega | (simp only [decide_eq_true_eq, decide_eq_false_iff_not, Bool.not_eq_true', Bool.not_eq_false', ne_eq, Bool.not_true, Bool.not_false, cond_true, cond_false, Bool.true_eq_false, Bool.false_eq_true, Bool.and_eq_true, Bool.and_eq_false_iff] at *; omega)) | skip) | apply guess | apply FnEx.useF (k_pick bs _ _ _) | exact Or.inl rfl | exact Or.inr rfl | exact Side.mk trivial | exact Side.mk (fun h => h) | exact Side.mk (fun h => ⟨h, h⟩) | with_reducible exact Side.mk rfl | with_reducible exact Side.mk ⟨rfl, rfl⟩ | with_reducible exact Side.mk (by assumption) | with_reducible rfl | intro _)
  all_goals try (conv => whnf)
  all_goals try (refine Side.mk ⟨h1, ?_⟩; omega)
  all_goals try (refine Side.mk ?_; first | (intros; omega) | (intro h1_ h2_; rw [h1_, h2_]; rfl) | (show List.length (_ ++ _) ≤ _; simp only [List.length_append, List.length_cons, List.length_nil, List.length_replicate, List.length_take]; omega) | (simp_all; done) | (simp_all; omega))
  rename_i a ha
  refine ⟨(decide (a.1 = 0), a.2), ha.2.2, ?_⟩
  repeat' ((conv => whnf); first | done | refine ev_step ?_ | refine ops_step ?_ | refine scan_step ?_ | refine draw_step ?_ | refine each_step ?_ | refine sl_step ?_ | refine hp_step ?_ | refine guard_no (by decide) ?_ | refine guard_go ?_ | refine guard_old ?_ | apply cut_auto | with_reducible exact CutS.mk (Or.inl ⟨rfl, rfl, rfl⟩) | refine CutS.mk (Or.inr (Or.inl (sub_auto ?_))) | exact trivial | refine And.intro ?_ ?_ | refine cond_split ?_ ?_ | apply guess | exact Or.inl rfl | exact Or.inr rfl | exact Side.mk trivial | exact Side.mk (fun h => h) | exact Side.mk (fun h => ⟨h, h⟩) | with_reducible exact Side.mk rfl | with_reducible exact Side.mk ⟨rfl, rfl⟩ | with_reducible exact Side.mk (by assumption) | with_reducible rfl | intro _)
  all_goals try (conv => whnf)
  all_goals first | rfl | trace_state
abbrev PrS := Int × Int × Nat × List R3 × Int × Int
abbrev prP (m : Nat) (a : PrS) : Prop := (1 ≤ a.1 ∧ a.1 ≤ 16) ∧ a.2.2.1 ≤ m ∧ a.2.2.2.1.length + a.2.2.1 ≤ m ∧ (∀ r ∈ a.2.2.2.1, okRule a.1 r = true) ∧ a.2.2.2.2.1 + 20 * a.2.2.1 ≤ 2000 ∧ stOk a.2.2.2.2
theorem okRule_mk {p a b c : Int} (h1 : 0 ≤ a ∧ a < p) (h2 : 0 ≤ b ∧ b < p) (h3 : a ≠ b) (h4 : -1000 ≤ c ∧ c ≤ 1000) : okRule p ⟨a, b, c⟩ = true := by
  unfold okRule
  repeat' (rw [Bool.and_eq_true])
  repeat' apply And.intro
  all_goals try dsimp only
  all_goals first | (apply decide_eq_true; omega) | (rw [Bool.not_eq_true']; apply decide_eq_false; omega)
theorem prP_keep {m r : Nat} {p bk : Int} {rs : List R3} {s s' : Int × Int} (h : prP m (p, bk, r, rs, s)) (h0 : 0 < r) (hs : 0 ≤ s'.1 ∧ s'.1 ≤ s.1 + 14 ∧ 0 ≤ s'.2 ∧ s'.2 < 18446744073709551616) : prP m (p, bk, r - 1, rs, s') := by
  obtain ⟨p1, p2, p3, p4, p5, p6⟩ := h
  dsimp only at p1 p2 p3 p4 p5 p6
  exact ⟨p1, by dsimp only; omega, by dsimp only; omega, p4, by dsimp only; omega, by dsimp only; omega⟩
theorem prP_add {m r : Nat} {p bk : Int} {rs : List R3} {s s' : Int × Int} (h : prP m (p, bk, r, rs, s)) (h0 : 0 < r) (hs : 0 ≤ s'.1 ∧ s'.1 ≤ s.1 + 14 ∧ 0 ≤ s'.2 ∧ s'.2 < 18446744073709551616) {x : R3} (hx : okRule p x = true) : prP m (p, bk, r - 1, rs ++ [x], s') := by
  obtain ⟨p1, p2, p3, p4, p5, p6⟩ := h
  dsimp only at p1 p2 p3 p4 p5 p6
  refine ⟨p1, by dsimp only; omega, by simp only [List.length_append, List.length_singleton]; omega, fun y hy => ?_, by dsimp only; omega, by dsimp only; omega⟩
  rcases List.mem_append.1 hy with hy | hy
  · exact p4 y hy
  · rw [List.mem_singleton.1 hy]; exact hx
theorem prP_fin {m r : Nat} {p bk : Int} {rs : List R3} {s : Int × Int} (h : prP m (p, bk, r, rs, s)) (hm : m ≤ 9) : okPress p rs = true := by
  obtain ⟨p1, p2, p3, p4, p5, p6⟩ := h
  dsimp only at p1 p2 p3 p4 p5 p6
  simp only [okPress, Bool.and_eq_true, decide_eq_true_eq, List.all_eq_true]
  exact ⟨⟨⟨by omega, by omega⟩, by omega⟩, p4⟩
theorem mem4 {x : Int} (h : x ∈ ([0, 1000, -1000, -1] : List Int)) : -1000 ≤ x ∧ x ≤ 1000 := by
  simp only [List.mem_cons, List.not_mem_nil, or_false] at h
  omega
theorem k_DrawPress (bs : List Int) (st : Int × Int) (h : Side (bytesOk bs ∧ stOk st ∧ st.1 ≤ 1000)) : FnEx Try.prog 59 [.ptr 0 [] 0 0] 2 [(0, srcO 1 st), (1, .flat false (.ints .u8 bs))] (fun a : Int × List R3 × Int × Int => okPress a.1 a.2.1 = true ∧ stOk a.2.2) (fun a => .agg [.int .i64 a.1, .sl 2 []]) 3 (fun a => [(0, srcO 1 a.2.2), (2, .flat true (.r3 a.2.1))]) := by
  obtain ⟨h1, h2, h3⟩ := h.h
  refine ex_of_evk [0, 2, 3, 4, 5, 6, 7, 8, 14, 17, 26, 45, 51, 57] tok Try.func59 rfl rfl rfl ?_
  repeat' ((conv => whnf); first | done | refine ev_step ?_ | refine ops_step ?_ | refine scan_step ?_ | refine draw_step ?_ | refine each_step ?_ | refine sl_step ?_ | refine hp_step ?_ | refine guard_no (by decide) ?_ | refine guard_go ?_ | refine guard_old ?_ | apply cut_auto | with_reducible exact CutS.mk (Or.inl ⟨rfl, rfl, rfl⟩) | refine CutS.mk (Or.inr (Or.inl (sub_auto ?_))) | exact trivial | refine And.intro ?_ ?_ | (refine cond_split ?_ ?_ <;> intro _ <;> first | (exfalso; first | omega | (simp only [decide_eq_true_eq, decide_eq_false_iff_not, Bool.not_eq_true', Bool.not_eq_false', ne_eq, Bool.not_true, Bool.not_false, cond_true, cond_false, Bool.true_eq_false, Bool.false_eq_true, Bool.and_eq_true, Bool.and_eq_false_iff] at *; omega)) | skip) | apply guess | apply FnEx.useF (k_pick bs _ _ _) | apply FnEx.useF (k_oneP bs _ _ _) | exact Or.inl rfl | exact Or.inr rfl | exact Side.mk trivial | exact Side.mk (fun h => h) | exact Side.mk (fun h => ⟨h, h⟩) | with_reducible exact Side.mk rfl | with_reducible exact Side.mk ⟨rfl, rfl⟩ | with_reducible exact Side.mk (by assumption) | with_reducible rfl | intro _)
  all_goals try (conv => whnf)
  all_goals try exact Side.mk ⟨h1, by omega, by omega, by omega, by omega⟩
  all_goals try (refine Side.mk ?_; first | (intros; omega) | (intro h1_ h2_; rw [h1_, h2_]; rfl) | (show List.length (_ ++ _) ≤ _; simp only [List.length_append, List.length_cons, List.length_nil, List.length_replicate, List.length_take]; omega) | (simp_all; done) | (simp_all; omega))
  all_goals rename_i x hx y hy ey z hz ez w hw
  all_goals (obtain ⟨yb, ys⟩ := y; obtain ⟨zb, zs⟩ := z; dsimp only at hy ey hz ez hw hx; subst ey; subst ez)
  all_goals (obtain ⟨m, hm⟩ : ∃ m : Nat, w.1 = (m : Int) := ⟨w.1.toNat, by omega⟩)
  · refine loop_at (fun a : PrS => prP m a) 5 (fun a => [(0, .ptr 0 [] 0 0), (2, .ptr 2 [] 0 0), (3, .ptr 3 [] 0 0), (4, .int .i64 a.2.1), (5, .int .i64 a.2.2.1)]) (fun a => [(0, srcO 1 a.2.2.2.2), (3, .flat true (.gen 2 [[.int .i64 a.1, .sl 4 []]])), (4, .flat true (.r3 a.2.2.2.1))]) (fun a => a.2.2.1) (16, 1, m, [], w.2) ⟨by omega, Nat.le_refl _, by simp, by simp, by simp only; omega, by simp only; omega⟩ ?_ (fun a ha => ?_)
    · repeat' ((conv => whnf); first | done | refine ev_step ?_ | refine ops_step ?_ | refine scan_step ?_ | refine draw_step ?_ | refine each_step ?_ | refine sl_step ?_ | refine hp_step ?_ | refine guard_no (by decide) ?_ | refine guard_go ?_ | refine guard_old ?_ | apply cut_auto | with_reducible exact CutS.mk (Or.inl ⟨rfl, rfl, rfl⟩) | refine CutS.mk (Or.inr (Or.inl (sub_auto ?_))) | exact trivial | refine And.intro ?_ ?_ | refine cond_split ?_ ?_ | apply guess | exact Or.inl rfl | exact Or.inr rfl | exact Side.mk trivial | exact Side.mk (fun h => h) | exact Side.mk (fun h => ⟨h, h⟩) | with_reducible exact Side.mk rfl | with_reducible exact Side.mk ⟨rfl, rfl⟩ | with_reducible exact Side.mk (by assumption) | with_reducible rfl | intro _)
      all_goals try (conv => whnf)
      all_goals first | rfl | exact hm.symm | trace_state
    · obtain ⟨p, bk, r, rs, s⟩ := a
      obtain ⟨p1, p2, p3, p4, p5, p6⟩ := id ha
      dsimp only at p1 p2 p3 p4 p5 p6 ⊢
      by_cases hlt : 0 < r
      · by_cases hp1 : 1 < p
        · repeat' ((conv => whnf); first | done | refine ev_step ?_ | refine ops_step ?_ | refine scan_step ?_ | refine draw_step ?_ | refine each_step ?_ | refine sl_step ?_ | refine hp_step ?_ | refine guard_no (by decide) ?_ | refine guard_go ?_ | refine guard_old ?_ | apply cut_auto | with_reducible exact CutS.mk (Or.inl ⟨rfl, rfl, rfl⟩) | refine CutS.mk (Or.inr (Or.inl (sub_auto ?_))) | exact trivial | refine And.intro ?_ ?_ | (refine cond_split ?_ ?_ <;> intro _ <;> first | (exfalso; first | omega | (simp_all; done) | (simp_all; omega)) | skip) | apply guess | apply FnEx.useF (k_pick bs _ _ _) | apply FnEx.useF (k_oneP bs _ _ _) | apply FnEx.useF (k_among bs _ _ _) | exact Or.inl rfl | exact Or.inr rfl | exact Side.mk trivial | exact Side.mk (fun h => h) | exact Side.mk (fun h => ⟨h, h⟩) | with_reducible exact Side.mk rfl | with_reducible exact Side.mk ⟨rfl, rfl⟩ | with_reducible exact Side.mk (by assumption) | with_reducible rfl | intro _)
          all_goals try (conv => whnf)
          all_goals try exact Side.mk ⟨h1, by omega, by omega, by omega, by omega⟩
          all_goals try exact Side.mk ⟨h1, by omega, by omega, by decide, by decide⟩
          all_goals try (refine Side.mk ?_; unfold inI64; omega)
          all_goals try (refine Side.mk ?_; show (_ ++ _).length ≤ _; simp only [List.length_append, List.length_singleton]; omega)
          all_goals try (refine Side.mk ?_; first | (intros; omega) | (intro h1_ h2_; rw [h1_, h2_]; rfl) | (show List.length (_ ++ _) ≤ _; simp only [List.length_append, List.length_cons, List.length_nil, List.length_replicate, List.length_take]; omega) | (simp_all; done) | (simp_all; omega))
          · rename_i _ i hi j hj d hd _ e he o ho _ g hg hne
            have hm4 := mem4 hg.1
            have hr : okRule p ⟨i.1, j.1, g.1⟩ = true := okRule_mk ⟨by omega, by omega⟩ ⟨by omega, by omega⟩ (by have := of_decide_eq_true hne; omega) ⟨by omega, by omega⟩
            refine ⟨(p, bk, r - 1, rs ++ [⟨i.1, j.1, g.1⟩], g.2), prP_add ha hlt (by omega) hr, by dsimp only; omega, ?_⟩
            repeat' ((conv => whnf); first | done | refine ev_step ?_ | refine ops_step ?_ | refine scan_step ?_ | refine draw_step ?_ | refine each_step ?_ | refine sl_step ?_ | refine hp_step ?_ | refine guard_no (by decide) ?_ | refine guard_go ?_ | refine guard_old ?_ | apply cut_auto | with_reducible exact CutS.mk (Or.inl ⟨rfl, rfl, rfl⟩) | refine CutS.mk (Or.inr (Or.inl (sub_auto ?_))) | exact trivial | refine And.intro ?_ ?_ | refine cond_split ?_ ?_ | apply guess | exact Or.inl rfl | exact Or.inr rfl | exact Side.mk trivial | exact Side.mk (fun h => h) | exact Side.mk (fun h => ⟨h, h⟩) | with_reducible exact Side.mk rfl | with_reducible exact Side.mk ⟨rfl, rfl⟩ | with_reducible exact Side.mk (by assumption) | with_reducible rfl | intro _)
            all_goals try (conv => whnf)
            all_goals first | rfl | omega | (dsimp only; omega) | trace_state
          · rename_i _ i hi j hj d hd _ e he o ho _ hne
            have hr : okRule p ⟨i.1, j.1, 0 - e.1 - 4⟩ = true := okRule_mk ⟨by omega, by omega⟩ ⟨by omega, by omega⟩ (by have := of_decide_eq_true hne; omega) ⟨by omega, by omega⟩
            refine ⟨(p, bk, r - 1, rs ++ [⟨i.1, j.1, 0 - e.1 - 4⟩], o.2), prP_add ha hlt (by omega) hr, by dsimp only; omega, ?_⟩
            repeat' ((conv => whnf); first | done | refine ev_step ?_ | refine ops_step ?_ | refine scan_step ?_ | refine draw_step ?_ | refine each_step ?_ | refine sl_step ?_ | refine hp_step ?_ | refine guard_no (by decide) ?_ | refine guard_go ?_ | refine guard_old ?_ | apply cut_auto | with_reducible exact CutS.mk (Or.inl ⟨rfl, rfl, rfl⟩) | refine CutS.mk (Or.inr (Or.inl (sub_auto ?_))) | exact trivial | refine And.intro ?_ ?_ | refine cond_split ?_ ?_ | apply guess | exact Or.inl rfl | exact Or.inr rfl | exact Side.mk trivial | exact Side.mk (fun h => h) | exact Side.mk (fun h => ⟨h, h⟩) | with_reducible exact Side.mk rfl | with_reducible exact Side.mk ⟨rfl, rfl⟩ | with_reducible exact Side.mk (by assumption) | with_reducible rfl | intro _)
            all_goals try (conv => whnf)
            all_goals first | rfl | omega | (dsimp only; omega) | trace_state
          · rename_i _ i hi j hj d hd _ o ho _ g hg hne
            have hm4 := mem4 hg.1
            have hr : okRule p ⟨i.1, j.1, g.1⟩ = true := okRule_mk ⟨by omega, by omega⟩ ⟨by omega, by omega⟩ (by have := of_decide_eq_true hne; omega) ⟨by omega, by omega⟩
            refine ⟨(p, bk, r - 1, rs ++ [⟨i.1, j.1, g.1⟩], g.2), prP_add ha hlt (by omega) hr, by dsimp only; omega, ?_⟩
            repeat' ((conv => whnf); first | done | refine ev_step ?_ | refine ops_step ?_ | refine scan_step ?_ | refine draw_step ?_ | refine each_step ?_ | refine sl_step ?_ | refine hp_step ?_ | refine guard_no (by decide) ?_ | refine guard_go ?_ | refine guard_old ?_ | apply cut_auto | with_reducible exact CutS.mk (Or.inl ⟨rfl, rfl, rfl⟩) | refine CutS.mk (Or.inr (Or.inl (sub_auto ?_))) | exact trivial | refine And.intro ?_ ?_ | refine cond_split ?_ ?_ | apply guess | exact Or.inl rfl | exact Or.inr rfl | exact Side.mk trivial | exact Side.mk (fun h => h) | exact Side.mk (fun h => ⟨h, h⟩) | with_reducible exact Side.mk rfl | with_reducible exact Side.mk ⟨rfl, rfl⟩ | with_reducible exact Side.mk (by assumption) | with_reducible rfl | intro _)
            all_goals try (conv => whnf)
            all_goals first | rfl | omega | (dsimp only; omega) | trace_state
          · rename_i _ i hi j hj d hd _ o ho _ g hg hne
            refine ⟨(p, bk, r - 1, rs, g.2), prP_keep ha hlt (by omega), by dsimp only; omega, ?_⟩
            repeat' ((conv => whnf); first | done | refine ev_step ?_ | refine ops_step ?_ | refine scan_step ?_ | refine draw_step ?_ | refine each_step ?_ | refine sl_step ?_ | refine hp_step ?_ | refine guard_no (by decide) ?_ | refine guard_go ?_ | refine guard_old ?_ | apply cut_auto | with_reducible exact CutS.mk (Or.inl ⟨rfl, rfl, rfl⟩) | refine CutS.mk (Or.inr (Or.inl (sub_auto ?_))) | exact trivial | refine And.intro ?_ ?_ | refine cond_split ?_ ?_ | apply guess | exact Or.inl rfl | exact Or.inr rfl | exact Side.mk trivial | exact Side.mk (fun h => h) | exact Side.mk (fun h => ⟨h, h⟩) | with_reducible exact Side.mk rfl | with_reducible exact Side.mk ⟨rfl, rfl⟩ | with_reducible exact Side.mk (by assumption) | with_reducible rfl | intro _)
            all_goals try (conv => whnf)
            all_goals first | rfl | omega | (dsimp only; omega) | trace_state
          · rename_i _ i hi j hj d hd _ o ho _ hne
            have hr : okRule p ⟨i.1, j.1, d.1⟩ = true := okRule_mk ⟨by omega, by omega⟩ ⟨by omega, by omega⟩ (by have := of_decide_eq_true hne; omega) ⟨by omega, by omega⟩
            refine ⟨(p, bk, r - 1, rs ++ [⟨i.1, j.1, d.1⟩], o.2), prP_add ha hlt (by omega) hr, by dsimp only; omega, ?_⟩
            repeat' ((conv => whnf); first | done | refine ev_step ?_ | refine ops_step ?_ | refine scan_step ?_ | refine draw_step ?_ | refine each_step ?_ | refine sl_step ?_ | refine hp_step ?_ | refine guard_no (by decide) ?_ | refine guard_go ?_ | refine guard_old ?_ | apply cut_auto | with_reducible exact CutS.mk (Or.inl ⟨rfl, rfl, rfl⟩) | refine CutS.mk (Or.inr (Or.inl (sub_auto ?_))) | exact trivial | refine And.intro ?_ ?_ | refine cond_split ?_ ?_ | apply guess | exact Or.inl rfl | exact Or.inr rfl | exact Side.mk trivial | exact Side.mk (fun h => h) | exact Side.mk (fun h => ⟨h, h⟩) | with_reducible exact Side.mk rfl | with_reducible exact Side.mk ⟨rfl, rfl⟩ | with_reducible exact Side.mk (by assumption) | with_reducible rfl | intro _)
            all_goals try (conv => whnf)
            all_goals first | rfl | omega | (dsimp only; omega) | trace_state
          · rename_i _ i hi j hj d hd _ o ho _ hne
            refine ⟨(p, bk, r - 1, rs, o.2), prP_keep ha hlt (by omega), by dsimp only; omega, ?_⟩
            repeat' ((conv => whnf); first | done | refine ev_step ?_ | refine ops_step ?_ | refine scan_step ?_ | refine draw_step ?_ | refine each_step ?_ | refine sl_step ?_ | refine hp_step ?_ | refine guard_no (by decide) ?_ | refine guard_go ?_ | refine guard_old ?_ | apply cut_auto | with_reducible exact CutS.mk (Or.inl ⟨rfl, rfl, rfl⟩) | refine CutS.mk (Or.inr (Or.inl (sub_auto ?_))) | exact trivial | refine And.intro ?_ ?_ | refine cond_split ?_ ?_ | apply guess | exact Or.inl rfl | exact Or.inr rfl | exact Side.mk trivial | exact Side.mk (fun h => h) | exact Side.mk (fun h => ⟨h, h⟩) | with_reducible exact Side.mk rfl | with_reducible exact Side.mk ⟨rfl, rfl⟩ | with_reducible exact Side.mk (by assumption) | with_reducible rfl | intro _)
            all_goals try (conv => whnf)
            all_goals first | rfl | omega | (dsimp only; omega) | trace_state
        · repeat' ((conv => whnf); first | done | refine ev_step ?_ | refine ops_step ?_ | refine scan_step ?_ | refine draw_step ?_ | refine each_step ?_ | refine sl_step ?_ | refine hp_step ?_ | refine guard_no (by decide) ?_ | refine guard_go ?_ | refine guard_old ?_ | apply cut_auto | with_reducible exact CutS.mk (Or.inl ⟨rfl, rfl, rfl⟩) | refine CutS.mk (Or.inr (Or.inl (sub_auto ?_))) | exact trivial | refine And.intro ?_ ?_ | (refine cond_split ?_ ?_ <;> intro _ <;> first | (exfalso; first | omega | (simp_all; done) | (simp_all; omega)) | skip) | apply guess | exact Or.inl rfl | exact Or.inr rfl | exact Side.mk trivial | exact Side.mk (fun h => h) | exact Side.mk (fun h => ⟨h, h⟩) | with_reducible exact Side.mk rfl | with_reducible exact Side.mk ⟨rfl, rfl⟩ | with_reducible exact Side.mk (by assumption) | with_reducible rfl | intro _)
          all_goals try (conv => whnf)
          all_goals try (refine Side.mk ?_; first | (intros; omega) | (intro h1_ h2_; rw [h1_, h2_]; rfl) | (show List.length (_ ++ _) ≤ _; simp only [List.length_append, List.length_cons, List.length_nil, List.length_replicate, List.length_take]; omega) | (simp_all; done) | (simp_all; omega))
          refine ⟨(p, rs, s), ⟨prP_fin ha (by omega), p6⟩, ?_⟩
          repeat' ((conv => whnf); first | done | refine ev_step ?_ | refine ops_step ?_ | refine scan_step ?_ | refine draw_step ?_ | refine each_step ?_ | refine sl_step ?_ | refine hp_step ?_ | refine guard_no (by decide) ?_ | refine guard_go ?_ | refine guard_old ?_ | apply cut_auto | with_reducible exact CutS.mk (Or.inl ⟨rfl, rfl, rfl⟩) | refine CutS.mk (Or.inr (Or.inl (sub_auto ?_))) | exact trivial | refine And.intro ?_ ?_ | refine cond_split ?_ ?_ | apply guess | exact Or.inl rfl | exact Or.inr rfl | exact Side.mk trivial | exact Side.mk (fun h => h) | exact Side.mk (fun h => ⟨h, h⟩) | with_reducible exact Side.mk rfl | with_reducible exact Side.mk ⟨rfl, rfl⟩ | with_reducible exact Side.mk (by assumption) | with_reducible rfl | intro _)
          all_goals try (conv => whnf)
          all_goals first | rfl | omega | trace_state
      · repeat' ((conv => whnf); first | done | refine ev_step ?_ | refine ops_step ?_ | refine scan_step ?_ | refine draw_step ?_ | refine each_step ?_ | refine sl_step ?_ | refine hp_step ?_ | refine guard_no (by decide) ?_ | refine guard_go ?_ | refine guard_old ?_ | apply cut_auto | with_reducible exact CutS.mk (Or.inl ⟨rfl, rfl, rfl⟩) | refine CutS.mk (Or.inr (Or.inl (sub_auto ?_))) | exact trivial | refine And.intro ?_ ?_ | (refine cond_split ?_ ?_ <;> intro _ <;> first | (exfalso; first | omega | (simp_all; done) | (simp_all; omega)) | skip) | apply guess | exact Or.inl rfl | exact Or.inr rfl | exact Side.mk trivial | exact Side.mk (fun h => h) | exact Side.mk (fun h => ⟨h, h⟩) | with_reducible exact Side.mk rfl | with_reducible exact Side.mk ⟨rfl, rfl⟩ | with_reducible exact Side.mk (by assumption) | with_reducible rfl | intro _)
        all_goals try (conv => whnf)
        all_goals try (refine Side.mk ?_; first | (intros; omega) | (intro h1_ h2_; rw [h1_, h2_]; rfl) | (show List.length (_ ++ _) ≤ _; simp only [List.length_append, List.length_cons, List.length_nil, List.length_replicate, List.length_take]; omega) | (simp_all; done) | (simp_all; omega))
        refine ⟨(p, rs, s), ⟨prP_fin ha (by omega), p6⟩, ?_⟩
        repeat' ((conv => whnf); first | done | refine ev_step ?_ | refine ops_step ?_ | refine scan_step ?_ | refine draw_step ?_ | refine each_step ?_ | refine sl_step ?_ | refine hp_step ?_ | refine guard_no (by decide) ?_ | refine guard_go ?_ | refine guard_old ?_ | apply cut_auto | with_reducible exact CutS.mk (Or.inl ⟨rfl, rfl, rfl⟩) | refine CutS.mk (Or.inr (Or.inl (sub_auto ?_))) | exact trivial | refine And.intro ?_ ?_ | refine cond_split ?_ ?_ | apply guess | exact Or.inl rfl | exact Or.inr rfl | exact Side.mk trivial | exact Side.mk (fun h => h) | exact Side.mk (fun h => ⟨h, h⟩) | with_reducible exact Side.mk rfl | with_reducible exact Side.mk ⟨rfl, rfl⟩ | with_reducible exact Side.mk (by assumption) | with_reducible rfl | intro _)
        all_goals try (conv => whnf)
        all_goals first | rfl | omega | trace_state
  · refine loop_at (fun a : PrS => prP m a) 5 (fun a => [(0, .ptr 0 [] 0 0), (2, .ptr 2 [] 0 0), (3, .ptr 3 [] 0 0), (4, .int .i64 a.2.1), (5, .int .i64 a.2.2.1)]) (fun a => [(0, srcO 1 a.2.2.2.2), (3, .flat true (.gen 2 [[.int .i64 a.1, .sl 4 []]])), (4, .flat true (.r3 a.2.2.2.1))]) (fun a => a.2.2.1) (16, 2, m, [], w.2) ⟨by omega, Nat.le_refl _, by simp, by simp, by simp only; omega, by simp only; omega⟩ ?_ (fun a ha => ?_)
    · repeat' ((conv => whnf); first | done | refine ev_step ?_ | refine ops_step ?_ | refine scan_step ?_ | refine draw_step ?_ | refine each_step ?_ | refine sl_step ?_ | refine hp_step ?_ | refine guard_no (by decide) ?_ | refine guard_go ?_ | refine guard_old ?_ | apply cut_auto | with_reducible exact CutS.mk (Or.inl ⟨rfl, rfl, rfl⟩) | refine CutS.mk (Or.inr (Or.inl (sub_auto ?_))) | exact trivial | refine And.intro ?_ ?_ | refine cond_split ?_ ?_ | apply guess | exact Or.inl rfl | exact Or.inr rfl | exact Side.mk trivial | exact Side.mk (fun h => h) | exact Side.mk (fun h => ⟨h, h⟩) | with_reducible exact Side.mk rfl | with_reducible exact Side.mk ⟨rfl, rfl⟩ | with_reducible exact Side.mk (by assumption) | with_reducible rfl | intro _)
      all_goals try (conv => whnf)
      all_goals first | rfl | exact hm.symm | trace_state
    · obtain ⟨p, bk, r, rs, s⟩ := a
      obtain ⟨p1, p2, p3, p4, p5, p6⟩ := id ha
      dsimp only at p1 p2 p3 p4 p5 p6 ⊢
      by_cases hlt : 0 < r
      · by_cases hp1 : 1 < p
        · repeat' ((conv => whnf); first | done | refine ev_step ?_ | refine ops_step ?_ | refine scan_step ?_ | refine draw_step ?_ | refine each_step ?_ | refine sl_step ?_ | refine hp_step ?_ | refine guard_no (by decide) ?_ | refine guard_go ?_ | refine guard_old ?_ | apply cut_auto | with_reducible exact CutS.mk (Or.inl ⟨rfl, rfl, rfl⟩) | refine CutS.mk (Or.inr (Or.inl (sub_auto ?_))) | exact trivial | refine And.intro ?_ ?_ | (refine cond_split ?_ ?_ <;> intro _ <;> first | (exfalso; first | omega | (simp_all; done) | (simp_all; omega)) | skip) | apply guess | apply FnEx.useF (k_pick bs _ _ _) | apply FnEx.useF (k_oneP bs _ _ _) | apply FnEx.useF (k_among bs _ _ _) | exact Or.inl rfl | exact Or.inr rfl | exact Side.mk trivial | exact Side.mk (fun h => h) | exact Side.mk (fun h => ⟨h, h⟩) | with_reducible exact Side.mk rfl | with_reducible exact Side.mk ⟨rfl, rfl⟩ | with_reducible exact Side.mk (by assumption) | with_reducible rfl | intro _)
          all_goals try (conv => whnf)
          all_goals try exact Side.mk ⟨h1, by omega, by omega, by omega, by omega⟩
          all_goals try exact Side.mk ⟨h1, by omega, by omega, by decide, by decide⟩
          all_goals try (refine Side.mk ?_; unfold inI64; omega)
          all_goals try (refine Side.mk ?_; show (_ ++ _).length ≤ _; simp only [List.length_append, List.length_singleton]; omega)
          all_goals try (refine Side.mk ?_; first | (intros; omega) | (intro h1_ h2_; rw [h1_, h2_]; rfl) | (show List.length (_ ++ _) ≤ _; simp only [List.length_append, List.length_cons, List.length_nil, List.length_replicate, List.length_take]; omega) | (simp_all; done) | (simp_all; omega))
          · rename_i _ i hi j hj d hd _ e he o ho _ g hg hne
            have hm4 := mem4 hg.1
            have hr : okRule p ⟨i.1, j.1, g.1⟩ = true := okRule_mk ⟨by omega, by omega⟩ ⟨by omega, by omega⟩ (by have := of_decide_eq_true hne; omega) ⟨by omega, by omega⟩
            refine ⟨(p, bk, r - 1, rs ++ [⟨i.1, j.1, g.1⟩], g.2), prP_add ha hlt (by omega) hr, by dsimp only; omega, ?_⟩
            repeat' ((conv => whnf); first | done | refine ev_step ?_ | refine ops_step ?_ | refine scan_step ?_ | refine draw_step ?_ | refine each_step ?_ | refine sl_step ?_ | refine hp_step ?_ | refine guard_no (by decide) ?_ | refine guard_go ?_ | refine guard_old ?_ | apply cut_auto | with_reducible exact CutS.mk (Or.inl ⟨rfl, rfl, rfl⟩) | refine CutS.mk (Or.inr (Or.inl (sub_auto ?_))) | exact trivial | refine And.intro ?_ ?_ | refine cond_split ?_ ?_ | apply guess | exact Or.inl rfl | exact Or.inr rfl | exact Side.mk trivial | exact Side.mk (fun h => h) | exact Side.mk (fun h => ⟨h, h⟩) | with_reducible exact Side.mk rfl | with_reducible exact Side.mk ⟨rfl, rfl⟩ | with_reducible exact Side.mk (by assumption) | with_reducible rfl | intro _)
            all_goals try (conv => whnf)
            all_goals first | rfl | omega | (dsimp only; omega) | trace_state
          · rename_i _ i hi j hj d hd _ e he o ho _ hne
            have hr : okRule p ⟨i.1, j.1, 0 - e.1 - 4⟩ = true := okRule_mk ⟨by omega, by omega⟩ ⟨by omega, by omega⟩ (by have := of_decide_eq_true hne; omega) ⟨by omega, by omega⟩
            refine ⟨(p, bk, r - 1, rs ++ [⟨i.1, j.1, 0 - e.1 - 4⟩], o.2), prP_add ha hlt (by omega) hr, by dsimp only; omega, ?_⟩
            repeat' ((conv => whnf); first | done | refine ev_step ?_ | refine ops_step ?_ | refine scan_step ?_ | refine draw_step ?_ | refine each_step ?_ | refine sl_step ?_ | refine hp_step ?_ | refine guard_no (by decide) ?_ | refine guard_go ?_ | refine guard_old ?_ | apply cut_auto | with_reducible exact CutS.mk (Or.inl ⟨rfl, rfl, rfl⟩) | refine CutS.mk (Or.inr (Or.inl (sub_auto ?_))) | exact trivial | refine And.intro ?_ ?_ | refine cond_split ?_ ?_ | apply guess | exact Or.inl rfl | exact Or.inr rfl | exact Side.mk trivial | exact Side.mk (fun h => h) | exact Side.mk (fun h => ⟨h, h⟩) | with_reducible exact Side.mk rfl | with_reducible exact Side.mk ⟨rfl, rfl⟩ | with_reducible exact Side.mk (by assumption) | with_reducible rfl | intro _)
            all_goals try (conv => whnf)
            all_goals first | rfl | omega | (dsimp only; omega) | trace_state
          · rename_i _ i hi j hj d hd _ o ho _ g hg hne
            have hm4 := mem4 hg.1
            have hr : okRule p ⟨i.1, j.1, g.1⟩ = true := okRule_mk ⟨by omega, by omega⟩ ⟨by omega, by omega⟩ (by have := of_decide_eq_true hne; omega) ⟨by omega, by omega⟩
            refine ⟨(p, bk, r - 1, rs ++ [⟨i.1, j.1, g.1⟩], g.2), prP_add ha hlt (by omega) hr, by dsimp only; omega, ?_⟩
            repeat' ((conv => whnf); first | done | refine ev_step ?_ | refine ops_step ?_ | refine scan_step ?_ | refine draw_step ?_ | refine each_step ?_ | refine sl_step ?_ | refine hp_step ?_ | refine guard_no (by decide) ?_ | refine guard_go ?_ | refine guard_old ?_ | apply cut_auto | with_reducible exact CutS.mk (Or.inl ⟨rfl, rfl, rfl⟩) | refine CutS.mk (Or.inr (Or.inl (sub_auto ?_))) | exact trivial | refine And.intro ?_ ?_ | refine cond_split ?_ ?_ | apply guess | exact Or.inl rfl | exact Or.inr rfl | exact Side.mk trivial | exact Side.mk (fun h => h) | exact Side.mk (fun h => ⟨h, h⟩) | with_reducible exact Side.mk rfl | with_reducible exact Side.mk ⟨rfl, rfl⟩ | with_reducible exact Side.mk (by assumption) | with_reducible rfl | intro _)
            all_goals try (conv => whnf)
            all_goals first | rfl | omega | (dsimp only; omega) | trace_state
          · rename_i _ i hi j hj d hd _ o ho _ g hg hne
            refine ⟨(p, bk, r - 1, rs, g.2), prP_keep ha hlt (by omega), by dsimp only; omega, ?_⟩
            repeat' ((conv => whnf); first | done | refine ev_step ?_ | refine ops_step ?_ | refine scan_step ?_ | refine draw_step ?_ | refine each_step ?_ | refine sl_step ?_ | refine hp_step ?_ | refine guard_no (by decide) ?_ | refine guard_go ?_ | refine guard_old ?_ | apply cut_auto | with_reducible exact CutS.mk (Or.inl ⟨rfl, rfl, rfl⟩) | refine CutS.mk (Or.inr (Or.inl (sub_auto ?_))) | exact trivial | refine And.intro ?_ ?_ | refine cond_split ?_ ?_ | apply guess | exact Or.inl rfl | exact Or.inr rfl | exact Side.mk trivial | exact Side.mk (fun h => h) | exact Side.mk (fun h => ⟨h, h⟩) | with_reducible exact Side.mk rfl | with_reducible exact Side.mk ⟨rfl, rfl⟩ | with_reducible exact Side.mk (by assumption) | with_reducible rfl | intro _)
            all_goals try (conv => whnf)
            all_goals first | rfl | omega | (dsimp only; omega) | trace_state
          · rename_i _ i hi j hj d hd _ o ho _ hne
            have hr : okRule p ⟨i.1, j.1, d.1⟩ = true := okRule_mk ⟨by omega, by omega⟩ ⟨by omega, by omega⟩ (by have := of_decide_eq_true hne; omega) ⟨by omega, by omega⟩
            refine ⟨(p, bk, r - 1, rs ++ [⟨i.1, j.1, d.1⟩], o.2), prP_add ha hlt (by omega) hr, by dsimp only; omega, ?_⟩
            repeat' ((conv => whnf); first | done | refine ev_step ?_ | refine ops_step ?_ | refine scan_step ?_ | refine draw_step ?_ | refine each_step ?_ | refine sl_step ?_ | refine hp_step ?_ | refine guard_no (by decide) ?_ | refine guard_go ?_ | refine guard_old ?_ | apply cut_auto | with_reducible exact CutS.mk (Or.inl ⟨rfl, rfl, rfl⟩) | refine CutS.mk (Or.inr (Or.inl (sub_auto ?_))) | exact trivial | refine And.intro ?_ ?_ | refine cond_split ?_ ?_ | apply guess | exact Or.inl rfl | exact Or.inr rfl | exact Side.mk trivial | exact Side.mk (fun h => h) | exact Side.mk (fun h => ⟨h, h⟩) | with_reducible exact Side.mk rfl | with_reducible exact Side.mk ⟨rfl, rfl⟩ | with_reducible exact Side.mk (by assumption) | with_reducible rfl | intro _)
            all_goals try (conv => whnf)
            all_goals first | rfl | omega | (dsimp only; omega) | trace_state
          · rename_i _ i hi j hj d hd _ o ho _ hne
            refine ⟨(p, bk, r - 1, rs, o.2), prP_keep ha hlt (by omega), by dsimp only; omega, ?_⟩
            repeat' ((conv => whnf); first | done | refine ev_step ?_ | refine ops_step ?_ | refine scan_step ?_ | refine draw_step ?_ | refine each_step ?_ | refine sl_step ?_ | refine hp_step ?_ | refine guard_no (by decide) ?_ | refine guard_go ?_ | refine guard_old ?_ | apply cut_auto | with_reducible exact CutS.mk (Or.inl ⟨rfl, rfl, rfl⟩) | refine CutS.mk (Or.inr (Or.inl (sub_auto ?_))) | exact trivial | refine And.intro ?_ ?_ | refine cond_split ?_ ?_ | apply guess | exact Or.inl rfl | exact Or.inr rfl | exact Side.mk trivial | exact Side.mk (fun h => h) | exact Side.mk (fun h => ⟨h, h⟩) | with_reducible exact Side.mk rfl | with_reducible exact Side.mk ⟨rfl, rfl⟩ | with_reducible exact Side.mk (by assumption) | with_reducible rfl | intro _)
            all_goals try (conv => whnf)
            all_goals first | rfl | omega | (dsimp only; omega) | trace_state
        · repeat' ((conv => whnf); first | done | refine ev_step ?_ | refine ops_step ?_ | refine scan_step ?_ | refine draw_step ?_ | refine each_step ?_ | refine sl_step ?_ | refine hp_step ?_ | refine guard_no (by decide) ?_ | refine guard_go ?_ | refine guard_old ?_ | apply cut_auto | with_reducible exact CutS.mk (Or.inl ⟨rfl, rfl, rfl⟩) | refine CutS.mk (Or.inr (Or.inl (sub_auto ?_))) | exact trivial | refine And.intro ?_ ?_ | (refine cond_split ?_ ?_ <;> intro _ <;> first | (exfalso; first | omega | (simp_all; done) | (simp_all; omega)) | skip) | apply guess | exact Or.inl rfl | exact Or.inr rfl | exact Side.mk trivial | exact Side.mk (fun h => h) | exact Side.mk (fun h => ⟨h, h⟩) | with_reducible exact Side.mk rfl | with_reducible exact Side.mk ⟨rfl, rfl⟩ | with_reducible exact Side.mk (by assumption) | with_reducible rfl | intro _)
          all_goals try (conv => whnf)
          all_goals try (refine Side.mk ?_; first | (intros; omega) | (intro h1_ h2_; rw [h1_, h2_]; rfl) | (show List.length (_ ++ _) ≤ _; simp only [List.length_append, List.length_cons, List.length_nil, List.length_replicate, List.length_take]; omega) | (simp_all; done) | (simp_all; omega))
          refine ⟨(p, rs, s), ⟨prP_fin ha (by omega), p6⟩, ?_⟩
          repeat' ((conv => whnf); first | done | refine ev_step ?_ | refine ops_step ?_ | refine scan_step ?_ | refine draw_step ?_ | refine each_step ?_ | refine sl_step ?_ | refine hp_step ?_ | refine guard_no (by decide) ?_ | refine guard_go ?_ | refine guard_old ?_ | apply cut_auto | with_reducible exact CutS.mk (Or.inl ⟨rfl, rfl, rfl⟩) | refine CutS.mk (Or.inr (Or.inl (sub_auto ?_))) | exact trivial | refine And.intro ?_ ?_ | refine cond_split ?_ ?_ | apply guess | exact Or.inl rfl | exact Or.inr rfl | exact Side.mk trivial | exact Side.mk (fun h => h) | exact Side.mk (fun h => ⟨h, h⟩) | with_reducible exact Side.mk rfl | with_reducible exact Side.mk ⟨rfl, rfl⟩ | with_reducible exact Side.mk (by assumption) | with_reducible rfl | intro _)
          all_goals try (conv => whnf)
          all_goals first | rfl | omega | trace_state
      · repeat' ((conv => whnf); first | done | refine ev_step ?_ | refine ops_step ?_ | refine scan_step ?_ | refine draw_step ?_ | refine each_step ?_ | refine sl_step ?_ | refine hp_step ?_ | refine guard_no (by decide) ?_ | refine guard_go ?_ | refine guard_old ?_ | apply cut_auto | with_reducible exact CutS.mk (Or.inl ⟨rfl, rfl, rfl⟩) | refine CutS.mk (Or.inr (Or.inl (sub_auto ?_))) | exact trivial | refine And.intro ?_ ?_ | (refine cond_split ?_ ?_ <;> intro _ <;> first | (exfalso; first | omega | (simp_all; done) | (simp_all; omega)) | skip) | apply guess | exact Or.inl rfl | exact Or.inr rfl | exact Side.mk trivial | exact Side.mk (fun h => h) | exact Side.mk (fun h => ⟨h, h⟩) | with_reducible exact Side.mk rfl | with_reducible exact Side.mk ⟨rfl, rfl⟩ | with_reducible exact Side.mk (by assumption) | with_reducible rfl | intro _)
        all_goals try (conv => whnf)
        all_goals try (refine Side.mk ?_; first | (intros; omega) | (intro h1_ h2_; rw [h1_, h2_]; rfl) | (show List.length (_ ++ _) ≤ _; simp only [List.length_append, List.length_cons, List.length_nil, List.length_replicate, List.length_take]; omega) | (simp_all; done) | (simp_all; omega))
        refine ⟨(p, rs, s), ⟨prP_fin ha (by omega), p6⟩, ?_⟩
        repeat' ((conv => whnf); first | done | refine ev_step ?_ | refine ops_step ?_ | refine scan_step ?_ | refine draw_step ?_ | refine each_step ?_ | refine sl_step ?_ | refine hp_step ?_ | refine guard_no (by decide) ?_ | refine guard_go ?_ | refine guard_old ?_ | apply cut_auto | with_reducible exact CutS.mk (Or.inl ⟨rfl, rfl, rfl⟩) | refine CutS.mk (Or.inr (Or.inl (sub_auto ?_))) | exact trivial | refine And.intro ?_ ?_ | refine cond_split ?_ ?_ | apply guess | exact Or.inl rfl | exact Or.inr rfl | exact Side.mk trivial | exact Side.mk (fun h => h) | exact Side.mk (fun h => ⟨h, h⟩) | with_reducible exact Side.mk rfl | with_reducible exact Side.mk ⟨rfl, rfl⟩ | with_reducible exact Side.mk (by assumption) | with_reducible rfl | intro _)
        all_goals try (conv => whnf)
        all_goals first | rfl | omega | trace_state
  · refine loop_at (fun a : PrS => prP m a) 5 (fun a => [(0, .ptr 0 [] 0 0), (2, .ptr 2 [] 0 0), (3, .ptr 3 [] 0 0), (4, .int .i64 a.2.1), (5, .int .i64 a.2.2.1)]) (fun a => [(0, srcO 1 a.2.2.2.2), (3, .flat true (.gen 2 [[.int .i64 a.1, .sl 4 []]])), (4, .flat true (.r3 a.2.2.2.1))]) (fun a => a.2.2.1) (1 + x.1, 1, m, [], w.2) ⟨by omega, Nat.le_refl _, by simp, by simp, by simp only; omega, by simp only; omega⟩ ?_ (fun a ha => ?_)
    · repeat' ((conv => whnf); first | done | refine ev_step ?_ | refine ops_step ?_ | refine scan_step ?_ | refine draw_step ?_ | refine each_step ?_ | refine sl_step ?_ | refine hp_step ?_ | refine guard_no (by decide) ?_ | refine guard_go ?_ | refine guard_old ?_ | apply cut_auto | with_reducible exact CutS.mk (Or.inl ⟨rfl, rfl, rfl⟩) | refine CutS.mk (Or.inr (Or.inl (sub_auto ?_))) | exact trivial | refine And.intro ?_ ?_ | refine cond_split ?_ ?_ | apply guess | exact Or.inl rfl | exact Or.inr rfl | exact Side.mk trivial | exact Side.mk (fun h => h) | exact Side.mk (fun h => ⟨h, h⟩) | with_reducible exact Side.mk rfl | with_reducible exact Side.mk ⟨rfl, rfl⟩ | with_reducible exact Side.mk (by assumption) | with_reducible rfl | intro _)
      all_goals try (conv => whnf)
      all_goals first | rfl | exact hm.symm | trace_state
    · obtain ⟨p, bk, r, rs, s⟩ := a
      obtain ⟨p1, p2, p3, p4, p5, p6⟩ := id ha
      dsimp only at p1 p2 p3 p4 p5 p6 ⊢
      by_cases hlt : 0 < r
      · by_cases hp1 : 1 < p
        · repeat' ((conv => whnf); first | done | refine ev_step ?_ | refine ops_step ?_ | refine scan_step ?_ | refine draw_step ?_ | refine each_step ?_ | refine sl_step ?_ | refine hp_step ?_ | refine guard_no (by decide) ?_ | refine guard_go ?_ | refine guard_old ?_ | apply cut_auto | with_reducible exact CutS.mk (Or.inl ⟨rfl, rfl, rfl⟩) | refine CutS.mk (Or.inr (Or.inl (sub_auto ?_))) | exact trivial | refine And.intro ?_ ?_ | (refine cond_split ?_ ?_ <;> intro _ <;> first | (exfalso; first | omega | (simp_all; done) | (simp_all; omega)) | skip) | apply guess | apply FnEx.useF (k_pick bs _ _ _) | apply FnEx.useF (k_oneP bs _ _ _) | apply FnEx.useF (k_among bs _ _ _) | exact Or.inl rfl | exact Or.inr rfl | exact Side.mk trivial | exact Side.mk (fun h => h) | exact Side.mk (fun h => ⟨h, h⟩) | with_reducible exact Side.mk rfl | with_reducible exact Side.mk ⟨rfl, rfl⟩ | with_reducible exact Side.mk (by assumption) | with_reducible rfl | intro _)
          all_goals try (conv => whnf)
          all_goals try exact Side.mk ⟨h1, by omega, by omega, by omega, by omega⟩
          all_goals try exact Side.mk ⟨h1, by omega, by omega, by decide, by decide⟩
          all_goals try (refine Side.mk ?_; unfold inI64; omega)
          all_goals try (refine Side.mk ?_; show (_ ++ _).length ≤ _; simp only [List.length_append, List.length_singleton]; omega)
          all_goals try (refine Side.mk ?_; first | (intros; omega) | (intro h1_ h2_; rw [h1_, h2_]; rfl) | (show List.length (_ ++ _) ≤ _; simp only [List.length_append, List.length_cons, List.length_nil, List.length_replicate, List.length_take]; omega) | (simp_all; done) | (simp_all; omega))
          · rename_i _ i hi j hj d hd _ e he o ho _ g hg hne
            have hm4 := mem4 hg.1
            have hr : okRule p ⟨i.1, j.1, g.1⟩ = true := okRule_mk ⟨by omega, by omega⟩ ⟨by omega, by omega⟩ (by have := of_decide_eq_true hne; omega) ⟨by omega, by omega⟩
            refine ⟨(p, bk, r - 1, rs ++ [⟨i.1, j.1, g.1⟩], g.2), prP_add ha hlt (by omega) hr, by dsimp only; omega, ?_⟩
            repeat' ((conv => whnf); first | done | refine ev_step ?_ | refine ops_step ?_ | refine scan_step ?_ | refine draw_step ?_ | refine each_step ?_ | refine sl_step ?_ | refine hp_step ?_ | refine guard_no (by decide) ?_ | refine guard_go ?_ | refine guard_old ?_ | apply cut_auto | with_reducible exact CutS.mk (Or.inl ⟨rfl, rfl, rfl⟩) | refine CutS.mk (Or.inr (Or.inl (sub_auto ?_))) | exact trivial | refine And.intro ?_ ?_ | refine cond_split ?_ ?_ | apply guess | exact Or.inl rfl | exact Or.inr rfl | exact Side.mk trivial | exact Side.mk (fun h => h) | exact Side.mk (fun h => ⟨h, h⟩) | with_reducible exact Side.mk rfl | with_reducible exact Side.mk ⟨rfl, rfl⟩ | with_reducible exact Side.mk (by assumption) | with_reducible rfl | intro _)
            all_goals try (conv => whnf)
            all_goals first | rfl | omega | (dsimp only; omega) | trace_state
          · rename_i _ i hi j hj d hd _ e he o ho _ hne
            have hr : okRule p ⟨i.1, j.1, 0 - e.1 - 4⟩ = true := okRule_mk ⟨by omega, by omega⟩ ⟨by omega, by omega⟩ (by have := of_decide_eq_true hne; omega) ⟨by omega, by omega⟩
            refine ⟨(p, bk, r - 1, rs ++ [⟨i.1, j.1, 0 - e.1 - 4⟩], o.2), prP_add ha hlt (by omega) hr, by dsimp only; omega, ?_⟩
            repeat' ((conv => whnf); first | done | refine ev_step ?_ | refine ops_step ?_ | refine scan_step ?_ | refine draw_step ?_ | refine each_step ?_ | refine sl_step ?_ | refine hp_step ?_ | refine guard_no (by decide) ?_ | refine guard_go ?_ | refine guard_old ?_ | apply cut_auto | with_reducible exact CutS.mk (Or.inl ⟨rfl, rfl, rfl⟩) | refine CutS.mk (Or.inr (Or.inl (sub_auto ?_))) | exact trivial | refine And.intro ?_ ?_ | refine cond_split ?_ ?_ | apply guess | exact Or.inl rfl | exact Or.inr rfl | exact Side.mk trivial | exact Side.mk (fun h => h) | exact Side.mk (fun h => ⟨h, h⟩) | with_reducible exact Side.mk rfl | with_reducible exact Side.mk ⟨rfl, rfl⟩ | with_reducible exact Side.mk (by assumption) | with_reducible rfl | intro _)
            all_goals try (conv => whnf)
            all_goals first | rfl | omega | (dsimp only; omega) | trace_state
          · rename_i _ i hi j hj d hd _ o ho _ g hg hne
            have hm4 := mem4 hg.1
            have hr : okRule p ⟨i.1, j.1, g.1⟩ = true := okRule_mk ⟨by omega, by omega⟩ ⟨by omega, by omega⟩ (by have := of_decide_eq_true hne; omega) ⟨by omega, by omega⟩
            refine ⟨(p, bk, r - 1, rs ++ [⟨i.1, j.1, g.1⟩], g.2), prP_add ha hlt (by omega) hr, by dsimp only; omega, ?_⟩
            repeat' ((conv => whnf); first | done | refine ev_step ?_ | refine ops_step ?_ | refine scan_step ?_ | refine draw_step ?_ | refine each_step ?_ | refine sl_step ?_ | refine hp_step ?_ | refine guard_no (by decide) ?_ | refine guard_go ?_ | refine guard_old ?_ | apply cut_auto | with_reducible exact CutS.mk (Or.inl ⟨rfl, rfl, rfl⟩) | refine CutS.mk (Or.inr (Or.inl (sub_auto ?_))) | exact trivial | refine And.intro ?_ ?_ | refine cond_split ?_ ?_ | apply guess | exact Or.inl rfl | exact Or.inr rfl | exact Side.mk trivial | exact Side.mk (fun h => h) | exact Side.mk (fun h => ⟨h, h⟩) | with_reducible exact Side.mk rfl | with_reducible exact Side.mk ⟨rfl, rfl⟩ | with_reducible exact Side.mk (by assumption) | with_reducible rfl | intro _)
            all_goals try (conv => whnf)
            all_goals first | rfl | omega | (dsimp only; omega) | trace_state
          · rename_i _ i hi j hj d hd _ o ho _ g hg hne
            refine ⟨(p, bk, r - 1, rs, g.2), prP_keep ha hlt (by omega), by dsimp only; omega, ?_⟩
            repeat' ((conv => whnf); first | done | refine ev_step ?_ | refine ops_step ?_ | refine scan_step ?_ | refine draw_step ?_ | refine each_step ?_ | refine sl_step ?_ | refine hp_step ?_ | refine guard_no (by decide) ?_ | refine guard_go ?_ | refine guard_old ?_ | apply cut_auto | with_reducible exact CutS.mk (Or.inl ⟨rfl, rfl, rfl⟩) | refine CutS.mk (Or.inr (Or.inl (sub_auto ?_))) | exact trivial | refine And.intro ?_ ?_ | refine cond_split ?_ ?_ | apply guess | exact Or.inl rfl | exact Or.inr rfl | exact Side.mk trivial | exact Side.mk (fun h => h) | exact Side.mk (fun h => ⟨h, h⟩) | with_reducible exact Side.mk rfl | with_reducible exact Side.mk ⟨rfl, rfl⟩ | with_reducible exact Side.mk (by assumption) | with_reducible rfl | intro _)
            all_goals try (conv => whnf)
            all_goals first | rfl | omega | (dsimp only; omega) | trace_state
          · rename_i _ i hi j hj d hd _ o ho _ hne
            have hr : okRule p ⟨i.1, j.1, d.1⟩ = true := okRule_mk ⟨by omega, by omega⟩ ⟨by omega, by omega⟩ (by have := of_decide_eq_true hne; omega) ⟨by omega, by omega⟩
            refine ⟨(p, bk, r - 1, rs ++ [⟨i.1, j.1, d.1⟩], o.2), prP_add ha hlt (by omega) hr, by dsimp only; omega, ?_⟩
            repeat' ((conv => whnf); first | done | refine ev_step ?_ | refine ops_step ?_ | refine scan_step ?_ | refine draw_step ?_ | refine each_step ?_ | refine sl_step ?_ | refine hp_step ?_ | refine guard_no (by decide) ?_ | refine guard_go ?_ | refine guard_old ?_ | apply cut_auto | with_reducible exact CutS.mk (Or.inl ⟨rfl, rfl, rfl⟩) | refine CutS.mk (Or.inr (Or.inl (sub_auto ?_))) | exact trivial | refine And.intro ?_ ?_ | refine cond_split ?_ ?_ | apply guess | exact Or.inl rfl | exact Or.inr rfl | exact Side.mk trivial | exact Side.mk (fun h => h) | exact Side.mk (fun h => ⟨h, h⟩) | with_reducible exact Side.mk rfl | with_reducible exact Side.mk ⟨rfl, rfl⟩ | with_reducible exact Side.mk (by assumption) | with_reducible rfl | intro _)
            all_goals try (conv => whnf)
            all_goals first | rfl | omega | (dsimp only; omega) | trace_state
          · rename_i _ i hi j hj d hd _ o ho _ hne
            refine ⟨(p, bk, r - 1, rs, o.2), prP_keep ha hlt (by omega), by dsimp only; omega, ?_⟩
            repeat' ((conv => whnf); first | done | refine ev_step ?_ | refine ops_step ?_ | refine scan_step ?_ | refine draw_step ?_ | refine each_step ?_ | refine sl_step ?_ | refine hp_step ?_ | refine guard_no (by decide) ?_ | refine guard_go ?_ | refine guard_old ?_ | apply cut_auto | with_reducible exact CutS.mk (Or.inl ⟨rfl, rfl, rfl⟩) | refine CutS.mk (Or.inr (Or.inl (sub_auto ?_))) | exact trivial | refine And.intro ?_ ?_ | refine cond_split ?_ ?_ | apply guess | exact Or.inl rfl | exact Or.inr rfl | exact Side.mk trivial | exact Side.mk (fun h => h) | exact Side.mk (fun h => ⟨h, h⟩) | with_reducible exact Side.mk rfl | with_reducible exact Side.mk ⟨rfl, rfl⟩ | with_reducible exact Side.mk (by assumption) | with_reducible rfl | intro _)
            all_goals try (conv => whnf)
            all_goals first | rfl | omega | (dsimp only; omega) | trace_state
        · repeat' ((conv => whnf); first | done | refine ev_step ?_ | refine ops_step ?_ | refine scan_step ?_ | refine draw_step ?_ | refine each_step ?_ | refine sl_step ?_ | refine hp_step ?_ | refine guard_no (by decide) ?_ | refine guard_go ?_ | refine guard_old ?_ | apply cut_auto | with_reducible exact CutS.mk (Or.inl ⟨rfl, rfl, rfl⟩) | refine CutS.mk (Or.inr (Or.inl (sub_auto ?_))) | exact trivial | refine And.intro ?_ ?_ | (refine cond_split ?_ ?_ <;> intro _ <;> first | (exfalso; first | omega | (simp_all; done) | (simp_all; omega)) | skip) | apply guess | exact Or.inl rfl | exact Or.inr rfl | exact Side.mk trivial | exact Side.mk (fun h => h) | exact Side.mk (fun h => ⟨h, h⟩) | with_reducible exact Side.mk rfl | with_reducible exact Side.mk ⟨rfl, rfl⟩ | with_reducible exact Side.mk (by assumption) | with_reducible rfl | intro _)
          all_goals try (conv => whnf)
          all_goals try (refine Side.mk ?_; first | (intros; omega) | (intro h1_ h2_; rw [h1_, h2_]; rfl) | (show List.length (_ ++ _) ≤ _; simp only [List.length_append, List.length_cons, List.length_nil, List.length_replicate, List.length_take]; omega) | (simp_all; done) | (simp_all; omega))
          refine ⟨(p, rs, s), ⟨prP_fin ha (by omega), p6⟩, ?_⟩
          repeat' ((conv => whnf); first | done | refine ev_step ?_ | refine ops_step ?_ | refine scan_step ?_ | refine draw_step ?_ | refine each_step ?_ | refine sl_step ?_ | refine hp_step ?_ | refine guard_no (by decide) ?_ | refine guard_go ?_ | refine guard_old ?_ | apply cut_auto | with_reducible exact CutS.mk (Or.inl ⟨rfl, rfl, rfl⟩) | refine CutS.mk (Or.inr (Or.inl (sub_auto ?_))) | exact trivial | refine And.intro ?_ ?_ | refine cond_split ?_ ?_ | apply guess | exact Or.inl rfl | exact Or.inr rfl | exact Side.mk trivial | exact Side.mk (fun h => h) | exact Side.mk (fun h => ⟨h, h⟩) | with_reducible exact Side.mk rfl | with_reducible exact Side.mk ⟨rfl, rfl⟩ | with_reducible exact Side.mk (by assumption) | with_reducible rfl | intro _)
          all_goals try (conv => whnf)
          all_goals first | rfl | omega | trace_state
      · repeat' ((conv => whnf); first | done | refine ev_step ?_ | refine ops_step ?_ | refine scan_step ?_ | refine draw_step ?_ | refine each_step ?_ | refine sl_step ?_ | refine hp_step ?_ | refine guard_no (by decide) ?_ | refine guard_go ?_ | refine guard_old ?_ | apply cut_auto | with_reducible exact CutS.mk (Or.inl ⟨rfl, rfl, rfl⟩) | refine CutS.mk (Or.inr (Or.inl (sub_auto ?_))) | exact trivial | refine And.intro ?_ ?_ | (refine cond_split ?_ ?_ <;> intro _ <;> first | (exfalso; first | omega | (simp_all; done) | (simp_all; omega)) | skip) | apply guess | exact Or.inl rfl | exact Or.inr rfl | exact Side.mk trivial | exact Side.mk (fun h => h) | exact Side.mk (fun h => ⟨h, h⟩) | with_reducible exact Side.mk rfl | with_reducible exact Side.mk ⟨rfl, rfl⟩ | with_reducible exact Side.mk (by assumption) | with_reducible rfl | intro _)
        all_goals try (conv => whnf)
        all_goals try (refine Side.mk ?_; first | (intros; omega) | (intro h1_ h2_; rw [h1_, h2_]; rfl) | (show List.length (_ ++ _) ≤ _; simp only [List.length_append, List.length_cons, List.length_nil, List.length_replicate, List.length_take]; omega) | (simp_all; done) | (simp_all; omega))
        refine ⟨(p, rs, s), ⟨prP_fin ha (by omega), p6⟩, ?_⟩
        repeat' ((conv => whnf); first | done | refine ev_step ?_ | refine ops_step ?_ | refine scan_step ?_ | refine draw_step ?_ | refine each_step ?_ | refine sl_step ?_ | refine hp_step ?_ | refine guard_no (by decide) ?_ | refine guard_go ?_ | refine guard_old ?_ | apply cut_auto | with_reducible exact CutS.mk (Or.inl ⟨rfl, rfl, rfl⟩) | refine CutS.mk (Or.inr (Or.inl (sub_auto ?_))) | exact trivial | refine And.intro ?_ ?_ | refine cond_split ?_ ?_ | apply guess | exact Or.inl rfl | exact Or.inr rfl | exact Side.mk trivial | exact Side.mk (fun h => h) | exact Side.mk (fun h => ⟨h, h⟩) | with_reducible exact Side.mk rfl | with_reducible exact Side.mk ⟨rfl, rfl⟩ | with_reducible exact Side.mk (by assumption) | with_reducible rfl | intro _)
        all_goals try (conv => whnf)
        all_goals first | rfl | omega | trace_state
  · refine loop_at (fun a : PrS => prP m a) 5 (fun a => [(0, .ptr 0 [] 0 0), (2, .ptr 2 [] 0 0), (3, .ptr 3 [] 0 0), (4, .int .i64 a.2.1), (5, .int .i64 a.2.2.1)]) (fun a => [(0, srcO 1 a.2.2.2.2), (3, .flat true (.gen 2 [[.int .i64 a.1, .sl 4 []]])), (4, .flat true (.r3 a.2.2.2.1))]) (fun a => a.2.2.1) (1 + x.1, 2, m, [], w.2) ⟨by omega, Nat.le_refl _, by simp, by simp, by simp only; omega, by simp only; omega⟩ ?_ (fun a ha => ?_)
    · repeat' ((conv => whnf); first | done | refine ev_step ?_ | refine ops_step ?_ | refine scan_step ?_ | refine draw_step ?_ | refine each_step ?_ | refine sl_step ?_ | refine hp_step ?_ | refine guard_no (by decide) ?_ | refine guard_go ?_ | refine guard_old ?_ | apply cut_auto | with_reducible exact CutS.mk (Or.inl ⟨rfl, rfl, rfl⟩) | refine CutS.mk (Or.inr (Or.inl (sub_auto ?_))) | exact trivial | refine And.intro ?_ ?_ | refine cond_split ?_ ?_ | apply guess | exact Or.inl rfl | exact Or.inr rfl | exact Side.mk trivial | exact Side.mk (fun h => h) | exact Side.mk (fun h => ⟨h, h⟩) | with_reducible exact Side.mk rfl | with_reducible exact Side.mk ⟨rfl, rfl⟩ | with_reducible exact Side.mk (by assumption) | with_reducible rfl | intro _)
      all_goals try (conv => whnf)
      all_goals first | rfl | exact hm.symm | trace_state
    · obtain ⟨p, bk, r, rs, s⟩ := a
      obtain ⟨p1, p2, p3, p4, p5, p6⟩ := id ha
      dsimp only at p1 p2 p3 p4 p5 p6 ⊢
      by_cases hlt : 0 < r
      · by_cases hp1 : 1 < p
        · repeat' ((conv => whnf); first | done | refine ev_step ?_ | refine ops_step ?_ | refine scan_step ?_ | refine draw_step ?_ | refine each_step ?_ | refine sl_step ?_ | refine hp_step ?_ | refine guard_no (by decide) ?_ | refine guard_go ?_ | refine guard_old ?_ | apply cut_auto | with_reducible exact CutS.mk (Or.inl ⟨rfl, rfl, rfl⟩) | refine CutS.mk (Or.inr (Or.inl (sub_auto ?_))) | exact trivial | refine And.intro ?_ ?_ | (refine cond_split ?_ ?_ <;> intro _ <;> first | (exfalso; first | omega | (simp_all; done) | (simp_all; omega)) | skip) | apply guess | apply FnEx.useF (k_pick bs _ _ _) | apply FnEx.useF (k_oneP bs _ _ _) | apply FnEx.useF (k_among bs _ _ _) | exact Or.inl rfl | exact Or.inr rfl | exact Side.mk trivial | exact Side.mk (fun h => h) | exact Side.mk (fun h => ⟨h, h⟩) | with_reducible exact Side.mk rfl | with_reducible exact Side.mk ⟨rfl, rfl⟩ | with_reducible exact Side.mk (by assumption) | with_reducible rfl | intro _)
          all_goals try (conv => whnf)
          all_goals try exact Side.mk ⟨h1, by omega, by omega, by omega, by omega⟩
          all_goals try exact Side.mk ⟨h1, by omega, by omega, by decide, by decide⟩
          all_goals try (refine Side.mk ?_; unfold inI64; omega)
          all_goals try (refine Side.mk ?_; show (_ ++ _).length ≤ _; simp only [List.length_append, List.length_singleton]; omega)
          all_goals try (refine Side.mk ?_; first | (intros; omega) | (intro h1_ h2_; rw [h1_, h2_]; rfl) | (show List.length (_ ++ _) ≤ _; simp only [List.length_append, List.length_cons, List.length_nil, List.length_replicate, List.length_take]; omega) | (simp_all; done) | (simp_all; omega))
          · rename_i _ i hi j hj d hd _ e he o ho _ g hg hne
            have hm4 := mem4 hg.1
            have hr : okRule p ⟨i.1, j.1, g.1⟩ = true := okRule_mk ⟨by omega, by omega⟩ ⟨by omega, by omega⟩ (by have := of_decide_eq_true hne; omega) ⟨by omega, by omega⟩
            refine ⟨(p, bk, r - 1, rs ++ [⟨i.1, j.1, g.1⟩], g.2), prP_add ha hlt (by omega) hr, by dsimp only; omega, ?_⟩
            repeat' ((conv => whnf); first | done | refine ev_step ?_ | refine ops_step ?_ | refine scan_step ?_ | refine draw_step ?_ | refine each_step ?_ | refine sl_step ?_ | refine hp_step ?_ | refine guard_no (by decide) ?_ | refine guard_go ?_ | refine guard_old ?_ | apply cut_auto | with_reducible exact CutS.mk (Or.inl ⟨rfl, rfl, rfl⟩) | refine CutS.mk (Or.inr (Or.inl (sub_auto ?_))) | exact trivial | refine And.intro ?_ ?_ | refine cond_split ?_ ?_ | apply guess | exact Or.inl rfl | exact Or.inr rfl | exact Side.mk trivial | exact Side.mk (fun h => h) | exact Side.mk (fun h => ⟨h, h⟩) | with_reducible exact Side.mk rfl | with_reducible exact Side.mk ⟨rfl, rfl⟩ | with_reducible exact Side.mk (by assumption) | with_reducible rfl | intro _)
            all_goals try (conv => whnf)
            all_goals first | rfl | omega | (dsimp only; omega) | trace_state
          · rename_i _ i hi j hj d hd _ e he o ho _ hne
            have hr : okRule p ⟨i.1, j.1, 0 - e.1 - 4⟩ = true := okRule_mk ⟨by omega, by omega⟩ ⟨by omega, by omega⟩ (by have := of_decide_eq_true hne; omega) ⟨by omega, by omega⟩
            refine ⟨(p, bk, r - 1, rs ++ [⟨i.1, j.1, 0 - e.1 - 4⟩], o.2), prP_add ha hlt (by omega) hr, by dsimp only; omega, ?_⟩
            repeat' ((conv => whnf); first | done | refine ev_step ?_ | refine ops_step ?_ | refine scan_step ?_ | refine draw_step ?_ | refine each_step ?_ | refine sl_step ?_ | refine hp_step ?_ | refine guard_no (by decide) ?_ | refine guard_go ?_ | refine guard_old ?_ | apply cut_auto | with_reducible exact CutS.mk (Or.inl ⟨rfl, rfl, rfl⟩) | refine CutS.mk (Or.inr (Or.inl (sub_auto ?_))) | exact trivial | refine And.intro ?_ ?_ | refine cond_split ?_ ?_ | apply guess | exact Or.inl rfl | exact Or.inr rfl | exact Side.mk trivial | exact Side.mk (fun h => h) | exact Side.mk (fun h => ⟨h, h⟩) | with_reducible exact Side.mk rfl | with_reducible exact Side.mk ⟨rfl, rfl⟩ | with_reducible exact Side.mk (by assumption) | with_reducible rfl | intro _)
            all_goals try (conv => whnf)
            all_goals first | rfl | omega | (dsimp only; omega) | trace_state
          · rename_i _ i hi j hj d hd _ o ho _ g hg hne
            have hm4 := mem4 hg.1
            have hr : okRule p ⟨i.1, j.1, g.1⟩ = true := okRule_mk ⟨by omega, by omega⟩ ⟨by omega, by omega⟩ (by have := of_decide_eq_true hne; omega) ⟨by omega, by omega⟩
            refine ⟨(p, bk, r - 1, rs ++ [⟨i.1, j.1, g.1⟩], g.2), prP_add ha hlt (by omega) hr, by dsimp only; omega, ?_⟩
            repeat' ((conv => whnf); first | done | refine ev_step ?_ | refine ops_step ?_ | refine scan_step ?_ | refine draw_step ?_ | refine each_step ?_ | refine sl_step ?_ | refine hp_step ?_ | refine guard_no (by decide) ?_ | refine guard_go ?_ | refine guard_old ?_ | apply cut_auto | with_reducible exact CutS.mk (Or.inl ⟨rfl, rfl, rfl⟩) | refine CutS.mk (Or.inr (Or.inl (sub_auto ?_))) | exact trivial | refine And.intro ?_ ?_ | refine cond_split ?_ ?_ | apply guess | exact Or.inl rfl | exact Or.inr rfl | exact Side.mk trivial | exact Side.mk (fun h => h) | exact Side.mk (fun h => ⟨h, h⟩) | with_reducible exact Side.mk rfl | with_reducible exact Side.mk ⟨rfl, rfl⟩ | with_reducible exact Side.mk (by assumption) | with_reducible rfl | intro _)
            all_goals try (conv => whnf)
            all_goals first | rfl | omega | (dsimp only; omega) | trace_state
          · rename_i _ i hi j hj d hd _ o ho _ g hg hne
            refine ⟨(p, bk, r - 1, rs, g.2), prP_keep ha hlt (by omega), by dsimp only; omega, ?_⟩
            repeat' ((conv => whnf); first | done | refine ev_step ?_ | refine ops_step ?_ | refine scan_step ?_ | refine draw_step ?_ | refine each_step ?_ | refine sl_step ?_ | refine hp_step ?_ | refine guard_no (by decide) ?_ | refine guard_go ?_ | refine guard_old ?_ | apply cut_auto | with_reducible exact CutS.mk (Or.inl ⟨rfl, rfl, rfl⟩) | refine CutS.mk (Or.inr (Or.inl (sub_auto ?_))) | exact trivial | refine And.intro ?_ ?_ | refine cond_split ?_ ?_ | apply guess | exact Or.inl rfl | exact Or.inr rfl | exact Side.mk trivial | exact Side.mk (fun h => h) | exact Side.mk (fun h => ⟨h, h⟩) | with_reducible exact Side.mk rfl | with_reducible exact Side.mk ⟨rfl, rfl⟩ | with_reducible exact Side.mk (by assumption) | with_reducible rfl | intro _)
            all_goals try (conv => whnf)
            all_goals first | rfl | omega | (dsimp only; omega) | trace_state
          · rename_i _ i hi j hj d hd _ o ho _ hne
            have hr : okRule p ⟨i.1, j.1, d.1⟩ = true := okRule_mk ⟨by omega, by omega⟩ ⟨by omega, by omega⟩ (by have := of_decide_eq_true hne; omega) ⟨by omega, by omega⟩
            refine ⟨(p, bk, r - 1, rs ++ [⟨i.1, j.1, d.1⟩], o.2), prP_add ha hlt (by omega) hr, by dsimp only; omega, ?_⟩
            repeat' ((conv => whnf); first | done | refine ev_step ?_ | refine ops_step ?_ | refine scan_step ?_ | refine draw_step ?_ | refine each_step ?_ | refine sl_step ?_ | refine hp_step ?_ | refine guard_no (by decide) ?_ | refine guard_go ?_ | refine guard_old ?_ | apply cut_auto | with_reducible exact CutS.mk (Or.inl ⟨rfl, rfl, rfl⟩) | refine CutS.mk (Or.inr (Or.inl (sub_auto ?_))) | exact trivial | refine And.intro ?_ ?_ | refine cond_split ?_ ?_ | apply guess | exact Or.inl rfl | exact Or.inr rfl | exact Side.mk trivial | exact Side.mk (fun h => h) | exact Side.mk (fun h => ⟨h, h⟩) | with_reducible exact Side.mk rfl | with_reducible exact Side.mk ⟨rfl, rfl⟩ | with_reducible exact Side.mk (by assumption) | with_reducible rfl | intro _)
            all_goals try (conv => whnf)
            all_goals first | rfl | omega | (dsimp only; omega) | trace_state
          · rename_i _ i hi j hj d hd _ o ho _ hne
            refine ⟨(p, bk, r - 1, rs, o.2), prP_keep ha hlt (by omega), by dsimp only; omega, ?_⟩
            repeat' ((conv => whnf); first | done | refine ev_step ?_ | refine ops_step ?_ | refine scan_step ?_ | refine draw_step ?_ | refine each_step ?_ | refine sl_step ?_ | refine hp_step ?_ | refine guard_no (by decide) ?_ | refine guard_go ?_ | refine guard_old ?_ | apply cut_auto | with_reducible exact CutS.mk (Or.inl ⟨rfl, rfl, rfl⟩) | refine CutS.mk (Or.inr (Or.inl (sub_auto ?_))) | exact trivial | refine And.intro ?_ ?_ | refine cond_split ?_ ?_ | apply guess | exact Or.inl rfl | exact Or.inr rfl | exact Side.mk trivial | exact Side.mk (fun h => h) | exact Side.mk (fun h => ⟨h, h⟩) | with_reducible exact Side.mk rfl | with_reducible exact Side.mk ⟨rfl, rfl⟩ | with_reducible exact Side.mk (by assumption) | with_reducible rfl | intro _)
            all_goals try (conv => whnf)
            all_goals first | rfl | omega | (dsimp only; omega) | trace_state
        · repeat' ((conv => whnf); first | done | refine ev_step ?_ | refine ops_step ?_ | refine scan_step ?_ | refine draw_step ?_ | refine each_step ?_ | refine sl_step ?_ | refine hp_step ?_ | refine guard_no (by decide) ?_ | refine guard_go ?_ | refine guard_old ?_ | apply cut_auto | with_reducible exact CutS.mk (Or.inl ⟨rfl, rfl, rfl⟩) | refine CutS.mk (Or.inr (Or.inl (sub_auto ?_))) | exact trivial | refine And.intro ?_ ?_ | (refine cond_split ?_ ?_ <;> intro _ <;> first | (exfalso; first | omega | (simp_all; done) | (simp_all; omega)) | skip) | apply guess | exact Or.inl rfl | exact Or.inr rfl | exact Side.mk trivial | exact Side.mk (fun h => h) | exact Side.mk (fun h => ⟨h, h⟩) | with_reducible exact Side.mk rfl | with_reducible exact Side.mk ⟨rfl, rfl⟩ | with_reducible exact Side.mk (by assumption) | with_reducible rfl | intro _)
          all_goals try (conv => whnf)
          all_goals try (refine Side.mk ?_; first | (intros; omega) | (intro h1_ h2_; rw [h1_, h2_]; rfl) | (show List.length (_ ++ _) ≤ _; simp only [List.length_append, List.length_cons, List.length_nil, List.length_replicate, List.length_take]; omega) | (simp_all; done) | (simp_all; omega))
          refine ⟨(p, rs, s), ⟨prP_fin ha (by omega), p6⟩, ?_⟩
          repeat' ((conv => whnf); first | done | refine ev_step ?_ | refine ops_step ?_ | refine scan_step ?_ | refine draw_step ?_ | refine each_step ?_ | refine sl_step ?_ | refine hp_step ?_ | refine guard_no (by decide) ?_ | refine guard_go ?_ | refine guard_old ?_ | apply cut_auto | with_reducible exact CutS.mk (Or.inl ⟨rfl, rfl, rfl⟩) | refine CutS.mk (Or.inr (Or.inl (sub_auto ?_))) | exact trivial | refine And.intro ?_ ?_ | refine cond_split ?_ ?_ | apply guess | exact Or.inl rfl | exact Or.inr rfl | exact Side.mk trivial | exact Side.mk (fun h => h) | exact Side.mk (fun h => ⟨h, h⟩) | with_reducible exact Side.mk rfl | with_reducible exact Side.mk ⟨rfl, rfl⟩ | with_reducible exact Side.mk (by assumption) | with_reducible rfl | intro _)
          all_goals try (conv => whnf)
          all_goals first | rfl | omega | trace_state
      · repeat' ((conv => whnf); first | done | refine ev_step ?_ | refine ops_step ?_ | refine scan_step ?_ | refine draw_step ?_ | refine each_step ?_ | refine sl_step ?_ | refine hp_step ?_ | refine guard_no (by decide) ?_ | refine guard_go ?_ | refine guard_old ?_ | apply cut_auto | with_reducible exact CutS.mk (Or.inl ⟨rfl, rfl, rfl⟩) | refine CutS.mk (Or.inr (Or.inl (sub_auto ?_))) | exact trivial | refine And.intro ?_ ?_ | (refine cond_split ?_ ?_ <;> intro _ <;> first | (exfalso; first | omega | (simp_all; done) | (simp_all; omega)) | skip) | apply guess | exact Or.inl rfl | exact Or.inr rfl | exact Side.mk trivial | exact Side.mk (fun h => h) | exact Side.mk (fun h => ⟨h, h⟩) | with_reducible exact Side.mk rfl | with_reducible exact Side.mk ⟨rfl, rfl⟩ | with_reducible exact Side.mk (by assumption) | with_reducible rfl | intro _)
        all_goals try (conv => whnf)
        all_goals try (refine Side.mk ?_; first | (intros; omega) | (intro h1_ h2_; rw [h1_, h2_]; rfl) | (show List.length (_ ++ _) ≤ _; simp only [List.length_append, List.length_cons, List.length_nil, List.length_replicate, List.length_take]; omega) | (simp_all; done) | (simp_all; omega))
        refine ⟨(p, rs, s), ⟨prP_fin ha (by omega), p6⟩, ?_⟩
        repeat' ((conv => whnf); first | done | refine ev_step ?_ | refine ops_step ?_ | refine scan_step ?_ | refine draw_step ?_ | refine each_step ?_ | refine sl_step ?_ | refine hp_step ?_ | refine guard_no (by decide) ?_ | refine guard_go ?_ | refine guard_old ?_ | apply cut_auto | with_reducible exact CutS.mk (Or.inl ⟨rfl, rfl, rfl⟩) | refine CutS.mk (Or.inr (Or.inl (sub_auto ?_))) | exact trivial | refine And.intro ?_ ?_ | refine cond_split ?_ ?_ | apply guess | exact Or.inl rfl | exact Or.inr rfl | exact Side.mk trivial | exact Side.mk (fun h => h) | exact Side.mk (fun h => ⟨h, h⟩) | with_reducible exact Side.mk rfl | with_reducible exact Side.mk ⟨rfl, rfl⟩ | with_reducible exact Side.mk (by assumption) | with_reducible rfl | intro _)
        all_goals try (conv => whnf)
        all_goals first | rfl | omega | trace_state
end Go.Sx.U
