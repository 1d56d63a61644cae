/-
  Chapter 10: the quietest order: the law.
-/
import Derived.Test.YtjojnolcohjebaaC8
import Derived.Test.YtjojnolcohjebaaKL2
namespace Go.Sx.U
set_option linter.unusedVariables false
set_option linter.unusedSimpArgs false
set_option maxRecDepth 100000
set_option maxHeartbeats 8000000
open Go Go.Sx Go.Proofs Go.Sx.M0

theorem k_quiet (W : List (List Int)) (hW : okW W) (m : Int) (hm : Side (0 ≤ m ∧ m ≤ 2000)) (f : Nat) : ∀ o, PreO W f o → loud W o ≤ m → QuietIs W m f o := by
  induction f with
  | zero =>
    intro o hp hl
    exact k_quiet1 W hW m 0 o hp hl hm (fun f' e => by cases e)
  | succ f ih =>
    intro o hp hl
    refine k_quiet1 W hW m (f + 1) o hp hl hm (fun f' e i hi hl' => ?_)
    have e2 : f = f' := by omega
    subst e2
    exact ih _ (pre_snoc hp hi) hl'
def foundB (W : List (List Int)) (m : Int) : Bool := (qFind W m (allO W.length W.length [])).isSome
theorem found_iff {W : List (List Int)} {m : Int} : foundB W m = true ↔ ∃ x ∈ allO W.length W.length [], loud W x ≤ m := qFind_is
theorem half_eq (a b : Nat) (h : a + b ≤ 4000) : IntKind.i64.wrap (((a : Int) + b).tdiv 2) = ((a + b) / 2 : Nat) := by
  have e : ((a : Int) + b).tdiv 2 = ((a + b) / 2 : Nat) := by
    rw [Int.tdiv_eq_ediv_of_nonneg (by omega)]
    omega
  rw [e]
  exact wrap_in ⟨by omega, by omega⟩
theorem k_QuietSpec (W : List (List Int)) (h : Side (W.length ≤ 1048577)) (hx : okB W = true) : FnIs Try.prog 20 [.agg [.sl 1 []]] 2 [(1, .flat false (.rows 0 0 W.length)), (0, .nestI false .i64 W)] (.tuple [.sl 2 [], .int .i64 (quietV W).2, .bool true]) 3 [(2, .flat true (.ints .i64 (quietV W).1))] := by
  have k1 := k_l10Is W h
  rw [hx] at k1
  have hW := okB_iff.1 hx
  obtain ⟨b1, b2, b3, b4⟩ := quiet_best (W := W) (allO_ne W.length)
  have hmem : ∀ x ∈ allO W.length W.length [], 0 ≤ loud W x ∧ loud W x ≤ 2000 := fun x hx => loud_bd hW (allO_loud hW W.length [] (pre_nil W) x hx).2.rng
  have hok : foundB W 2000 = true := by
    obtain ⟨x, hx⟩ := List.exists_mem_of_ne_nil _ (allO_ne W.length)
    exact found_iff.2 ⟨x, hx, (hmem x hx).2⟩
  have hlow : ∀ m, m < (quietV W).2 → foundB W m = false := fun m hm => by
    cases e : foundB W m with
    | false => rfl
    | true =>
      obtain ⟨x, hx, hl⟩ := found_iff.1 e
      have := b3 x hx
      unfold quietV at hm
      omega
  have hin : (quietV W).1 ∈ allO W.length W.length [] ∧ loud W (quietV W).1 ≤ (quietV W).2 := qFind_some b4
  have hhigh : ∀ m, (quietV W).2 ≤ m → foundB W m = true := fun m hm => found_iff.2 ⟨_, hin.1, by omega⟩
  have hq2 : (quietV W).2 ≤ 2000 := by have := (hmem _ hin.1).2; have e : (quietV W).2 = loud W (quietV W).1 := b2; omega
  have hq0 : 0 ≤ (quietV W).2 := b1
  have hfin : qFind W (quietV W).2 (allO W.length W.length []) = some (quietV W).1 := b4
  have kq : ∀ m : Int, 0 ≤ m ∧ m ≤ 2000 → QuietIs W m W.length [] := fun m hm => k_quiet W hW m ⟨hm⟩ W.length [] (pre_nil W) (by rw [loud_nil]; omega)
  have hfb : ∀ m, (qFind W m (allO W.length W.length [])).isSome = foundB W m := fun m => rfl
  unfold QuietIs at kq
  clear b1 b2 b3 b4 hmem hin
  generalize hQ : quietV W = Q at *
  obtain ⟨qo, qm⟩ := Q
  simp only at hlow hhigh hq2 hq0 hfin
  refine fn_of_ev tok Try.func20 rfl rfl rfl ?_
  repeat' ((conv => whnf); first | done | refine ev_step ?_ | refine ops_step ?_ | refine scan_step ?_ | refine draw_step ?_ | refine each_step ?_ | refine sl_step ?_ | refine hp_step ?_ | refine guard_no (by decide) ?_ | refine guard_go ?_ | apply cut_auto | with_reducible exact CutS.mk (Or.inl ⟨rfl, rfl, rfl⟩) | refine CutS.mk (Or.inr (sub_auto ?_)) | exact trivial | refine And.intro ?_ ?_ | refine cond_split ?_ ?_ | apply guess | apply FnIs.useF (k1) | exact Or.inl rfl | exact Or.inr rfl | exact Side.mk trivial | exact Side.mk (fun h => h) | exact Side.mk (fun h => ⟨h, h⟩) | with_reducible exact Side.mk rfl | with_reducible exact Side.mk ⟨rfl, rfl⟩ | with_reducible exact Side.mk (by assumption) | with_reducible rfl | intro _)
  all_goals try (conv => whnf)
  all_goals try (refine Side.mk ?_; first | (intros; omega) | (show List.length (_ ++ _) ≤ _; simp only [List.length_append, List.length_cons, List.length_nil, List.length_replicate, List.length_take]; omega) | (simp_all; done) | (simp_all; omega))
  refine loop_at (fun x : Nat × Nat => x.1 ≤ x.2 ∧ x.2 ≤ 2000 ∧ (x.1 : Int) ≤ qm ∧ qm ≤ x.2) 3 (fun x => [(5, .int .i64 x.1), (6, .int .i64 x.2), (7, .top), (8, .top), (9, .top)]) (fun _ => []) (fun x => x.2 - x.1) (0, 2000) ⟨by omega, by omega, by simp only; omega, by simp only; omega⟩ ?_ (fun x hx => ?_)
  · repeat' ((conv => whnf); first | done | refine ev_step ?_ | refine ops_step ?_ | refine scan_step ?_ | refine draw_step ?_ | refine each_step ?_ | refine sl_step ?_ | refine hp_step ?_ | refine guard_no (by decide) ?_ | refine guard_go ?_ | apply cut_auto | with_reducible exact CutS.mk (Or.inl ⟨rfl, rfl, rfl⟩) | refine CutS.mk (Or.inr (sub_auto ?_)) | exact trivial | refine And.intro ?_ ?_ | refine cond_split ?_ ?_ | apply guess | exact Or.inl rfl | exact Or.inr rfl | exact Side.mk trivial | exact Side.mk (fun h => h) | exact Side.mk (fun h => ⟨h, h⟩) | with_reducible exact Side.mk rfl | with_reducible exact Side.mk ⟨rfl, rfl⟩ | with_reducible exact Side.mk (by assumption) | with_reducible rfl | intro _)
    all_goals try (conv => whnf)
    all_goals first | rfl | trace_state
  · obtain ⟨lo, hi⟩ := x
    obtain ⟨p1, p2, p3, p4⟩ := hx
    simp only at p1 p2 p3 p4
    by_cases hlt : lo < hi
    · have hhf := half_eq lo hi (by omega)
      have kk := kq (IntKind.i64.wrap (((lo : Int) + hi).tdiv 2)) (by rw [hhf]; omega)
      rw [hfb] at kk
      cases hf : foundB W (IntKind.i64.wrap (((lo : Int) + hi).tdiv 2))
      · rw [hf] at kk
        have hgt : ((lo + hi) / 2 : Nat) < qm := by
          by_cases c : qm ≤ ((lo + hi) / 2 : Nat)
          · have := hhigh _ c
            rw [← hhf, hf] at this
            cases this
          · omega
        generalize (qFind W (IntKind.i64.wrap (((lo : Int) + hi).tdiv 2)) (allO W.length W.length [])).getD [] = r at *
        repeat' ((conv => whnf); first | done | refine ev_step ?_ | refine ops_step ?_ | refine scan_step ?_ | refine draw_step ?_ | refine each_step ?_ | refine sl_step ?_ | refine hp_step ?_ | refine guard_no (by decide) ?_ | refine guard_go ?_ | apply cut_auto | with_reducible exact CutS.mk (Or.inl ⟨rfl, rfl, rfl⟩) | refine CutS.mk (Or.inr (sub_auto ?_)) | exact trivial | refine And.intro ?_ ?_ | (refine cond_split ?_ ?_ <;> intro _ <;> first | (exfalso; first | omega | (simp only [decide_eq_true_eq, decide_eq_false_iff_not, Bool.not_eq_true', Bool.not_eq_false', ne_eq, Bool.not_true, Bool.not_false, cond_true, cond_false, Bool.true_eq_false, Bool.false_eq_true, Bool.and_eq_true, Bool.and_eq_false_iff] at *; omega)) | skip) | apply guess | apply FnIs.useF (kk) | exact Or.inl rfl | exact Or.inr rfl | exact Side.mk trivial | exact Side.mk (fun h => h) | exact Side.mk (fun h => ⟨h, h⟩) | with_reducible exact Side.mk rfl | with_reducible exact Side.mk ⟨rfl, rfl⟩ | with_reducible exact Side.mk (by assumption) | with_reducible rfl | intro _)
        all_goals try (conv => whnf)
        all_goals try (refine Side.mk ?_; first | (intros; omega) | (show List.length (_ ++ _) ≤ _; simp only [List.length_append, List.length_cons, List.length_nil, List.length_replicate, List.length_take]; omega) | (simp_all; done) | (simp_all; omega))
        all_goals try (rw [hhf]; omega)
        all_goals try omega
        refine ⟨((lo + hi) / 2 + 1, hi), ⟨by simp only; omega, by simp only; omega, by simp only; omega, by simp only; omega⟩, by simp only; omega, ?_⟩
        repeat' ((conv => whnf); first | done | refine ev_step ?_ | refine ops_step ?_ | refine scan_step ?_ | refine draw_step ?_ | refine each_step ?_ | refine sl_step ?_ | refine hp_step ?_ | refine guard_no (by decide) ?_ | refine guard_go ?_ | apply cut_auto | with_reducible exact CutS.mk (Or.inl ⟨rfl, rfl, rfl⟩) | refine CutS.mk (Or.inr (sub_auto ?_)) | exact trivial | refine And.intro ?_ ?_ | refine cond_split ?_ ?_ | apply guess | exact Or.inl rfl | exact Or.inr rfl | exact Side.mk trivial | exact Side.mk (fun h => h) | exact Side.mk (fun h => ⟨h, h⟩) | with_reducible exact Side.mk rfl | with_reducible exact Side.mk ⟨rfl, rfl⟩ | with_reducible exact Side.mk (by assumption) | with_reducible rfl | intro _)
        all_goals try (conv => whnf)
        all_goals first | rfl | omega | (rw [hhf]; omega) | (simp only; rw [hhf]; push_cast; omega) | trace_state
      · rw [hf] at kk
        have hle : qm ≤ ((lo + hi) / 2 : Nat) := by
          by_cases c : (((lo + hi) / 2 : Nat) : Int) < qm
          · have := hlow _ c
            rw [← hhf, hf] at this
            cases this
          · omega
        generalize (qFind W (IntKind.i64.wrap (((lo : Int) + hi).tdiv 2)) (allO W.length W.length [])).getD [] = r at *
        repeat' ((conv => whnf); first | done | refine ev_step ?_ | refine ops_step ?_ | refine scan_step ?_ | refine draw_step ?_ | refine each_step ?_ | refine sl_step ?_ | refine hp_step ?_ | refine guard_no (by decide) ?_ | refine guard_go ?_ | apply cut_auto | with_reducible exact CutS.mk (Or.inl ⟨rfl, rfl, rfl⟩) | refine CutS.mk (Or.inr (sub_auto ?_)) | exact trivial | refine And.intro ?_ ?_ | (refine cond_split ?_ ?_ <;> intro _ <;> first | (exfalso; first | omega | (simp only [decide_eq_true_eq, decide_eq_false_iff_not, Bool.not_eq_true', Bool.not_eq_false', ne_eq, Bool.not_true, Bool.not_false, cond_true, cond_false, Bool.true_eq_false, Bool.false_eq_true, Bool.and_eq_true, Bool.and_eq_false_iff] at *; omega)) | skip) | apply guess | apply FnIs.useF (kk) | exact Or.inl rfl | exact Or.inr rfl | exact Side.mk trivial | exact Side.mk (fun h => h) | exact Side.mk (fun h => ⟨h, h⟩) | with_reducible exact Side.mk rfl | with_reducible exact Side.mk ⟨rfl, rfl⟩ | with_reducible exact Side.mk (by assumption) | with_reducible rfl | intro _)
        all_goals try (conv => whnf)
        all_goals try (refine Side.mk ?_; first | (intros; omega) | (show List.length (_ ++ _) ≤ _; simp only [List.length_append, List.length_cons, List.length_nil, List.length_replicate, List.length_take]; omega) | (simp_all; done) | (simp_all; omega))
        all_goals try (rw [hhf]; omega)
        all_goals try omega
        refine ⟨(lo, (lo + hi) / 2), ⟨by simp only; omega, by simp only; omega, by simp only; omega, by simp only; omega⟩, by simp only; omega, ?_⟩
        repeat' ((conv => whnf); first | done | refine ev_step ?_ | refine ops_step ?_ | refine scan_step ?_ | refine draw_step ?_ | refine each_step ?_ | refine sl_step ?_ | refine hp_step ?_ | refine guard_no (by decide) ?_ | refine guard_go ?_ | apply cut_auto | with_reducible exact CutS.mk (Or.inl ⟨rfl, rfl, rfl⟩) | refine CutS.mk (Or.inr (sub_auto ?_)) | exact trivial | refine And.intro ?_ ?_ | refine cond_split ?_ ?_ | apply guess | exact Or.inl rfl | exact Or.inr rfl | exact Side.mk trivial | exact Side.mk (fun h => h) | exact Side.mk (fun h => ⟨h, h⟩) | with_reducible exact Side.mk rfl | with_reducible exact Side.mk ⟨rfl, rfl⟩ | with_reducible exact Side.mk (by assumption) | with_reducible rfl | intro _)
        all_goals try (conv => whnf)
        all_goals first | rfl | omega | (rw [hhf]; done) | (simp only; rw [hhf]; done) | trace_state
    · have e : (lo : Int) = qm := by omega
      have kk := kq lo ⟨by omega, by omega⟩
      rw [e, hfin] at kk
      rw [← e] at kk ⊢
      repeat' ((conv => whnf); first | done | refine ev_step ?_ | refine ops_step ?_ | refine scan_step ?_ | refine draw_step ?_ | refine each_step ?_ | refine sl_step ?_ | refine hp_step ?_ | refine guard_no (by decide) ?_ | refine guard_go ?_ | apply cut_auto | with_reducible exact CutS.mk (Or.inl ⟨rfl, rfl, rfl⟩) | refine CutS.mk (Or.inr (sub_auto ?_)) | exact trivial | refine And.intro ?_ ?_ | (refine cond_split ?_ ?_ <;> intro _ <;> first | (exfalso; first | omega | (simp only [decide_eq_true_eq, decide_eq_false_iff_not, Bool.not_eq_true', Bool.not_eq_false', ne_eq, Bool.not_true, Bool.not_false, cond_true, cond_false, Bool.true_eq_false, Bool.false_eq_true, Bool.and_eq_true, Bool.and_eq_false_iff] at *; omega)) | skip) | apply guess | apply FnIs.useF (kk) | exact Or.inl rfl | exact Or.inr rfl | exact Side.mk trivial | exact Side.mk (fun h => h) | exact Side.mk (fun h => ⟨h, h⟩) | with_reducible exact Side.mk rfl | with_reducible exact Side.mk ⟨rfl, rfl⟩ | with_reducible exact Side.mk (by assumption) | with_reducible rfl | intro _)
      all_goals try (conv => whnf)
      all_goals try (refine Side.mk ?_; first | (intros; omega) | (show List.length (_ ++ _) ≤ _; simp only [List.length_append, List.length_cons, List.length_nil, List.length_replicate, List.length_take]; omega) | (simp_all; done) | (simp_all; omega))
      all_goals first | rfl | omega | trace_state
end Go.Sx.U
