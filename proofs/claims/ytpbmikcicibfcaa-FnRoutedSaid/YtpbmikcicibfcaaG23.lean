/-
  Chapter 8: the fullest edge: the law.
-/
import Derived.Test.YtpbmikcicibfcaaG22
namespace Go.Sx.U
set_option linter.unusedVariables false
set_option linter.unusedSimpArgs false
set_option maxRecDepth 100000
set_option maxHeartbeats 8000000
open Go Go.Sx Go.Proofs Go.Sx.M8

theorem take_succ_max {zs : List Int} {i : Nat} (h : i + 1 < zs.length) (m : Int) : maxF m ((zs.drop 1).take (i + 1)) = max (maxF m ((zs.drop 1).take i)) (zs.getD (i + 1) 0) := by
  rw [take_snoc 0 (by simp; omega), maxF_snoc]
  congr 1
  simp [List.getD, List.getElem?_drop, Nat.add_comm]
theorem k_Max (zs : List Int) (h : Side (1 ≤ zs.length ∧ zs.length ≤ 1000)) : FnIs Try.prog 63 [.sl 0 []] 1 [(0, .flat false (.ints .i64 zs))] (.int .i64 (maxF (zs.getD 0 0) (zs.drop 1))) 1 [] := by
  obtain ⟨h1, h2⟩ := h.h
  refine fn_of_ev tok Try.func63 rfl rfl rfl ?_
  repeat' ((conv => whnf); first | done | refine ev_step ?_ | refine ops_step ?_ | refine scan_step ?_ | refine draw_step ?_ | refine each_step ?_ | refine sl_step ?_ | refine hp_step ?_ | refine guard_no (by decide) ?_ | refine guard_go ?_ | refine guard_old ?_ | apply cut_auto | with_reducible exact CutS.mk (Or.inl ⟨rfl, rfl, rfl⟩) | refine CutS.mk (Or.inr (sub_auto ?_)) | exact trivial | refine And.intro ?_ ?_ | (refine cond_split ?_ ?_ <;> intro _ <;> first | (exfalso; first | omega | (simp only [decide_eq_true_eq, decide_eq_false_iff_not, Bool.not_eq_true', Bool.not_eq_false', ne_eq, Bool.not_true, Bool.not_false, cond_true, cond_false, Bool.true_eq_false, Bool.false_eq_true, Bool.and_eq_true, Bool.and_eq_false_iff] at *; omega)) | skip) | apply guess | exact Or.inl rfl | exact Or.inr rfl | exact Side.mk trivial | exact Side.mk (fun h => h) | exact Side.mk (fun h => ⟨h, h⟩) | with_reducible exact Side.mk rfl | with_reducible exact Side.mk ⟨rfl, rfl⟩ | with_reducible exact Side.mk (by assumption) | with_reducible rfl | intro _)
  all_goals try (conv => whnf)
  all_goals try (refine Side.mk ?_; first | (intros; omega) | (intro h1_ h2_; rw [h1_, h2_]; rfl) | (show List.length (_ ++ _) ≤ _; simp only [List.length_append, List.length_cons, List.length_nil, List.length_replicate, List.length_take]; omega) | (simp_all; done) | (simp_all; omega))
  all_goals try omega
  refine loop_at (fun i : Nat => i + 1 ≤ zs.length) 1 (fun i => [(4, .int .i64 ((i : Int) + 1)), (3, .int .i64 (maxF (zs.getD 0 0) ((zs.drop 1).take i)))]) (fun _ => []) (fun i => zs.length - i) 0 (by omega) ?_ (fun i hi => ?_)
  · repeat' ((conv => whnf); first | done | refine ev_step ?_ | refine ops_step ?_ | refine scan_step ?_ | refine draw_step ?_ | refine each_step ?_ | refine sl_step ?_ | refine hp_step ?_ | refine guard_no (by decide) ?_ | refine guard_go ?_ | refine guard_old ?_ | apply cut_auto | with_reducible exact CutS.mk (Or.inl ⟨rfl, rfl, rfl⟩) | refine CutS.mk (Or.inr (sub_auto ?_)) | exact trivial | refine And.intro ?_ ?_ | refine cond_split ?_ ?_ | apply guess | exact Or.inl rfl | exact Or.inr rfl | exact Side.mk trivial | exact Side.mk (fun h => h) | exact Side.mk (fun h => ⟨h, h⟩) | with_reducible exact Side.mk rfl | with_reducible exact Side.mk ⟨rfl, rfl⟩ | with_reducible exact Side.mk (by assumption) | with_reducible rfl | intro _)
    all_goals try (conv => whnf)
    all_goals first | rfl | (simp [maxF]; done) | trace_state
  · have e1 : ((i : Int) + 1).toNat = i + 1 := by omega
    by_cases hlt : i + 1 < zs.length
    · have hs := take_succ_max hlt (zs.getD 0 0)
      repeat' ((conv => whnf); first | done | refine ev_step ?_ | refine ops_step ?_ | refine scan_step ?_ | refine draw_step ?_ | refine each_step ?_ | refine sl_step ?_ | refine hp_step ?_ | refine guard_no (by decide) ?_ | refine guard_go ?_ | refine guard_old ?_ | apply cut_auto | with_reducible exact CutS.mk (Or.inl ⟨rfl, rfl, rfl⟩) | refine CutS.mk (Or.inr (sub_auto ?_)) | exact trivial | refine And.intro ?_ ?_ | (refine cond_split ?_ ?_ <;> intro _ <;> first | (exfalso; first | omega | (simp only [decide_eq_true_eq, decide_eq_false_iff_not, Bool.not_eq_true', Bool.not_eq_false', ne_eq, Bool.not_true, Bool.not_false, cond_true, cond_false, Bool.true_eq_false, Bool.false_eq_true, Bool.and_eq_true, Bool.and_eq_false_iff] at *; omega)) | skip) | apply guess | exact Or.inl rfl | exact Or.inr rfl | exact Side.mk trivial | exact Side.mk (fun h => h) | exact Side.mk (fun h => ⟨h, h⟩) | with_reducible exact Side.mk rfl | with_reducible exact Side.mk ⟨rfl, rfl⟩ | with_reducible exact Side.mk (by assumption) | with_reducible rfl | intro _)
      all_goals try (conv => whnf)
      all_goals try rw [e1]
      all_goals try (refine Side.mk ?_; first | (intros; omega) | (intro h1_ h2_; rw [h1_, h2_]; rfl) | (show List.length (_ ++ _) ≤ _; simp only [List.length_append, List.length_cons, List.length_nil, List.length_replicate, List.length_take]; omega) | (simp_all; done) | (simp_all; omega))
      all_goals try omega
      refine ⟨i + 1, by omega, by omega, ?_⟩
      repeat' ((conv => whnf); first | done | refine ev_step ?_ | refine ops_step ?_ | refine scan_step ?_ | refine draw_step ?_ | refine each_step ?_ | refine sl_step ?_ | refine hp_step ?_ | refine guard_no (by decide) ?_ | refine guard_go ?_ | refine guard_old ?_ | apply cut_auto | with_reducible exact CutS.mk (Or.inl ⟨rfl, rfl, rfl⟩) | refine CutS.mk (Or.inr (sub_auto ?_)) | exact trivial | refine And.intro ?_ ?_ | refine cond_split ?_ ?_ | apply guess | exact Or.inl rfl | exact Or.inr rfl | exact Side.mk trivial | exact Side.mk (fun h => h) | exact Side.mk (fun h => ⟨h, h⟩) | with_reducible exact Side.mk rfl | with_reducible exact Side.mk ⟨rfl, rfl⟩ | with_reducible exact Side.mk (by assumption) | with_reducible rfl | intro _)
      all_goals try (conv => whnf)
      all_goals first | rfl | omega | (rw [hs]; done) | trace_state
    · have hs : (zs.drop 1).take i = zs.drop 1 := List.take_of_length_le (by simp; omega)
      rw [hs]
      repeat' ((conv => whnf); first | done | refine ev_step ?_ | refine ops_step ?_ | refine scan_step ?_ | refine draw_step ?_ | refine each_step ?_ | refine sl_step ?_ | refine hp_step ?_ | refine guard_no (by decide) ?_ | refine guard_go ?_ | refine guard_old ?_ | apply cut_auto | with_reducible exact CutS.mk (Or.inl ⟨rfl, rfl, rfl⟩) | refine CutS.mk (Or.inr (sub_auto ?_)) | exact trivial | refine And.intro ?_ ?_ | (refine cond_split ?_ ?_ <;> intro _ <;> first | (exfalso; first | omega | (simp only [decide_eq_true_eq, decide_eq_false_iff_not, Bool.not_eq_true', Bool.not_eq_false', ne_eq, Bool.not_true, Bool.not_false, cond_true, cond_false, Bool.true_eq_false, Bool.false_eq_true, Bool.and_eq_true, Bool.and_eq_false_iff] at *; omega)) | skip) | apply guess | exact Or.inl rfl | exact Or.inr rfl | exact Side.mk trivial | exact Side.mk (fun h => h) | exact Side.mk (fun h => ⟨h, h⟩) | with_reducible exact Side.mk rfl | with_reducible exact Side.mk ⟨rfl, rfl⟩ | with_reducible exact Side.mk (by assumption) | with_reducible rfl | intro _)
      all_goals try (conv => whnf)
      all_goals try (refine Side.mk ?_; first | (intros; omega) | (intro h1_ h2_; rw [h1_, h2_]; rfl) | (show List.length (_ ++ _) ≤ _; simp only [List.length_append, List.length_cons, List.length_nil, List.length_replicate, List.length_take]; omega) | (simp_all; done) | (simp_all; omega))
      all_goals first | rfl | omega | trace_state
structure MostOK (R U : List (List Int)) (n : Nat) : Prop where
  hl : U.length = n
  h : R.length ≤ 8 ∧ U.length = R.length ∧ (∀ y, y < R.length → (R.getD y []).length ≤ 8 ∧ (U.getD y []).length = (R.getD y []).length ∧ ∀ x, x < (R.getD y []).length → (0 ≤ (R.getD y []).getD x 0 ∧ (R.getD y []).getD x 0 ≤ 20) ∧ -100000 ≤ (U.getD y []).getD x 0 ∧ (U.getD y []).getD x 0 ≤ 100000)
theorem EachOK.mv {A V : List (List Int)} {U : UU} (he : EachOK A V U) : MostOK V U.2 (A.length - 1) := ⟨he.lv, by have := he.hv; have := he.ha; omega, by rw [he.lv, he.hv], he.rv⟩
/-! ### The functions -/
def oneCell (A : List (List Int)) : Bool := decide ((wN A : Int) = 1) && decide ((A.length : Int) = 1)
def fullOk (A V : List (List Int)) (ns : List R4) (ks : List Int) : Bool := chB A V ns ks && !oneCell A
def fullV (A V : List (List Int)) (ns : List R4) (ks : List Int) : Int := maxF (-20) (diffV A V (usedT (wN A) A.length ns ks ks.length))
theorem k_FullestEdge (A V : List (List Int)) (ns : List R4) (ks : List Int) (h : Side (natSS A ∧ natSS V ∧ ns.length ≤ 1048577 ∧ ks.length ≤ 1048577)) : FnIs Try.prog 21 [.agg [.sl 1 [], .sl 3 []], .sl 4 [], .sl 5 []] 6 ((4, .flat false (.r4 ns)) :: (5, .flat false (.ints .i64 ks)) :: gridH false A V) (.tuple [.int .i64 (if fullOk A V ns ks = true then fullV A V ns ks else 0), .bool (fullOk A V ns ks)]) 6 [] := by
  have k1 := k_choiceOk A V ns ks h
  refine fn_of_ev tok Try.func21 rfl rfl rfl ?_
  cases hx : chB A V ns ks <;> rw [hx] at k1
  · rw [show fullOk A V ns ks = false by simp [fullOk, hx]]
    repeat' ((conv => whnf); first | done | refine ev_step ?_ | refine ops_step ?_ | refine scan_step ?_ | refine draw_step ?_ | refine each_step ?_ | refine sl_step ?_ | refine hp_step ?_ | refine guard_no (by decide) ?_ | refine guard_go ?_ | refine guard_old ?_ | apply cut_auto | with_reducible exact CutS.mk (Or.inl ⟨rfl, rfl, rfl⟩) | refine CutS.mk (Or.inr (sub_auto ?_)) | exact trivial | refine And.intro ?_ ?_ | refine cond_split ?_ ?_ | apply guess | apply FnIs.useF (k1) | exact Or.inl rfl | exact Or.inr rfl | exact Side.mk trivial | exact Side.mk (fun h => h) | exact Side.mk (fun h => ⟨h, h⟩) | with_reducible exact Side.mk rfl | with_reducible exact Side.mk ⟨rfl, rfl⟩ | with_reducible exact Side.mk (by assumption) | with_reducible rfl | intro _)
    all_goals try (conv => whnf)
    all_goals try (refine Side.mk ?_; first | (intros; omega) | (intro h1_ h2_; rw [h1_, h2_]; rfl) | (show List.length (_ ++ _) ≤ _; simp only [List.length_append, List.length_cons, List.length_nil, List.length_replicate, List.length_take]; omega) | (simp_all; done) | (simp_all; omega))
    all_goals first | rfl | trace_state
  · obtain ⟨q1, q2, q3, q4⟩ := chB_side h.h.1 hx
    have hc := chB_ok hx
    have k2 := k_used A V ns ks ⟨q1, q2, q3, q4⟩ hc
    have hd := used_dims hc ks.length (Nat.le_refl _)
    have he := each_ok q2 (by omega) hd
    have hn := used_nn hc ks.length (Nat.le_refl _)
    obtain ⟨f1, f2, f3⟩ := diff_facts q2 (by omega) hd hn
    have hemp := diff_empty q2 (by omega) hd hn
    have hbd : ∀ v ∈ diffV A V (usedT (wN A) A.length ns ks ks.length), -20 ≤ v := fun v hv => by
      rcases List.mem_append.1 hv with hv | hv
      · exact (f1 v hv).1
      · exact (f2 v hv).1
    obtain ⟨r1, r2, r3⟩ := grid_room q2
    have hw8 := (gridB_len q2).2.2
    have hl8 := (gridB_len q2).2.1
    rw [wN_wd] at hw8
    have k3 := k_eachFull A V _ he (fun y hy => by rw [diffT_len (fun y hy => (r1 y hy).1) y hy]; exact Nat.mul_le_mul (by omega : y ≤ 8) (by omega : wN A - 1 ≤ 8)) (fun y hy => by rw [diffT_len (fun y hy => (r3 y hy).1) y hy]; exact Nat.mul_le_mul (by omega : y ≤ 8) (by omega : wN A ≤ 8))
    have hlen : (diffV A V (usedT (wN A) A.length ns ks ks.length)).length ≤ 1000 := by
      rw [f3]
      have m1 : A.length * (wN A - 1) ≤ 8 * 8 := Nat.mul_le_mul hl8 (by omega)
      have m2 : (A.length - 1) * wN A ≤ 8 * 8 := Nat.mul_le_mul (by omega) (by omega)
      omega
    have hfo : fullOk A V ns ks = !oneCell A := by simp [fullOk, hx]
    have hone : oneCell A = decide ((diffV A V (usedT (wN A) A.length ns ks ks.length)).length = 0) := by
      rw [oneCell, ← Bool.decide_and]
      exact decide_eq_decide.2 (by rw [hemp]; omega)
    have hfv : fullV A V ns ks = maxF (-20) (diffV A V (usedT (wN A) A.length ns ks ks.length)) := rfl
    have kx : 1 ≤ (diffV A V (usedT (wN A) A.length ns ks ks.length)).length → FnIs Try.prog 63 [.sl 0 []] 1 [(0, .flat false (.ints .i64 (diffV A V (usedT (wN A) A.length ns ks ks.length))))] (.int .i64 (fullV A V ns ks)) 1 [] := fun h0 => by
      rw [hfv, maxF_head h0 hbd]
      exact k_Max _ ⟨h0, hlen⟩
    clear hd he hn f1 f2 f3 hemp hbd r1 r2 r3 hfv
    rw [hfo]
    generalize diffV A V (usedT (wN A) A.length ns ks ks.length) = L at *
    generalize usedT (wN A) A.length ns ks ks.length = U at *
    generalize fullV A V ns ks = f at *
    by_cases h0 : L.length = 0
    · rw [decide_eq_true h0] at hone
      rw [hone]
      repeat' ((conv => whnf); first | done | refine ev_step ?_ | refine ops_step ?_ | refine scan_step ?_ | refine draw_step ?_ | refine each_step ?_ | refine sl_step ?_ | refine hp_step ?_ | refine guard_no (by decide) ?_ | refine guard_go ?_ | refine guard_old ?_ | apply cut_auto | with_reducible exact CutS.mk (Or.inl ⟨rfl, rfl, rfl⟩) | refine CutS.mk (Or.inr (sub_auto ?_)) | exact trivial | refine And.intro ?_ ?_ | (refine cond_split ?_ ?_ <;> intro _ <;> first | (exfalso; first | omega | (simp only [decide_eq_true_eq, decide_eq_false_iff_not, Bool.not_eq_true', Bool.not_eq_false', ne_eq, Bool.not_true, Bool.not_false, cond_true, cond_false, Bool.true_eq_false, Bool.false_eq_true, Bool.and_eq_true, Bool.and_eq_false_iff] at *; omega)) | skip) | apply guess | apply FnIs.useF (k1) | apply FnIs.useF (k2) | apply FnIs.useF (k3) | exact Or.inl rfl | exact Or.inr rfl | exact Side.mk trivial | exact Side.mk (fun h => h) | exact Side.mk (fun h => ⟨h, h⟩) | with_reducible exact Side.mk rfl | with_reducible exact Side.mk ⟨rfl, rfl⟩ | with_reducible exact Side.mk (by assumption) | with_reducible rfl | intro _)
      all_goals try (conv => whnf)
      all_goals try (refine Side.mk ?_; first | (intros; omega) | (intro h1_ h2_; rw [h1_, h2_]; rfl) | (show List.length (_ ++ _) ≤ _; simp only [List.length_append, List.length_cons, List.length_nil, List.length_replicate, List.length_take]; omega) | (simp_all; done) | (simp_all; omega))
      all_goals first | rfl | omega | trace_state
    · rw [decide_eq_false h0] at hone
      rw [hone]
      have kx := kx (by omega)
      repeat' ((conv => whnf); first | done | refine ev_step ?_ | refine ops_step ?_ | refine scan_step ?_ | refine draw_step ?_ | refine each_step ?_ | refine sl_step ?_ | refine hp_step ?_ | refine guard_no (by decide) ?_ | refine guard_go ?_ | refine guard_old ?_ | apply cut_auto | with_reducible exact CutS.mk (Or.inl ⟨rfl, rfl, rfl⟩) | refine CutS.mk (Or.inr (sub_auto ?_)) | exact trivial | refine And.intro ?_ ?_ | (refine cond_split ?_ ?_ <;> intro _ <;> first | (exfalso; first | omega | (simp only [decide_eq_true_eq, decide_eq_false_iff_not, Bool.not_eq_true', Bool.not_eq_false', ne_eq, Bool.not_true, Bool.not_false, cond_true, cond_false, Bool.true_eq_false, Bool.false_eq_true, Bool.and_eq_true, Bool.and_eq_false_iff] at *; omega)) | skip) | apply guess | apply FnIs.useF (k1) | apply FnIs.useF (k2) | apply FnIs.useF (k3) | apply FnIs.useF (kx) | exact Or.inl rfl | exact Or.inr rfl | exact Side.mk trivial | exact Side.mk (fun h => h) | exact Side.mk (fun h => ⟨h, h⟩) | with_reducible exact Side.mk rfl | with_reducible exact Side.mk ⟨rfl, rfl⟩ | with_reducible exact Side.mk (by assumption) | with_reducible rfl | intro _)
      all_goals try (conv => whnf)
      all_goals try (refine Side.mk ?_; first | (intros; omega) | (intro h1_ h2_; rw [h1_, h2_]; rfl) | (show List.length (_ ++ _) ≤ _; simp only [List.length_append, List.length_cons, List.length_nil, List.length_replicate, List.length_take]; omega) | (simp_all; done) | (simp_all; omega))
      all_goals first | rfl | omega | trace_state
end Go.Sx.U
