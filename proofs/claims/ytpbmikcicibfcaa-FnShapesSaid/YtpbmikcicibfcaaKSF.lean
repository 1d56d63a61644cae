/-
  slices.SortFunc at points, as a contract (the kit's law).
-/
import Derived.Test.YtpbmikcicibfcaaKSP
import Derived.Test.YtpbmikcicibfcaaKSF1
import Derived.Test.YtpbmikcicibfcaaK1
import Derived.Shelf.SlSortCmp.InsertionK
set_option linter.unusedSimpArgs false
namespace Go.Sx.U
set_option linter.unusedVariables false
set_option linter.unusedSimpArgs false
set_option maxRecDepth 100000
set_option maxHeartbeats 8000000
open Go Go.Sx Go.Proofs

def cmpI (x y : Int) : Int := if x < y then -1 else if y < x then 1 else 0
def ptCmp (p q : R2) : Int := if cmpI p.a q.a ≠ 0 then cmpI p.a q.a else cmpI p.b q.b
theorem k_isNaN3 (n : Int) : FnIs Try.prog 146 [.int .i64 n] 0 [] (.bool false) 0 [] := by
  refine fn_of_ev tok Try.func146 rfl rfl rfl ?_
  repeat' ((conv => whnf); first | done | refine ev_step ?_ | refine ops_step ?_ | refine scan_step ?_ | refine draw_step ?_ | refine each_step ?_ | refine sl_step ?_ | refine hp_step ?_ | refine guard_no (by decide) ?_ | refine guard_go ?_ | refine guard_old ?_ | apply cut_auto | with_reducible exact CutS.mk (Or.inl ⟨rfl, rfl, rfl⟩) | refine CutS.mk (Or.inr (sub_auto ?_)) | exact trivial | refine And.intro ?_ ?_ | refine cond_split ?_ ?_ | apply guess | exact Or.inl rfl | exact Or.inr rfl | exact Side.mk trivial | exact Side.mk (fun h => h) | exact Side.mk (fun h => ⟨h, h⟩) | with_reducible exact Side.mk rfl | with_reducible exact Side.mk ⟨rfl, rfl⟩ | with_reducible exact Side.mk (by assumption) | with_reducible rfl | intro _)
  all_goals try (conv => whnf)
  all_goals first | (simp; done) | trace_state
theorem k_Compare3 (a b : Int) : FnIs Try.prog 139 [.int .i64 a, .int .i64 b] 0 [] (.int .i64 (cmpI a b)) 0 [] := by
  unfold cmpI
  refine fn_of_ev tok Try.func139 rfl rfl rfl ?_
  repeat' ((conv => whnf); first | done | refine ev_step ?_ | refine ops_step ?_ | refine scan_step ?_ | refine draw_step ?_ | refine each_step ?_ | refine sl_step ?_ | refine hp_step ?_ | refine guard_no (by decide) ?_ | refine guard_go ?_ | refine guard_old ?_ | apply cut_auto | with_reducible exact CutS.mk (Or.inl ⟨rfl, rfl, rfl⟩) | refine CutS.mk (Or.inr (sub_auto ?_)) | exact trivial | refine And.intro ?_ ?_ | (refine cond_split ?_ ?_ <;> intro _ <;> first | (exfalso; first | omega | (simp only [decide_eq_true_eq, decide_eq_false_iff_not, Bool.not_eq_true', Bool.not_eq_false', ne_eq, Bool.not_true, Bool.not_false, cond_true, cond_false, Bool.true_eq_false, Bool.false_eq_true, Bool.and_eq_true, Bool.and_eq_false_iff] at *; omega)) | skip) | apply guess | apply FnIs.useF (k_isNaN3 _) | exact Or.inl rfl | exact Or.inr rfl | exact Side.mk trivial | exact Side.mk (fun h => h) | exact Side.mk (fun h => ⟨h, h⟩) | with_reducible exact Side.mk rfl | with_reducible exact Side.mk ⟨rfl, rfl⟩ | with_reducible exact Side.mk (by assumption) | with_reducible rfl | intro _)
  all_goals try (conv => whnf)
  all_goals first | (simp_all; done) | (simp only [decide_eq_true_eq, decide_eq_false_iff_not] at *; split <;> omega) | (simp only [decide_eq_true_eq, decide_eq_false_iff_not] at *; rw [if_neg (by omega)]; split <;> omega) | trace_state
theorem k_Or2 (a b : Int) : FnIs Try.prog 144 [.sl 0 []] 1 [(0, .flat false (.ints .i64 [a, b]))] (.int .i64 (if a ≠ 0 then a else b)) 1 [] := by
  obtain ⟨xs, hxs⟩ : ∃ xs, [a, b] = xs := ⟨_, rfl⟩
  have hl : xs.length = 2 := by rw [← hxs]; rfl
  have e0 : xs.getD 0 0 = a := by rw [← hxs]; rfl
  have e1 : xs.getD 1 0 = b := by rw [← hxs]; rfl
  rw [hxs]
  refine fn_of_ev tok Try.func144 rfl rfl rfl ?_
  repeat' ((conv => whnf); first | done | refine ev_step ?_ | refine ops_step ?_ | refine scan_step ?_ | refine draw_step ?_ | refine each_step ?_ | refine sl_step ?_ | refine hp_step ?_ | refine guard_no (by decide) ?_ | refine guard_go ?_ | refine guard_old ?_ | apply cut_auto | with_reducible exact CutS.mk (Or.inl ⟨rfl, rfl, rfl⟩) | refine CutS.mk (Or.inr (sub_auto ?_)) | exact trivial | refine And.intro ?_ ?_ | refine cond_split ?_ ?_ | apply guess | exact Or.inl rfl | exact Or.inr rfl | exact Side.mk trivial | exact Side.mk (fun h => h) | exact Side.mk (fun h => ⟨h, h⟩) | with_reducible exact Side.mk rfl | with_reducible exact Side.mk ⟨rfl, rfl⟩ | with_reducible exact Side.mk (by assumption) | with_reducible rfl | intro _)
  all_goals try (conv => whnf)
  refine loop_at (fun i : Nat => i ≤ 2 ∧ (0 < i → a = 0) ∧ (1 < i → b = 0)) 6 (fun i => [(8, .int .i64 i), (5, .top)]) (fun i => []) (fun i => 2 - i) 0 ⟨by omega, fun h => by omega, fun h => by omega⟩ ?_ (fun i hi => ?_)
  · repeat' ((conv => whnf); first | done | refine ev_step ?_ | refine ops_step ?_ | refine scan_step ?_ | refine draw_step ?_ | refine each_step ?_ | refine sl_step ?_ | refine hp_step ?_ | refine guard_no (by decide) ?_ | refine guard_go ?_ | refine guard_old ?_ | apply cut_auto | with_reducible exact CutS.mk (Or.inl ⟨rfl, rfl, rfl⟩) | refine CutS.mk (Or.inr (sub_auto ?_)) | exact trivial | refine And.intro ?_ ?_ | refine cond_split ?_ ?_ | apply guess | exact Or.inl rfl | exact Or.inr rfl | exact Side.mk trivial | exact Side.mk (fun h => h) | exact Side.mk (fun h => ⟨h, h⟩) | with_reducible exact Side.mk rfl | with_reducible exact Side.mk ⟨rfl, rfl⟩ | with_reducible exact Side.mk (by assumption) | with_reducible rfl | intro _)
    all_goals try (conv => whnf)
    all_goals first | rfl | trace_state
  · obtain ⟨h1, h2, h3⟩ := hi
    by_cases hlt : i < 2
    · by_cases hx : xs.getD i 0 = 0
      · have d : decide (xs.getD ((i : Nat) : Int).toNat 0 ≠ 0) = false := decide_eq_false (by rw [Int.toNat_natCast, hx]; simp)
        repeat' ((conv => whnf); first | done | refine ev_step ?_ | refine ops_step ?_ | refine scan_step ?_ | refine draw_step ?_ | refine each_step ?_ | refine sl_step ?_ | refine hp_step ?_ | refine guard_no (by decide) ?_ | refine guard_go ?_ | refine guard_old ?_ | apply cut_auto | with_reducible exact CutS.mk (Or.inl ⟨rfl, rfl, rfl⟩) | refine CutS.mk (Or.inr (sub_auto ?_)) | exact trivial | refine And.intro ?_ ?_ | (refine cond_split ?_ ?_ <;> intro hq_ <;> first | (exfalso; first | omega | (simp only [d, cond_true, cond_false, Bool.not_true, Bool.not_false, Bool.and_true, Bool.true_and, Bool.and_false, Bool.false_and, Bool.or_true, Bool.true_or, Bool.or_false, Bool.false_or, Bool.true_eq_false, Bool.false_eq_true, decide_true, decide_false, reduceCtorEq] at hq_; done) | (rw [decide_eq_false_iff_not] at hq_; omega) | (rw [decide_eq_true_eq] at hq_; omega) | (simp only [d, reduceCtorEq] at hq_; done) | exact Bool.noConfusion (Eq.trans (Eq.symm d) hq_)) | skip) | apply guess | exact Or.inl rfl | exact Or.inr rfl | exact Side.mk trivial | exact Side.mk (fun h => h) | exact Side.mk (fun h => ⟨h, h⟩) | with_reducible exact Side.mk rfl | with_reducible exact Side.mk ⟨rfl, rfl⟩ | with_reducible exact Side.mk (by assumption) | with_reducible rfl | intro _)
        all_goals try (conv => whnf)
        all_goals try (refine Side.mk ?_; first | (intros; omega) | (intro h1_ h2_; rw [h1_, h2_]; rfl) | (show List.length (_ ++ _) ≤ _; simp only [List.length_append, List.length_cons, List.length_nil, List.length_replicate, List.length_take]; omega) | (simp_all; done) | (simp_all; omega))
        refine ⟨i + 1, ⟨by omega, fun _ => ?_, fun _ => ?_⟩, by omega, ?_⟩
        · rcases (by omega : i = 0 ∨ i = 1) with rfl | rfl
          · rw [← e0]; exact hx
          · exact h2 (by omega)
        · obtain rfl : i = 1 := by omega
          rw [← e1]; exact hx
        repeat' ((conv => whnf); first | done | refine ev_step ?_ | refine ops_step ?_ | refine scan_step ?_ | refine draw_step ?_ | refine each_step ?_ | refine sl_step ?_ | refine hp_step ?_ | refine guard_no (by decide) ?_ | refine guard_go ?_ | refine guard_old ?_ | apply cut_auto | with_reducible exact CutS.mk (Or.inl ⟨rfl, rfl, rfl⟩) | refine CutS.mk (Or.inr (sub_auto ?_)) | exact trivial | refine And.intro ?_ ?_ | refine cond_split ?_ ?_ | apply guess | exact Or.inl rfl | exact Or.inr rfl | exact Side.mk trivial | exact Side.mk (fun h => h) | exact Side.mk (fun h => ⟨h, h⟩) | with_reducible exact Side.mk rfl | with_reducible exact Side.mk ⟨rfl, rfl⟩ | with_reducible exact Side.mk (by assumption) | with_reducible rfl | intro _)
        all_goals try (conv => whnf)
        all_goals first | rfl | omega | trace_state
      · have d : decide (xs.getD ((i : Nat) : Int).toNat 0 ≠ 0) = true := decide_eq_true (by rw [Int.toNat_natCast]; exact hx)
        repeat' ((conv => whnf); first | done | refine ev_step ?_ | refine ops_step ?_ | refine scan_step ?_ | refine draw_step ?_ | refine each_step ?_ | refine sl_step ?_ | refine hp_step ?_ | refine guard_no (by decide) ?_ | refine guard_go ?_ | refine guard_old ?_ | apply cut_auto | with_reducible exact CutS.mk (Or.inl ⟨rfl, rfl, rfl⟩) | refine CutS.mk (Or.inr (sub_auto ?_)) | exact trivial | refine And.intro ?_ ?_ | (refine cond_split ?_ ?_ <;> intro hq_ <;> first | (exfalso; first | omega | (simp only [d, cond_true, cond_false, Bool.not_true, Bool.not_false, Bool.and_true, Bool.true_and, Bool.and_false, Bool.false_and, Bool.or_true, Bool.true_or, Bool.or_false, Bool.false_or, Bool.true_eq_false, Bool.false_eq_true, decide_true, decide_false, reduceCtorEq] at hq_; done) | (rw [decide_eq_false_iff_not] at hq_; omega) | (rw [decide_eq_true_eq] at hq_; omega) | (simp only [d, reduceCtorEq] at hq_; done) | exact Bool.noConfusion (Eq.trans (Eq.symm d) hq_)) | skip) | apply guess | exact Or.inl rfl | exact Or.inr rfl | exact Side.mk trivial | exact Side.mk (fun h => h) | exact Side.mk (fun h => ⟨h, h⟩) | with_reducible exact Side.mk rfl | with_reducible exact Side.mk ⟨rfl, rfl⟩ | with_reducible exact Side.mk (by assumption) | with_reducible rfl | intro _)
        all_goals try (conv => whnf)
        all_goals try (refine Side.mk ?_; first | (intros; omega) | (intro h1_ h2_; rw [h1_, h2_]; rfl) | (show List.length (_ ++ _) ≤ _; simp only [List.length_append, List.length_cons, List.length_nil, List.length_replicate, List.length_take]; omega) | (simp_all; done) | (simp_all; omega))
        all_goals try simp only [Int.toNat_natCast]
        rcases (by omega : i = 0 ∨ i = 1) with rfl | rfl
        · rw [e0] at hx ⊢
          rw [if_pos hx]
        · rw [e1] at hx ⊢
          rw [if_neg (by rw [h2 (by omega)]; simp)]
    · obtain rfl : i = 2 := by omega
      repeat' ((conv => whnf); first | done | refine ev_step ?_ | refine ops_step ?_ | refine scan_step ?_ | refine draw_step ?_ | refine each_step ?_ | refine sl_step ?_ | refine hp_step ?_ | refine guard_no (by decide) ?_ | refine guard_go ?_ | refine guard_old ?_ | apply cut_auto | with_reducible exact CutS.mk (Or.inl ⟨rfl, rfl, rfl⟩) | refine CutS.mk (Or.inr (sub_auto ?_)) | exact trivial | refine And.intro ?_ ?_ | (refine cond_split ?_ ?_ <;> intro _ <;> first | (exfalso; first | omega | (simp only [decide_eq_true_eq, decide_eq_false_iff_not, Bool.not_eq_true', Bool.not_eq_false', ne_eq, Bool.not_true, Bool.not_false, cond_true, cond_false, Bool.true_eq_false, Bool.false_eq_true, Bool.and_eq_true, Bool.and_eq_false_iff] at *; omega)) | skip) | apply guess | exact Or.inl rfl | exact Or.inr rfl | exact Side.mk trivial | exact Side.mk (fun h => h) | exact Side.mk (fun h => ⟨h, h⟩) | with_reducible exact Side.mk rfl | with_reducible exact Side.mk ⟨rfl, rfl⟩ | with_reducible exact Side.mk (by assumption) | with_reducible rfl | intro _)
      all_goals try (conv => whnf)
      all_goals try (refine Side.mk ?_; first | (intros; omega) | (intro h1_ h2_; rw [h1_, h2_]; rfl) | (show List.length (_ ++ _) ≤ _; simp only [List.length_append, List.length_cons, List.length_nil, List.length_replicate, List.length_take]; omega) | (simp_all; done) | (simp_all; omega))
      rw [h2 (by omega), h3 (by omega)]
      simp
theorem k_pointOrder (p q : R2) : FnIs Try.prog 135 [.agg [.int .i64 p.a, .int .i64 p.b], .agg [.int .i64 q.a, .int .i64 q.b]] 0 [] (.int .i64 (ptCmp p q)) 0 [] := by
  refine fn_of_ev tok Try.func135 rfl rfl rfl ?_
  repeat' ((conv => whnf); first | done | refine ev_step ?_ | refine ops_step ?_ | refine scan_step ?_ | refine draw_step ?_ | refine each_step ?_ | refine sl_step ?_ | refine hp_step ?_ | refine guard_no (by decide) ?_ | refine guard_go ?_ | refine guard_old ?_ | apply cut_auto | with_reducible exact CutS.mk (Or.inl ⟨rfl, rfl, rfl⟩) | refine CutS.mk (Or.inr (sub_auto ?_)) | exact trivial | refine And.intro ?_ ?_ | refine cond_split ?_ ?_ | apply guess | apply FnIs.useF (k_Compare3 _ _) | apply FnIs.useF (k_Or2 _ _) | exact Or.inl rfl | exact Or.inr rfl | exact Side.mk trivial | exact Side.mk (fun h => h) | exact Side.mk (fun h => ⟨h, h⟩) | with_reducible exact Side.mk rfl | with_reducible exact Side.mk ⟨rfl, rfl⟩ | with_reducible exact Side.mk (by assumption) | with_reducible rfl | intro _)
  all_goals try (conv => whnf)
  all_goals try (refine Side.mk ?_; first | (intros; omega) | (intro h1_ h2_; rw [h1_, h2_]; rfl) | (show List.length (_ ++ _) ≤ _; simp only [List.length_append, List.length_cons, List.length_nil, List.length_replicate, List.length_take]; omega) | (simp_all; done) | (simp_all; omega))
  all_goals first | rfl | trace_state
theorem rep_nil (ρ : Rho) (w : World) : HeapRep ρ 0 [] w := by
  have no : ∀ {id p nd own}, ¬ NodeAt ([] : Heap) id p nd own := fun {id p nd own} h => by
    obtain ⟨o, h, _⟩ := h.ex
    cases h
  exact ⟨fun _ _ h => by (cases h), fun _ _ _ _ h => absurd h no, fun _ _ _ _ h => absurd h no, fun _ _ _ h => absurd h no, fun _ _ _ _ _ _ _ h => absurd h no⟩
theorem pt_lays (b o n : Nat) (w : World) : CmpLays Try.prog 135 #[] encP 2 ptCmp b o n w := fun m os dk _ x y => by
  generalize sortWorldK encP 2 w b o m dk os = W
  have hr := (k_pointOrder x y).call.run (fun _ _ => ⟨0, 0, 0, 0, 0⟩) W [.agg (encP x).toArray, .agg (encP y).toArray] (rep_nil _ _) (by
    simp only [VRL]
    refine ⟨_, _, rfl, ?_, _, _, rfl, ?_, rfl⟩ <;> simp only [VR] <;> refine ⟨_, rfl, ?_, ?_⟩
    · simp only [VRL, VR, encP]; exact ⟨_, _, rfl, rfl, _, _, rfl, rfl, rfl⟩
    · intro u hu; simp [encP] at hu; rcases hu with rfl | rfl <;> rfl
    · simp only [VRL, VR, encP]; exact ⟨_, _, rfl, rfl, _, _, rfl, rfl, rfl⟩
    · intro u hu; simp [encP] at hu; rcases hu with rfl | rfl <;> rfl)
  refine hr.mono fun e w' ⟨v, he, ho⟩ => ?_
  obtain ⟨av, ρ', N', G', ⟨e1, e2, e3⟩, hv, _, _, _, hf, _⟩ := ho.ex
  subst e1 e2 e3
  simp only [VR] at hv
  subst hv
  refine ⟨he, grown_of_frame ⟨hf.os, hf.tape, hf.output, hf.size, fun k hk _ => hf.block k hk ?_, hf.drawn⟩⟩
  rintro ⟨id, p, nd, h, _⟩
  obtain ⟨o, h, _⟩ := h.ex
  cases h
theorem pt_lt (p q : R2) : ltOf ptCmp p q = (decide (p.a < q.a) || (decide (p.a = q.a) && decide (p.b < q.b))) := by
  unfold ltOf ptCmp cmpI
  by_cases h1 : p.a < q.a <;> by_cases h2 : q.a < p.a <;> by_cases h3 : p.b < q.b <;> by_cases h4 : q.b < p.b <;> by_cases h5 : p.a = q.a <;> simp_all <;> omega
theorem pt_swo : Go.Sort.SWO (ltOf ptCmp) where
  irrefl p := by rw [pt_lt]; simp
  trans p q r h1 h2 := by rw [pt_lt] at *; simp at *; omega
  ntrans p q r h1 h2 := by rw [pt_lt] at *; simp at *; omega
end Go.Sx.U
