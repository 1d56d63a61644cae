/-
  Chapter 9: the program's critical path (contract).
-/
import Derived.Test.YtgfbiehncbinmaaR10
import Derived.Test.YtgfbiehncbinmaaR9
import Derived.Test.YtgfbiehncbinmaaKRO
import Derived.Test.YtgfbiehncbinmaaQ5
set_option linter.unusedSimpArgs false
namespace Go.Sx.U
set_option linter.unusedVariables false
set_option linter.unusedSimpArgs false
set_option maxRecDepth 100000
set_option maxHeartbeats 8000000
open Go Go.Sx Go.Proofs Go.Sx.M9

theorem k_nearer (F : List Int) (j a : Nat) (h : Side ((j < F.length ∧ a < F.length) ∧ ∀ i, -1 ≤ F.getD i 0 ∧ F.getD i 0 ≤ 16)) : FnIs Try.prog 57 [.int .i64 j, .ptr 1 [] 0 0, .ptr 2 [] 0 0] 3 [(0, .flat false (.ints .i64 F)), (1, .flat false (.gen 1 [[.sl 0 []]])), (2, .flat false (.gen 1 [[.int .i64 a]]))] (.bool (decide (F.getD j 0 = F.getD a 0 - 1))) 3 [] := by
  obtain ⟨⟨h1, h2⟩, h3⟩ := h.h
  have := h3 a
  have := h3 j
  refine fn_of_ev tok Try.func57 rfl rfl rfl ?_
  repeat' ((conv => whnf); first | done | refine ev_step ?_ | refine ops_step ?_ | refine scan_step ?_ | refine draw_step ?_ | refine each_step ?_ | refine sl_step ?_ | refine hp_step ?_ | refine guard_no (by decide) ?_ | refine guard_go ?_ | refine guard_old ?_ | apply cut_auto | with_reducible exact CutS.mk (Or.inl ⟨rfl, rfl, rfl⟩) | refine CutS.mk (Or.inr (Or.inl (sub_auto ?_))) | exact trivial | refine And.intro ?_ ?_ | (refine cond_split ?_ ?_ <;> intro _ <;> first | (exfalso; first | omega | (simp only [decide_eq_true_eq, decide_eq_false_iff_not, Bool.not_eq_true', Bool.not_eq_false', ne_eq, Bool.not_true, Bool.not_false, cond_true, cond_false, Bool.true_eq_false, Bool.false_eq_true, Bool.and_eq_true, Bool.and_eq_false_iff] at *; omega)) | skip) | apply guess | exact Or.inl rfl | exact Or.inr rfl | exact Side.mk trivial | exact Side.mk (fun h => h) | exact Side.mk (fun h => ⟨h, h⟩) | with_reducible exact Side.mk rfl | with_reducible exact Side.mk ⟨rfl, rfl⟩ | with_reducible exact Side.mk (by assumption) | with_reducible rfl | intro _)
  all_goals try (conv => whnf)
  all_goals try simp only [Int.toNat_natCast]
  all_goals try (refine Side.mk ?_; first | (intros; omega) | (intro h1_ h2_; rw [h1_, h2_]; rfl) | (show List.length (_ ++ _) ≤ _; simp only [List.length_append, List.length_cons, List.length_nil, List.length_replicate, List.length_take]; omega) | (simp_all; done) | (simp_all; omega))
  all_goals first | rfl | omega | trace_state
theorem k_IdxNear (F xs : List Int) (a : Nat) (h : Side ((xs.length ≤ 40 ∧ a < F.length ∧ ∀ x ∈ xs, 0 ≤ x ∧ x < F.length) ∧ ∀ i, -1 ≤ F.getD i 0 ∧ F.getD i 0 ≤ 16)) : FnIs Try.prog 56 [.sl 3 [], .func 57 [.ptr 1 [] 0 0, .ptr 2 [] 0 0]] 4 [(0, .flat false (.ints .i64 F)), (1, .flat false (.gen 1 [[.sl 0 []]])), (2, .flat false (.gen 1 [[.int .i64 a]])), (3, .flat false (.ints .i64 xs))] (.int .i64 (idxF (fun x => decide (F.getD x.toNat 0 = F.getD a 0 - 1)) xs)) 4 [] := by
  obtain ⟨⟨h1, h2, h3⟩, h4⟩ := h.h
  refine fn_of_ev tok Try.func56 rfl rfl rfl ?_
  repeat' ((conv => whnf); first | done | refine ev_step ?_ | refine ops_step ?_ | refine scan_step ?_ | refine draw_step ?_ | refine each_step ?_ | refine sl_step ?_ | refine hp_step ?_ | refine guard_no (by decide) ?_ | refine guard_go ?_ | refine guard_old ?_ | apply cut_auto | with_reducible exact CutS.mk (Or.inl ⟨rfl, rfl, rfl⟩) | refine CutS.mk (Or.inr (Or.inl (sub_auto ?_))) | exact trivial | refine And.intro ?_ ?_ | refine cond_split ?_ ?_ | apply guess | exact Or.inl rfl | exact Or.inr rfl | exact Side.mk trivial | exact Side.mk (fun h => h) | exact Side.mk (fun h => ⟨h, h⟩) | with_reducible exact Side.mk rfl | with_reducible exact Side.mk ⟨rfl, rfl⟩ | with_reducible exact Side.mk (by assumption) | with_reducible rfl | intro _)
  all_goals try (conv => whnf)
  refine loop_at (fun i : Nat => i ≤ xs.length ∧ (xs.take i).any (fun x => decide (F.getD x.toNat 0 = F.getD a 0 - 1)) = false) 4 (fun i => [(8, .int .i64 i), (5, .top)]) (fun _ => []) (fun i => xs.length - i) 0 ⟨Nat.zero_le _, rfl⟩ ?_ (fun i hi => ?_)
  · repeat' ((conv => whnf); first | done | refine ev_step ?_ | refine ops_step ?_ | refine scan_step ?_ | refine draw_step ?_ | refine each_step ?_ | refine sl_step ?_ | refine hp_step ?_ | refine guard_no (by decide) ?_ | refine guard_go ?_ | refine guard_old ?_ | apply cut_auto | with_reducible exact CutS.mk (Or.inl ⟨rfl, rfl, rfl⟩) | refine CutS.mk (Or.inr (Or.inl (sub_auto ?_))) | exact trivial | refine And.intro ?_ ?_ | refine cond_split ?_ ?_ | apply guess | exact Or.inl rfl | exact Or.inr rfl | exact Side.mk trivial | exact Side.mk (fun h => h) | exact Side.mk (fun h => ⟨h, h⟩) | with_reducible exact Side.mk rfl | with_reducible exact Side.mk ⟨rfl, rfl⟩ | with_reducible exact Side.mk (by assumption) | with_reducible rfl | intro _)
    all_goals try (conv => whnf)
    all_goals first | rfl | exact ⟨by simp⟩ | trace_state
  · obtain ⟨hi1, hi2⟩ := hi
    by_cases hlt : i < xs.length
    · have hx := h3 _ (mem_of_getD (d := 0) hlt)
      obtain ⟨j, hj⟩ : ∃ j : Nat, xs.getD i 0 = (j : Int) := ⟨(xs.getD i 0).toNat, by omega⟩
      have kn := k_nearer F j a ⟨⟨by omega, h2⟩, h4⟩
      rw [← hj] at kn
      have e0 : F.getD j 0 = F.getD (xs.getD i 0).toNat 0 := by rw [hj, Int.toNat_natCast]
      rw [e0] at kn
      cases hq : decide (F.getD (xs.getD i 0).toNat 0 = F.getD a 0 - 1)
      · rw [hq] at kn
        have d9 : decide ((i : Int) < (xs.length : Int)) = true := decide_eq_true (by omega)
        repeat' ((conv => whnf); first | done | refine ev_step ?_ | refine ops_step ?_ | refine scan_step ?_ | refine draw_step ?_ | refine each_step ?_ | refine sl_step ?_ | refine hp_step ?_ | refine guard_no (by decide) ?_ | refine guard_go ?_ | refine guard_old ?_ | apply cut_auto | with_reducible exact CutS.mk (Or.inl ⟨rfl, rfl, rfl⟩) | refine CutS.mk (Or.inr (Or.inl (sub_auto ?_))) | exact trivial | refine And.intro ?_ ?_ | (refine cond_split ?_ ?_ <;> intro hq_ <;> first | (exfalso; first | omega | (simp only [d9, cond_true, cond_false, Bool.not_true, Bool.not_false, Bool.and_true, Bool.true_and, Bool.and_false, Bool.false_and, Bool.or_true, Bool.true_or, Bool.or_false, Bool.false_or, Bool.true_eq_false, Bool.false_eq_true, decide_true, decide_false, reduceCtorEq] at hq_; done) | (rw [decide_eq_false_iff_not] at hq_; omega) | (rw [decide_eq_true_eq] at hq_; omega) | (simp only [d9, reduceCtorEq] at hq_; done) | exact Bool.noConfusion (Eq.trans (Eq.symm d9) hq_)) | skip) | apply guess | apply FnIs.useF (kn) | exact Or.inl rfl | exact Or.inr rfl | exact Side.mk trivial | exact Side.mk (fun h => h) | exact Side.mk (fun h => ⟨h, h⟩) | with_reducible exact Side.mk rfl | with_reducible exact Side.mk ⟨rfl, rfl⟩ | with_reducible exact Side.mk (by assumption) | with_reducible rfl | intro _)
        all_goals try (conv => whnf)
        all_goals try simp only [Int.toNat_natCast]
        all_goals try (refine Side.mk ?_; first | (intros; omega) | (intro h1_ h2_; rw [h1_, h2_]; rfl) | (show List.length (_ ++ _) ≤ _; simp only [List.length_append, List.length_cons, List.length_nil, List.length_replicate, List.length_take]; omega) | (simp_all; done) | (simp_all; omega))
        all_goals try omega
        refine ⟨i + 1, ⟨by omega, by rw [any_succ 0 hlt, hi2, hq]; rfl⟩, by omega, ?_⟩
        repeat' ((conv => whnf); first | done | refine ev_step ?_ | refine ops_step ?_ | refine scan_step ?_ | refine draw_step ?_ | refine each_step ?_ | refine sl_step ?_ | refine hp_step ?_ | refine guard_no (by decide) ?_ | refine guard_go ?_ | refine guard_old ?_ | apply cut_auto | with_reducible exact CutS.mk (Or.inl ⟨rfl, rfl, rfl⟩) | refine CutS.mk (Or.inr (Or.inl (sub_auto ?_))) | exact trivial | refine And.intro ?_ ?_ | refine cond_split ?_ ?_ | apply guess | exact Or.inl rfl | exact Or.inr rfl | exact Side.mk trivial | exact Side.mk (fun h => h) | exact Side.mk (fun h => ⟨h, h⟩) | with_reducible exact Side.mk rfl | with_reducible exact Side.mk ⟨rfl, rfl⟩ | with_reducible exact Side.mk (by assumption) | with_reducible rfl | intro _)
        all_goals try (conv => whnf)
        all_goals first | rfl | omega | trace_state
      · rw [hq] at kn
        have d9 : decide ((i : Int) < (xs.length : Int)) = true := decide_eq_true (by omega)
        repeat' ((conv => whnf); first | done | refine ev_step ?_ | refine ops_step ?_ | refine scan_step ?_ | refine draw_step ?_ | refine each_step ?_ | refine sl_step ?_ | refine hp_step ?_ | refine guard_no (by decide) ?_ | refine guard_go ?_ | refine guard_old ?_ | apply cut_auto | with_reducible exact CutS.mk (Or.inl ⟨rfl, rfl, rfl⟩) | refine CutS.mk (Or.inr (Or.inl (sub_auto ?_))) | exact trivial | refine And.intro ?_ ?_ | (refine cond_split ?_ ?_ <;> intro hq_ <;> first | (exfalso; first | omega | (simp only [d9, cond_true, cond_false, Bool.not_true, Bool.not_false, Bool.and_true, Bool.true_and, Bool.and_false, Bool.false_and, Bool.or_true, Bool.true_or, Bool.or_false, Bool.false_or, Bool.true_eq_false, Bool.false_eq_true, decide_true, decide_false, reduceCtorEq] at hq_; done) | (rw [decide_eq_false_iff_not] at hq_; omega) | (rw [decide_eq_true_eq] at hq_; omega) | (simp only [d9, reduceCtorEq] at hq_; done) | exact Bool.noConfusion (Eq.trans (Eq.symm d9) hq_)) | skip) | apply guess | apply FnIs.useF (kn) | exact Or.inl rfl | exact Or.inr rfl | exact Side.mk trivial | exact Side.mk (fun h => h) | exact Side.mk (fun h => ⟨h, h⟩) | with_reducible exact Side.mk rfl | with_reducible exact Side.mk ⟨rfl, rfl⟩ | with_reducible exact Side.mk (by assumption) | with_reducible rfl | intro _)
        all_goals try (conv => whnf)
        all_goals try simp only [Int.toNat_natCast]
        all_goals try (refine Side.mk ?_; first | (intros; omega) | (intro h1_ h2_; rw [h1_, h2_]; rfl) | (show List.length (_ ++ _) ≤ _; simp only [List.length_append, List.length_cons, List.length_nil, List.length_replicate, List.length_take]; omega) | (simp_all; done) | (simp_all; omega))
        all_goals try omega
        exact idxF_yes (d := 0) hlt hi2 hq
    · have d9 : decide ((i : Int) < (xs.length : Int)) = false := decide_eq_false (by omega)
      repeat' ((conv => whnf); first | done | refine ev_step ?_ | refine ops_step ?_ | refine scan_step ?_ | refine draw_step ?_ | refine each_step ?_ | refine sl_step ?_ | refine hp_step ?_ | refine guard_no (by decide) ?_ | refine guard_go ?_ | refine guard_old ?_ | apply cut_auto | with_reducible exact CutS.mk (Or.inl ⟨rfl, rfl, rfl⟩) | refine CutS.mk (Or.inr (Or.inl (sub_auto ?_))) | exact trivial | refine And.intro ?_ ?_ | (refine cond_split ?_ ?_ <;> intro hq_ <;> first | (exfalso; first | omega | (simp only [d9, cond_true, cond_false, Bool.not_true, Bool.not_false, Bool.and_true, Bool.true_and, Bool.and_false, Bool.false_and, Bool.or_true, Bool.true_or, Bool.or_false, Bool.false_or, Bool.true_eq_false, Bool.false_eq_true, decide_true, decide_false, reduceCtorEq] at hq_; done) | (rw [decide_eq_false_iff_not] at hq_; omega) | (rw [decide_eq_true_eq] at hq_; omega) | (simp only [d9, reduceCtorEq] at hq_; done) | exact Bool.noConfusion (Eq.trans (Eq.symm d9) hq_)) | skip) | apply guess | exact Or.inl rfl | exact Or.inr rfl | exact Side.mk trivial | exact Side.mk (fun h => h) | exact Side.mk (fun h => ⟨h, h⟩) | with_reducible exact Side.mk rfl | with_reducible exact Side.mk ⟨rfl, rfl⟩ | with_reducible exact Side.mk (by assumption) | with_reducible rfl | intro _)
      all_goals try (conv => whnf)
      all_goals try (refine Side.mk ?_; first | (intros; omega) | (intro h1_ h2_; rw [h1_, h2_]; rfl) | (show List.length (_ ++ _) ≤ _; simp only [List.length_append, List.length_cons, List.length_nil, List.length_replicate, List.length_take]; omega) | (simp_all; done) | (simp_all; omega))
      rw [take_all (by omega)] at hi2
      exact idxF_no hi2
theorem fin_none (pl : List Int) (v : Int) : (decide (v < ((0 : Nat) : Int)) && finB pl v) = false := by
  unfold finB
  by_cases h : 0 ≤ v
  · rw [decide_eq_false (show ¬ v < ((0 : Nat) : Int) by omega)]; rfl
  · rw [decide_eq_false h]; simp
theorem fin_skip {pl : List Int} {i : Nat} (h : finB pl (i : Int) = false) (v : Int) : (decide (v < (i : Int)) && finB pl v) = (decide (v < ((i + 1 : Nat) : Int)) && finB pl v) := by
  by_cases e : v = (i : Int)
  · rw [e, h]; simp
  · rw [show decide (v < (i : Int)) = decide (v < ((i + 1 : Nat) : Int)) from decide_eq_decide.2 (by omega)]
theorem fin_step {pl : List Int} {i : Nat} (h : finB pl (i : Int) = true) (v : Int) : ((decide (v < (i : Int)) && finB pl v) || decide (v = (i : Int))) = (decide (v < ((i + 1 : Nat) : Int)) && finB pl v) := by
  by_cases e : v = (i : Int)
  · rw [e, h]; simp; omega
  · rw [show decide (v < (i : Int)) = decide (v < ((i + 1 : Nat) : Int)) from decide_eq_decide.2 (by omega), decide_eq_false e, Bool.or_false]
theorem fin_all {pl : List Int} {n : Nat} (h : pl.length = n) (v : Int) : (decide (v < (n : Int)) && finB pl v) = finB pl v := by
  by_cases e : v < (n : Int)
  · rw [decide_eq_true e]; rfl
  · rw [decide_eq_false e]
    unfold finB
    rw [decide_eq_false (show ¬ v < (pl.length : Int) by omega)]
    simp
theorem idx_spec {xs : List Int} {p : Int → Bool} (h : xs.any p = true) : ∃ m, m < xs.length ∧ idxF p xs = (m : Int) ∧ p (xs.getD m 0) = true ∧ ∀ j, j < m → p (xs.getD j 0) = false := by
  have hex : ∃ x ∈ xs, p x = true := by simpa [List.any_eq_true] using h
  have hlt : xs.findIdx p < xs.length := List.findIdx_lt_length_of_exists hex
  refine ⟨xs.findIdx p, hlt, by unfold idxF; rw [if_pos h], ?_, fun j hj => ?_⟩
  · rw [List.getD, List.getElem?_eq_getElem hlt]
    exact List.findIdx_getElem (w := hlt)
  · have := List.not_of_lt_findIdx hj
    rw [List.getD, List.getElem?_eq_getElem (by omega)]
    simpa using this
theorem sorted_get {xs : List Int} (h : xs.Pairwise (· ≤ ·)) {i j : Nat} (hij : i ≤ j) (hj : j < xs.length) : xs.getD i 0 ≤ xs.getD j 0 := by
  rw [List.getD, List.getD, List.getElem?_eq_getElem (by omega), List.getElem?_eq_getElem hj]
  by_cases e : i = j
  · subst e; exact Int.le_refl _
  · exact List.pairwise_iff_getElem.1 h i j (by omega) hj (by omega)
/-- The graph of the first rules. -/
structure GInv (n : Nat) (rs : List R3) (pl : List Int) (g : List (List Int)) (k : Nat) : Prop where
  len : g.length = n
  row : ∀ u, u < n → (g.getD u []).length ≤ k
  mem : ∀ (u : Nat) (v : Int), u < n → (v ∈ g.getD u [] ↔ ∃ j, j < k ∧ tightR pl (rs.getD j default) = true ∧ (rs.getD j default).a = (u : Int) ∧ (rs.getD j default).b = v)
theorem GInv.start (n : Nat) (rs : List R3) (pl : List Int) : GInv n rs pl (List.replicate n []) 0 := by
  have hg : ∀ u, u < n → (List.replicate n ([] : List Int)).getD u [] = [] := fun u hu => by simp [List.getD, hu]
  refine ⟨by simp, fun u hu => by rw [hg u hu]; simp, fun u v hu => ?_⟩
  rw [hg u hu]
  exact ⟨fun h => absurd h (by simp), fun ⟨j, h, _⟩ => absurd h (by omega)⟩
theorem GInv.no {n : Nat} {rs : List R3} {pl : List Int} {g : List (List Int)} {k : Nat} (h : GInv n rs pl g k) (ht : tightR pl (rs.getD k default) = false) : GInv n rs pl g (k + 1) := by
  refine ⟨h.len, fun u hu => by have := h.row u hu; omega, fun u v hu => ?_⟩
  rw [h.mem u v hu]
  refine ⟨fun ⟨j, h1, h2⟩ => ⟨j, by omega, h2⟩, fun ⟨j, h1, h2, h3⟩ => ⟨j, ?_, h2, h3⟩⟩
  by_cases e : j = k
  · rw [e, ht] at h2; cases h2
  · omega
theorem GInv.yes {n : Nat} {rs : List R3} {pl : List Int} {g : List (List Int)} {k : Nat} (h : GInv n rs pl g k) (ht : tightR pl (rs.getD k default) = true) {y : Nat} (hy : (rs.getD k default).a = (y : Int)) (hyn : y < n) : GInv n rs pl (g.set y (g.getD y [] ++ [(rs.getD k default).b])) (k + 1) := by
  have hg : ∀ u, (g.set y (g.getD y [] ++ [(rs.getD k default).b])).getD u [] = if u = y then g.getD y [] ++ [(rs.getD k default).b] else g.getD u [] := fun u => by
    rw [List.getD, List.getElem?_set]
    by_cases e : y = u
    · subst e; simp [h.len, hyn]
    · rw [if_neg e, if_neg (fun q => e q.symm)]; rfl
  refine ⟨by simp [h.len], fun u hu => ?_, fun u v hu => ?_⟩
  · rw [hg]
    have := h.row u hu
    split
    · next e => subst e; rw [List.length_append, List.length_singleton]; omega
    · omega
  · rw [hg]
    by_cases e : u = y
    · subst e
      rw [if_pos rfl, List.mem_append, List.mem_singleton, h.mem u v hu]
      constructor
      · rintro (⟨j, h1, h2⟩ | rfl)
        · exact ⟨j, by omega, h2⟩
        · exact ⟨k, by omega, ht, hy, rfl⟩
      · rintro ⟨j, h1, h2, h3, h4⟩
        by_cases ej : j = k
        · subst ej; exact .inr h4.symm
        · exact .inl ⟨j, by omega, h2, h3, h4⟩
    · rw [if_neg e, h.mem u v hu]
      refine ⟨fun ⟨j, h1, h2⟩ => ⟨j, by omega, h2⟩, fun ⟨j, h1, h2, h3, h4⟩ => ⟨j, ?_, h2, h3, h4⟩⟩
      by_cases ej : j = k
      · subst ej; omega
      · omega
/-- The rows in order; edges as the rules have them. -/
structure GSort (n : Nat) (rs : List R3) (pl : List Int) (g : List (List Int)) (k : Nat) : Prop where
  inv : GInv n rs pl g rs.length
  ord : ∀ u, u < k → u < n → (g.getD u []).Pairwise (· ≤ ·)
theorem GSort.step {n : Nat} {rs : List R3} {pl : List Int} {g : List (List Int)} {k : Nat} (h : GSort n rs pl g k) (hk : k < n) {ys : List Int} (hp : ys.Perm (g.getD k [])) (hs : ys.Pairwise (· ≤ ·)) : GSort n rs pl (g.set k ys) (k + 1) := by
  have hi := h.inv
  have hg : ∀ u, (g.set k ys).getD u [] = if u = k then ys else g.getD u [] := fun u => by
    rw [List.getD, List.getElem?_set]
    by_cases e : k = u
    · subst e; simp [hi.len, hk]
    · rw [if_neg e, if_neg (fun q => e q.symm)]; rfl
  refine ⟨⟨by simp [hi.len], fun u hu => ?_, fun u v hu => ?_⟩, fun u hu hn => ?_⟩
  · rw [hg]
    split
    · rw [hp.length_eq]; exact hi.row k hk
    · exact hi.row u hu
  · rw [hg, ← hi.mem u v hu]
    split
    · next e => subst e; exact hp.mem_iff
    · exact Iff.rfl
  · rw [hg]
    split
    · exact hs
    · exact h.ord u (by omega) hn
theorem GSort.edges {n : Nat} {rs : List R3} {pl : List Int} {g : List (List Int)} {k : Nat} (h : GSort n rs pl g k) (hP : PressOK n rs pl) : ∀ u v, edgeG g u v = edgeK rs (tkL rs pl) u v := by
  intro u v
  rw [Bool.eq_iff_iff]
  have hi := h.inv
  constructor
  · intro he
    simp only [edgeG, Bool.and_eq_true, decide_eq_true_eq] at he
    have hu : u.toNat < n := by
      by_cases hu : u.toNat < g.length
      · rw [← hi.len]; exact hu
      · rw [List.getD, List.getElem?_eq_none (by omega)] at he; simp at he
    obtain ⟨j, h1, h2, h3, h4⟩ := (hi.mem u.toNat v hu).1 he.2
    have hm : (j : Int) ∈ tkL rs pl := List.mem_map.2 ⟨j, List.mem_filter.2 ⟨List.mem_range.2 h1, h2⟩, rfl⟩
    obtain ⟨i, hil, hie⟩ := mem_getI hm
    refine edgeK_iff.2 ⟨i, hil, ?_⟩
    rw [eqB, hie, Int.toNat_natCast]
    exact ⟨by rw [h3]; omega, h4⟩
  · intro he
    have hr := edge_rng hP he
    obtain ⟨i, hil, h1, h2⟩ := edgeK_iff.1 he
    have hm : (tkL rs pl).getD i 0 ∈ tkL rs pl := mem_of_getD hil
    obtain ⟨j, hj, e⟩ := List.mem_map.1 hm
    obtain ⟨hj1, hj2⟩ := List.mem_filter.1 hj
    have e2 : (tkL rs pl).getD i 0 = (j : Int) := e.symm
    rw [e2, Int.toNat_natCast] at h1 h2
    simp only [edgeG, Bool.and_eq_true, decide_eq_true_eq]
    refine ⟨hr.1.1, (hi.mem u.toNat v (by omega)).2 ⟨j, List.mem_range.1 hj1, hj2, by rw [h1]; omega, h2⟩⟩
end Go.Sx.U
