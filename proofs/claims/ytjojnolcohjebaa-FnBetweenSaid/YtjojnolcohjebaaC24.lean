/-
  FnBetween, as a contract.
-/
import Derived.Test.YtjojnolcohjebaaM1B
import Derived.Test.YtjojnolcohjebaaC22
import Derived.Test.YtjojnolcohjebaaK7
import Derived.Test.YtjojnolcohjebaaKR2
import Derived.Test.YtjojnolcohjebaaKH
set_option linter.unusedSimpArgs false
namespace Go.Sx.U
set_option linter.unusedVariables false
set_option linter.unusedSimpArgs false
set_option maxRecDepth 100000
set_option maxHeartbeats 8000000
open Go Go.Sx Go.Proofs Go.Sx.M0

theorem layOk_nil2 {W : List (List Int)} {o : List Int} (h1 : okB W = true) (h2 : isOB W.length o = true) : layOk W o [] = true := by
  simp only [layOk, h1, h2, Bool.true_and]
  exact risesB_iff.2 (fun i hi => by simp at hi)
theorem k_CoupOk2 (W : List (List Int)) (o : List Int) (h : Side (okB W = true ∧ isOB W.length o = true)) : FnIs Try.prog 37 [.agg [.sl 1 []], .sl 2 [], .sl 3 []] 4 [(1, .flat false (.rows 0 0 W.length)), (0, .nestI false .i64 W), (2, .flat false (.ints .i64 o)), (3, .flat false (.ints .i64 []))] (.tuple [.int .i64 (coup W o []), .bool true]) 4 [] := by
  obtain ⟨h1, h2⟩ := h.h
  have := (okB_iff.1 h1).1
  have := (isOB_iff.1 h2).1
  have k := k_CouplingOf W o [] ⟨⟨by omega, by omega, by simp⟩⟩
  rw [layOk_nil2 h1 h2, if_pos rfl] at k
  exact k
/-- What the search over all pairs of ends has found. -/
structure FoundP (A : Int) (f0 l0 i j : Nat) (x : Int) : Prop where
  ge : x = -1 ∨ A ≤ x
  at0 : (f0 < i ∨ (f0 = i ∧ l0 < j)) → x = A
theorem FoundP.take {A : Int} (hA : 0 ≤ A) {f0 l0 i j : Nat} {x v : Int} (h : FoundP A f0 l0 i j x) (hv : A ≤ v) (he : f0 = i → l0 = j → v = A) (hq : x < 0 ∨ v < x) : FoundP A f0 l0 i (j + 1) v :=
  ⟨.inr hv, fun hp => by
    by_cases e : f0 = i ∧ l0 = j
    · exact he e.1 e.2
    · have := h.at0 (by omega)
      omega⟩
theorem FoundP.pass {A : Int} {f0 l0 i j : Nat} {x v : Int} (h : FoundP A f0 l0 i j x) (hv : A ≤ v) (he : f0 = i → l0 = j → v = A) (hq : ¬ (x < 0 ∨ v < x)) : FoundP A f0 l0 i (j + 1) x :=
  ⟨h.ge, fun hp => by
    by_cases e : f0 = i ∧ l0 = j
    · have := he e.1 e.2
      have := h.ge
      omega
    · exact h.at0 (by omega)⟩
theorem FoundP.skip {A : Int} {f0 l0 i j : Nat} {x : Int} (h : FoundP A f0 l0 i j x) (hne : ¬ (f0 = i ∧ l0 = j)) : FoundP A f0 l0 i (j + 1) x :=
  ⟨h.ge, fun hp => h.at0 (by omega)⟩
theorem FoundP.row {A : Int} {f0 l0 i n : Nat} {x : Int} (h : FoundP A f0 l0 i n x) (hl : l0 < n) : FoundP A f0 l0 (i + 1) 0 x :=
  ⟨h.ge, fun hp => h.at0 (by omega)⟩
theorem ends_bb {W : List (List Int)} (hW : okW W) {o : List Int} (hO : isO W.length o) : bbP W (o.getD 0 0) (o.getD (o.length - 1) 0) := by
  have hol := hO.1
  have hn := hW.1
  have hfr := isO_get hO (i := 0) (by omega)
  have hlr := isO_get hO (i := o.length - 1) (by omega)
  refine ⟨hW, ⟨hfr.1, by omega⟩, ⟨hlr.1, by omega⟩, fun e => ?_, fun e => ?_⟩
  · refine Classical.byContradiction fun hn => ?_
    have := List.pairwise_iff_getElem.1 (List.nodup_iff_pairwise_ne.1 hO.2.2) 0 (o.length - 1) (by omega) (by omega) (by omega)
    apply this
    rw [List.getD, List.getD, List.getElem?_eq_getElem (show 0 < o.length by omega), List.getElem?_eq_getElem (show o.length - 1 < o.length by omega)] at e
    exact e
  · rw [show o.length - 1 = 0 by omega]
theorem pairs_ok {W : List (List Int)} (hW : okW W) : 0 ≤ begL W (-1) 0 (-1) ∧ (∀ f l : Nat, bbP W f l → begL W (-1) 0 (-1) ≤ begL W l 0 f) ∧ ∃ f0 l0 : Nat, f0 < W.length ∧ l0 < W.length ∧ bbP W f0 l0 ∧ begL W l0 0 f0 = begL W (-1) 0 (-1) := by
  have hn := hW.1
  obtain ⟨h1, h2⟩ := best_own hW (cnt := 0) (by omega)
  rw [shV_zero] at h2
  have hA := best_all hW (cnt := 0) (by omega) h1
  have hle : ∀ f l : Nat, bbP W f l → begL W (-1) 0 (-1) ≤ begL W l 0 f := fun f l hx => by
    obtain ⟨q1, _, _, q4⟩ := between_own hW hx.2.1.1 hx.2.2.1.1 (bb_nn hx)
    have := (best_all hW (cnt := 0) (by omega) q1).2.1
    rw [shV_zero, q4] at this
    exact this
  refine ⟨hA.1, hle, ?_⟩
  have hb := ends_bb hW h1
  generalize folO W (-1) 0 (-1) = q at *
  have h3 := between_all hW h1 rfl rfl
  refine ⟨(q.getD 0 0).toNat, (q.getD (q.length - 1) 0).toNat, ?_, ?_, ?_, ?_⟩
  · have := hb.2.1; omega
  · have := hb.2.2.1; omega
  · rw [Int.toNat_of_nonneg hb.2.1.1, Int.toNat_of_nonneg hb.2.2.1.1]; exact hb
  · rw [Int.toNat_of_nonneg hb.2.1.1, Int.toNat_of_nonneg hb.2.2.1.1]
    have := hle (q.getD 0 0).toNat (q.getD (q.length - 1) 0).toNat (by rw [Int.toNat_of_nonneg hb.2.1.1, Int.toNat_of_nonneg hb.2.2.1.1]; exact hb)
    rw [Int.toNat_of_nonneg hb.2.1.1, Int.toNat_of_nonneg hb.2.2.1.1] at this
    omega
theorem k_Between_nob (W : List (List Int)) (f l : Int) (b : Bool) (hb : b = false) (h : Side (W.length ≤ 1048577)) (hx : ¬ bbP W f l) : FnIs Try.prog 30 [.agg [.sl 1 []], .int .i64 f, .int .i64 l] 2 [(1, .flat false (.rows 0 0 W.length)), (0, .nestI false .i64 W)] (.tuple [.nilsl, .int .i64 0, .bool b]) 2 [] := by
  subst hb
  exact k_Between_no W f l h hx
theorem k_FnBetween (bs cs : List Int) (hp : Side ((bs.length ≤ 9223372036854775807 ∧ ∀ k ∈ bs, 0 ≤ k ∧ k ≤ 255) ∧ cs.length ≤ 9223372036854775807 ∧ ∀ k ∈ cs, 0 ≤ k ∧ k ≤ 255)) : FnIs Try.prog 10 [.sl 0 [], .sl 1 []] 2 [(1, .flat false (.ints .u8 cs)), (0, .flat false (.ints .u8 bs))] (.bool true) 2 [] := by
  obtain ⟨⟨b1, b2⟩, c1, c2⟩ := hp.h
  have k0 := k_r8Long bs cs ⟨⟨b1, c1⟩⟩
  refine fn_of_evk [0, 1, 4, 5, 6, 7, 8, 9, 10, 11, 12, 13, 14, 15, 16, 17, 18, 19, 20, 21, 22, 23, 26, 104, 113, 118, 136, 146] tok Try.func10 rfl rfl rfl ?_
  by_cases hl : bs.length ≤ 48 ∧ cs.length ≤ 48
  · rw [show (decide (48 < (bs.length : Int)) || decide (48 < (cs.length : Int))) = false by rw [Bool.or_eq_false_iff, decide_eq_false_iff_not, decide_eq_false_iff_not]; omega] at k0
    have hb : bytesOk bs := ⟨Nat.le_trans hl.1 (by decide), b2⟩
    have hc : bytesOk cs := ⟨Nat.le_trans hl.2 (by decide), c2⟩
    repeat' ((conv => whnf); first | done | refine ev_step ?_ | refine ops_step ?_ | refine scan_step ?_ | refine draw_step ?_ | refine each_step ?_ | refine sl_step ?_ | refine hp_step ?_ | refine guard_no (by decide) ?_ | refine guard_go ?_ | refine guard_old ?_ | apply cut_auto | with_reducible exact CutS.mk (Or.inl ⟨rfl, rfl, rfl⟩) | refine CutS.mk (Or.inr (sub_auto ?_)) | exact trivial | refine And.intro ?_ ?_ | (refine cond_split ?_ ?_ <;> intro _ <;> first | (exfalso; first | omega | (simp only [decide_eq_true_eq, decide_eq_false_iff_not, Bool.not_eq_true', Bool.not_eq_false', ne_eq, Bool.not_true, Bool.not_false, cond_true, cond_false, Bool.true_eq_false, Bool.false_eq_true, Bool.and_eq_true, Bool.and_eq_false_iff] at *; omega)) | skip) | apply guess | apply FnIs.useF (k0) | apply FnEx.useF (k_R8Bundle bs ⟨hb⟩) | exact Or.inl rfl | exact Or.inr rfl | exact Side.mk trivial | exact Side.mk (fun h => h) | exact Side.mk (fun h => ⟨h, h⟩) | with_reducible exact Side.mk rfl | with_reducible exact Side.mk ⟨rfl, rfl⟩ | with_reducible exact Side.mk (by assumption) | with_reducible rfl | intro _)
    all_goals try (conv => whnf)
    rename_i W hW
    have hOk := okB_iff.1 hW.1
    apply FnEx.useF (k_R8Order cs W.length ⟨hc, by omega, by omega⟩)
    repeat' ((conv => whnf); first | done | refine ev_step ?_ | refine ops_step ?_ | refine scan_step ?_ | refine draw_step ?_ | refine each_step ?_ | refine sl_step ?_ | refine hp_step ?_ | refine guard_no (by decide) ?_ | refine guard_go ?_ | refine guard_old ?_ | with_reducible exact CutS.mk (Or.inl ⟨rfl, rfl, rfl⟩) | refine CutS.mk (Or.inr (sub_auto ?_)) | exact trivial | refine And.intro ?_ ?_ | refine cond_split ?_ ?_ | apply guess | exact Or.inl rfl | exact Or.inr rfl | exact Side.mk trivial | exact Side.mk (fun h => h) | exact Side.mk (fun h => ⟨h, h⟩) | with_reducible exact Side.mk rfl | with_reducible exact Side.mk ⟨rfl, rfl⟩ | with_reducible exact Side.mk (by assumption) | with_reducible rfl | intro _)
    rename_i o ho
    have hO := isOB_iff.1 ho
    have hol := hO.1
    obtain ⟨f, hf⟩ : ∃ f, o.getD 0 0 = f := ⟨_, rfl⟩
    obtain ⟨l, hlast⟩ : ∃ l, o.getD (o.length - 1) 0 = l := ⟨_, rfl⟩
    have hfr := isO_get hO (i := 0) (by omega)
    have hlr := isO_get hO (i := o.length - 1) (by omega)
    rw [hf] at hfr
    rw [hlast] at hlr
    have hx : bbP W f l := by
      have := ends_bb hOk hO
      rwa [hf, hlast] at this
    obtain ⟨A0, hle, f0, l0, hf0, hl0, hx0, he0⟩ := pairs_ok hOk
    obtain ⟨g0, g1⟩ := between_all hOk hO hf hlast
    obtain ⟨q1, q2, q3, q4⟩ := between_own hOk hfr.1 hlr.1 g0
    have hql := q1.1
    have k1 := k_Between W f l ⟨by omega⟩ hx
    generalize folO W l 0 f = q at *
    generalize begL W l 0 f = v at *
    have e1 : o.getD ((W.length : Int) - 1).toNat 0 = l := by rw [← hlast]; congr 1; omega
    have e2 : q.getD ((W.length : Int) - 1).toNat 0 = l := by rw [← q3]; congr 1; omega
    have e3 : o.getD (0 : Int).toNat 0 = f := hf
    have e4 : q.getD (0 : Int).toNat 0 = f := q2
    have d1 : decide (q.getD (0 : Int).toNat 0 ≠ o.getD (0 : Int).toNat 0) = false := decide_eq_false (by rw [e3, e4]; simp)
    have d2 : decide (q.getD ((W.length : Int) - 1).toNat 0 ≠ o.getD ((W.length : Int) - 1).toNat 0) = false := decide_eq_false (by rw [e1, e2]; simp)
    have d3 : decide (coup W q [] ≠ v) = false := decide_eq_false (by rw [q4]; simp)
    have d4 : decide (coup W o [] < v) = false := decide_eq_false (by omega)
    rw [← e3, ← e1] at k1
    have k4 := k_BestOrder W 0 ⟨by omega⟩ ⟨hOk, by omega, by omega⟩
    rw [show (0 : Int).toNat = 0 from rfl] at k4
    repeat' ((conv => whnf); first | done | refine ev_step ?_ | refine ops_step ?_ | refine scan_step ?_ | refine draw_step ?_ | refine each_step ?_ | refine sl_step ?_ | refine hp_step ?_ | refine guard_no (by decide) ?_ | refine guard_go ?_ | refine guard_old ?_ | apply cut_auto | with_reducible exact CutS.mk (Or.inl ⟨rfl, rfl, rfl⟩) | refine CutS.mk (Or.inr (sub_auto ?_)) | exact trivial | refine And.intro ?_ ?_ | (refine cond_split ?_ ?_ <;> intro hq_ <;> first | (exfalso; first | omega | (simp only [d1, d2, d3, d4, cond_true, cond_false, Bool.not_true, Bool.not_false, Bool.and_true, Bool.true_and, Bool.and_false, Bool.false_and, Bool.or_true, Bool.true_or, Bool.or_false, Bool.false_or, Bool.true_eq_false, Bool.false_eq_true, decide_true, decide_false, reduceCtorEq] at hq_; done) | (rw [decide_eq_false_iff_not] at hq_; omega) | (rw [decide_eq_true_eq] at hq_; omega) | (simp only [d1, d2, d3, d4, reduceCtorEq] at hq_; done) | exact Bool.noConfusion (Eq.trans (Eq.symm d1) hq_) | exact Bool.noConfusion (Eq.trans (Eq.symm d2) hq_) | exact Bool.noConfusion (Eq.trans (Eq.symm d3) hq_) | exact Bool.noConfusion (Eq.trans (Eq.symm d4) hq_)) | skip) | apply guess | apply FnIs.useF (k1) | apply FnIs.useF (k_CoupOk2 _ _ _) | apply FnIs.useF (k4) | exact Or.inl rfl | exact Or.inr rfl | exact Side.mk trivial | exact Side.mk (fun h => h) | exact Side.mk (fun h => ⟨h, h⟩) | with_reducible exact Side.mk rfl | with_reducible exact Side.mk ⟨rfl, rfl⟩ | with_reducible exact Side.mk (by assumption) | with_reducible rfl | intro _)
    all_goals try (conv => whnf)
    all_goals try (refine Side.mk ?_; first | (intros; omega) | (intro h1_ h2_; rw [h1_, h2_]; rfl) | (show List.length (_ ++ _) ≤ _; simp only [List.length_append, List.length_cons, List.length_nil, List.length_replicate, List.length_take]; omega) | (simp_all; done) | (simp_all; omega))
    all_goals try exact Side.mk ⟨hW.1, ho⟩
    all_goals try exact Side.mk ⟨hW.1, isOB_iff.2 q1⟩
    clear k1 d1 d2 d3 d4
    generalize begL W (-1) 0 (-1) = A at *
    refine loop_at (fun a : Nat × Int => a.1 ≤ W.length ∧ FoundP A f0 l0 a.1 0 a.2) 10 (fun a => [(19, .int .i64 a.1), (18, .int .i64 a.2), (20, .top), (21, .top), (22, .top), (23, .top), (113, .top), (118, .top), (136, .top), (146, .top)]) (fun a => []) (fun a => W.length - a.1) (0, -1) ⟨Nat.zero_le _, .inl rfl, fun h => by omega⟩ ?_ (fun a ha => ?_)
    · repeat' ((conv => whnf); first | done | refine ev_step ?_ | refine ops_step ?_ | refine scan_step ?_ | refine draw_step ?_ | refine each_step ?_ | refine sl_step ?_ | refine hp_step ?_ | refine guard_no (by decide) ?_ | refine guard_go ?_ | refine guard_old ?_ | apply cut_auto | with_reducible exact CutS.mk (Or.inl ⟨rfl, rfl, rfl⟩) | refine CutS.mk (Or.inr (sub_auto ?_)) | exact trivial | refine And.intro ?_ ?_ | refine cond_split ?_ ?_ | apply guess | exact Or.inl rfl | exact Or.inr rfl | exact Side.mk trivial | exact Side.mk (fun h => h) | exact Side.mk (fun h => ⟨h, h⟩) | with_reducible exact Side.mk rfl | with_reducible exact Side.mk ⟨rfl, rfl⟩ | with_reducible exact Side.mk (by assumption) | with_reducible rfl | intro _)
      all_goals try (conv => whnf)
      all_goals first | rfl | trace_state
    · obtain ⟨i, x⟩ := a
      obtain ⟨hi, hF⟩ := ha
      dsimp only at hi hF ⊢
      by_cases hlt : i < W.length
      · repeat' ((conv => whnf); first | done | refine ev_step ?_ | refine ops_step ?_ | refine scan_step ?_ | refine draw_step ?_ | refine each_step ?_ | refine sl_step ?_ | refine hp_step ?_ | refine guard_no (by decide) ?_ | refine guard_go ?_ | refine guard_old ?_ | apply cut_auto | with_reducible exact CutS.mk (Or.inl ⟨rfl, rfl, rfl⟩) | refine CutS.mk (Or.inr (sub_auto ?_)) | exact trivial | refine And.intro ?_ ?_ | (refine cond_split ?_ ?_ <;> intro _ <;> first | (exfalso; first | omega | (simp only [decide_eq_true_eq, decide_eq_false_iff_not, Bool.not_eq_true', Bool.not_eq_false', ne_eq, Bool.not_true, Bool.not_false, cond_true, cond_false, Bool.true_eq_false, Bool.false_eq_true, Bool.and_eq_true, Bool.and_eq_false_iff] at *; omega)) | skip) | apply guess | exact Or.inl rfl | exact Or.inr rfl | exact Side.mk trivial | exact Side.mk (fun h => h) | exact Side.mk (fun h => ⟨h, h⟩) | with_reducible exact Side.mk rfl | with_reducible exact Side.mk ⟨rfl, rfl⟩ | with_reducible exact Side.mk (by assumption) | with_reducible rfl | intro _)
        all_goals try (conv => whnf)
        all_goals try (refine Side.mk ?_; first | (intros; omega) | (intro h1_ h2_; rw [h1_, h2_]; rfl) | (show List.length (_ ++ _) ≤ _; simp only [List.length_append, List.length_cons, List.length_nil, List.length_replicate, List.length_take]; omega) | (simp_all; done) | (simp_all; omega))
        refine loop_at (fun a : Nat × Int => a.1 ≤ W.length ∧ FoundP A f0 l0 i a.1 a.2) 10 (fun a => [(20, .int .i64 a.1), (18, .int .i64 a.2), (21, .top), (22, .top), (23, .top), (118, .top), (136, .top), (146, .top)]) (fun a => []) (fun a => W.length - a.1) (0, x) ⟨Nat.zero_le _, hF⟩ ?_ (fun a ha => ?_)
        · repeat' ((conv => whnf); first | done | refine ev_step ?_ | refine ops_step ?_ | refine scan_step ?_ | refine draw_step ?_ | refine each_step ?_ | refine sl_step ?_ | refine hp_step ?_ | refine guard_no (by decide) ?_ | refine guard_go ?_ | refine guard_old ?_ | apply cut_auto | with_reducible exact CutS.mk (Or.inl ⟨rfl, rfl, rfl⟩) | refine CutS.mk (Or.inr (sub_auto ?_)) | exact trivial | refine And.intro ?_ ?_ | refine cond_split ?_ ?_ | apply guess | exact Or.inl rfl | exact Or.inr rfl | exact Side.mk trivial | exact Side.mk (fun h => h) | exact Side.mk (fun h => ⟨h, h⟩) | with_reducible exact Side.mk rfl | with_reducible exact Side.mk ⟨rfl, rfl⟩ | with_reducible exact Side.mk (by assumption) | with_reducible rfl | intro _)
          all_goals try (conv => whnf)
          all_goals first | rfl | trace_state
        · obtain ⟨j, y⟩ := a
          obtain ⟨hj, hG⟩ := ha
          dsimp only at hj hG ⊢
          by_cases hlt2 : j < W.length
          · by_cases hb : ((i : Int) = (j : Int) ↔ W.length = 1)
            · have hx2 : bbP W i j := ⟨hOk, ⟨by omega, by omega⟩, ⟨by omega, by omega⟩, hb⟩
              have k1 := k_Between W i j ⟨by omega⟩ hx2
              have hle2 := hle i j hx2
              have heq : f0 = i → l0 = j → begL W j 0 i = A := fun e1 e2 => by rw [← e1, ← e2]; exact he0
              generalize folO W j 0 i = q2 at k1
              generalize begL W j 0 i = v2 at *
              have d5 : (!(true == (decide ((i : Int) = (j : Int)) == decide ((W.length : Int) = 1)))) = false := by
                by_cases h1 : (i : Int) = j
                · have := hb.1 h1
                  rw [decide_eq_true h1, decide_eq_true (by omega)]; rfl
                · have : ¬ W.length = 1 := fun h => h1 (hb.2 h)
                  rw [decide_eq_false h1, decide_eq_false (by omega)]; rfl
              by_cases hq : y < 0 ∨ v2 < y
              · have d6 : (bif decide (y < 0) then true else decide (v2 < y)) = true := by
                  rcases hq with h | h
                  · rw [decide_eq_true h]; rfl
                  · rw [decide_eq_true h]; cases decide (y < 0) <;> rfl
                repeat' ((conv => whnf); first | done | refine ev_step ?_ | refine ops_step ?_ | refine scan_step ?_ | refine draw_step ?_ | refine each_step ?_ | refine sl_step ?_ | refine hp_step ?_ | refine guard_no (by decide) ?_ | refine guard_go ?_ | refine guard_old ?_ | apply cut_auto | with_reducible exact CutS.mk (Or.inl ⟨rfl, rfl, rfl⟩) | refine CutS.mk (Or.inr (sub_auto ?_)) | exact trivial | refine And.intro ?_ ?_ | (refine cond_split ?_ ?_ <;> intro hq_ <;> first | (exfalso; first | omega | (simp only [d5, d6, cond_true, cond_false, Bool.not_true, Bool.not_false, Bool.and_true, Bool.true_and, Bool.and_false, Bool.false_and, Bool.or_true, Bool.true_or, Bool.or_false, Bool.false_or, Bool.true_eq_false, Bool.false_eq_true, decide_true, decide_false, reduceCtorEq] at hq_; done) | (rw [decide_eq_false_iff_not] at hq_; omega) | (rw [decide_eq_true_eq] at hq_; omega) | (simp only [d5, d6, reduceCtorEq] at hq_; done) | exact Bool.noConfusion (Eq.trans (Eq.symm d5) hq_) | exact Bool.noConfusion (Eq.trans (Eq.symm d6) hq_)) | skip) | apply guess | apply FnIs.useF (k1) | exact Or.inl rfl | exact Or.inr rfl | exact Side.mk trivial | exact Side.mk (fun h => h) | exact Side.mk (fun h => ⟨h, h⟩) | with_reducible exact Side.mk rfl | with_reducible exact Side.mk ⟨rfl, rfl⟩ | with_reducible exact Side.mk (by assumption) | with_reducible rfl | intro _)
                all_goals try (conv => whnf)
                all_goals try (refine Side.mk ?_; first | (intros; omega) | (intro h1_ h2_; rw [h1_, h2_]; rfl) | (show List.length (_ ++ _) ≤ _; simp only [List.length_append, List.length_cons, List.length_nil, List.length_replicate, List.length_take]; omega) | (simp_all; done) | (simp_all; omega))
                refine ⟨(j + 1, v2), ⟨by dsimp only; omega, hG.take A0 hle2 heq hq⟩, by dsimp only; omega, ?_⟩
                repeat' ((conv => whnf); first | done | refine ev_step ?_ | refine ops_step ?_ | refine scan_step ?_ | refine draw_step ?_ | refine each_step ?_ | refine sl_step ?_ | refine hp_step ?_ | refine guard_no (by decide) ?_ | refine guard_go ?_ | refine guard_old ?_ | apply cut_auto | with_reducible exact CutS.mk (Or.inl ⟨rfl, rfl, rfl⟩) | refine CutS.mk (Or.inr (sub_auto ?_)) | exact trivial | refine And.intro ?_ ?_ | refine cond_split ?_ ?_ | apply guess | exact Or.inl rfl | exact Or.inr rfl | exact Side.mk trivial | exact Side.mk (fun h => h) | exact Side.mk (fun h => ⟨h, h⟩) | with_reducible exact Side.mk rfl | with_reducible exact Side.mk ⟨rfl, rfl⟩ | with_reducible exact Side.mk (by assumption) | with_reducible rfl | intro _)
                all_goals try (conv => whnf)
                all_goals first | rfl | omega | trace_state
              · have d6 : (bif decide (y < 0) then true else decide (v2 < y)) = false := by
                  rw [decide_eq_false (fun h => hq (.inl h)), decide_eq_false (fun h => hq (.inr h))]; rfl
                repeat' ((conv => whnf); first | done | refine ev_step ?_ | refine ops_step ?_ | refine scan_step ?_ | refine draw_step ?_ | refine each_step ?_ | refine sl_step ?_ | refine hp_step ?_ | refine guard_no (by decide) ?_ | refine guard_go ?_ | refine guard_old ?_ | apply cut_auto | with_reducible exact CutS.mk (Or.inl ⟨rfl, rfl, rfl⟩) | refine CutS.mk (Or.inr (sub_auto ?_)) | exact trivial | refine And.intro ?_ ?_ | (refine cond_split ?_ ?_ <;> intro hq_ <;> first | (exfalso; first | omega | (simp only [d5, d6, cond_true, cond_false, Bool.not_true, Bool.not_false, Bool.and_true, Bool.true_and, Bool.and_false, Bool.false_and, Bool.or_true, Bool.true_or, Bool.or_false, Bool.false_or, Bool.true_eq_false, Bool.false_eq_true, decide_true, decide_false, reduceCtorEq] at hq_; done) | (rw [decide_eq_false_iff_not] at hq_; omega) | (rw [decide_eq_true_eq] at hq_; omega) | (simp only [d5, d6, reduceCtorEq] at hq_; done) | exact Bool.noConfusion (Eq.trans (Eq.symm d5) hq_) | exact Bool.noConfusion (Eq.trans (Eq.symm d6) hq_)) | skip) | apply guess | apply FnIs.useF (k1) | exact Or.inl rfl | exact Or.inr rfl | exact Side.mk trivial | exact Side.mk (fun h => h) | exact Side.mk (fun h => ⟨h, h⟩) | with_reducible exact Side.mk rfl | with_reducible exact Side.mk ⟨rfl, rfl⟩ | with_reducible exact Side.mk (by assumption) | with_reducible rfl | intro _)
                all_goals try (conv => whnf)
                all_goals try (refine Side.mk ?_; first | (intros; omega) | (intro h1_ h2_; rw [h1_, h2_]; rfl) | (show List.length (_ ++ _) ≤ _; simp only [List.length_append, List.length_cons, List.length_nil, List.length_replicate, List.length_take]; omega) | (simp_all; done) | (simp_all; omega))
                refine ⟨(j + 1, y), ⟨by dsimp only; omega, hG.pass hle2 heq hq⟩, by dsimp only; omega, ?_⟩
                repeat' ((conv => whnf); first | done | refine ev_step ?_ | refine ops_step ?_ | refine scan_step ?_ | refine draw_step ?_ | refine each_step ?_ | refine sl_step ?_ | refine hp_step ?_ | refine guard_no (by decide) ?_ | refine guard_go ?_ | refine guard_old ?_ | apply cut_auto | with_reducible exact CutS.mk (Or.inl ⟨rfl, rfl, rfl⟩) | refine CutS.mk (Or.inr (sub_auto ?_)) | exact trivial | refine And.intro ?_ ?_ | refine cond_split ?_ ?_ | apply guess | exact Or.inl rfl | exact Or.inr rfl | exact Side.mk trivial | exact Side.mk (fun h => h) | exact Side.mk (fun h => ⟨h, h⟩) | with_reducible exact Side.mk rfl | with_reducible exact Side.mk ⟨rfl, rfl⟩ | with_reducible exact Side.mk (by assumption) | with_reducible rfl | intro _)
                all_goals try (conv => whnf)
                all_goals first | rfl | omega | trace_state
            · obtain ⟨b, hbf⟩ : ∃ b : Bool, b = false := ⟨_, rfl⟩
              have k1 := k_Between_nob W i j b hbf ⟨by omega⟩ (fun h => hb h.2.2.2)
              have d8 : (bif b then (bif decide (y < 0) then true else decide (0 < y)) else false) = false := by rw [hbf]; rfl
              have d5 : (!(b == (decide ((i : Int) = (j : Int)) == decide ((W.length : Int) = 1)))) = false := by
                rw [hbf]
                by_cases h1 : (i : Int) = j
                · have : ¬ W.length = 1 := fun h => hb ⟨fun _ => h, fun _ => h1⟩
                  rw [decide_eq_true h1, decide_eq_false (by omega)]; rfl
                · have : W.length = 1 := Classical.byContradiction fun h => hb ⟨fun h' => absurd h' h1, fun h' => absurd h' h⟩
                  rw [decide_eq_false h1, decide_eq_true (by omega)]; rfl
              repeat' ((conv => whnf); first | done | refine ev_step ?_ | refine ops_step ?_ | refine scan_step ?_ | refine draw_step ?_ | refine each_step ?_ | refine sl_step ?_ | refine hp_step ?_ | refine guard_no (by decide) ?_ | refine guard_go ?_ | refine guard_old ?_ | apply cut_auto | with_reducible exact CutS.mk (Or.inl ⟨rfl, rfl, rfl⟩) | refine CutS.mk (Or.inr (sub_auto ?_)) | exact trivial | refine And.intro ?_ ?_ | (refine cond_split ?_ ?_ <;> intro hq_ <;> first | (exfalso; first | omega | (simp only [d5, d8, cond_true, cond_false, Bool.not_true, Bool.not_false, Bool.and_true, Bool.true_and, Bool.and_false, Bool.false_and, Bool.or_true, Bool.true_or, Bool.or_false, Bool.false_or, Bool.true_eq_false, Bool.false_eq_true, decide_true, decide_false, reduceCtorEq] at hq_; done) | (rw [decide_eq_false_iff_not] at hq_; omega) | (rw [decide_eq_true_eq] at hq_; omega) | (simp only [d5, d8, reduceCtorEq] at hq_; done) | exact Bool.noConfusion (Eq.trans (Eq.symm d5) hq_) | exact Bool.noConfusion (Eq.trans (Eq.symm d8) hq_)) | skip) | apply guess | apply FnIs.useF (k1) | exact Or.inl rfl | exact Or.inr rfl | exact Side.mk trivial | exact Side.mk (fun h => h) | exact Side.mk (fun h => ⟨h, h⟩) | with_reducible exact Side.mk rfl | with_reducible exact Side.mk ⟨rfl, rfl⟩ | with_reducible exact Side.mk (by assumption) | with_reducible rfl | intro _)
              all_goals try (conv => whnf)
              all_goals try (refine Side.mk ?_; first | (intros; omega) | (intro h1_ h2_; rw [h1_, h2_]; rfl) | (show List.length (_ ++ _) ≤ _; simp only [List.length_append, List.length_cons, List.length_nil, List.length_replicate, List.length_take]; omega) | (simp_all; done) | (simp_all; omega))
              refine ⟨(j + 1, y), ⟨by dsimp only; omega, hG.skip (fun e => hb (by rw [← e.1, ← e.2]; exact hx0.2.2.2))⟩, by dsimp only; omega, ?_⟩
              repeat' ((conv => whnf); first | done | refine ev_step ?_ | refine ops_step ?_ | refine scan_step ?_ | refine draw_step ?_ | refine each_step ?_ | refine sl_step ?_ | refine hp_step ?_ | refine guard_no (by decide) ?_ | refine guard_go ?_ | refine guard_old ?_ | apply cut_auto | with_reducible exact CutS.mk (Or.inl ⟨rfl, rfl, rfl⟩) | refine CutS.mk (Or.inr (sub_auto ?_)) | exact trivial | refine And.intro ?_ ?_ | refine cond_split ?_ ?_ | apply guess | exact Or.inl rfl | exact Or.inr rfl | exact Side.mk trivial | exact Side.mk (fun h => h) | exact Side.mk (fun h => ⟨h, h⟩) | with_reducible exact Side.mk rfl | with_reducible exact Side.mk ⟨rfl, rfl⟩ | with_reducible exact Side.mk (by assumption) | with_reducible rfl | intro _)
              all_goals try (conv => whnf)
              all_goals first | rfl | omega | trace_state
          · obtain rfl : j = W.length := by omega
            repeat' ((conv => whnf); first | done | refine ev_step ?_ | refine ops_step ?_ | refine scan_step ?_ | refine draw_step ?_ | refine each_step ?_ | refine sl_step ?_ | refine hp_step ?_ | refine guard_no (by decide) ?_ | refine guard_go ?_ | refine guard_old ?_ | apply cut_auto | with_reducible exact CutS.mk (Or.inl ⟨rfl, rfl, rfl⟩) | refine CutS.mk (Or.inr (sub_auto ?_)) | exact trivial | refine And.intro ?_ ?_ | (refine cond_split ?_ ?_ <;> intro _ <;> first | (exfalso; first | omega | (simp only [decide_eq_true_eq, decide_eq_false_iff_not, Bool.not_eq_true', Bool.not_eq_false', ne_eq, Bool.not_true, Bool.not_false, cond_true, cond_false, Bool.true_eq_false, Bool.false_eq_true, Bool.and_eq_true, Bool.and_eq_false_iff] at *; omega)) | skip) | apply guess | exact Or.inl rfl | exact Or.inr rfl | exact Side.mk trivial | exact Side.mk (fun h => h) | exact Side.mk (fun h => ⟨h, h⟩) | with_reducible exact Side.mk rfl | with_reducible exact Side.mk ⟨rfl, rfl⟩ | with_reducible exact Side.mk (by assumption) | with_reducible rfl | intro _)
            all_goals try (conv => whnf)
            all_goals try (refine Side.mk ?_; first | (intros; omega) | (intro h1_ h2_; rw [h1_, h2_]; rfl) | (show List.length (_ ++ _) ≤ _; simp only [List.length_append, List.length_cons, List.length_nil, List.length_replicate, List.length_take]; omega) | (simp_all; done) | (simp_all; omega))
            refine ⟨(i + 1, y), ⟨by dsimp only; omega, hG.row hl0⟩, by dsimp only; omega, ?_⟩
            repeat' ((conv => whnf); first | done | refine ev_step ?_ | refine ops_step ?_ | refine scan_step ?_ | refine draw_step ?_ | refine each_step ?_ | refine sl_step ?_ | refine hp_step ?_ | refine guard_no (by decide) ?_ | refine guard_go ?_ | refine guard_old ?_ | apply cut_auto | with_reducible exact CutS.mk (Or.inl ⟨rfl, rfl, rfl⟩) | refine CutS.mk (Or.inr (sub_auto ?_)) | exact trivial | refine And.intro ?_ ?_ | refine cond_split ?_ ?_ | apply guess | exact Or.inl rfl | exact Or.inr rfl | exact Side.mk trivial | exact Side.mk (fun h => h) | exact Side.mk (fun h => ⟨h, h⟩) | with_reducible exact Side.mk rfl | with_reducible exact Side.mk ⟨rfl, rfl⟩ | with_reducible exact Side.mk (by assumption) | with_reducible rfl | intro _)
            all_goals try (conv => whnf)
            all_goals first | rfl | omega | trace_state
      · have hxA := hF.at0 (.inl (by omega))
        subst hxA
        repeat' ((conv => whnf); first | done | refine ev_step ?_ | refine ops_step ?_ | refine scan_step ?_ | refine draw_step ?_ | refine each_step ?_ | refine sl_step ?_ | refine hp_step ?_ | refine guard_no (by decide) ?_ | refine guard_go ?_ | refine guard_old ?_ | apply cut_auto | with_reducible exact CutS.mk (Or.inl ⟨rfl, rfl, rfl⟩) | refine CutS.mk (Or.inr (sub_auto ?_)) | exact trivial | refine And.intro ?_ ?_ | (refine cond_split ?_ ?_ <;> intro _ <;> first | (exfalso; first | omega | (simp only [decide_eq_true_eq, decide_eq_false_iff_not, Bool.not_eq_true', Bool.not_eq_false', ne_eq, Bool.not_true, Bool.not_false, cond_true, cond_false, Bool.true_eq_false, Bool.false_eq_true, Bool.and_eq_true, Bool.and_eq_false_iff] at *; omega)) | skip) | apply guess | exact Or.inl rfl | exact Or.inr rfl | exact Side.mk trivial | exact Side.mk (fun h => h) | exact Side.mk (fun h => ⟨h, h⟩) | with_reducible exact Side.mk rfl | with_reducible exact Side.mk ⟨rfl, rfl⟩ | with_reducible exact Side.mk (by assumption) | with_reducible rfl | intro _)
        all_goals try (conv => whnf)
        all_goals try (refine Side.mk ?_; first | (intros; omega) | (intro h1_ h2_; rw [h1_, h2_]; rfl) | (show List.length (_ ++ _) ≤ _; simp only [List.length_append, List.length_cons, List.length_nil, List.length_replicate, List.length_take]; omega) | (simp_all; done) | (simp_all; omega))
        all_goals first | rfl | omega | (simp; done) | trace_state
  · rw [show (decide (48 < (bs.length : Int)) || decide (48 < (cs.length : Int))) = true by rw [Bool.or_eq_true, decide_eq_true_eq, decide_eq_true_eq]; omega] at k0
    repeat' ((conv => whnf); first | done | refine ev_step ?_ | refine ops_step ?_ | refine scan_step ?_ | refine draw_step ?_ | refine each_step ?_ | refine sl_step ?_ | refine hp_step ?_ | refine guard_no (by decide) ?_ | refine guard_go ?_ | refine guard_old ?_ | apply cut_auto | with_reducible exact CutS.mk (Or.inl ⟨rfl, rfl, rfl⟩) | refine CutS.mk (Or.inr (sub_auto ?_)) | exact trivial | refine And.intro ?_ ?_ | (refine cond_split ?_ ?_ <;> intro _ <;> first | (exfalso; first | omega | (simp only [decide_eq_true_eq, decide_eq_false_iff_not, Bool.not_eq_true', Bool.not_eq_false', ne_eq, Bool.not_true, Bool.not_false, cond_true, cond_false, Bool.true_eq_false, Bool.false_eq_true, Bool.and_eq_true, Bool.and_eq_false_iff] at *; omega)) | skip) | apply guess | apply FnIs.useF (k0) | exact Or.inl rfl | exact Or.inr rfl | exact Side.mk trivial | exact Side.mk (fun h => h) | exact Side.mk (fun h => ⟨h, h⟩) | with_reducible exact Side.mk rfl | with_reducible exact Side.mk ⟨rfl, rfl⟩ | with_reducible exact Side.mk (by assumption) | with_reducible rfl | intro _)
    all_goals try (conv => whnf)
    all_goals first | rfl | trace_state
end Go.Sx.U
