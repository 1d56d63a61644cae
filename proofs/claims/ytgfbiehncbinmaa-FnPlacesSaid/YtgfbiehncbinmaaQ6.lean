/-
  Chapter 9: rules of shapes; pressed shapes.
-/
import Derived.Test.YtgfbiehncbinmaaQ5
import Derived.Test.YtgfbiehncbinmaaQ2
namespace Go.Sx.U
set_option linter.unusedVariables false
set_option linter.unusedSimpArgs false
set_option maxRecDepth 100000
set_option maxHeartbeats 8000000
open Go Go.Sx Go.Sx.M9 Go.Proofs
set_option maxHeartbeats 2000000
set_option maxRecDepth 100000

theorem fill_set {α : Type} {f : Nat → α} {xs : List α} {i : Nat} {v : α} (hv : v = f i) (h : i < xs.length) : ((List.range i).map f ++ xs.drop i).set i v = (List.range (i + 1)).map f ++ xs.drop (i + 1) := by
  subst hv
  rw [List.set_append_right _ _ (by simp), List.length_map, List.length_range, Nat.sub_self, List.drop_eq_getElem_cons h, List.set_cons_zero]
  simp [List.range_succ]
theorem fill_get {α : Type} {f : Nat → α} {xs : List α} {i : Nat} {d : α} (h : i < xs.length) : ((List.range i).map f ++ xs.drop i).getD i d = xs.getD i d := by
  simp [List.getD, List.getElem?_append]
theorem fill_len {α : Type} (f : Nat → α) {xs : List α} {i : Nat} (h : i ≤ xs.length) : ((List.range i).map f ++ xs.drop i).length = xs.length := by
  simp; omega

def pairR (ap : Int) (xs : List R4) (i k : Nat) : List R3 :=
  if (xs.getD i default).a < (xs.getD k default).a ∧ meet1 (xs.getD i default).b (xs.getD i default).d (xs.getD k default).b (xs.getD k default).d = true then [⟨i, k, (xs.getD i default).c + ap⟩] else []
def rowR (ap : Int) (xs : List R4) (i k : Nat) : List R3 := (List.range k).flatMap (pairR ap xs i)
def rulesR (ap : Int) (xs : List R4) (i : Nat) : List R3 := (List.range i).flatMap fun i => rowR ap xs i xs.length
theorem rowR_zero (ap : Int) (xs : List R4) (i : Nat) : rowR ap xs i 0 = [] := rfl
theorem rowR_succ (ap : Int) (xs : List R4) (i k : Nat) : rowR ap xs i (k + 1) = rowR ap xs i k ++ pairR ap xs i k := by
  simp [rowR, List.range_succ]
theorem rulesR_succ (ap : Int) (xs : List R4) (i : Nat) : rulesR ap xs (i + 1) = rulesR ap xs i ++ rowR ap xs i xs.length := by
  simp [rulesR, List.range_succ]
theorem pairR_len (ap : Int) (xs : List R4) (i k : Nat) : (pairR ap xs i k).length ≤ 1 := by
  unfold pairR; split <;> simp
theorem rowR_len (ap : Int) (xs : List R4) (i : Nat) : ∀ k, (rowR ap xs i k).length ≤ k
  | 0 => by simp [rowR_zero]
  | k + 1 => by
    have := rowR_len ap xs i k
    have := pairR_len ap xs i k
    rw [rowR_succ, List.length_append]; omega
theorem rulesR_len (ap : Int) (xs : List R4) : ∀ i, (rulesR ap xs i).length ≤ i * xs.length
  | 0 => by simp [rulesR]
  | i + 1 => by
    have := rulesR_len ap xs i
    have := rowR_len ap xs i xs.length
    rw [rulesR_succ, List.length_append, Nat.add_mul]; omega
theorem pairR_yes {ap : Int} {xs : List R4} {i k : Nat} (h : (xs.getD i default).a < (xs.getD k default).a) (h2 : meet1 (xs.getD i default).b (xs.getD i default).d (xs.getD k default).b (xs.getD k default).d = true) : pairR ap xs i k = [⟨i, k, (xs.getD i default).c + ap⟩] := if_pos ⟨h, h2⟩
theorem pairR_no {ap : Int} {xs : List R4} {i k : Nat} (h : ¬ ((xs.getD i default).a < (xs.getD k default).a ∧ meet1 (xs.getD i default).b (xs.getD i default).d (xs.getD k default).b (xs.getD k default).d = true)) : pairR ap xs i k = [] := if_neg h
theorem okShapes_bd {xs : List R4} (h : okShapes xs = true) : 1 ≤ xs.length ∧ xs.length ≤ 12 ∧ ∀ i, i < xs.length → okShape (xs.getD i default) = true := by
  simp only [okShapes, Bool.and_eq_true, decide_eq_true_eq] at h
  exact ⟨h.2.1, h.2.2, fun i hi => okAt_shape h.1 hi⟩

/-- The rules of shapes, if they are right. -/
def shapeOk (ap : Int) (xs : List R4) : Bool := okShapes xs && (decide (0 ≤ ap) && decide (ap ≤ 1000)) && okPress xs.length (rulesR ap xs xs.length)
theorem c55 (xs : List R4) (ap : Int) (h : Side (xs.length ≤ 1048577)) : FnIs Try.prog 35 [.sl 0 [], .int .i64 ap] 1 [(0, .flat false (.r4 xs))] (.tuple [.agg [.int .i64 (if shapeOk ap xs = true then xs.length else 0), .sl 1 []], .bool (shapeOk ap xs)]) 2 [(1, .flat true (.r3 (if shapeOk ap xs = true then rulesR ap xs xs.length else [])))] := by
  have := h.h
  have k1 := c52 xs h
  have k2 := c68 ap 0 1000
  refine fn_of_ev tok Try.func35 rfl rfl rfl ?_
  cases hx : okShapes xs with
  | false =>
    rw [hx] at k1
    rw [show shapeOk ap xs = false by rw [shapeOk, hx]; rfl]
    repeat' ((conv => whnf); first | done | refine ev_step ?_ | refine ops_step ?_ | refine scan_step ?_ | refine draw_step ?_ | refine each_step ?_ | refine sl_step ?_ | refine hp_step ?_ | refine guard_no (by decide) ?_ | refine guard_go ?_ | refine guard_old ?_ | apply cut_auto | with_reducible exact CutS.mk (Or.inl ⟨rfl, rfl, rfl⟩) | refine CutS.mk (Or.inr (sub_auto ?_)) | exact trivial | refine And.intro ?_ ?_ | refine cond_split ?_ ?_ | apply guess | apply FnIs.useF (k1) | apply FnIs.useF (k2) | exact Or.inl rfl | exact Or.inr rfl | exact Side.mk trivial | exact Side.mk (fun h => h) | exact Side.mk (fun h => ⟨h, h⟩) | with_reducible exact Side.mk rfl | with_reducible exact Side.mk ⟨rfl, rfl⟩ | with_reducible exact Side.mk (by assumption) | with_reducible rfl | intro _)
    all_goals try (conv => whnf)
    all_goals first | done | rfl | exact Side.mk rfl | (refine Side.mk ?_; simp; done) | (refine Side.mk ?_; intros; simp_all; done)
  | true =>
    rw [hx] at k1
    cases ha : (decide (0 ≤ ap) && decide (ap ≤ 1000)) with
    | false =>
      rw [ha] at k2
      rw [show shapeOk ap xs = false by rw [shapeOk, hx, ha]; rfl]
      repeat' ((conv => whnf); first | done | refine ev_step ?_ | refine ops_step ?_ | refine scan_step ?_ | refine draw_step ?_ | refine each_step ?_ | refine sl_step ?_ | refine hp_step ?_ | refine guard_no (by decide) ?_ | refine guard_go ?_ | refine guard_old ?_ | apply cut_auto | with_reducible exact CutS.mk (Or.inl ⟨rfl, rfl, rfl⟩) | refine CutS.mk (Or.inr (sub_auto ?_)) | exact trivial | refine And.intro ?_ ?_ | refine cond_split ?_ ?_ | apply guess | apply FnIs.useF (k1) | apply FnIs.useF (k2) | exact Or.inl rfl | exact Or.inr rfl | exact Side.mk trivial | exact Side.mk (fun h => h) | exact Side.mk (fun h => ⟨h, h⟩) | with_reducible exact Side.mk rfl | with_reducible exact Side.mk ⟨rfl, rfl⟩ | with_reducible exact Side.mk (by assumption) | with_reducible rfl | intro _)
      all_goals try (conv => whnf)
      all_goals first | done | rfl | exact Side.mk rfl | (refine Side.mk ?_; simp; done) | (refine Side.mk ?_; intros; simp_all; done)
    | true =>
      rw [ha] at k2
      have h2 := ha
      simp only [Bool.and_eq_true, decide_eq_true_eq] at h2
      obtain ⟨l1, l2, hs⟩ := okShapes_bd hx
      have hr := rulesR_len ap xs xs.length
      have hr2 : xs.length * xs.length ≤ 12 * 12 := Nat.mul_le_mul l2 l2
      have k4 := c22 xs.length (rulesR ap xs xs.length) ⟨⟨by unfold inI64; omega, by omega⟩⟩
      repeat' ((conv => whnf); first | done | refine ev_step ?_ | refine ops_step ?_ | refine scan_step ?_ | refine draw_step ?_ | refine each_step ?_ | refine sl_step ?_ | refine hp_step ?_ | refine guard_no (by decide) ?_ | refine guard_go ?_ | refine guard_old ?_ | apply cut_auto | with_reducible exact CutS.mk (Or.inl ⟨rfl, rfl, rfl⟩) | refine CutS.mk (Or.inr (sub_auto ?_)) | exact trivial | refine And.intro ?_ ?_ | refine cond_split ?_ ?_ | apply guess | apply FnIs.useF (k1) | apply FnIs.useF (k2) | exact Or.inl rfl | exact Or.inr rfl | exact Side.mk trivial | exact Side.mk (fun h => h) | exact Side.mk (fun h => ⟨h, h⟩) | with_reducible exact Side.mk rfl | with_reducible exact Side.mk ⟨rfl, rfl⟩ | with_reducible exact Side.mk (by assumption) | with_reducible rfl | intro _)
      all_goals try (conv => whnf)
      all_goals try (refine Side.mk ?_; first | (intros; omega) | (intro h1_ h2_; rw [h1_, h2_]; rfl) | (show List.length (_ ++ _) ≤ _; simp only [List.length_append, List.length_cons, List.length_nil, List.length_replicate, List.length_take]; omega) | (simp_all; done) | (simp_all; omega))
      refine loop_at (fun i : Nat => i ≤ xs.length) 4 (fun i => [(25, .int .i64 i)]) (fun i => [(2, .flat true (.gen 2 [[.int .i64 xs.length, .sl 3 []]])), (3, .flat true (.r3 (rulesR ap xs i)))]) (fun i => xs.length - i) 0 (Nat.zero_le _) ?_ (fun i hi => ?_)
      · repeat' ((conv => whnf); first | done | refine ev_step ?_ | refine ops_step ?_ | refine scan_step ?_ | refine draw_step ?_ | refine each_step ?_ | refine sl_step ?_ | refine hp_step ?_ | refine guard_no (by decide) ?_ | refine guard_go ?_ | refine guard_old ?_ | apply cut_auto | with_reducible exact CutS.mk (Or.inl ⟨rfl, rfl, rfl⟩) | refine CutS.mk (Or.inr (sub_auto ?_)) | exact trivial | refine And.intro ?_ ?_ | refine cond_split ?_ ?_ | apply guess | exact Or.inl rfl | exact Or.inr rfl | exact Side.mk trivial | exact Side.mk (fun h => h) | exact Side.mk (fun h => ⟨h, h⟩) | with_reducible exact Side.mk rfl | with_reducible exact Side.mk ⟨rfl, rfl⟩ | with_reducible exact Side.mk (by assumption) | with_reducible rfl | intro _)
        all_goals try (conv => whnf)
        all_goals first | rfl | simp [rulesR]
      · by_cases hlt : i < xs.length
        · repeat' ((conv => whnf); first | done | refine ev_step ?_ | refine ops_step ?_ | refine scan_step ?_ | refine draw_step ?_ | refine each_step ?_ | refine sl_step ?_ | refine hp_step ?_ | refine guard_no (by decide) ?_ | refine guard_go ?_ | refine guard_old ?_ | apply cut_auto | with_reducible exact CutS.mk (Or.inl ⟨rfl, rfl, rfl⟩) | refine CutS.mk (Or.inr (sub_auto ?_)) | exact trivial | refine And.intro ?_ ?_ | (refine cond_split ?_ ?_ <;> intro _ <;> first | (exfalso; first | omega | (simp only [decide_eq_true_eq, decide_eq_false_iff_not, Bool.not_eq_true', Bool.not_eq_false', ne_eq, Bool.not_true, Bool.not_false, cond_true, cond_false, Bool.true_eq_false, Bool.false_eq_true, Bool.and_eq_true, Bool.and_eq_false_iff] at *; omega)) | skip) | apply guess | exact Or.inl rfl | exact Or.inr rfl | exact Side.mk trivial | exact Side.mk (fun h => h) | exact Side.mk (fun h => ⟨h, h⟩) | with_reducible exact Side.mk rfl | with_reducible exact Side.mk ⟨rfl, rfl⟩ | with_reducible exact Side.mk (by assumption) | with_reducible rfl | intro _)
          all_goals try (conv => whnf)
          all_goals try (refine Side.mk ?_; first | (intros; omega) | (intro h1_ h2_; rw [h1_, h2_]; rfl) | (show List.length (_ ++ _) ≤ _; simp only [List.length_append, List.length_cons, List.length_nil, List.length_replicate, List.length_take]; omega) | (simp_all; done) | (simp_all; omega))
          refine loop_at (fun k : Nat => k ≤ xs.length) 5 (fun k => [(32, .int .i64 k)]) (fun k => [(2, .flat true (.gen 2 [[.int .i64 xs.length, .sl 3 []]])), (3, .flat true (.r3 (rulesR ap xs i ++ rowR ap xs i k)))]) (fun k => xs.length - k) 0 (Nat.zero_le _) ?_ (fun k hk => ?_)
          · repeat' ((conv => whnf); first | done | refine ev_step ?_ | refine ops_step ?_ | refine scan_step ?_ | refine draw_step ?_ | refine each_step ?_ | refine sl_step ?_ | refine hp_step ?_ | refine guard_no (by decide) ?_ | refine guard_go ?_ | refine guard_old ?_ | apply cut_auto | with_reducible exact CutS.mk (Or.inl ⟨rfl, rfl, rfl⟩) | refine CutS.mk (Or.inr (sub_auto ?_)) | exact trivial | refine And.intro ?_ ?_ | refine cond_split ?_ ?_ | apply guess | exact Or.inl rfl | exact Or.inr rfl | exact Side.mk trivial | exact Side.mk (fun h => h) | exact Side.mk (fun h => ⟨h, h⟩) | with_reducible exact Side.mk rfl | with_reducible exact Side.mk ⟨rfl, rfl⟩ | with_reducible exact Side.mk (by assumption) | with_reducible rfl | intro _)
            all_goals try (conv => whnf)
            all_goals first | rfl | simp [rowR_zero]
          · by_cases hkl : k < xs.length
            · have oi := hs i hlt
              have ok := hs k hkl
              have bi := okShape_bd oi
              have bk := okShape_bd ok
              have q1 := rulesR_len ap xs i
              have q2 := rowR_len ap xs i k
              have q3 : i * xs.length ≤ 12 * 12 := Nat.mul_le_mul (by omega) (by omega)
              repeat' ((conv => whnf); first | done | refine ev_step ?_ | refine ops_step ?_ | refine scan_step ?_ | refine draw_step ?_ | refine each_step ?_ | refine sl_step ?_ | refine hp_step ?_ | refine guard_no (by decide) ?_ | refine guard_go ?_ | refine guard_old ?_ | apply cut_auto | with_reducible exact CutS.mk (Or.inl ⟨rfl, rfl, rfl⟩) | refine CutS.mk (Or.inr (sub_auto ?_)) | exact trivial | refine And.intro ?_ ?_ | (refine cond_split ?_ ?_ <;> intro _ <;> first | (exfalso; first | omega | (simp only [decide_eq_true_eq, decide_eq_false_iff_not, Bool.not_eq_true', Bool.not_eq_false', ne_eq, Bool.not_true, Bool.not_false, cond_true, cond_false, Bool.true_eq_false, Bool.false_eq_true, Bool.and_eq_true, Bool.and_eq_false_iff] at *; omega)) | skip) | apply guess | apply FnIs.useF (c101 _ _ ⟨⟨oi, ok⟩⟩) | exact Or.inl rfl | exact Or.inr rfl | exact Side.mk trivial | exact Side.mk (fun h => h) | exact Side.mk (fun h => ⟨h, h⟩) | with_reducible exact Side.mk rfl | with_reducible exact Side.mk ⟨rfl, rfl⟩ | with_reducible exact Side.mk (by assumption) | with_reducible rfl | intro _)
              all_goals try (conv => whnf)
              all_goals first | (refine Side.mk ?_; show (_ : List R3).length ≤ _; simp only [List.length_append, List.length_cons, List.length_nil]; omega) | skip
              all_goals try simp only [Int.toNat_natCast] at *
              all_goals try (refine Side.mk ?_; first | (intros; omega) | (intro h1_ h2_; rw [h1_, h2_]; rfl) | (show List.length (_ ++ _) ≤ _; simp only [List.length_append, List.length_cons, List.length_nil, List.length_replicate, List.length_take]; omega) | (simp_all; done) | (simp_all; omega))
              · rename_i hq
                have hq2 : (xs.getD i default).a < (xs.getD k default).a ∧ meet1 (xs.getD i default).b (xs.getD i default).d (xs.getD k default).b (xs.getD k default).d = true := by simpa using hq
                refine ⟨k + 1, by omega, by omega, ?_⟩
                rw [rowR_succ, pairR_yes hq2.1 hq2.2, ← List.append_assoc]
                repeat' ((conv => whnf); first | done | refine ev_step ?_ | refine ops_step ?_ | refine scan_step ?_ | refine draw_step ?_ | refine each_step ?_ | refine sl_step ?_ | refine hp_step ?_ | refine guard_no (by decide) ?_ | refine guard_go ?_ | refine guard_old ?_ | apply cut_auto | with_reducible exact CutS.mk (Or.inl ⟨rfl, rfl, rfl⟩) | refine CutS.mk (Or.inr (sub_auto ?_)) | exact trivial | refine And.intro ?_ ?_ | refine cond_split ?_ ?_ | apply guess | exact Or.inl rfl | exact Or.inr rfl | exact Side.mk trivial | exact Side.mk (fun h => h) | exact Side.mk (fun h => ⟨h, h⟩) | with_reducible exact Side.mk rfl | with_reducible exact Side.mk ⟨rfl, rfl⟩ | with_reducible exact Side.mk (by assumption) | with_reducible rfl | intro _)
                all_goals try (conv => whnf)
                all_goals first | rfl | omega
              · rename_i hq
                refine ⟨k + 1, by omega, by omega, ?_⟩
                rw [rowR_succ, pairR_no (fun h => by rw [decide_eq_true h.1, h.2] at hq; cases hq), List.append_nil]
                repeat' ((conv => whnf); first | done | refine ev_step ?_ | refine ops_step ?_ | refine scan_step ?_ | refine draw_step ?_ | refine each_step ?_ | refine sl_step ?_ | refine hp_step ?_ | refine guard_no (by decide) ?_ | refine guard_go ?_ | refine guard_old ?_ | apply cut_auto | with_reducible exact CutS.mk (Or.inl ⟨rfl, rfl, rfl⟩) | refine CutS.mk (Or.inr (sub_auto ?_)) | exact trivial | refine And.intro ?_ ?_ | refine cond_split ?_ ?_ | apply guess | exact Or.inl rfl | exact Or.inr rfl | exact Side.mk trivial | exact Side.mk (fun h => h) | exact Side.mk (fun h => ⟨h, h⟩) | with_reducible exact Side.mk rfl | with_reducible exact Side.mk ⟨rfl, rfl⟩ | with_reducible exact Side.mk (by assumption) | with_reducible rfl | intro _)
                all_goals try (conv => whnf)
                all_goals first | rfl | omega
            · repeat' ((conv => whnf); first | done | refine ev_step ?_ | refine ops_step ?_ | refine scan_step ?_ | refine draw_step ?_ | refine each_step ?_ | refine sl_step ?_ | refine hp_step ?_ | refine guard_no (by decide) ?_ | refine guard_go ?_ | refine guard_old ?_ | apply cut_auto | with_reducible exact CutS.mk (Or.inl ⟨rfl, rfl, rfl⟩) | refine CutS.mk (Or.inr (sub_auto ?_)) | exact trivial | refine And.intro ?_ ?_ | (refine cond_split ?_ ?_ <;> intro _ <;> first | (exfalso; first | omega | (simp only [decide_eq_true_eq, decide_eq_false_iff_not, Bool.not_eq_true', Bool.not_eq_false', ne_eq, Bool.not_true, Bool.not_false, cond_true, cond_false, Bool.true_eq_false, Bool.false_eq_true, Bool.and_eq_true, Bool.and_eq_false_iff] at *; omega)) | skip) | apply guess | exact Or.inl rfl | exact Or.inr rfl | exact Side.mk trivial | exact Side.mk (fun h => h) | exact Side.mk (fun h => ⟨h, h⟩) | with_reducible exact Side.mk rfl | with_reducible exact Side.mk ⟨rfl, rfl⟩ | with_reducible exact Side.mk (by assumption) | with_reducible rfl | intro _)
              all_goals try (conv => whnf)
              all_goals try (refine Side.mk ?_; first | (intros; omega) | (intro h1_ h2_; rw [h1_, h2_]; rfl) | (show List.length (_ ++ _) ≤ _; simp only [List.length_append, List.length_cons, List.length_nil, List.length_replicate, List.length_take]; omega) | (simp_all; done) | (simp_all; omega))
              refine ⟨i + 1, by omega, by omega, ?_⟩
              rw [rulesR_succ, show k = xs.length by omega]
              repeat' ((conv => whnf); first | done | refine ev_step ?_ | refine ops_step ?_ | refine scan_step ?_ | refine draw_step ?_ | refine each_step ?_ | refine sl_step ?_ | refine hp_step ?_ | refine guard_no (by decide) ?_ | refine guard_go ?_ | refine guard_old ?_ | apply cut_auto | with_reducible exact CutS.mk (Or.inl ⟨rfl, rfl, rfl⟩) | refine CutS.mk (Or.inr (sub_auto ?_)) | exact trivial | refine And.intro ?_ ?_ | refine cond_split ?_ ?_ | apply guess | exact Or.inl rfl | exact Or.inr rfl | exact Side.mk trivial | exact Side.mk (fun h => h) | exact Side.mk (fun h => ⟨h, h⟩) | with_reducible exact Side.mk rfl | with_reducible exact Side.mk ⟨rfl, rfl⟩ | with_reducible exact Side.mk (by assumption) | with_reducible rfl | intro _)
              all_goals try (conv => whnf)
              all_goals first | rfl | omega
        · obtain rfl : i = xs.length := by omega
          cases h3 : okPress xs.length (rulesR ap xs xs.length) with
          | false =>
            rw [h3] at k4
            rw [show shapeOk ap xs = false by rw [shapeOk, hx, ha, h3]; rfl]
            repeat' ((conv => whnf); first | done | refine ev_step ?_ | refine ops_step ?_ | refine scan_step ?_ | refine draw_step ?_ | refine each_step ?_ | refine sl_step ?_ | refine hp_step ?_ | refine guard_no (by decide) ?_ | refine guard_go ?_ | refine guard_old ?_ | apply cut_auto | with_reducible exact CutS.mk (Or.inl ⟨rfl, rfl, rfl⟩) | refine CutS.mk (Or.inr (sub_auto ?_)) | exact trivial | refine And.intro ?_ ?_ | (refine cond_split ?_ ?_ <;> intro _ <;> first | (exfalso; first | omega | (simp only [decide_eq_true_eq, decide_eq_false_iff_not, Bool.not_eq_true', Bool.not_eq_false', ne_eq, Bool.not_true, Bool.not_false, cond_true, cond_false, Bool.true_eq_false, Bool.false_eq_true, Bool.and_eq_true, Bool.and_eq_false_iff] at *; omega)) | skip) | apply guess | apply FnIs.useF (k4) | exact Or.inl rfl | exact Or.inr rfl | exact Side.mk trivial | exact Side.mk (fun h => h) | exact Side.mk (fun h => ⟨h, h⟩) | with_reducible exact Side.mk rfl | with_reducible exact Side.mk ⟨rfl, rfl⟩ | with_reducible exact Side.mk (by assumption) | with_reducible rfl | intro _)
            all_goals try (conv => whnf)
            all_goals first | done | rfl | exact Side.mk rfl | (refine Side.mk ?_; simp; done) | (refine Side.mk ?_; intros; simp_all; done)
          | true =>
            rw [h3] at k4
            rw [show shapeOk ap xs = true by rw [shapeOk, hx, ha, h3]; rfl]
            repeat' ((conv => whnf); first | done | refine ev_step ?_ | refine ops_step ?_ | refine scan_step ?_ | refine draw_step ?_ | refine each_step ?_ | refine sl_step ?_ | refine hp_step ?_ | refine guard_no (by decide) ?_ | refine guard_go ?_ | refine guard_old ?_ | apply cut_auto | with_reducible exact CutS.mk (Or.inl ⟨rfl, rfl, rfl⟩) | refine CutS.mk (Or.inr (sub_auto ?_)) | exact trivial | refine And.intro ?_ ?_ | (refine cond_split ?_ ?_ <;> intro _ <;> first | (exfalso; first | omega | (simp only [decide_eq_true_eq, decide_eq_false_iff_not, Bool.not_eq_true', Bool.not_eq_false', ne_eq, Bool.not_true, Bool.not_false, cond_true, cond_false, Bool.true_eq_false, Bool.false_eq_true, Bool.and_eq_true, Bool.and_eq_false_iff] at *; omega)) | skip) | apply guess | apply FnIs.useF (k4) | exact Or.inl rfl | exact Or.inr rfl | exact Side.mk trivial | exact Side.mk (fun h => h) | exact Side.mk (fun h => ⟨h, h⟩) | with_reducible exact Side.mk rfl | with_reducible exact Side.mk ⟨rfl, rfl⟩ | with_reducible exact Side.mk (by assumption) | with_reducible rfl | intro _)
            all_goals try (conv => whnf)
            all_goals first | done | rfl | exact Side.mk rfl | (refine Side.mk ?_; simp; done) | (refine Side.mk ?_; intros; simp_all; done)
end Go.Sx.U
