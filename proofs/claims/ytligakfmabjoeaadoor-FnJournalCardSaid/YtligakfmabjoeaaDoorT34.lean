/-
  Chapter 1: the reference's texts of points and of numbers (contracts).
-/
import Derived.Test.YtligakfmabjoeaaDoorT33
set_option linter.unusedSimpArgs false
namespace Go.Sx.U
set_option linter.unusedVariables false
set_option linter.unusedSimpArgs false
set_option maxRecDepth 100000
set_option maxHeartbeats 8000000
open Go Go.Sx Go.Proofs

def joinB (sep : ByteArray) : List ByteArray → ByteArray
  | [] => ByteArray.empty
  | a :: r => r.foldl (fun o x => o ++ sep ++ x) a
theorem joinB_snoc {sep : ByteArray} {l : List ByteArray} (h : l ≠ []) (x : ByteArray) : joinB sep (l ++ [x]) = joinB sep l ++ sep ++ x := by
  cases l with
  | nil => exact absurd rfl h
  | cons a r => simp [joinB, List.foldl_append]
theorem joinB_one (sep x : ByteArray) : joinB sep [x] = x := rfl
abbrev cma : ByteArray := ⟨#[44]⟩
abbrev dot : ByteArray := ⟨#[46]⟩
abbrev noneT : ByteArray := ⟨#[110, 111, 110, 101]⟩
def pt1 (p : R2) : ByteArray := decB p.a ++ dot ++ decB p.b
def ptText (xs : List R2) : ByteArray := bif xs.isEmpty then noneT else joinB cma (xs.map pt1)
def numText (xs : List Int) : ByteArray := bif xs.isEmpty then noneT else joinB cma (xs.map decB)
theorem joinB_le {sep : ByteArray} {m : Nat} (hs : sep.size ≤ 1) : ∀ (l : List ByteArray), (∀ x ∈ l, x.size ≤ m) → (joinB sep l).size ≤ l.length * (m + 1)
  | [], _ => by simp [joinB]
  | a :: r, h => by
    have key : ∀ (r : List ByteArray) (o : ByteArray), (∀ x ∈ r, x.size ≤ m) → (r.foldl (fun o x => o ++ sep ++ x) o).size ≤ o.size + r.length * (m + 1) := by
      intro r
      induction r with
      | nil => intro o _; simp
      | cons b r ih =>
        intro o hb
        have h1 := ih (o ++ sep ++ b) (fun x hx => hb x (List.mem_cons_of_mem _ hx))
        have h2 := hb b (List.mem_cons_self ..)
        simp only [bl_size_app] at h1
        simp only [List.foldl_cons, List.length_cons, Nat.add_mul, Nat.one_mul]
        omega
    have h1 := key r a (fun x hx => h x (List.mem_cons_of_mem _ hx))
    have h2 := h a (List.mem_cons_self ..)
    simp only [joinB, List.length_cons, Nat.add_mul, Nat.one_mul]
    omega
theorem pt1_le {p : R2} (h1 : inI64 p.a) (h2 : inI64 p.b) : (pt1 p).size ≤ 43 := by
  have a1 := decB_le p.a h1.1 h1.2
  have a2 := decB_le p.b h2.1 h2.2
  have e : dot.size = 1 := rfl
  unfold pt1
  simp only [bl_size_app]
  omega
theorem nlB_app (a b : ByteArray) : nlB (a ++ b) = (nlB a || nlB b) := by
  unfold nlB; rw [bl_app, List.any_append]
theorem nlB_dec (n : Int) : nlB (decB n) = false := by
  unfold nlB
  refine List.any_eq_false.2 fun c hc => ?_
  rw [decB_bl, Lib.itoa] at hc
  have key : ∀ u, ∀ c ∈ Lib.decDigits u, ¬ (c == (10 : UInt8)) = true := fun u c hc e => by
    have := decDigits_no _ u (Nat.lt_succ_self _) c hc
    rw [beq_iff_eq.1 e] at this
    simp at this
  split at hc
  · rcases List.mem_cons.1 hc with rfl | hc
    · decide
    · exact key _ c hc
  · exact key _ c hc
theorem nlB_join {sep : ByteArray} (hs : nlB sep = false) {l : List ByteArray} (h : ∀ x ∈ l, nlB x = false) : nlB (joinB sep l) = false := by
  cases l with
  | nil => rfl
  | cons a r =>
    have key : ∀ (r : List ByteArray) (o : ByteArray), nlB o = false → (∀ x ∈ r, nlB x = false) → nlB (r.foldl (fun o x => o ++ sep ++ x) o) = false := by
      intro r
      induction r with
      | nil => exact fun o ho _ => ho
      | cons b r ih =>
        intro o ho hb
        refine ih _ ?_ (fun x hx => hb x (List.mem_cons_of_mem _ hx))
        rw [nlB_app, nlB_app, ho, hs, hb b (List.mem_cons_self ..)]; rfl
    exact key r a (h a (List.mem_cons_self ..)) (fun x hx => h x (List.mem_cons_of_mem _ hx))
theorem nlB_pt1 (p : R2) : nlB (pt1 p) = false := by
  unfold pt1
  rw [nlB_app, nlB_app, nlB_dec, nlB_dec]; rfl
theorem ptText_ok (xs : List R2) : nlB (ptText xs) = false := by
  unfold ptText
  cases xs.isEmpty with
  | true => rfl
  | false => exact nlB_join rfl fun x hx => by obtain ⟨p, _, rfl⟩ := List.mem_map.1 hx; exact nlB_pt1 p
theorem numText_ok (xs : List Int) : nlB (numText xs) = false := by
  unfold numText
  cases xs.isEmpty with
  | true => rfl
  | false => exact nlB_join rfl fun x hx => by obtain ⟨p, _, rfl⟩ := List.mem_map.1 hx; exact nlB_dec p
theorem ptText_le {xs : List R2} (h : ∀ r ∈ xs, inI64 r.a ∧ inI64 r.b) : (ptText xs).size ≤ xs.length * 44 + 4 := by
  unfold ptText
  cases xs.isEmpty with
  | true => have : noneT.size = 4 := rfl
            simp only [cond_true]; omega
  | false =>
    have h1 := joinB_le (sep := cma) (m := 43) (by decide) (xs.map pt1) (fun x hx => by obtain ⟨p, hp, rfl⟩ := List.mem_map.1 hx; exact pt1_le (h p hp).1 (h p hp).2)
    rw [List.length_map] at h1
    simp only [cond_false]; omega
theorem numText_le {xs : List Int} (h : ∀ r ∈ xs, inI64 r) : (numText xs).size ≤ xs.length * 22 + 4 := by
  unfold numText
  cases xs.isEmpty with
  | true => have : noneT.size = 4 := rfl
            simp only [cond_true]; omega
  | false =>
    have h1 := joinB_le (sep := cma) (m := 21) (by decide) (xs.map decB) (fun x hx => by obtain ⟨p, hp, rfl⟩ := List.mem_map.1 hx; exact decB_le p (h p hp).1 (h p hp).2)
    rw [List.length_map] at h1
    simp only [cond_false]; omega
abbrev ptJ (xs : List R2) (i : Nat) : ByteArray := joinB cma ((xs.take i).map pt1)
theorem ptJ_succ {xs : List R2} {i : Nat} (h : i < xs.length) (h0 : 0 < i) : ptJ xs (i + 1) = ptJ xs i ++ cma ++ pt1 (xs.getD i default) := by
  unfold ptJ
  rw [take_snocS (d := default) h, List.map_append]
  exact joinB_snoc (by intro e; have := congrArg List.length e; simp only [List.length_map, List.length_take, List.length_nil] at this; omega) _
theorem ptJ_le {xs : List R2} {i : Nat} (hi : i ≤ xs.length) (h : ∀ r ∈ xs, inI64 r.a ∧ inI64 r.b) : (ptJ xs i).size ≤ i * 44 := by
  have h1 := joinB_le (sep := cma) (m := 43) (by decide) ((xs.take i).map pt1) (fun x hx => by obtain ⟨p, hp, rfl⟩ := List.mem_map.1 hx; exact pt1_le (h p (List.mem_of_mem_take hp)).1 (h p (List.mem_of_mem_take hp)).2)
  rw [List.length_map, List.length_take, Nat.min_eq_left hi] at h1
  exact h1
theorem k_PText (xs : List R2) (h : Side (xs.length ≤ 100000 ∧ ∀ r ∈ xs, inI64 r.a ∧ inI64 r.b)) : FnIs Tryd.prog 46 [.sl 0 []] 1 [(0, .flat false (.r2 xs))] (.str (ptText xs)) 1 [] := by
  obtain ⟨h1, h2⟩ := h.h
  refine fn_of_ev tok Tryd.func46 rfl rfl rfl ?_
  by_cases h0 : xs.length = 0
  · have e : xs = [] := List.length_eq_zero_iff.1 h0
    subst e
    repeat' ((conv => whnf); first | done | refine ev_step ?_ | refine ops_step ?_ | refine scan_step ?_ | refine draw_step ?_ | refine each_step ?_ | refine sl_step ?_ | refine hp_step ?_ | refine guard_no (by decide) ?_ | refine guard_go ?_ | refine guard_old ?_ | apply cut_auto | with_reducible exact CutS.mk (Or.inl ⟨rfl, rfl, rfl⟩) | refine CutS.mk (Or.inr (Or.inl (sub_auto ?_))) | exact trivial | refine And.intro ?_ ?_ | (refine cond_split ?_ ?_ <;> intro _ <;> first | (exfalso; first | omega | (simp only [decide_eq_true_eq, decide_eq_false_iff_not, Bool.not_eq_true', Bool.not_eq_false', ne_eq, Bool.not_true, Bool.not_false, cond_true, cond_false, Bool.true_eq_false, Bool.false_eq_true, Bool.and_eq_true, Bool.and_eq_false_iff] at *; omega)) | skip) | apply guess | exact Or.inl rfl | exact Or.inr rfl | exact Side.mk trivial | exact Side.mk (fun h => h) | exact Side.mk (fun h => ⟨h, h⟩) | with_reducible exact Side.mk rfl | with_reducible exact Side.mk ⟨rfl, rfl⟩ | with_reducible exact Side.mk (by assumption) | with_reducible rfl | intro _)
    all_goals try (conv => whnf)
    all_goals first | rfl | trace_state
  · have he : ptText xs = ptJ xs xs.length := by
      unfold ptText ptJ
      rw [List.take_length]
      cases xs with
      | nil => exact absurd rfl h0
      | cons _ _ => rfl
    rw [he]
    repeat' ((conv => whnf); first | done | refine ev_step ?_ | refine ops_step ?_ | refine scan_step ?_ | refine draw_step ?_ | refine each_step ?_ | refine sl_step ?_ | refine hp_step ?_ | refine guard_no (by decide) ?_ | refine guard_go ?_ | refine guard_old ?_ | apply cut_auto | with_reducible exact CutS.mk (Or.inl ⟨rfl, rfl, rfl⟩) | refine CutS.mk (Or.inr (Or.inl (sub_auto ?_))) | exact trivial | refine And.intro ?_ ?_ | (refine cond_split ?_ ?_ <;> intro _ <;> first | (exfalso; first | omega | (simp only [decide_eq_true_eq, decide_eq_false_iff_not, Bool.not_eq_true', Bool.not_eq_false', ne_eq, Bool.not_true, Bool.not_false, cond_true, cond_false, Bool.true_eq_false, Bool.false_eq_true, Bool.and_eq_true, Bool.and_eq_false_iff] at *; omega)) | skip) | apply guess | exact Or.inl rfl | exact Or.inr rfl | exact Side.mk trivial | exact Side.mk (fun h => h) | exact Side.mk (fun h => ⟨h, h⟩) | with_reducible exact Side.mk rfl | with_reducible exact Side.mk ⟨rfl, rfl⟩ | with_reducible exact Side.mk (by assumption) | with_reducible rfl | intro _)
    all_goals try (conv => whnf)
    refine loop_at (fun i : Nat => i ≤ xs.length) 1 (fun i => [(4, .int .i64 i), (3, .str (ptJ xs i))]) (fun _ => []) (fun i => xs.length - i) 0 (Nat.zero_le _) ?_ (fun i hi => ?_)
    · repeat' ((conv => whnf); first | done | refine ev_step ?_ | refine ops_step ?_ | refine scan_step ?_ | refine draw_step ?_ | refine each_step ?_ | refine sl_step ?_ | refine hp_step ?_ | refine guard_no (by decide) ?_ | refine guard_go ?_ | refine guard_old ?_ | apply cut_auto | with_reducible exact CutS.mk (Or.inl ⟨rfl, rfl, rfl⟩) | refine CutS.mk (Or.inr (Or.inl (sub_auto ?_))) | exact trivial | refine And.intro ?_ ?_ | refine cond_split ?_ ?_ | apply guess | exact Or.inl rfl | exact Or.inr rfl | exact Side.mk trivial | exact Side.mk (fun h => h) | exact Side.mk (fun h => ⟨h, h⟩) | with_reducible exact Side.mk rfl | with_reducible exact Side.mk ⟨rfl, rfl⟩ | with_reducible exact Side.mk (by assumption) | with_reducible rfl | intro _)
      all_goals try (conv => whnf)
      all_goals first | rfl | trace_state
    · have hle := ptJ_le hi h2
      by_cases hlt : i < xs.length
      · obtain ⟨q1, q2⟩ := h2 _ (mem_of_getD (d := default) hlt)
        have d1 := decB_le _ q1.1 q1.2
        have d2 := decB_le _ q2.1 q2.2
        have e1 : cma.size = 1 := rfl
        have e2 : dot.size = 1 := rfl
        by_cases hi0 : 0 < i
        · have hs := ptJ_succ hlt hi0
          repeat' ((conv => whnf); first | done | refine ev_step ?_ | refine ops_step ?_ | refine scan_step ?_ | refine draw_step ?_ | refine each_step ?_ | refine sl_step ?_ | refine hp_step ?_ | refine guard_no (by decide) ?_ | refine guard_go ?_ | refine guard_old ?_ | apply cut_auto | with_reducible exact CutS.mk (Or.inl ⟨rfl, rfl, rfl⟩) | refine CutS.mk (Or.inr (Or.inl (sub_auto ?_))) | exact trivial | refine And.intro ?_ ?_ | (refine cond_split ?_ ?_ <;> intro _ <;> first | (exfalso; first | omega | (simp only [decide_eq_true_eq, decide_eq_false_iff_not, Bool.not_eq_true', Bool.not_eq_false', ne_eq, Bool.not_true, Bool.not_false, cond_true, cond_false, Bool.true_eq_false, Bool.false_eq_true, Bool.and_eq_true, Bool.and_eq_false_iff] at *; omega)) | skip) | apply guess | apply FnIs.useF (k_l01Dec _ _) | exact Or.inl rfl | exact Or.inr rfl | exact Side.mk trivial | exact Side.mk (fun h => h) | exact Side.mk (fun h => ⟨h, h⟩) | with_reducible exact Side.mk rfl | with_reducible exact Side.mk ⟨rfl, rfl⟩ | with_reducible exact Side.mk (by assumption) | with_reducible rfl | intro _)
          all_goals try (conv => whnf)
          all_goals try simp only [Int.toNat_natCast] at *
          all_goals try simp only [bl_size_app] at *
          all_goals try (refine Side.mk ?_; first | (intros; omega) | (intro h1_ h2_; rw [h1_, h2_]; rfl) | (show List.length (_ ++ _) ≤ _; simp only [List.length_append, List.length_cons, List.length_nil, List.length_replicate, List.length_take]; omega) | (simp_all; done) | (simp_all; omega))
          all_goals try exact Side.mk q1
          all_goals try exact Side.mk q2
          all_goals
            refine ⟨i + 1, by omega, by omega, ?_⟩
            repeat' ((conv => whnf); first | done | refine ev_step ?_ | refine ops_step ?_ | refine scan_step ?_ | refine draw_step ?_ | refine each_step ?_ | refine sl_step ?_ | refine hp_step ?_ | refine guard_no (by decide) ?_ | refine guard_go ?_ | refine guard_old ?_ | apply cut_auto | with_reducible exact CutS.mk (Or.inl ⟨rfl, rfl, rfl⟩) | refine CutS.mk (Or.inr (Or.inl (sub_auto ?_))) | exact trivial | refine And.intro ?_ ?_ | refine cond_split ?_ ?_ | apply guess | exact Or.inl rfl | exact Or.inr rfl | exact Side.mk trivial | exact Side.mk (fun h => h) | exact Side.mk (fun h => ⟨h, h⟩) | with_reducible exact Side.mk rfl | with_reducible exact Side.mk ⟨rfl, rfl⟩ | with_reducible exact Side.mk (by assumption) | with_reducible rfl | intro _)
            all_goals try (conv => whnf)
            all_goals first | rfl | omega | (rw [hs]; rfl) | trace_state
        · have hz : i = 0 := by omega
          subst hz
          have hs : ptJ xs (0 + 1) = ByteArray.empty ++ pt1 (xs.getD 0 default) := by
            unfold ptJ
            rw [take_snocS (d := default) hlt]
            simp [joinB]
          repeat' ((conv => whnf); first | done | refine ev_step ?_ | refine ops_step ?_ | refine scan_step ?_ | refine draw_step ?_ | refine each_step ?_ | refine sl_step ?_ | refine hp_step ?_ | refine guard_no (by decide) ?_ | refine guard_go ?_ | refine guard_old ?_ | apply cut_auto | with_reducible exact CutS.mk (Or.inl ⟨rfl, rfl, rfl⟩) | refine CutS.mk (Or.inr (Or.inl (sub_auto ?_))) | exact trivial | refine And.intro ?_ ?_ | (refine cond_split ?_ ?_ <;> intro _ <;> first | (exfalso; first | omega | (simp only [decide_eq_true_eq, decide_eq_false_iff_not, Bool.not_eq_true', Bool.not_eq_false', ne_eq, Bool.not_true, Bool.not_false, cond_true, cond_false, Bool.true_eq_false, Bool.false_eq_true, Bool.and_eq_true, Bool.and_eq_false_iff] at *; omega)) | skip) | apply guess | apply FnIs.useF (k_l01Dec _ _) | exact Or.inl rfl | exact Or.inr rfl | exact Side.mk trivial | exact Side.mk (fun h => h) | exact Side.mk (fun h => ⟨h, h⟩) | with_reducible exact Side.mk rfl | with_reducible exact Side.mk ⟨rfl, rfl⟩ | with_reducible exact Side.mk (by assumption) | with_reducible rfl | intro _)
          all_goals try (conv => whnf)
          all_goals try simp only [Int.toNat_natCast] at *
          all_goals try simp only [bl_size_app] at *
          all_goals try (refine Side.mk ?_; first | (intros; omega) | (intro h1_ h2_; rw [h1_, h2_]; rfl) | (show List.length (_ ++ _) ≤ _; simp only [List.length_append, List.length_cons, List.length_nil, List.length_replicate, List.length_take]; omega) | (simp_all; done) | (simp_all; omega))
          all_goals try exact Side.mk q1
          all_goals try exact Side.mk q2
          all_goals
            refine ⟨0 + 1, by omega, by omega, ?_⟩
            repeat' ((conv => whnf); first | done | refine ev_step ?_ | refine ops_step ?_ | refine scan_step ?_ | refine draw_step ?_ | refine each_step ?_ | refine sl_step ?_ | refine hp_step ?_ | refine guard_no (by decide) ?_ | refine guard_go ?_ | refine guard_old ?_ | apply cut_auto | with_reducible exact CutS.mk (Or.inl ⟨rfl, rfl, rfl⟩) | refine CutS.mk (Or.inr (Or.inl (sub_auto ?_))) | exact trivial | refine And.intro ?_ ?_ | refine cond_split ?_ ?_ | apply guess | exact Or.inl rfl | exact Or.inr rfl | exact Side.mk trivial | exact Side.mk (fun h => h) | exact Side.mk (fun h => ⟨h, h⟩) | with_reducible exact Side.mk rfl | with_reducible exact Side.mk ⟨rfl, rfl⟩ | with_reducible exact Side.mk (by assumption) | with_reducible rfl | intro _)
            all_goals try (conv => whnf)
            all_goals first | rfl | omega | (rw [hs]; rfl) | trace_state
      · have e2 : i = xs.length := by omega
        subst e2
        repeat' ((conv => whnf); first | done | refine ev_step ?_ | refine ops_step ?_ | refine scan_step ?_ | refine draw_step ?_ | refine each_step ?_ | refine sl_step ?_ | refine hp_step ?_ | refine guard_no (by decide) ?_ | refine guard_go ?_ | refine guard_old ?_ | apply cut_auto | with_reducible exact CutS.mk (Or.inl ⟨rfl, rfl, rfl⟩) | refine CutS.mk (Or.inr (Or.inl (sub_auto ?_))) | exact trivial | refine And.intro ?_ ?_ | (refine cond_split ?_ ?_ <;> intro _ <;> first | (exfalso; first | omega | (simp only [decide_eq_true_eq, decide_eq_false_iff_not, Bool.not_eq_true', Bool.not_eq_false', ne_eq, Bool.not_true, Bool.not_false, cond_true, cond_false, Bool.true_eq_false, Bool.false_eq_true, Bool.and_eq_true, Bool.and_eq_false_iff] at *; omega)) | skip) | apply guess | exact Or.inl rfl | exact Or.inr rfl | exact Side.mk trivial | exact Side.mk (fun h => h) | exact Side.mk (fun h => ⟨h, h⟩) | with_reducible exact Side.mk rfl | with_reducible exact Side.mk ⟨rfl, rfl⟩ | with_reducible exact Side.mk (by assumption) | with_reducible rfl | intro _)
        all_goals try (conv => whnf)
        all_goals try (refine Side.mk ?_; first | (intros; omega) | (intro h1_ h2_; rw [h1_, h2_]; rfl) | (show List.length (_ ++ _) ≤ _; simp only [List.length_append, List.length_cons, List.length_nil, List.length_replicate, List.length_take]; omega) | (simp_all; done) | (simp_all; omega))
        all_goals first | rfl | trace_state

abbrev nuJ (xs : List Int) (i : Nat) : ByteArray := joinB cma ((xs.take i).map decB)
theorem nuJ_succ {xs : List Int} {i : Nat} (h : i < xs.length) (h0 : 0 < i) : nuJ xs (i + 1) = nuJ xs i ++ (cma ++ decB (xs.getD i 0)) := by
  unfold nuJ
  rw [take_snocS (d := (0 : Int)) h, List.map_append]
  rw [← ByteArray.append_assoc]
  exact joinB_snoc (by intro e; have := congrArg List.length e; simp only [List.length_map, List.length_take, List.length_nil] at this; omega) _
theorem nuJ_le {xs : List Int} {i : Nat} (hi : i ≤ xs.length) (h : ∀ r ∈ xs, inI64 r) : (nuJ xs i).size ≤ i * 22 := by
  have h1 := joinB_le (sep := cma) (m := 21) (by decide) ((xs.take i).map decB) (fun x hx => by obtain ⟨p, hp, rfl⟩ := List.mem_map.1 hx; exact decB_le p (h p (List.mem_of_mem_take hp)).1 (h p (List.mem_of_mem_take hp)).2)
  rw [List.length_map, List.length_take, Nat.min_eq_left hi] at h1
  exact h1
theorem k_NText (xs : List Int) (h : Side (xs.length ≤ 100000 ∧ ∀ r ∈ xs, inI64 r)) : FnIs Tryd.prog 61 [.sl 0 []] 1 [(0, .flat false (.ints .i64 xs))] (.str (numText xs)) 1 [] := by
  obtain ⟨h1, h2⟩ := h.h
  refine fn_of_ev tok Tryd.func61 rfl rfl rfl ?_
  by_cases h0 : xs.length = 0
  · have e : xs = [] := List.length_eq_zero_iff.1 h0
    subst e
    repeat' ((conv => whnf); first | done | refine ev_step ?_ | refine ops_step ?_ | refine scan_step ?_ | refine draw_step ?_ | refine each_step ?_ | refine sl_step ?_ | refine hp_step ?_ | refine guard_no (by decide) ?_ | refine guard_go ?_ | refine guard_old ?_ | apply cut_auto | with_reducible exact CutS.mk (Or.inl ⟨rfl, rfl, rfl⟩) | refine CutS.mk (Or.inr (Or.inl (sub_auto ?_))) | exact trivial | refine And.intro ?_ ?_ | (refine cond_split ?_ ?_ <;> intro _ <;> first | (exfalso; first | omega | (simp only [decide_eq_true_eq, decide_eq_false_iff_not, Bool.not_eq_true', Bool.not_eq_false', ne_eq, Bool.not_true, Bool.not_false, cond_true, cond_false, Bool.true_eq_false, Bool.false_eq_true, Bool.and_eq_true, Bool.and_eq_false_iff] at *; omega)) | skip) | apply guess | exact Or.inl rfl | exact Or.inr rfl | exact Side.mk trivial | exact Side.mk (fun h => h) | exact Side.mk (fun h => ⟨h, h⟩) | with_reducible exact Side.mk rfl | with_reducible exact Side.mk ⟨rfl, rfl⟩ | with_reducible exact Side.mk (by assumption) | with_reducible rfl | intro _)
    all_goals try (conv => whnf)
    all_goals first | rfl | trace_state
  · have he : numText xs = nuJ xs xs.length := by
      unfold numText nuJ
      rw [List.take_length]
      cases xs with
      | nil => exact absurd rfl h0
      | cons _ _ => rfl
    have h01 : nuJ xs 1 = decB (xs.getD 0 0) := by
      unfold nuJ
      rw [take_snocS (d := (0 : Int)) (show 0 < xs.length by omega)]
      simp [joinB]
    have q0 := h2 _ (mem_of_getD (d := (0 : Int)) (show 0 < xs.length by omega))
    rw [he]
    repeat' ((conv => whnf); first | done | refine ev_step ?_ | refine ops_step ?_ | refine scan_step ?_ | refine draw_step ?_ | refine each_step ?_ | refine sl_step ?_ | refine hp_step ?_ | refine guard_no (by decide) ?_ | refine guard_go ?_ | refine guard_old ?_ | apply cut_auto | with_reducible exact CutS.mk (Or.inl ⟨rfl, rfl, rfl⟩) | refine CutS.mk (Or.inr (Or.inl (sub_auto ?_))) | exact trivial | refine And.intro ?_ ?_ | (refine cond_split ?_ ?_ <;> intro _ <;> first | (exfalso; first | omega | (simp only [decide_eq_true_eq, decide_eq_false_iff_not, Bool.not_eq_true', Bool.not_eq_false', ne_eq, Bool.not_true, Bool.not_false, cond_true, cond_false, Bool.true_eq_false, Bool.false_eq_true, Bool.and_eq_true, Bool.and_eq_false_iff] at *; omega)) | skip) | apply guess | apply FnIs.useF (k_l01Dec _ _) | exact Or.inl rfl | exact Or.inr rfl | exact Side.mk trivial | exact Side.mk (fun h => h) | exact Side.mk (fun h => ⟨h, h⟩) | with_reducible exact Side.mk rfl | with_reducible exact Side.mk ⟨rfl, rfl⟩ | with_reducible exact Side.mk (by assumption) | with_reducible rfl | intro _)
    all_goals try (conv => whnf)
    all_goals try exact Side.mk q0
    all_goals try (refine Side.mk ?_; first | (intros; omega) | (intro h1_ h2_; rw [h1_, h2_]; rfl) | (show List.length (_ ++ _) ≤ _; simp only [List.length_append, List.length_cons, List.length_nil, List.length_replicate, List.length_take]; omega) | (simp_all; done) | (simp_all; omega))
    refine loop_at (fun i : Nat => 1 ≤ i ∧ i ≤ xs.length) 1 (fun i => [(4, .int .i64 i), (3, .str (nuJ xs i))]) (fun _ => []) (fun i => xs.length - i) 1 ⟨Nat.le_refl _, by omega⟩ ?_ (fun i hi => ?_)
    · repeat' ((conv => whnf); first | done | refine ev_step ?_ | refine ops_step ?_ | refine scan_step ?_ | refine draw_step ?_ | refine each_step ?_ | refine sl_step ?_ | refine hp_step ?_ | refine guard_no (by decide) ?_ | refine guard_go ?_ | refine guard_old ?_ | apply cut_auto | with_reducible exact CutS.mk (Or.inl ⟨rfl, rfl, rfl⟩) | refine CutS.mk (Or.inr (Or.inl (sub_auto ?_))) | exact trivial | refine And.intro ?_ ?_ | refine cond_split ?_ ?_ | apply guess | exact Or.inl rfl | exact Or.inr rfl | exact Side.mk trivial | exact Side.mk (fun h => h) | exact Side.mk (fun h => ⟨h, h⟩) | with_reducible exact Side.mk rfl | with_reducible exact Side.mk ⟨rfl, rfl⟩ | with_reducible exact Side.mk (by assumption) | with_reducible rfl | intro _)
      all_goals try (conv => whnf)
      all_goals first | rfl | exact h01 | exact h01.symm | trace_state
    · obtain ⟨hi1, hi2⟩ := hi
      have hle := nuJ_le hi2 h2
      by_cases hlt : i < xs.length
      · have q1 := h2 _ (mem_of_getD (d := (0 : Int)) hlt)
        have d1 := decB_le _ q1.1 q1.2
        have e1 : cma.size = 1 := rfl
        have hs := nuJ_succ hlt hi1
        repeat' ((conv => whnf); first | done | refine ev_step ?_ | refine ops_step ?_ | refine scan_step ?_ | refine draw_step ?_ | refine each_step ?_ | refine sl_step ?_ | refine hp_step ?_ | refine guard_no (by decide) ?_ | refine guard_go ?_ | refine guard_old ?_ | apply cut_auto | with_reducible exact CutS.mk (Or.inl ⟨rfl, rfl, rfl⟩) | refine CutS.mk (Or.inr (Or.inl (sub_auto ?_))) | exact trivial | refine And.intro ?_ ?_ | (refine cond_split ?_ ?_ <;> intro _ <;> first | (exfalso; first | omega | (simp only [decide_eq_true_eq, decide_eq_false_iff_not, Bool.not_eq_true', Bool.not_eq_false', ne_eq, Bool.not_true, Bool.not_false, cond_true, cond_false, Bool.true_eq_false, Bool.false_eq_true, Bool.and_eq_true, Bool.and_eq_false_iff] at *; omega)) | skip) | apply guess | apply FnIs.useF (k_l01Dec _ _) | exact Or.inl rfl | exact Or.inr rfl | exact Side.mk trivial | exact Side.mk (fun h => h) | exact Side.mk (fun h => ⟨h, h⟩) | with_reducible exact Side.mk rfl | with_reducible exact Side.mk ⟨rfl, rfl⟩ | with_reducible exact Side.mk (by assumption) | with_reducible rfl | intro _)
        all_goals try (conv => whnf)
        all_goals try simp only [Int.toNat_natCast] at *
        all_goals try simp only [bl_size_app] at *
        all_goals try (refine Side.mk ?_; first | (intros; omega) | (intro h1_ h2_; rw [h1_, h2_]; rfl) | (show List.length (_ ++ _) ≤ _; simp only [List.length_append, List.length_cons, List.length_nil, List.length_replicate, List.length_take]; omega) | (simp_all; done) | (simp_all; omega))
        all_goals try exact Side.mk q1
        all_goals
          refine ⟨i + 1, by omega, by omega, ?_⟩
          repeat' ((conv => whnf); first | done | refine ev_step ?_ | refine ops_step ?_ | refine scan_step ?_ | refine draw_step ?_ | refine each_step ?_ | refine sl_step ?_ | refine hp_step ?_ | refine guard_no (by decide) ?_ | refine guard_go ?_ | refine guard_old ?_ | apply cut_auto | with_reducible exact CutS.mk (Or.inl ⟨rfl, rfl, rfl⟩) | refine CutS.mk (Or.inr (Or.inl (sub_auto ?_))) | exact trivial | refine And.intro ?_ ?_ | refine cond_split ?_ ?_ | apply guess | exact Or.inl rfl | exact Or.inr rfl | exact Side.mk trivial | exact Side.mk (fun h => h) | exact Side.mk (fun h => ⟨h, h⟩) | with_reducible exact Side.mk rfl | with_reducible exact Side.mk ⟨rfl, rfl⟩ | with_reducible exact Side.mk (by assumption) | with_reducible rfl | intro _)
          all_goals try (conv => whnf)
          all_goals first | rfl | omega | (rw [hs]; done) | trace_state
      · have e2 : i = xs.length := by omega
        subst e2
        repeat' ((conv => whnf); first | done | refine ev_step ?_ | refine ops_step ?_ | refine scan_step ?_ | refine draw_step ?_ | refine each_step ?_ | refine sl_step ?_ | refine hp_step ?_ | refine guard_no (by decide) ?_ | refine guard_go ?_ | refine guard_old ?_ | apply cut_auto | with_reducible exact CutS.mk (Or.inl ⟨rfl, rfl, rfl⟩) | refine CutS.mk (Or.inr (Or.inl (sub_auto ?_))) | exact trivial | refine And.intro ?_ ?_ | (refine cond_split ?_ ?_ <;> intro _ <;> first | (exfalso; first | omega | (simp only [decide_eq_true_eq, decide_eq_false_iff_not, Bool.not_eq_true', Bool.not_eq_false', ne_eq, Bool.not_true, Bool.not_false, cond_true, cond_false, Bool.true_eq_false, Bool.false_eq_true, Bool.and_eq_true, Bool.and_eq_false_iff] at *; omega)) | skip) | apply guess | exact Or.inl rfl | exact Or.inr rfl | exact Side.mk trivial | exact Side.mk (fun h => h) | exact Side.mk (fun h => ⟨h, h⟩) | with_reducible exact Side.mk rfl | with_reducible exact Side.mk ⟨rfl, rfl⟩ | with_reducible exact Side.mk (by assumption) | with_reducible rfl | intro _)
        all_goals try (conv => whnf)
        all_goals try (refine Side.mk ?_; first | (intros; omega) | (intro h1_ h2_; rw [h1_, h2_]; rfl) | (show List.length (_ ++ _) ≤ _; simp only [List.length_append, List.length_cons, List.length_nil, List.length_replicate, List.length_take]; omega) | (simp_all; done) | (simp_all; omega))
        all_goals first | rfl | trace_state
theorem k_CText (a b : List Int) (h : Side ((a.length ≤ 100000 ∧ ∀ r ∈ a, inI64 r) ∧ b.length ≤ 100000 ∧ ∀ r ∈ b, inI64 r)) : FnIs Tryd.prog 50 [.ptr 2 [] 0 0] 3 [(2, .flat false (.gen 2 [[.sl 0 [], .sl 1 []]])), (0, .flat false (.ints .i64 a)), (1, .flat false (.ints .i64 b))] (.str (numText a ++ ⟨#[47]⟩ ++ numText b)) 3 [] := by
  obtain ⟨h1, h2⟩ := h.h
  have l1 := numText_le h1.2
  have l2 := numText_le h2.2
  have e1 : (ByteArray.mk #[47]).size = 1 := rfl
  refine fn_of_ev tok Tryd.func50 rfl rfl rfl ?_
  repeat' ((conv => whnf); first | done | refine ev_step ?_ | refine ops_step ?_ | refine scan_step ?_ | refine draw_step ?_ | refine each_step ?_ | refine sl_step ?_ | refine hp_step ?_ | refine guard_no (by decide) ?_ | refine guard_go ?_ | refine guard_old ?_ | apply cut_auto | with_reducible exact CutS.mk (Or.inl ⟨rfl, rfl, rfl⟩) | refine CutS.mk (Or.inr (Or.inl (sub_auto ?_))) | exact trivial | refine And.intro ?_ ?_ | refine cond_split ?_ ?_ | apply guess | apply FnIs.useF (k_NText _ _) | exact Or.inl rfl | exact Or.inr rfl | exact Side.mk trivial | exact Side.mk (fun h => h) | exact Side.mk (fun h => ⟨h, h⟩) | with_reducible exact Side.mk rfl | with_reducible exact Side.mk ⟨rfl, rfl⟩ | with_reducible exact Side.mk (by assumption) | with_reducible rfl | intro _)
  all_goals try (conv => whnf)
  all_goals try simp only [bl_size_app] at *
  all_goals try exact Side.mk h1
  all_goals try exact Side.mk h2
  all_goals try (refine Side.mk ?_; first | (intros; omega) | (intro h1_ h2_; rw [h1_, h2_]; rfl) | (show List.length (_ ++ _) ≤ _; simp only [List.length_append, List.length_cons, List.length_nil, List.length_replicate, List.length_take]; omega) | (simp_all; done) | (simp_all; omega))
  all_goals first | rfl | trace_state
end Go.Sx.U
