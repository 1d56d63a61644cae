/-
  Chapter 8: shapes of a net: the law.
-/
import Derived.Test.YtpbmikcicibfcaaG13
import Derived.Test.YtpbmikcicibfcaaG11
import Derived.Test.YtpbmikcicibfcaaG4
namespace Go.Sx.U
set_option linter.unusedVariables false
set_option linter.unusedSimpArgs false
set_option maxRecDepth 100000
set_option maxHeartbeats 8000000
open Go Go.Sx Go.Proofs Go.Sx.M8

/-! ### Lists of points -/
theorem k_eqPointR (r s : R2) : FnIs Try.prog 98 [ptV r.a r.b, ptV s.a s.b] 0 [] (.bool (decide (r = s))) 0 [] := by
  have := k_eqPoint r.a r.b s.a s.b
  rw [r2_eq] at this
  exact this
abbrev natPP (W : List (List R2)) : Prop := W.length ≤ 1048577 ∧ ∀ xs ∈ W, xs.length ≤ 1048577
/-! ### Marks -/
def marks2 (k : Int) (n : Nat) : List R2 := (List.range n).map fun i => ⟨k + 2 * (i : Nat), k + 2 * (i : Nat) + 1⟩
theorem marks2_length (k : Int) (n : Nat) : (marks2 k n).length = n := by simp [marks2]
theorem marks2_get (k : Int) {n i : Nat} (h : i < n) : (marks2 k n).getD i default = ⟨k + 2 * (i : Nat), k + 2 * (i : Nat) + 1⟩ := by simp [marks2, List.getD, h]
theorem marks2_fill {k : Int} {xs : List R2} {i : Nat} (v : R2) (hv : v = ⟨k + 2 * (i : Nat), k + 2 * (i : Nat) + 1⟩) (h : i < xs.length) : (marks2 k i ++ xs.drop i).set i v = marks2 k (i + 1) ++ xs.drop (i + 1) := by
  subst hv
  rw [List.set_append_right _ _ (by simp [marks2]), marks2_length, Nat.sub_self, List.drop_eq_getElem_cons h, List.set_cons_zero]
  simp [marks2, List.range_succ]
def totP : List (List R2) → Nat
  | [] => 0
  | r :: rs => 2 * r.length + totP rs
def marksP : Int → List (List R2) → List (List R2)
  | _, [] => []
  | k, r :: rs => marks2 k r.length :: marksP (k + 2 * r.length) rs
theorem totP_snoc (xss : List (List R2)) (r : List R2) : totP (xss ++ [r]) = totP xss + 2 * r.length := by
  induction xss with
  | nil => simp [totP]
  | cons x xss ih => simp only [List.cons_append, totP, ih]; omega
theorem totP_take_le (xss : List (List R2)) (i : Nat) : totP (xss.take i) ≤ totP xss := by
  induction xss generalizing i with
  | nil => simp
  | cons x xss ih =>
    cases i with
    | zero => simp [totP]
    | succ i => simp only [List.take_succ_cons, totP]; have := ih i; omega
theorem marksP_len (k : Int) (xss : List (List R2)) : (marksP k xss).length = xss.length := by
  induction xss generalizing k with
  | nil => rfl
  | cons x xss ih => simp [marksP, ih]
theorem marksP_snoc (k : Int) (xss : List (List R2)) (r : List R2) : marksP k (xss ++ [r]) = marksP k xss ++ [marks2 (k + totP xss) r.length] := by
  induction xss generalizing k with
  | nil => simp [marksP, totP]
  | cons x xss ih => simp only [List.cons_append, marksP, ih, totP]; congr 4; push_cast; omega
theorem marksP_fill {k : Int} {xss : List (List R2)} {i : Nat} (h : i < xss.length) : (marksP k (xss.take i) ++ xss.drop i).set i (marks2 (k + totP (xss.take i)) (xss.getD i []).length) = marksP k (xss.take (i + 1)) ++ xss.drop (i + 1) := by
  rw [take_snoc [] h, marksP_snoc, drop_cons (d := []) h, List.set_append_right _ _ (by rw [marksP_len, List.length_take]; omega), marksP_len]
  simp [show min i xss.length = i by omega]
theorem marksP_get : ∀ (xss : List (List R2)) (k : Int) (i : Nat), i < xss.length → (marksP k xss).getD i [] = marks2 (k + totP (xss.take i)) (xss.getD i []).length
  | [], k, i, h => absurd h (Nat.not_lt_zero i)
  | x :: xss, k, 0, h => by simp [marksP, totP]
  | x :: xss, k, i + 1, h => by
    have := marksP_get xss (k + 2 * x.length) i (by simpa using h)
    simp only [marksP, List.getD_cons_succ, List.take_succ_cons, totP] at this ⊢
    rw [this]
    congr 1
    push_cast
    omega
/-! ### The functions -/
theorem net_cel {A V : List (List Int)} {a b c d : Int} (h : (gridB A V && netB A a b c d) = true) : Side (cel a ∧ cel b ∧ cel c ∧ cel d) := by
  simp only [Bool.and_eq_true] at h
  exact ⟨netB_bd h.1 h.2⟩
theorem k_ShapesOf_no (A V : List (List Int)) (a b c d : Int) (h : Side (natSS A ∧ natSS V)) (hk : (gridB A V && netB A a b c d) = false) : FnIs Try.prog 36 [.agg [.sl 1 [], .sl 3 []], netV a b c d] 4 (gridH false A V) (.tuple [.nilsl, .bool false]) 4 [] := by
  have k1 := k_IsNet A V a b c d h
  rw [hk] at k1
  refine fn_of_ev tok Try.func36 rfl rfl rfl ?_
  repeat' ((conv => whnf); first | done | refine ev_step ?_ | refine ops_step ?_ | refine scan_step ?_ | refine draw_step ?_ | refine each_step ?_ | refine guard_no (by decide) ?_ | refine guard_go ?_ | apply cut_auto | with_reducible exact CutS.mk (Or.inl ⟨rfl, rfl, rfl⟩) | refine CutS.mk (Or.inr (sub_auto ?_)) | exact trivial | refine And.intro ?_ ?_ | refine cond_split ?_ ?_ | apply guess | apply FnIs.useF (k1) | exact Or.inl rfl | exact Or.inr rfl | exact Side.mk trivial | exact Side.mk (fun h => h) | exact Side.mk (fun h => ⟨h, h⟩) | with_reducible exact Side.mk rfl | with_reducible exact Side.mk ⟨rfl, rfl⟩ | with_reducible exact Side.mk (by assumption) | with_reducible rfl | intro _)
  all_goals try (conv => whnf)
  all_goals try (refine Side.mk ?_; first | (intros; omega) | (show List.length (_ ++ _) ≤ _; simp only [List.length_append, List.length_cons, List.length_nil, List.length_replicate, List.length_take]; omega) | (simp_all; done) | (simp_all; omega))
  all_goals first | rfl | trace_state
theorem k_ShapesOf (A V : List (List Int)) (a b c d : Int) (h : Side (natSS A ∧ natSS V)) (hk : (gridB A V && netB A a b c d) = true) : FnIs Try.prog 36 [.agg [.sl 1 [], .sl 3 []], netV a b c d] 4 (gridH false A V) (.tuple [.sl 5 [], .bool true]) 6 [(5, .flat true (.rows 4 0 (shapesV a b c d).length)), (4, .nestR2 true (shapesV a b c d))] := by
  have k1 := k_IsNet A V a b c d h
  have k3 := k_shapes a b c d (net_cel hk)
  rw [hk] at k1
  refine fn_of_ev tok Try.func36 rfl rfl rfl ?_
  repeat' ((conv => whnf); first | done | refine ev_step ?_ | refine ops_step ?_ | refine scan_step ?_ | refine draw_step ?_ | refine each_step ?_ | refine guard_no (by decide) ?_ | refine guard_go ?_ | apply cut_auto | with_reducible exact CutS.mk (Or.inl ⟨rfl, rfl, rfl⟩) | refine CutS.mk (Or.inr (sub_auto ?_)) | exact trivial | refine And.intro ?_ ?_ | refine cond_split ?_ ?_ | apply guess | apply FnIs.useF (k1) | apply FnIs.useF (k3) | exact Or.inl rfl | exact Or.inr rfl | exact Side.mk trivial | exact Side.mk (fun h => h) | exact Side.mk (fun h => ⟨h, h⟩) | with_reducible exact Side.mk rfl | with_reducible exact Side.mk ⟨rfl, rfl⟩ | with_reducible exact Side.mk (by assumption) | with_reducible rfl | intro _)
  all_goals try (conv => whnf)
  all_goals try (refine Side.mk ?_; first | (intros; omega) | (show List.length (_ ++ _) ≤ _; simp only [List.length_append, List.length_cons, List.length_nil, List.length_replicate, List.length_take]; omega) | (simp_all; done) | (simp_all; omega))
  all_goals first | rfl | trace_state
theorem cut4_len (p q r s : R2) : (cut4 p q r s).length ≤ 4 := by unfold cut4; split <;> simp
theorem shapes_small {a b c d : Int} (h : cel a ∧ cel b ∧ cel c ∧ cel d) : (shapesV a b c d).length ≤ 14 ∧ ∀ xs ∈ shapesV a b c d, xs.length ≤ 4 := by
  unfold shapesV
  split
  · refine ⟨by simp, fun xs hx => ?_⟩
    rw [List.mem_singleton.1 hx]
    split <;> simp
  · refine ⟨by simp [shapesX, shapesY]; omega, fun xs hx => ?_⟩
    rcases List.mem_append.1 hx with hx | hx
    · simp only [shapesX, List.mem_map] at hx
      obtain ⟨i, _, rfl⟩ := hx
      exact cut4_len _ _ _ _
    · simp only [shapesY, List.mem_map] at hx
      obtain ⟨i, _, rfl⟩ := hx
      exact cut4_len _ _ _ _
theorem totP_small {W : List (List R2)} (h : ∀ xs ∈ W, xs.length ≤ 4) : totP W ≤ 8 * W.length := by
  induction W with
  | nil => simp [totP]
  | cons x W ih =>
    have := ih fun xs hx => h xs (List.mem_cons_of_mem _ hx)
    have := h x List.mem_cons_self
    simp only [totP, List.length_cons]; omega
theorem totL_nat {W : List (List Int)} {l : Int} (h0 : 0 ≤ l) (h1 : l ≤ 1048576) (h : 0 ≤ szN W l) : totL W ≤ 1048577 := by
  have := szN_tot h0 h; omega
theorem gin_tot {A V : List (List Int)} (hl : ¬ (if szN A 1048576 < 0 then -1 else szN V (szN A 1048576)) < 0) : totL A ≤ 1048577 ∧ totL V ≤ 1048577 := by
  have hA : 0 ≤ szN A 1048576 := by
    by_cases c : szN A 1048576 < 0
    · rw [if_pos c] at hl; omega
    · omega
  have hV : 0 ≤ szN V (szN A 1048576) := by rw [if_neg (by omega)] at hl; omega
  exact ⟨totL_nat (by omega) (by omega) hA, totL_nat hA (szN_ok (xss := A) (l := 1048576) (by omega) hA).1 hV⟩
end Go.Sx.U
