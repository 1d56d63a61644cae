/-
  Chapter 8, plain: uses.
-/
import Derived.Test.YtpbmikcicibfcaaM8Q
namespace Go.Sx.M8
set_option linter.unusedVariables false
set_option linter.unusedSimpArgs false
open Go Go.Sx Go.Sx.U

/-! ### Prefixes of paths -/
theorem linesT_pre (s : List R2) (i : Nat) : ∀ j, i ≤ j → ∃ t, linesT s j = linesT s i ++ t
  | 0, h => ⟨[], by rw [show i = 0 by omega]; simp⟩
  | j + 1, h => by
    by_cases e : i = j + 1
    · exact ⟨[], by rw [e]; simp⟩
    · obtain ⟨t, ht⟩ := linesT_pre s i j (by omega)
      exact ⟨t ++ lineL (s.getD j default).a (s.getD j default).b (s.getD (j + 1) default).a (s.getD (j + 1) default).b, by rw [linesT, ht, List.append_assoc]⟩
theorem linesT_pos (s : List R2) : ∀ i, 1 ≤ (linesT s i).length
  | 0 => by simp [linesT]
  | i + 1 => by have := linesT_pos s i; rw [linesT, List.length_append]; omega
theorem getD_app_l {α : Type} {xs ys : List α} {k : Nat} {d : α} (h : k < xs.length) : (xs ++ ys).getD k d = xs.getD k d := by
  simp only [List.getD_eq_getElem?_getD, List.getElem?_append_left h]
theorem getD_app_r {α : Type} {xs ys : List α} {k : Nat} {d : α} : (xs ++ ys).getD (xs.length + k) d = ys.getD k d := by
  simp only [List.getD_eq_getElem?_getD, List.getElem?_append_right (Nat.le_add_right _ _), Nat.add_sub_cancel_left]
/-- The last point so far is the corner. -/
theorem linesT_last {s : List R2} (ha : ∀ i, i + 1 < s.length → aligned (s.getD i default) (s.getD (i + 1) default)) : ∀ i, i < s.length → (linesT s i).getD ((linesT s i).length - 1) default = s.getD i default
  | 0, _ => by simp [linesT]
  | i + 1, h => by
    have hal := ha i h
    have hi := linesT_last ha i (by omega)
    have hp := linesT_pos s i
    rw [linesT]
    by_cases hz : lineN (s.getD i default).a (s.getD i default).b (s.getD (i + 1) default).a (s.getD (i + 1) default).b = 0
    · have he : lineL (s.getD i default).a (s.getD i default).b (s.getD (i + 1) default).a (s.getD (i + 1) default).b = [] := by
        have := lineL_len (s.getD i default).a (s.getD i default).b (s.getD (i + 1) default).a (s.getD (i + 1) default).b
        rw [hz] at this
        exact List.length_eq_zero_iff.1 this
      rw [he, List.append_nil, hi]
      unfold lineN at hz
      have e1 : (s.getD i default).a = (s.getD (i + 1) default).a := by omega
      have e2 : (s.getD i default).b = (s.getD (i + 1) default).b := by omega
      calc s.getD i default = ⟨(s.getD i default).a, (s.getD i default).b⟩ := rfl
        _ = ⟨(s.getD (i + 1) default).a, (s.getD (i + 1) default).b⟩ := by rw [e1, e2]
        _ = s.getD (i + 1) default := rfl
    · have hl := lineL_len (s.getD i default).a (s.getD i default).b (s.getD (i + 1) default).a (s.getD (i + 1) default).b
      rw [List.length_append, hl, show (linesT s i).length + lineN (s.getD i default).a (s.getD i default).b (s.getD (i + 1) default).a (s.getD (i + 1) default).b - 1 = (linesT s i).length + (lineN (s.getD i default).a (s.getD i default).b (s.getD (i + 1) default).a (s.getD (i + 1) default).b - 1) by omega, getD_app_r]
      rw [lineL_get (by omega), show lineN (s.getD i default).a (s.getD i default).b (s.getD (i + 1) default).a (s.getD (i + 1) default).b - 1 + 1 = lineN (s.getD i default).a (s.getD i default).b (s.getD (i + 1) default).a (s.getD (i + 1) default).b by omega]
      obtain ⟨e1, e2⟩ := line_end hal
      calc ptAt (s.getD i default).a (s.getD i default).b (s.getD (i + 1) default).a (s.getD (i + 1) default).b _ = ⟨(s.getD (i + 1) default).a, (s.getD (i + 1) default).b⟩ := by unfold ptAt; rw [e1, e2]
        _ = s.getD (i + 1) default := rfl

/-! ### Steps on edges -/
def bump (W : List (List Int)) (y x : Nat) (k : Int) : List (List Int) := W.set y ((W.getD y []).set x ((W.getD y []).getD x 0 + k))
abbrev UU := List (List Int) × List (List Int)
def stepE (k : Int) (U : UU) (p q : R2) : UU := if p.b = q.b then (bump U.1 p.b.toNat (min p.a q.a).toNat k, U.2) else (U.1, bump U.2 (min p.b q.b).toNat p.a.toNat k)
def walkE (k : Int) (U : UU) (xs : List R2) : Nat → UU
  | 0 => U
  | i + 1 => stepE k (walkE k U xs i) (xs.getD i default) (xs.getD (i + 1) default)
def useE (k : Int) (U : UU) (s : List R2) : UU := walkE k U (pathL s) ((pathL s).length - 1)
/-- So many rows of so many numbers from -m to m. -/
structure Rows (n e : Nat) (m : Int) (W : List (List Int)) : Prop where
  len : W.length = n
  each : ∀ y, y < n → (W.getD y []).length = e
  bd : ∀ y, y < n → ∀ x, x < e → -m ≤ (W.getD y []).getD x 0 ∧ (W.getD y []).getD x 0 ≤ m
structure Dims (w h : Nat) (m : Int) (U : UU) : Prop where
  a : Rows h (w - 1) m U.1
  u : Rows (h - 1) w m U.2
end Go.Sx.M8
