/-
  Chapter 8, plain: lines and shapes.
-/
import Derived.Test.YtpbmikcicibfcaaM8
namespace Go.Sx.M8
set_option linter.unusedVariables false
set_option linter.unusedSimpArgs false
open Go Go.Sx Go.Sx.U

def sgn (n : Int) : Int := if n < 0 then -1 else if 0 < n then 1 else 0
theorem sgn_cases (n : Int) : (n < 0 ∧ sgn n = -1) ∨ (n = 0 ∧ sgn n = 0) ∨ (0 < n ∧ sgn n = 1) := by
  unfold sgn
  split
  · exact .inl ⟨by assumption, rfl⟩
  · split
    · exact .inr (.inr ⟨by assumption, rfl⟩)
    · exact .inr (.inl ⟨by omega, rfl⟩)
def ptAt (a b c d : Int) (i : Nat) : R2 := ⟨a + sgn (c - a) * i, b + sgn (d - b) * i⟩
def lineN (a b c d : Int) : Nat := (c - a).natAbs + (d - b).natAbs
def lineT (a b c d : Int) (n : Nat) : List R2 := (List.range n).map fun i => ptAt a b c d (i + 1)
def lineL (a b c d : Int) : List R2 := lineT a b c d (lineN a b c d)
theorem lineT_succ (a b c d : Int) (n : Nat) : lineT a b c d (n + 1) = lineT a b c d n ++ [ptAt a b c d (n + 1)] := by simp [lineT, List.range_succ]
theorem lineT_len (a b c d : Int) (n : Nat) : (lineT a b c d n).length = n := by simp [lineT]
theorem lineL_len (a b c d : Int) : (lineL a b c d).length = lineN a b c d := by simp [lineL, lineT]
theorem lineL_get {a b c d : Int} {i : Nat} (hi : i < lineN a b c d) : (lineL a b c d).getD i default = ptAt a b c d (i + 1) := by simp [lineL, lineT, List.getD, hi]
/-- A step on a line. -/
theorem line_step {a b c d : Int} (h : a = c ∨ b = d) {i : Nat} (hi : i < lineN a b c d) : ¬ (a + sgn (c - a) * i = c ∧ b + sgn (d - b) * i = d) ∧
    a + sgn (c - a) * i + sgn (c - (a + sgn (c - a) * i)) = a + sgn (c - a) * ((i : Int) + 1) ∧ b + sgn (d - b) * i + sgn (d - (b + sgn (d - b) * i)) = b + sgn (d - b) * ((i : Int) + 1) := by
  unfold lineN at hi
  rcases h with rfl | rfl
  · rcases sgn_cases (d - b) with ⟨h1, h2⟩ | ⟨h1, h2⟩ | ⟨h1, h2⟩
    · rw [show sgn (a - a) = 0 by simp [sgn], h2]
      rcases sgn_cases (d - (b + -1 * i)) with ⟨h3, h4⟩ | ⟨h3, h4⟩ | ⟨h3, h4⟩ <;> rw [h4] <;> refine ⟨?_, ?_, ?_⟩ <;> first | omega | (simp [sgn]; done) | (simp [sgn]; omega)
    · omega
    · rw [show sgn (a - a) = 0 by simp [sgn], h2]
      rcases sgn_cases (d - (b + 1 * i)) with ⟨h3, h4⟩ | ⟨h3, h4⟩ | ⟨h3, h4⟩ <;> rw [h4] <;> refine ⟨?_, ?_, ?_⟩ <;> first | omega | (simp [sgn]; done) | (simp [sgn]; omega)
  · rcases sgn_cases (c - a) with ⟨h1, h2⟩ | ⟨h1, h2⟩ | ⟨h1, h2⟩
    · rw [show sgn (b - b) = 0 by simp [sgn], h2]
      rcases sgn_cases (c - (a + -1 * i)) with ⟨h3, h4⟩ | ⟨h3, h4⟩ | ⟨h3, h4⟩ <;> rw [h4] <;> refine ⟨?_, ?_, ?_⟩ <;> first | omega | (simp [sgn]; done) | (simp [sgn]; omega)
    · omega
    · rw [show sgn (b - b) = 0 by simp [sgn], h2]
      rcases sgn_cases (c - (a + 1 * i)) with ⟨h3, h4⟩ | ⟨h3, h4⟩ | ⟨h3, h4⟩ <;> rw [h4] <;> refine ⟨?_, ?_, ?_⟩ <;> first | omega | (simp [sgn]; done) | (simp [sgn]; omega)
theorem line_end {a b c d : Int} (h : a = c ∨ b = d) : a + sgn (c - a) * (lineN a b c d : Nat) = c ∧ b + sgn (d - b) * (lineN a b c d : Nat) = d := by
  unfold lineN
  rcases h with rfl | rfl
  · rcases sgn_cases (d - b) with ⟨h1, h2⟩ | ⟨h1, h2⟩ | ⟨h1, h2⟩ <;> rw [show sgn (a - a) = 0 by simp [sgn], h2] <;> omega
  · rcases sgn_cases (c - a) with ⟨h1, h2⟩ | ⟨h1, h2⟩ | ⟨h1, h2⟩ <;> rw [show sgn (b - b) = 0 by simp [sgn], h2] <;> omega
/-- One coordinate that walks. -/
def wk (a c : Int) (i : Nat) : Int := a + sgn (c - a) * i
theorem wk_zero (a c : Int) : wk a c 0 = a := by simp [wk]
theorem wk_end (a c : Int) : wk a c (c - a).natAbs = c := by
  unfold wk
  rcases sgn_cases (c - a) with ⟨h1, h2⟩ | ⟨h1, h2⟩ | ⟨h1, h2⟩ <;> rw [h2] <;> omega
theorem wk_start {a c : Int} {i : Nat} (hi : i < (c - a).natAbs) : wk a c (i + 1) ≠ a := by
  unfold wk
  rcases sgn_cases (c - a) with ⟨h1, h2⟩ | ⟨h1, h2⟩ | ⟨h1, h2⟩ <;> rw [h2] <;> omega
theorem wk_iff {a c : Int} {i : Nat} (hi : i < (c - a).natAbs) : wk a c (i + 1) = c ↔ i + 1 = (c - a).natAbs := by
  unfold wk
  rcases sgn_cases (c - a) with ⟨h1, h2⟩ | ⟨h1, h2⟩ | ⟨h1, h2⟩ <;> rw [h2] <;> omega
theorem wk_bd {a c : Int} (ha : 0 ≤ a ∧ a ≤ 7) (hc : 0 ≤ c ∧ c ≤ 7) {i : Nat} (hi : i ≤ (c - a).natAbs) : 0 ≤ wk a c i ∧ wk a c i ≤ 7 := by
  unfold wk
  rcases sgn_cases (c - a) with ⟨h1, h2⟩ | ⟨h1, h2⟩ | ⟨h1, h2⟩ <;> rw [h2] <;> omega

/-! ### Corners that are clean -/
def cut4 (p q r s : R2) : List R2 := if r = s then [p, q, r] else [p, q, r, s]
/-! ### The shapes of a net -/
def shX (a b c d : Int) (i : Nat) : List R2 := cut4 ⟨a, b⟩ ⟨wk a c (i + 1), b⟩ ⟨wk a c (i + 1), d⟩ ⟨c, d⟩
def shY (a b c d : Int) (i : Nat) : List R2 := cut4 ⟨a, b⟩ ⟨a, wk b d (i + 1)⟩ ⟨c, wk b d (i + 1)⟩ ⟨c, d⟩
def shapesX (a b c d : Int) (n : Nat) : List (List R2) := (List.range n).map (shX a b c d)
def shapesY (a b c d : Int) (n : Nat) : List (List R2) := (List.range n).map (shY a b c d)
theorem shapesX_succ (a b c d : Int) (n : Nat) : shapesX a b c d (n + 1) = shapesX a b c d n ++ [shX a b c d n] := by simp [shapesX, List.range_succ]
theorem shapesY_succ (a b c d : Int) (n : Nat) : shapesY a b c d (n + 1) = shapesY a b c d n ++ [shY a b c d n] := by simp [shapesY, List.range_succ]
def shapesV (a b c d : Int) : List (List R2) :=
  if a = c ∨ b = d then [if a = c ∧ b = d then [⟨a, b⟩] else [⟨a, b⟩, ⟨c, d⟩]] else shapesX a b c d (c - a).natAbs ++ shapesY a b c d (d - b).natAbs
end Go.Sx.M8
