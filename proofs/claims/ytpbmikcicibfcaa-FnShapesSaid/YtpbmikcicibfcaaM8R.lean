/-
  Chapter 8, plain: what routes use in all, and what crosses a cut.
-/
import Derived.Test.YtpbmikcicibfcaaM8Z
import Derived.Test.YtpbmikcicibfcaaM8W
namespace Go.Sx.M8
set_option linter.unusedVariables false
set_option linter.unusedSimpArgs false
open Go Go.Sx Go.Sx.U

/-! ### Lengths of paths -/
theorem linesT_len (s : List R2) (i : Nat) : (linesT s (i + 1)).length = (linesT s i).length + lineN (s.getD i default).a (s.getD i default).b (s.getD (i + 1) default).a (s.getD (i + 1) default).b := by
  rw [linesT, List.length_append, lineL_len]
/-- A shape leads from one end to the other by a shortest path. -/
structure ShapeLen (a b c d : Int) (s : List R2) : Prop where
  len : (pathL s).length = lineN a b c d + 1
  fst : s.getD 0 default = ⟨a, b⟩
  lst : s.getD (s.length - 1) default = ⟨c, d⟩
theorem shape_one (a b : Int) : ShapeLen a b a b [⟨a, b⟩] := ⟨by simp [pathL, linesT, lineN], rfl, rfl⟩
theorem shape_two (a b c d : Int) : ShapeLen a b c d [⟨a, b⟩, ⟨c, d⟩] := by
  refine ⟨?_, rfl, rfl⟩
  show (linesT _ 1).length = _
  rw [linesT_len]
  simp [linesT]
  omega
theorem shape_cut {a b c d x y x2 y2 : Int} (h1 : lineN a b x y + lineN x y x2 y2 + lineN x2 y2 c d = lineN a b c d) : ShapeLen a b c d (cut4 ⟨a, b⟩ ⟨x, y⟩ ⟨x2, y2⟩ ⟨c, d⟩) := by
  unfold cut4
  split
  · next h =>
    injection h with h2 h3
    subst h2 h3
    refine ⟨?_, rfl, rfl⟩
    show (linesT _ 2).length = _
    rw [linesT_len, linesT_len]
    have : lineN x2 y2 x2 y2 = 0 := by simp [lineN]
    simp [linesT]
    omega
  · refine ⟨?_, rfl, rfl⟩
    show (linesT _ 3).length = _
    rw [linesT_len, linesT_len, linesT_len]
    simp [linesT]
    omega
theorem shX_len {a b c d : Int} {i : Nat} (hi : i < (c - a).natAbs) : ShapeLen a b c d (shX a b c d i) := by
  refine shape_cut ?_
  have h := wk_mid (a := a) (c := c) (n := i + 1) (by omega)
  unfold lineN
  omega
theorem shY_len {a b c d : Int} {i : Nat} (hi : i < (d - b).natAbs) : ShapeLen a b c d (shY a b c d i) := by
  refine shape_cut ?_
  have h := wk_mid (a := b) (c := d) (n := i + 1) (by omega)
  unfold lineN
  omega
theorem shapes_lenP (a b c d : Int) : ∀ s ∈ shapesV a b c d, ShapeLen a b c d s := fun s hs => by
  unfold shapesV at hs
  split at hs
  · split at hs
    · next h1 h2 =>
      obtain ⟨rfl, rfl⟩ := h2
      rw [List.mem_singleton.1 hs]
      exact shape_one a b
    · rw [List.mem_singleton.1 hs]
      exact shape_two a b c d
  · rcases List.mem_append.1 hs with hs | hs
    · obtain ⟨i, hi, rfl⟩ := List.mem_map.1 hs
      exact shX_len (List.mem_range.1 hi)
    · obtain ⟨i, hi, rfl⟩ := List.mem_map.1 hs
      exact shY_len (List.mem_range.1 hi)
theorem shapesV_len (a b c d : Int) : (shapesV a b c d).length = if a = c ∨ b = d then 1 else lineN a b c d := by
  unfold shapesV
  split
  · rfl
  · simp [shapesX, shapesY, lineN]

/-! ### Sums -/
def ss (f : Nat → Int) : Nat → Int
  | 0 => 0
  | n + 1 => ss f n + f n
/-! ### What a step changes -/
/-- All uses across a column's border, up a row's border, and in all. -/
def cxU (h : Nat) (U : UU) (x : Nat) : Int := ss (fun y => (U.1.getD y []).getD x 0) h
def cyU (w : Nat) (U : UU) (y : Nat) : Int := ss (fun x => (U.2.getD y []).getD x 0) w
def totU (w h : Nat) (U : UU) : Int := ss (fun y => ss (fun x => (U.1.getD y []).getD x 0) (w - 1)) h + ss (fun y => ss (fun x => (U.2.getD y []).getD x 0) w) (h - 1)
def crs (t : Int) (a c : Int) : Int := if decide (a ≤ t) = decide (c ≤ t) then 0 else 1
structure StepU (w h : Nat) (U U' : UU) (p q : R2) : Prop where
  tot : totU w h U' = totU w h U + 1
  cx : ∀ x : Nat, cxU h U' x = cxU h U x + crs x p.a q.a
  cy : ∀ y : Nat, cyU w U' y = cyU w U y + crs y p.b q.b
theorem linesT_head (s : List R2) : ∀ i, (linesT s i).getD 0 default = s.getD 0 default
  | 0 => rfl
  | i + 1 => by
    have h := linesT_pos s i
    rw [linesT, getD_app_l (by omega), linesT_head s i]
/-! ### The bound by cuts -/
/-! ### The fullest edge -/
end Go.Sx.M8
