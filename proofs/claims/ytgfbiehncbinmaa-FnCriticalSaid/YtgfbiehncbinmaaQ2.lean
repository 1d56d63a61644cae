/-
  Chapter 9: shapes.
-/
import Derived.Test.YtgfbiehncbinmaaQ1
namespace Go.Sx.U
set_option linter.unusedVariables false
set_option linter.unusedSimpArgs false
set_option maxRecDepth 100000
set_option maxHeartbeats 8000000
open Go Go.Sx Go.Sx.M9 Go.Proofs

def okShape (s : R4) : Bool := (decide (0 ≤ s.a) && decide (s.a ≤ 1000)) && (decide (0 ≤ s.b) && decide (s.b ≤ 1000)) && (decide (1 ≤ s.c) && decide (s.c ≤ 1000)) && (decide (1 ≤ s.d) && decide (s.d ≤ 1000))
def meet1 (a l b o : Int) : Bool := decide (a < b + o) && decide (b < a + l)
def meet (s t : R4) : Bool := meet1 s.a s.c t.a t.c && meet1 s.b s.d t.b t.d
def okAt (xs : List R4) (i : Nat) : Bool := okShape (xs.getD i default) && (xs.take i).all (fun t => !meet (xs.getD i default) t)
def okShapes (xs : List R4) : Bool := (List.range xs.length).all (okAt xs) && (decide (1 ≤ xs.length) && decide (xs.length ≤ 12))
theorem okAt_shape {xs : List R4} {i k : Nat} (h : (List.range i).all (okAt xs) = true) (hk : k < i) : okShape (xs.getD k default) = true := by
  rw [List.all_eq_true] at h
  have := h k (List.mem_range.2 hk)
  simp only [okAt, Bool.and_eq_true] at this
  exact this.1
/-! ### The program's -/
def over (a l b o : Int) : Bool := decide (max a b < min (a + l) (b + o))
end Go.Sx.U
