/-
  Chapter 9: rules of shapes; pressed shapes.
-/
import Derived.Test.YtgfbiehncbinmaaQ5
import Derived.Test.YtgfbiehncbinmaaQ2
namespace Go.Sx.U
set_option linter.unusedVariables false
set_option linter.unusedSimpArgs false
set_option maxRecDepth 100000
set_option maxHeartbeats 8000000
open Go Go.Sx Go.Sx.M9 Go.Proofs
set_option maxHeartbeats 2000000
set_option maxRecDepth 100000

def pairR (ap : Int) (xs : List R4) (i k : Nat) : List R3 :=
  if (xs.getD i default).a < (xs.getD k default).a ∧ meet1 (xs.getD i default).b (xs.getD i default).d (xs.getD k default).b (xs.getD k default).d = true then [⟨i, k, (xs.getD i default).c + ap⟩] else []
def rowR (ap : Int) (xs : List R4) (i k : Nat) : List R3 := (List.range k).flatMap (pairR ap xs i)
def rulesR (ap : Int) (xs : List R4) (i : Nat) : List R3 := (List.range i).flatMap fun i => rowR ap xs i xs.length
theorem rowR_succ (ap : Int) (xs : List R4) (i k : Nat) : rowR ap xs i (k + 1) = rowR ap xs i k ++ pairR ap xs i k := by
  simp [rowR, List.range_succ]
theorem rulesR_succ (ap : Int) (xs : List R4) (i : Nat) : rulesR ap xs (i + 1) = rulesR ap xs i ++ rowR ap xs i xs.length := by
  simp [rulesR, List.range_succ]
theorem pairR_len (ap : Int) (xs : List R4) (i k : Nat) : (pairR ap xs i k).length ≤ 1 := by
  unfold pairR; split <;> simp
theorem pairR_yes {ap : Int} {xs : List R4} {i k : Nat} (h : (xs.getD i default).a < (xs.getD k default).a) (h2 : meet1 (xs.getD i default).b (xs.getD i default).d (xs.getD k default).b (xs.getD k default).d = true) : pairR ap xs i k = [⟨i, k, (xs.getD i default).c + ap⟩] := if_pos ⟨h, h2⟩
theorem pairR_no {ap : Int} {xs : List R4} {i k : Nat} (h : ¬ ((xs.getD i default).a < (xs.getD k default).a ∧ meet1 (xs.getD i default).b (xs.getD i default).d (xs.getD k default).b (xs.getD k default).d = true)) : pairR ap xs i k = [] := if_neg h
theorem okShapes_bd {xs : List R4} (h : okShapes xs = true) : 1 ≤ xs.length ∧ xs.length ≤ 12 ∧ ∀ i, i < xs.length → okShape (xs.getD i default) = true := by
  simp only [okShapes, Bool.and_eq_true, decide_eq_true_eq] at h
  exact ⟨h.2.1, h.2.2, fun i hi => okAt_shape h.1 hi⟩

/-- The rules of shapes, if they are right. -/
def shapeOk (ap : Int) (xs : List R4) : Bool := okShapes xs && (decide (0 ≤ ap) && decide (ap ≤ 1000)) && okPress xs.length (rulesR ap xs xs.length)
end Go.Sx.U
