/-
  Chapter 9, plain: rising rings: the search by depth, from a part and from a rule, finds the same ring.
-/
import Derived.Test.YtgfbiehncbinmaaM9
namespace Go.Sx.M9
set_option linter.unusedVariables false
set_option linter.unusedSimpArgs false
open Go Go.Sx

/-! ### The first success -/
theorem fs_none {α : Type} {g : Nat → Option α} {n : Nat} : (List.range n).findSome? g = none ↔ ∀ i, i < n → g i = none := by
  rw [List.findSome?_eq_none_iff]
  exact ⟨fun h i hi => h i (List.mem_range.2 hi), fun h i hi => h i (List.mem_range.1 hi)⟩
/-! ### The search -/
def lastI (l : List Int) : Int := l.getD (l.length - 1) 0
def ringF (rs : List R3) : Nat → List Int → List Int → Int → Option (List Int)
  | 0, l, pa, s => if lastI pa = pa.getD 0 0 ∧ 0 < s then some l else none
  | f + 1, l, pa, s => if l ≠ [] ∧ lastI pa ∈ pa.dropLast then none else
    (List.range rs.length).findSome? fun i => if (rs.getD i default).a = lastI pa then ringF rs f (l ++ [(i : Int)]) (pa ++ [(rs.getD i default).b]) (s + (rs.getD i default).c) else none
def ringG (rs : List R3) (f : Nat) (l pa : List Int) (s : Int) (i : Nat) : Option (List Int) := if (rs.getD i default).a = lastI pa then ringF rs f (l ++ [(i : Int)]) (pa ++ [(rs.getD i default).b]) (s + (rs.getD i default).c) else none
theorem ringF_succ (rs : List R3) (f : Nat) (l pa : List Int) (s : Int) (h : ¬ (l ≠ [] ∧ lastI pa ∈ pa.dropLast)) : ringF rs (f + 1) l pa s = (List.range rs.length).findSome? (ringG rs f l pa s) := by
  rw [ringF, if_neg h]; rfl
theorem lastI_snoc (l : List Int) (x : Int) : lastI (l ++ [x]) = x := by
  simp [lastI, List.getD]
theorem last_split {l : List Int} (h : l ≠ []) : l.dropLast ++ [lastI l] = l := by
  have e : lastI l = l.getLast h := by
    have : l.length - 1 < l.length := by have := List.length_pos_iff.2 h; omega
    rw [lastI, List.getD, List.getElem?_eq_getElem this, List.getLast_eq_getElem]; rfl
  rw [e]; exact List.dropLast_concat_getLast h

/-! ### From a rule, and from a part -/
/-- Is a list before another one? -/
def lessL : List Int → List Int → Bool
  | [], [] => false
  | [], _ :: _ => true
  | _ :: _, [] => false
  | a :: r, b :: q => if a = b then lessL r q else decide (a < b)
end Go.Sx.M9
