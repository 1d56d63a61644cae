/-
  Chapter 8, plain: grids.
-/
import Derived.Test.YtpbmikcicibfcaaK1
namespace Go.Sx.M8
set_option linter.unusedVariables false
set_option linter.unusedSimpArgs false
open Go Go.Sx Go.Sx.U

def inR (n : Int) : Bool := decide (0 ≤ n) && decide (n ≤ 20)
def badRow (e : Int) (r : List Int) : Bool := decide ((r.length : Int) ≠ e) || r.any (fun n => !inR n)
/-- So many lists of so many rooms. -/
def okRows (m e : Int) (xss : List (List Int)) : Bool := decide ((xss.length : Int) = m) && !(xss.any (badRow e))
def wd (A : List (List Int)) : Int := ((A.getD 0 []).length : Int) + 1
def gridB (A V : List (List Int)) : Bool := decide (A.length ≠ 0) && (decide (wd A ≤ 8) && decide ((A.length : Int) ≤ 8) && okRows A.length (wd A - 1) A && okRows ((A.length : Int) - 1) (wd A) V)
theorem badRow_no {e : Int} {r : List Int} (h : (r.length : Int) = e) (h2 : r.any (fun n => !inR n) = false) : badRow e r = false := by simp [badRow, h, h2]
theorem okRows_yes {m e : Int} {xss : List (List Int)} (h : (xss.length : Int) = m) (h2 : xss.any (badRow e) = false) : okRows m e xss = true := by simp [okRows, h, h2]
/-! ### Grids of one number -/
def rowsE (m e : Nat) (n : Int) : List (List Int) := List.replicate m (List.replicate e n)
theorem rowsE_len (m e : Nat) (n : Int) : (rowsE m e n).length = m := by simp [rowsE]
theorem rowsE_succ (m e : Nat) (n : Int) : rowsE (m + 1) e n = rowsE m e n ++ [List.replicate e n] := by simp [rowsE, List.replicate_succ']
/-! ### Cells, nets, sums -/
def cellB (A : List (List Int)) (x y : Int) : Bool := (decide (0 ≤ x) && decide (x ≤ wd A - 1)) && (decide (0 ≤ y) && decide (y ≤ (A.length : Int) - 1))
def netB (A : List (List Int)) (a b c d : Int) : Bool := cellB A a b && cellB A c d
def netR (A : List (List Int)) (r : R4) : Bool := netB A r.a r.b r.c r.d
def netsB (A V : List (List Int)) (ns : List R4) : Bool := gridB A V && decide (ns.length ≤ 6) && ns.all (netR A)
theorem gridB_len {A V : List (List Int)} (h : gridB A V = true) : 0 < A.length ∧ A.length ≤ 8 ∧ wd A ≤ 8 := by
  simp only [gridB, Bool.and_eq_true, decide_eq_true_eq] at h
  omega
theorem netB_bd {A V : List (List Int)} (h : gridB A V = true) {a b c d : Int} (hn : netB A a b c d = true) : (0 ≤ a ∧ a ≤ 7) ∧ (0 ≤ b ∧ b ≤ 7) ∧ (0 ≤ c ∧ c ≤ 7) ∧ (0 ≤ d ∧ d ≤ 7) := by
  have := gridB_len h
  simp only [netB, cellB, Bool.and_eq_true, decide_eq_true_eq] at hn
  omega
def farI (a b c d : Int) : Int := max (a - c) (-(a - c)) + max (b - d) (-(b - d))
def sumI (xs : List Int) : Int := xs.foldr (· + ·) 0
theorem getD_get {α : Type} {xs : List α} {k : Nat} {d : α} (hk : k < xs.length) : xs.getD k d = xs[k] := by rw [List.getD, List.getElem?_eq_getElem hk]; rfl

/-! ### Cuts -/
end Go.Sx.M8
