/-
  Chapter 8, plain: the uses of choices, overflows.
-/
import Derived.Test.YtpbmikcicibfcaaM8U
namespace Go.Sx.M8
set_option linter.unusedVariables false
set_option linter.unusedSimpArgs false
open Go Go.Sx Go.Sx.U

def shapesR (r : R4) : List (List R2) := shapesV r.a r.b r.c r.d
def shapeOf (r : R4) (k : Int) : List R2 := (shapesR r).getD k.toNat []
/-- The choice is one of these nets. -/
structure ChoiceOK (w h : Nat) (ns : List R4) (ks : List Int) : Prop where
  len : ks.length ≤ ns.length
  cel : ∀ i, i < ns.length → (cl (ns.getD i default).a ∧ cl (ns.getD i default).b ∧ cl (ns.getD i default).c ∧ cl (ns.getD i default).d) ∧ ((ns.getD i default).a < w ∧ (ns.getD i default).c < w) ∧ ((ns.getD i default).b < h ∧ (ns.getD i default).d < h)
  ch : ∀ i, i < ks.length → 0 ≤ ks.getD i 0 ∧ ks.getD i 0 < (shapesR (ns.getD i default)).length
/-! ### Overflows -/
def overR (r u : List Int) : Nat → Int
  | 0 => 0
  | x + 1 => overR r u x + max (u.getD x 0 - r.getD x 0) 0
def overT (R U : List (List Int)) : Nat → Int
  | 0 => 0
  | y + 1 => overT R U y + overR (R.getD y []) (U.getD y []) (R.getD y []).length
/-! ### Uses that are put back -/
end Go.Sx.M8
