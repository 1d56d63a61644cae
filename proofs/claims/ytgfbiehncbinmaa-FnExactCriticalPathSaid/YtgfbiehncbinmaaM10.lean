/-
  Chapter 9, plain mathematics: when there are least places; the latest places.
-/
import Derived.Test.YtgfbiehncbinmaaM9
namespace Go.Sx.M9
set_option linter.unusedVariables false
set_option linter.unusedSimpArgs false
open Go.Sx

def Feas (rs : List R3) (F : List Int) : Prop := ∀ r ∈ rs, F.getD r.a.toNat 0 + r.c ≤ F.getD r.b.toNat 0
def cnt (n : Nat) (out L : List Int) : Nat := (List.range n).countP fun i => decide (out.getD i 0 = L.getD i 0)
/-! ### The latest places: the least ones, seen from the width -/
def flp (r : R3) : R3 := ⟨r.b, r.a, r.c⟩
def flps (rs : List R3) : List R3 := rs.map flp
def comp (w : Int) (l : List Int) : List Int := l.map fun n => w - n
end Go.Sx.M9
