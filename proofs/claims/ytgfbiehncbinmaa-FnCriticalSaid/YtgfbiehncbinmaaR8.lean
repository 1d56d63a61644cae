/-
  Chapter 9: the reference's critical path (contracts).
-/
import Derived.Test.YtgfbiehncbinmaaM9C
import Derived.Test.YtgfbiehncbinmaaR1
import Derived.Test.YtgfbiehncbinmaaK1
import Derived.Test.YtgfbiehncbinmaaSd
set_option linter.unusedSimpArgs false
namespace Go.Sx.U
set_option linter.unusedVariables false
set_option linter.unusedSimpArgs false
set_option maxRecDepth 100000
set_option maxHeartbeats 8000000
open Go Go.Sx Go.Proofs Go.Sx.M9

structure LvlOK (n : Nat) (rs : List R3) (tk : List Int) (LS : List (List Int)) : Prop where
  par : 1 ≤ n ∧ n ≤ 16
  rul : rs.length ≤ 40
  tks : tk.length ≤ 40
  tkb : ∀ k, k < tk.length → 0 ≤ tk.getD k 0 ∧ tk.getD k 0 < rs.length
  few : LS.length ≤ 16
  row : ∀ i, i < LS.length → 1 ≤ (LS.getD i []).length ∧ (LS.getD i []).length ≤ 16
end Go.Sx.U
