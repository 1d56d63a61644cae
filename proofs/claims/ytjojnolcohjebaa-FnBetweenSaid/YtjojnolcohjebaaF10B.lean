/-
  Closed facts on the whole program that all rows ask.
-/
import Derived.Test.YtjojnolcohjebaaRows
import Derived.ProofKit
namespace Go.Proofs.Ytjojnolcohjebaa.F10B
set_option linter.unusedVariables false
set_option linter.unusedSimpArgs false
theorem own : ownKnob Try.prog.godebug = none := by kernel_rfl
theorem laidOut : laidOutB Try.prog = true := by kernel_rfl
theorem hLift : (Rows.fnExactCountOrdersOfRow.lifted == Try.pinned.checked.prog.liftsFinal) = true := by kernel_rfl
theorem hMake : (Try.pinned.checked.prog.make == some Rows.fnExactCountOrdersOfRow.make) = true := by kernel_rfl
theorem hEnter : Try.pinned.checked.prog.mayEnter = true := by kernel_rfl
end Go.Proofs.Ytjojnolcohjebaa.F10B
