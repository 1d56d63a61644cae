/-
  Closed facts on the whole program that all rows ask.
-/
import Derived.Test.YtgfbiehncbinmaaRows
import Derived.ProofKit
namespace Go.Proofs.Ytgfbiehncbinmaa.F9B
set_option linter.unusedVariables false
set_option linter.unusedSimpArgs false
theorem own : ownKnob Try.prog.godebug = none := by kernel_rfl
theorem laidOut : laidOutB Try.prog = true := by kernel_rfl
theorem hLift : (Rows.fnPressedRow.lifted == Try.pinned.checked.prog.liftsFinal) = true := by kernel_rfl
theorem hMake : (Try.pinned.checked.prog.make == some Rows.fnPressedRow.make) = true := by kernel_rfl
theorem hEnter : Try.pinned.checked.prog.mayEnter = true := by kernel_rfl
end Go.Proofs.Ytgfbiehncbinmaa.F9B
