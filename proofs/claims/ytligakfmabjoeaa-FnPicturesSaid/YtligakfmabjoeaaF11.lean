/-
  Closed facts on the whole program that all rows ask.
-/
import Derived.Test.YtligakfmabjoeaaRows
import Derived.ProofKit
namespace Go.Proofs.Ytligakfmabjoeaa.F11
set_option linter.unusedVariables false
set_option linter.unusedSimpArgs false
theorem own : ownKnob Try.prog.godebug = none := by kernel_rfl
theorem laidOut : laidOutB Try.prog = true := by kernel_rfl
theorem hLift : (Rows.fnExactValidDeskRow.lifted == Try.pinned.checked.prog.liftsFinal) = true := by kernel_rfl
theorem hMake : (Try.pinned.checked.prog.make == some Rows.fnExactValidDeskRow.make) = true := by kernel_rfl
theorem hEnter : Try.pinned.checked.prog.mayEnter = true := by kernel_rfl
end Go.Proofs.Ytligakfmabjoeaa.F11
