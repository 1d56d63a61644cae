/-
  Closed facts on the whole program that all rows ask.
-/
import Derived.Test.YtpbmikcicibfcaaRows
import Derived.ProofKit
namespace Go.Proofs.Ytpbmikcicibfcaa.F8B
set_option linter.unusedVariables false
set_option linter.unusedSimpArgs false
theorem own : ownKnob Try.prog.godebug = none := by kernel_rfl
theorem laidOut : laidOutB Try.prog = true := by kernel_rfl
theorem hLift : (Rows.fnExactOverflowOfRow.lifted == Try.pinned.checked.prog.liftsFinal) = true := by kernel_rfl
theorem hMake : (Try.pinned.checked.prog.make == some Rows.fnExactOverflowOfRow.make) = true := by kernel_rfl
theorem hEnter : Try.pinned.checked.prog.mayEnter = true := by kernel_rfl
end Go.Proofs.Ytpbmikcicibfcaa.F8B
