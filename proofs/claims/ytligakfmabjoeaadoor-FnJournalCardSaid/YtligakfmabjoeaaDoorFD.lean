/-
  Closed facts on the whole program that all rows ask; and what the listed variables hold.
-/
import Derived.Test.YtligakfmabjoeaaDoorRows
import Derived.Test.YtligakfmabjoeaaDoorT21
import Derived.ProofKit
import Derived.LaidMore
import Derived.OpenShut
import Derived.Lib.LaidTab
import Derived.Stop.LaidErr
import Derived.Stop.Joined
namespace Go.Proofs.YtligakfmabjoeaaDoor.FD
set_option linter.unusedVariables false
set_option linter.unusedSimpArgs false
open Go
theorem own : ownKnob Tryd.prog.godebug = none := by kernel_rfl
theorem laidOut : laidOutB Tryd.prog = true := by kernel_rfl
theorem hLift : (Rows.fnExactJournalOfRow.lifted == Tryd.pinned.checked.prog.liftsFinal) = true := by kernel_rfl
theorem hMake : (Tryd.pinned.checked.prog.make == some Rows.fnExactJournalOfRow.make) = true := by kernel_rfl
theorem hEnter : Tryd.pinned.checked.prog.mayEnter = true := by kernel_rfl
abbrev steps : Nat := 24
theorem door_met (os : Os) (args : Array Value) : laidMetH Tryd.prog Rows.fnExactJournalOfRow.laid ((World.doorLaid Tryd.prog steps os).forCall (fun _ _ => 0) ⟨#[], args, []⟩).memory :=
  laidMetH_of_parts3 (fuel := 8) (laidMet_of_run' 8 (by kernel_rfl) (by kernel_rfl)) (by kernel_rfl) (by kernel_rfl)
theorem lie {W : World} (h : laidMetH Tryd.prog Rows.fnExactJournalOfRow.laid W) : ∀ x ∈ Sx.glT, ∃ arr t f, W.heap[x.1]? = some (.cells arr t f) ∧ x.2 arr := by
  rw [MakeChecks.laidMetH_plain _ _ _ (by kernel_rfl)] at h
  have h2 : laidMet Tryd.prog [_, _, (_, Lib.tabData .u64 Lib.pow10Tab)] W := h
  exact Sx.U.lie_of (by kernel_rfl) (Lib.tabIs_of_head (n := 20) (g := 1) (by kernel_rfl) (by kernel_rfl) Tryd.underlying111 Tryd.underlying72 (by kernel_rfl) (by kernel_rfl) (laidMet.tail (laidMet.tail h2)))
end Go.Proofs.YtligakfmabjoeaaDoor.FD
