/-
  Chapter 8: choices that are right; the overflow of a choice: the law.
-/
import Derived.Test.YtpbmikcicibfcaaG20
import Derived.Test.YtpbmikcicibfcaaG14
import Derived.Test.YtpbmikcicibfcaaK1
namespace Go.Sx.U
set_option linter.unusedVariables false
set_option linter.unusedSimpArgs false
set_option maxRecDepth 100000
set_option maxHeartbeats 8000000
open Go Go.Sx Go.Proofs Go.Sx.M8

theorem net_sd {A V : List (List Int)} {ns : List R4} (h : netsB A V ns = true) {i : Nat} (hi : i < ns.length) : Side (cel (ns.getD i default).a ∧ cel (ns.getD i default).b ∧ cel (ns.getD i default).c ∧ cel (ns.getD i default).d) := by
  obtain ⟨h1, _, h3⟩ := netsB_all h
  have := netB_bd h1 (h3 i hi)
  exact ⟨this⟩
end Go.Sx.U
