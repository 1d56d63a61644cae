/-
  Chapter 8: the reference's paths through corners (contract).
-/
import Derived.Test.YtpbmikcicibfcaaG15
namespace Go.Sx.U
set_option linter.unusedVariables false
set_option linter.unusedSimpArgs false
set_option maxRecDepth 100000
set_option maxHeartbeats 8000000
open Go Go.Sx Go.Proofs Go.Sx.M8

theorem linesT_next (s : List R2) (i : Nat) : linesT s (i + 1) = linesT s i ++ lineL (s.getD i default).a (s.getD i default).b (s.getD (i + 1) default).a (s.getD (i + 1) default).b := rfl
end Go.Sx.U
