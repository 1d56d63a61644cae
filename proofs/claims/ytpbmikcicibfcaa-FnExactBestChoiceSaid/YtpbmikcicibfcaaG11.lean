/-
  Chapter 8: grids of one number, the law.
-/
import Derived.Test.YtpbmikcicibfcaaG10
namespace Go.Sx.U
set_option linter.unusedVariables false
set_option linter.unusedSimpArgs false
set_option maxRecDepth 100000
set_option maxHeartbeats 8000000
open Go Go.Sx Go.Proofs Go.Sx.M8

end Go.Sx.U
