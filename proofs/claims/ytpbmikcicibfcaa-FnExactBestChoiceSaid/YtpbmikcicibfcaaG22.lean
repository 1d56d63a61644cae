/-
  Chapter 8: the fullest edge; the uses themselves: the laws.
-/
import Derived.Test.YtpbmikcicibfcaaG21
import Derived.Test.YtpbmikcicibfcaaM8X
namespace Go.Sx.U
set_option linter.unusedVariables false
set_option linter.unusedSimpArgs false
set_option maxRecDepth 100000
set_option maxHeartbeats 8000000
open Go Go.Sx Go.Proofs Go.Sx.M8

end Go.Sx.U
