/-
  Chapter 8: the bound by cuts (contracts).
-/
import Derived.Test.YtpbmikcicibfcaaG6
namespace Go.Sx.U
set_option linter.unusedVariables false
set_option linter.unusedSimpArgs false
set_option maxRecDepth 100000
set_option maxHeartbeats 8000000
open Go Go.Sx Go.Proofs Go.Sx.M8

def cutV (A V : List (List Int)) (ns : List R4) : Int := cutX A ns (A.getD 0 []).length + cutY V ns V.length
end Go.Sx.U
