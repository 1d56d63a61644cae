/-
  Chapter 8: the greedy choice: the law.
-/
import Derived.Test.YtpbmikcicibfcaaG24
import Derived.Test.YtpbmikcicibfcaaM8Y
import Derived.Test.YtpbmikcicibfcaaK8
namespace Go.Sx.U
set_option linter.unusedVariables false
set_option linter.unusedSimpArgs false
set_option maxRecDepth 100000
set_option maxHeartbeats 8000000
open Go Go.Sx Go.Proofs Go.Sx.M8

theorem k_l08OverflowF (A V : List (List Int)) (ns : List R4) (ks : List Int) (hn : Side (natSS A ∧ gridB A V = true ∧ ns.length ≤ 6 ∧ ks.length ≤ ns.length)) (hc : ChoiceOK (wN A) A.length ns ks) : FnIs Try.prog 50 [.ptr 4 [] 0 0, .sl 5 [], .sl 6 []] 7 (boxG :: (5, .flat false (.r4 ns)) :: (6, .flat false (.ints .i64 ks)) :: gridH false A V) (.int .i64 (ovF A V ns ks)) 7 [] := k_l08Overflow A V ns ks hn hc
end Go.Sx.U
