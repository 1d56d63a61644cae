/-
  Chapter 8: the greedy choice, the program's way; the law.
-/
import Derived.Test.YtpbmikcicibfcaaG25
namespace Go.Sx.U
set_option linter.unusedVariables false
set_option linter.unusedSimpArgs false
set_option maxRecDepth 100000
set_option maxHeartbeats 8000000
open Go Go.Sx Go.Proofs Go.Sx.M8

theorem k_overflowW (A V : List (List Int)) (W : UU) (o : Int) (he : EachOK A V W) (ho : overV A V W = o) : FnIs Try.prog 55 [.ptr 4 [] 0 0, .ptr 9 [] 0 0] 10 (boxG :: boxU :: (useB A.length W ++ gridH false A V)) (.int .i64 o) 10 [] := by
  rw [← ho]
  exact k_overflow A V W he
theorem k_useBack (w h : Nat) (m : Int) (U : UU) (s : List R2) (hd : Dims w h m U) (hg : GoodShape s) (hw : M8.Way w h (pathL s)) (hm : Side (0 ≤ m ∧ m ≤ 10000)) : FnIs Try.prog 72 [.ptr 4 [] 0 0, .sl 5 [], .int .i64 (-1)] 6 (boxG :: (5, .flat false (.r2 s)) :: useH true h (useE 1 U s)) (.tuple []) 6 [(0, .nestI true .i64 U.1), (2, .nestI true .i64 U.2)] := by
  have := k_useShape w h (m + 576) (useE 1 U s) s (-1) (use_dims hd hg hw (.inl rfl)) hg hw (.inr rfl) ⟨by have := hm.h; omega⟩
  rwa [use_back hd hg hw] at this
end Go.Sx.U
