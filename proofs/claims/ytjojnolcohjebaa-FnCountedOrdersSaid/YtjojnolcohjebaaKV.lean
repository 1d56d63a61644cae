/-
  FnExactValidBundle, as a contract.
-/
import Derived.Test.YtjojnolcohjebaaK3
namespace Go.Sx.U
set_option linter.unusedVariables false
set_option linter.unusedSimpArgs false
set_option maxRecDepth 100000
set_option maxHeartbeats 8000000
open Go Go.Sx Go.Proofs Go.Sx.M0

theorem nat_sz {W : List (List Int)} (h : ¬ szN W 1048576 < 0) : W.length ≤ 1048577 ∧ ∀ xs ∈ W, xs.length ≤ 1048577 := by
  obtain ⟨_, q2, q3⟩ := szN_ok (xss := W) (l := 1048576) (by omega) (by omega)
  exact ⟨by omega, fun xs hxs => by have := q3 xs hxs; omega⟩
abbrev BIn (W : List (List Int)) : Prop := W.length ≤ 9223372036854775807 ∧ ∀ xs ∈ W, xs.length ≤ 9223372036854775807 ∧ ∀ k ∈ xs, inI64 k
theorem BIn.sz {W : List (List Int)} (h : BIn W) : Side ((0 : Int) ≤ 1048576 ∧ (1048576 : Int) ≤ 1048576 ∧ W.length ≤ 9223372036854775807 ∧ ∀ xs ∈ W, xs.length ≤ 9223372036854775807) := ⟨by omega, by omega, h.1, fun xs hxs => (h.2 xs hxs).1⟩
end Go.Sx.U
