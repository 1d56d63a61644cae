/-
  Chapter 9: rising rings: the program's search (contract of the function that calls itself).
-/
import Derived.Test.YtgfbiehncbinmaaR1
import Derived.Test.YtgfbiehncbinmaaK1
import Derived.Test.YtgfbiehncbinmaaC0
namespace Go.Sx.U
set_option linter.unusedVariables false
set_option linter.unusedSimpArgs false
set_option maxRecDepth 100000
set_option maxHeartbeats 8000000
open Go Go.Sx Go.Sx.M9 Go.Proofs

/-- The parts on a list of rules. -/
def paL (rs : List R3) (l : List Int) : List Int := (rs.getD (l.getD 0 0).toNat default).a :: l.map fun k => (rs.getD k.toNat default).b
theorem paL_snoc (rs : List R3) {l : List Int} (h : l ≠ []) (i : Nat) : paL rs (l ++ [(i : Int)]) = paL rs l ++ [(rs.getD i default).b] := by
  cases l with
  | nil => exact absurd rfl h
  | cons a r => simp [paL]
structure GrowP (p : Int) (rs : List R3) (f : Nat) (l : List Int) (s : Int) : Prop where
  ok : okPress p rs = true
  ne : l ≠ []
  rng : ∀ k ∈ l, 0 ≤ k ∧ k < (rs.length : Int)
  ring : RingP p rs f l (paL rs l) s
theorem GrowP.step {p : Int} {rs : List R3} {f : Nat} {l : List Int} {s : Int} (h : GrowP p rs (f + 1) l s) {i : Nat} (hi : i < rs.length) : GrowP p rs f (l ++ [(i : Int)]) (s + (rs.getD i default).c) := by
  refine ⟨h.ok, by simp, fun k hk => ?_, ?_⟩
  · rcases List.mem_append.1 hk with hk | hk
    · exact h.rng k hk
    · rw [List.mem_singleton.1 hk]; omega
  · rw [paL_snoc rs h.ne]; exact h.ring.step hi
end Go.Sx.U
