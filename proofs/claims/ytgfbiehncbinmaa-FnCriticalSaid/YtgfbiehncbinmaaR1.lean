/-
  Chapter 9: rising rings, as the reference searches for them (contracts).
-/
import Derived.Test.YtgfbiehncbinmaaM9R
import Derived.Test.YtgfbiehncbinmaaQ4
import Derived.Test.YtgfbiehncbinmaaK1
import Derived.Test.YtgfbiehncbinmaaSd
namespace Go.Sx.U
set_option linter.unusedVariables false
set_option linter.unusedSimpArgs false
set_option maxRecDepth 100000
set_option maxHeartbeats 8000000
open Go Go.Sx Go.Sx.M9 Go.Proofs

/-- What is known where the search stands. -/
structure RingP (p : Int) (rs : List R3) (f : Nat) (l pa : List Int) (s : Int) : Prop where
  ok : okPress p rs = true
  small : l.length + f ≤ 8
  len : pa.length = l.length + 1
  lo : -100000 + 1000 * f ≤ s
  hi : s ≤ 100000 - 1000 * f
theorem RingP.step {p : Int} {rs : List R3} {f : Nat} {l pa : List Int} {s : Int} (h : RingP p rs (f + 1) l pa s) {i : Nat} (hi : i < rs.length) : RingP p rs f (l ++ [(i : Int)]) (pa ++ [(rs.getD i default).b]) (s + (rs.getD i default).c) := by
  have hm : rs.getD i default ∈ rs := by
    rw [List.getD, List.getElem?_eq_getElem hi]; exact List.getElem_mem hi
  have hb := okRule_bd ((okPress_bd h.ok).2.2.2 _ hm)
  have := h.small
  have := h.len
  have := h.lo
  have := h.hi
  exact ⟨h.ok, by simp; omega, by simp; omega, by omega, by omega⟩
end Go.Sx.U
