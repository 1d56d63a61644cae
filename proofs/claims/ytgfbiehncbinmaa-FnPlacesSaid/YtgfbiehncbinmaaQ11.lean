/-
  Chapter 9: latest places.
-/
import Derived.Test.YtgfbiehncbinmaaQ5
import Derived.Test.YtgfbiehncbinmaaM10
namespace Go.Sx.U
set_option linter.unusedVariables false
set_option linter.unusedSimpArgs false
set_option maxRecDepth 100000
set_option maxHeartbeats 8000000
open Go Go.Sx Go.Sx.M9 Go.Proofs
set_option maxHeartbeats 2000000
set_option maxRecDepth 100000

/-! ### The latest places, as rounds -/
theorem comp_bd {w m : Int} {l : List Int} (hb : Bd m l) (hw : 0 ≤ w) (i : Nat) (hi : i < l.length) : w - m ≤ (comp w l).getD i 0 ∧ (comp w l).getD i 0 ≤ w := by
  rw [comp_get hi]
  have := hb i
  omega
theorem comp_rise {w : Int} {rs : List R3} {z : List Int} {j : Nat} (hj : j < rs.length) (ha : (rs.getD j default).a.toNat < z.length) (hb : (rs.getD j default).b.toNat < z.length)
    (hz : (passT (flps rs) z j).1.length = z.length)
    (h : (comp w (passT (flps rs) z j).1).getD (rs.getD j default).b.toNat 0 - (rs.getD j default).c < (comp w (passT (flps rs) z j).1).getD (rs.getD j default).a.toNat 0) :
    (passT (flps rs) z (j + 1)).2 = true ∧ comp w (passT (flps rs) z (j + 1)).1 = (comp w (passT (flps rs) z j).1).set (rs.getD j default).a.toNat ((comp w (passT (flps rs) z j).1).getD (rs.getD j default).b.toNat 0 - (rs.getD j default).c) := by
  rw [comp_get (by omega), comp_get (by omega)] at h
  have hl : (flps rs).length = rs.length := by simp [flps]
  have e := passT_rise (rs := flps rs) (out := z) (j := j) (by omega) (by rw [flps_get rs hj]; show (passT (flps rs) z j).1.getD (rs.getD j default).a.toNat 0 < (passT (flps rs) z j).1.getD (rs.getD j default).b.toNat 0 + (rs.getD j default).c; omega)
  rw [flps_get rs hj] at e
  rw [e]
  refine ⟨rfl, ?_⟩
  rw [comp_set, comp_get (by omega)]
  show (comp w (passT (flps rs) z j).1).set (rs.getD j default).a.toNat (w - ((passT (flps rs) z j).1.getD (rs.getD j default).b.toNat 0 + (rs.getD j default).c)) = _
  congr 1
  omega
theorem comp_keep {w : Int} {rs : List R3} {z : List Int} {j : Nat} (hj : j < rs.length) (ha : (rs.getD j default).a.toNat < z.length) (hb : (rs.getD j default).b.toNat < z.length)
    (hz : (passT (flps rs) z j).1.length = z.length)
    (h : ¬ (comp w (passT (flps rs) z j).1).getD (rs.getD j default).b.toNat 0 - (rs.getD j default).c < (comp w (passT (flps rs) z j).1).getD (rs.getD j default).a.toNat 0) :
    passT (flps rs) z (j + 1) = passT (flps rs) z j := by
  rw [comp_get (by omega), comp_get (by omega)] at h
  have hl : (flps rs).length = rs.length := by simp [flps]
  refine passT_keep (rs := flps rs) (out := z) (j := j) (by omega) ?_
  rw [flps_get rs hj]
  show ¬ (passT (flps rs) z j).1.getD (rs.getD j default).a.toNat 0 < (passT (flps rs) z j).1.getD (rs.getD j default).b.toNat 0 + (rs.getD j default).c
  omega

/-- The latest places: the round's result, and whether it keeps all rules. -/
def late1 (p w : Int) (rs : List R3) : Option (List Int) := (leastR p (flps rs)).map (comp w)
def lateOk (p w : Int) (rs : List R3) : Bool := match late1 p w rs with
  | some L => placed p rs L
  | none => false
end Go.Sx.U
