/-
  Chapter 8, plain: the greedy choice, the best choice.
-/
import Derived.Test.YtpbmikcicibfcaaM8X
namespace Go.Sx.M8
set_option linter.unusedVariables false
set_option linter.unusedSimpArgs false
open Go Go.Sx Go.Sx.U

theorem usedT_app {w h : Nat} {ns : List R4} {ks zs : List Int} : ∀ j, j ≤ ks.length → usedT w h ns (ks ++ zs) j = usedT w h ns ks j
  | 0, _ => rfl
  | j + 1, hj => by
    simp only [usedT]
    rw [usedT_app j (by omega), getD_app_l (by omega)]
theorem usedT_snoc {w h : Nat} {ns : List R4} {ks : List Int} {k : Int} : usedT w h ns (ks ++ [k]) (ks.length + 1) = useE 1 (usedT w h ns ks ks.length) (shapeOf (ns.getD ks.length default) k) := by
  simp only [usedT]
  rw [usedT_app _ (Nat.le_refl _)]
  congr 2
  simp [List.getD]
def ovF (A V : List (List Int)) (ns : List R4) (ks : List Int) : Int := overV A V (usedT (wN A) A.length ns ks ks.length)
theorem choice_snoc {w h : Nat} {ns : List R4} {ks : List Int} {k : Int} (hc : ChoiceOK w h ns ks) (hl : ks.length < ns.length) (hk : 0 ≤ k ∧ k < (shapesR (ns.getD ks.length default)).length) : ChoiceOK w h ns (ks ++ [k]) := by
  refine ⟨by simp; omega, hc.cel, fun i hi => ?_⟩
  by_cases e : i < ks.length
  · rw [getD_app_l e]; exact hc.ch i e
  · have : i = ks.length := by simp at hi; omega
    subst this
    rw [show (ks ++ [k]).getD ks.length 0 = k by simp [List.getD]]
    exact hk
theorem choice_nil {A V : List (List Int)} {ns : List R4} (h : netsB A V ns = true) : ChoiceOK (wN A) A.length ns [] := by
  obtain ⟨hg, _, hn⟩ := netsB_all h
  exact ⟨by simp, fun i hi => netR_cel hg (hn i hi), fun i hi => by simp at hi⟩
theorem ovF_bd {A V : List (List Int)} (hg : gridB A V = true) {ns : List R4} {ks : List Int} (hl : ks.length ≤ 6) (hc : ChoiceOK (wN A) A.length ns ks) : 0 ≤ ovF A V ns ks ∧ ovF A V ns ks ≤ 1000000 := by
  have hd := used_dims hc ks.length (Nat.le_refl _)
  have hd2 : Dims (wN A) A.length 3456 (usedT (wN A) A.length ns ks ks.length) := ⟨rows_mono hd.a (by omega), rows_mono hd.u (by omega)⟩
  obtain ⟨b1, b2, _, _⟩ := over_bdA hg (by omega) hd2
  obtain ⟨g1, g2, g3⟩ := gridB_len hg
  obtain ⟨_, r2, _⟩ := grid_room hg
  have c1 := b1 A.length (Nat.le_refl _)
  have c2 := b2 V.length (Nat.le_refl _)
  unfold ovF overV
  omega

/-! ### The first least one -/
end Go.Sx.M8
