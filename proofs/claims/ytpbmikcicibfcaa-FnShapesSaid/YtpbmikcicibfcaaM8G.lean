/-
  Chapter 8, plain: grids that are drawn.
-/
import Derived.Test.YtpbmikcicibfcaaM8R
namespace Go.Sx.M8
set_option linter.unusedVariables false
set_option linter.unusedSimpArgs false
open Go Go.Sx Go.Sx.U

/-- So many rows of so many rooms. -/
structure GR (n e : Nat) (W : List (List Int)) : Prop where
  len : W.length = n
  row : ∀ y, y < n → (W.getD y []).length = e
  bd : ∀ y, y < n → ∀ x, x < e → 0 ≤ (W.getD y []).getD x 0 ∧ (W.getD y []).getD x 0 ≤ 20
def putG (W : List (List Int)) (y x : Nat) (z : Int) : List (List Int) := W.set y ((W.getD y []).set x z)
theorem putG_row {W : List (List Int)} {y : Nat} (x : Nat) (z : Int) (hy : y < W.length) (y' : Nat) : (putG W y x z).getD y' [] = if y' = y then (W.getD y []).set x z else W.getD y' [] := by
  unfold putG
  by_cases h : y' = y
  · subst h; rw [if_pos rfl]; simp [List.getD, hy]
  · rw [if_neg h]; simp [List.getD, List.getElem?_set, Ne.symm h]
theorem putG_len (W : List (List Int)) (y x : Nat) (z : Int) : (putG W y x z).length = W.length := by simp [putG]
theorem GR.put {n e : Nat} {W : List (List Int)} (h : GR n e W) {y x : Nat} {z : Int} (hy : y < n) (hz : 0 ≤ z ∧ z ≤ 20) : GR n e (putG W y x z) := by
  have hl := h.len
  refine ⟨by rw [putG_len, hl], fun y' hy' => ?_, fun y' hy' x' hx' => ?_⟩
  · rw [putG_row x z (by omega)]
    split
    · rw [List.length_set]; exact h.row y hy
    · exact h.row y' hy'
  · rw [putG_row x z (by omega)]
    split
    · have hr := h.row y hy
      have hb := h.bd y hy x' hx'
      simp only [List.getD, List.getElem?_set] at hb ⊢
      split
      · split
        · exact hz
        · simp
      · exact hb
    · exact h.bd y' hy' x' hx'
theorem GR.even {n e : Nat} {r : Int} (hr : 0 ≤ r ∧ r ≤ 20) : GR n e (rowsE n e r) := by
  have hg : ∀ y, y < n → (rowsE n e r).getD y [] = List.replicate e r := fun y hy => by simp [rowsE, List.getD, hy]
  refine ⟨rowsE_len n e r, fun y hy => by rw [hg y hy]; simp, fun y hy x hx => ?_⟩
  rw [hg y hy]
  simp [List.getD, hx]; exact hr
theorem GR.ok {n e : Nat} {W : List (List Int)} (h : GR n e W) : okRows n e W = true := by
  have hl := h.len
  refine okRows_yes (by omega) ?_
  rw [List.any_eq_false]
  intro r hr
  obtain ⟨y, hy, rfl⟩ := List.mem_iff_getElem.1 hr
  have h1 := h.row y (by omega)
  have h2 := h.bd y (by omega)
  have e1 : W.getD y [] = W[y] := by rw [List.getD, List.getElem?_eq_getElem hy]; rfl
  rw [e1] at h1 h2
  rw [badRow_no (by omega)]
  · simp
  · rw [List.any_eq_false]
    intro v hv
    obtain ⟨x, hx, rfl⟩ := List.mem_iff_getElem.1 hv
    have h3 := h2 x (by omega)
    rw [List.getD, List.getElem?_eq_getElem hx, Option.getD_some] at h3
    simp [inR]; omega
theorem grid_mk {w h : Nat} {A V : List (List Int)} (hA : GR h (w - 1) A) (hV : GR (h - 1) w V) (h1 : 1 ≤ w ∧ w ≤ 8) (h2 : 1 ≤ h ∧ h ≤ 8) : gridB A V = true ∧ wN A = w ∧ A.length = h := by
  have hl := hA.len
  have hr := hA.row 0 (by omega)
  have hw : wd A = w := by unfold wd; omega
  refine ⟨?_, by unfold wN; omega, hl⟩
  have e1 := hA.ok
  have e2 := hV.ok
  rw [show ((w - 1 : Nat) : Int) = (w : Int) - 1 by omega] at e1
  rw [show ((h - 1 : Nat) : Int) = (h : Int) - 1 by omega] at e2
  simp only [gridB, Bool.and_eq_true, decide_eq_true_eq, hw, hl]
  exact ⟨by omega, ⟨⟨by omega, by omega⟩, e1⟩, e2⟩
end Go.Sx.M8
