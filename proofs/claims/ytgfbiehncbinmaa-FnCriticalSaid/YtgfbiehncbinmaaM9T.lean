/-
  Chapter 9, plain: what FnPlaces asks.
-/
import Derived.Test.YtgfbiehncbinmaaM9S
import Derived.Test.YtgfbiehncbinmaaQ14
namespace Go.Sx.U
set_option linter.unusedVariables false
set_option linter.unusedSimpArgs false
open Go Go.Sx Go.Sx.M9

theorem placed_iff {p : Int} {rs : List R3} {pl : List Int} : placed p rs pl = true ↔ (pl.length : Int) = p ∧ (∀ x ∈ pl, 0 ≤ x ∧ x ≤ 16000) ∧ Feas rs pl := by
  simp only [placed, Bool.and_eq_true, decide_eq_true_eq, List.all_eq_true, inPl, broken, Bool.not_eq_true', decide_eq_false_iff_not, Feas]
  constructor
  · rintro ⟨⟨h1, h2⟩, h3⟩
    exact ⟨h1, h2, fun r hr => by have := h3 r hr; omega⟩
  · rintro ⟨h1, h2, h3⟩
    exact ⟨⟨h1, h2⟩, fun r hr => by have := h3 r hr; omega⟩
/-- Places. -/
structure PlaceP (p : Int) (rs : List R3) (L : List Int) : Prop where
  len : (L.length : Int) = p
  pl : placed p rs L = true
  nn : ∀ i, 0 ≤ L.getD i 0 ∧ L.getD i 0 ≤ maxL L
  le : ∀ own, placed p rs own = true → ∀ i, L.getD i 0 ≤ own.getD i 0
  wid : 0 ≤ maxL L ∧ maxL L ≤ 8000
  mem : ∃ i, i < L.length ∧ maxL L = L.getD i 0
  less : late? p (maxL L - 1) rs = none
  late : ∀ d : Int, 0 ≤ d → d ≤ 9 → ∃ A, late? p (maxL L + d) rs = some A ∧ placed p rs A = true ∧ A.length = L.length ∧ free? p (maxL L + d) rs = some (diffL A L L.length) ∧ ∀ i, i < L.length → A.getD i 0 ≤ maxL L + d ∧ L.getD i 0 ≤ A.getD i 0
end Go.Sx.U
