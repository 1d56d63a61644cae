/-
  Structs of int64 fields, by value, that came in as a law's arguments.
-/
import Derived.Test.YtbjlbmehklfijaaSxV2
import Derived.Lib.SmallJoins
namespace Go.Sx
set_option linter.unusedVariables false
set_option linter.unusedSimpArgs false
open Go
open Go.ChangeShapes Go.WideShapes Go.ChangeAt Go.RowKit Go.Joins Go.Deep
variable {H : Type} {enc : TypeId × Value → H} {P : Program} {w : World} {base : Nat} {spare : Nat → Bool} {held : Bool}

theorem open_aggI {r : Reach} {b0 : Nat} {t : TypeId} {fs : Array Field} {v : Value} {d : DataW H} {p : List MemPlace} {n : Nat} (hs : P.underlying t = some (.struct fs)) (hai : allIntsB P 8 t n = true)
    (hv : Value.okWide P w r b0 t v) (h : DataW.Trod enc P w base spare held t v d p) :
    ∃ ns : List Int, v = .agg ((ns.map (Value.int .i64)).toArray) ∧ ns.length = n ∧ ∀ k ∈ ns, inI64 k := by
  obtain ⟨cs, rfl, hsz⟩ := okWide_struct hs hv
  obtain ⟨fuel, hf⟩ := h
  obtain ⟨ns, e1, e2, e3⟩ := allIntsB_sound 8 t n _ fuel _ hai hf
  refine ⟨ns, ?_, e2, e3⟩
  rw [← e1]
  simp [Value.cells]
theorem list4 {α : Type} {ns : List α} (h : ns.length = 4) : ∃ a b c d, ns = [a, b, c, d] := by
  match ns, h with
  | [a, b, c, d], _ => exact ⟨a, b, c, d, rfl⟩
end Go.Sx
