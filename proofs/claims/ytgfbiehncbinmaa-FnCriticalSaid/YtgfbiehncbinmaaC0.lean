/-
  Contracts that tell their outcome in part, with two kinds of outcome.
-/
import Derived.Test.YtgfbiehncbinmaaSd
namespace Go.Sx
set_option linter.unusedVariables false
set_option linter.unusedSimpArgs false
set_option maxRecDepth 100000
set_option maxHeartbeats 8000000
open Go

def exR2 {α : Type} (N0 : Nat) (G0 : Heap) (p : Bool × α → Prop) (v : Bool × α → AV) (n : Nat) (g : Bool × α → Heap) : PostR := fun m N G K =>
  (∀ a, p (false, a) → K ((v (false, a)).ren (rN m N0 N)) (Nat.add (Nat.sub n N0) N) (join m N0 N G0 (g (false, a)) G)) ∧
  (∀ a, p (true, a) → K ((v (true, a)).ren (rN m N0 N)) (Nat.add (Nat.sub n N0) N) (join m N0 N G0 (g (true, a)) G))
theorem FnEx.r2 {P : Program} {f : Nat} {args0 : List AV} {N0 : Nat} {G0 : Heap} {α : Type} {p : Bool × α → Prop} {v : Bool × α → AV} {n : Nat} {g : Bool × α → Heap} (h : FnEx P f args0 N0 G0 p v n g) : FnR P f args0 N0 G0 (exR2 N0 G0 p v n g) :=
  ⟨fun m _ _ _ _ h1 h2 => h.call.lift m h1 fun _ _ _ ⟨a, ha, e1, e2, e3⟩ _ => by
    subst e1 e2 e3
    obtain ⟨b, a⟩ := a
    cases b with
    | false => exact h2.1 a ha
    | true => exact h2.2 a ha⟩
end Go.Sx
