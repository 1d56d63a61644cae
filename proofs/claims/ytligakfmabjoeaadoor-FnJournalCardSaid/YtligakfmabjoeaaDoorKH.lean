/-
  Calls that change nothing leave the caller's heap in its order.
-/
import Derived.Test.YtligakfmabjoeaaDoorK1
namespace Go.Sx
set_option linter.unusedVariables false
set_option linter.unusedSimpArgs false
set_option maxRecDepth 100000
set_option maxHeartbeats 8000000
open Go
def inH (k : Nat) (o : AObj) : Heap → Prop
  | [] => False
  | (k', o') :: r => bif Nat.beq k' k then o' = o else inH k o r
def subH : Heap → Heap → Prop
  | [], _ => True
  | (k, o) :: r, g => inH k o g ∧ subH r g
theorem inH_get {k : Nat} {o : AObj} : ∀ {g : Heap}, inH k o g → hget g k = some o
  | [], h => by simp only [inH] at h
  | (k', o') :: r, h => by
    simp only [inH] at h
    simp only [hget]
    cases hb : Nat.beq k' k with
    | true => rw [hb] at h; simp only [cond_true] at h ⊢; rw [h]
    | false => rw [hb] at h; simp only [cond_false] at h ⊢; exact inH_get h
theorem subH_get : ∀ {G g : Heap}, subH G g → ∀ i o, hget G i = some o → hget g i = some o
  | [], _, _, i, o, h => by simp [hget] at h
  | (k, x) :: r, g, hs, i, o, h => by
    simp only [subH] at hs
    simp only [hget] at h
    cases hb : Nat.beq k i with
    | true =>
      rw [hb] at h
      simp only [cond_true, Option.some.injEq] at h
      have := Nat.eq_of_beq_eq_true hb
      subst this h
      exact inH_get hs.1
    | false => rw [hb] at h; simp only [cond_false] at h; exact subH_get hs.2 i o h
theorem ACall.subG {P : Program} {f : Nat} {args : List AV} {N : Nat} {G : Heap} {K K' : AV → Nat → Heap → Prop} (h : ACall P f args N G K) (hk : ∀ a n g, K a n g → ∃ g', (∀ i o, hget g' i = some o → hget g i = some o) ∧ K' a n g') : ACall P f args N G K' :=
  ⟨h.1, fun ρ w cargs hgk hH hv => (h.2 ρ w cargs hgk hH hv).mono fun _ _ ⟨v, he, ho⟩ => ⟨v, he, by
    obtain ⟨av, ρ', N', G', h1, h2, h3, h4, h5, h6, h7⟩ := ho.ex
    obtain ⟨g', s1, s2⟩ := hk _ _ _ h1
    refine ⟨⟨av, ρ', N', g', s2, h2, h3.sub s1, h4, h5, h6, fun b hb => h7 b ?_⟩⟩
    obtain ⟨id, p, nd, hn, ht⟩ := hb
    obtain ⟨o, q1, q2⟩ := hn.ex
    exact ⟨id, p, nd, ⟨⟨o, s1 _ _ q1, q2⟩⟩, ht⟩⟩⟩
/-- A call that changes nothing leaves the caller's heap as it stands. -/
theorem FnIs.useS {P : Program} {f : Nat} {args0 : List AV} {N0 : Nat} {G0 : Heap} {v : AV} {n : Nat} {g : Heap} (h : FnIs P f args0 N0 G0 v n g) {args : List AV} {N : Nat} {G : Heap} {K : AV → Nat → Heap → Prop}
    (hu : Go.Sx.useF args0 N0 G0 (isR N0 G0 v n g) [] args0 args N G fun a n g => subH G g ∧ K a n G) : ACall P f args N G K := (h.useF hu).subG fun _ _ _ ⟨h1, h2⟩ => ⟨_, subH_get h1, h2⟩
/-- The same, for a contract whose arguments are rows, named by their object and place. -/
theorem FnIs.useSR {P : Program} {f : Nat} {args0 : List AV} {N0 : Nat} {G0 : Heap} {v : AV} {n : Nat} {g : Heap} (h : FnIs P f args0 N0 G0 v n g) {args : List AV} {N : Nat} {G : Heap} {K : AV → Nat → Heap → Prop}
    (hu : Go.Sx.useA args0 N0 G0 (isR N0 G0 v n g) args N G fun a n g => subH G g ∧ K a n G) : ACall P f args N G K := (h.r.useA hu).subG fun _ _ _ ⟨h1, h2⟩ => ⟨_, subH_get h1, h2⟩
end Go.Sx
