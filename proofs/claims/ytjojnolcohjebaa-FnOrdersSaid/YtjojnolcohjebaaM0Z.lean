/-
  Chapter 10, plain: ways to the end and orders.
-/
import Derived.Test.YtjojnolcohjebaaM0Y
import Derived.Test.YtjojnolcohjebaaM0C
namespace Go.Sx.M0
set_option linter.unusedVariables false
set_option linter.unusedSimpArgs false
open Go Go.Sx

abbrev outP (xs : List (Nat × Nat)) : List Int := xs.map fun x => (x.1 : Int)
theorem Pth.coup0 {W : List (List Int)} {e : Int} {m l k : Nat} {xs : List (Nat × Nat)} {c : Int} (h : Pth W e m l k xs c) : k = 0 → ∀ o : List Int, o ≠ [] → o.getD (o.length - 1) 0 = (l : Int) → coup W (o ++ outP xs) [] = coup W o [] + c := by
  induction h with
  | nil _ _ => intro _ o _ _; simp [outP]
  | @cons m l k w sh xs c h1 h2 h3 h4 h5 ih =>
    intro hk o ho hl
    obtain rfl : sh = 0 := by omega
    have h6 := ih (by omega) (o ++ [(w : Int)]) (by simp) (by simp [List.getD])
    rw [List.append_assoc] at h6
    have h7 := coup_snoc (W := W) (o := o) (x := (w : Int)) (List.length_pos_iff.2 ho)
    rw [hl] at h7
    rw [h7] at h6
    rw [if_pos rfl]
    have h8 : outP ((w, 0) :: xs) = [(w : Int)] ++ outP xs := rfl
    rw [h8, h6]
    simp only [Int.toNat_natCast]
    omega
/-- The set of an order's beginning. -/
structure SetIs (W : List (List Int)) (m : Nat) (o : List Int) : Prop where
  rng : ∀ x ∈ o, 0 ≤ x ∧ x < (W.length : Int)
  nd : o.Nodup
  bit : ∀ v : Nat, v < W.length → (m.testBit v = true ↔ (v : Int) ∈ o)
theorem SetIs.add {W : List (List Int)} {m w : Nat} {o : List Int} (h : SetIs W m o) (hw : w < W.length) (hn : m.testBit w = false) : SetIs W (m ||| 2 ^ w) (o ++ [(w : Int)]) := by
  refine ⟨fun x hx => ?_, ?_, fun v hv => ?_⟩
  · rcases List.mem_append.1 hx with hx | hx
    · exact h.rng x hx
    · rw [List.mem_singleton.1 hx]; omega
  · rw [List.nodup_append]
    refine ⟨h.nd, by simp, fun a ha b hb => ?_⟩
    rw [List.mem_singleton.1 hb]
    rintro rfl
    rw [(h.bit w hw).2 ha] at hn
    cases hn
  · rw [bit_add, List.mem_append, List.mem_singleton, Bool.or_eq_true, h.bit v hv, decide_eq_true_eq]
    constructor
    · rintro (h1 | h1)
      · exact .inl h1
      · exact .inr (by omega)
    · rintro (h1 | h1)
      · exact .inl h1
      · exact .inr (by omega)
theorem Pth.order {W : List (List Int)} {e : Int} {m l k : Nat} {xs : List (Nat × Nat)} {c : Int} (h : Pth W e m l k xs c) : ∀ o : List Int, o ≠ [] → o.getD (o.length - 1) 0 = (l : Int) → SetIs W m o → (∃ m2, unb W.length m2 = 0 ∧ SetIs W m2 (o ++ outP xs)) ∧ (e < 0 ∨ (o ++ outP xs).getD ((o ++ outP xs).length - 1) 0 = e) := by
  induction h with
  | @nil m l h1 h2 =>
    intro o ho hl hs
    simp only [outP, List.map_nil, List.append_nil]
    exact ⟨⟨m, h1, hs⟩, h2.imp id fun h => by rw [hl]; exact h⟩
  | @cons m l k w sh xs c h1 h2 h3 h4 h5 ih =>
    intro o ho hl hs
    have h6 := ih (o ++ [(w : Int)]) (by simp) (by simp [List.getD]) (hs.add h1 h2)
    rw [List.append_assoc] at h6
    exact h6
/-- Every order is a way. -/
theorem pth_of {W : List (List Int)} {e : Int} : ∀ (ys : List Int) (m l : Nat) (o : List Int), o ≠ [] → o.getD (o.length - 1) 0 = (l : Int) → SetIs W m o → isO W.length (o ++ ys) → (e < 0 ∨ (o ++ ys).getD ((o ++ ys).length - 1) 0 = e) → unb W.length m = ys.length → ∃ xs c, Pth W e m l 0 xs c ∧ outP xs = ys
  | [], m, l, o, ho, hl, hs, _, he, hu => by
    rw [List.append_nil, hl] at he
    exact ⟨[], 0, .nil hu he, rfl⟩
  | y :: r, m, l, o, ho, hl, hs, hI, he, hu => by
    have hy := hI.2.1 y (by simp)
    obtain ⟨w, rfl⟩ : ∃ w : Nat, y = (w : Int) := ⟨y.toNat, by omega⟩
    have hw : w < W.length := by omega
    have hn : m.testBit w = false := by
      cases hb : m.testBit w with
      | false => rfl
      | true =>
        have h1 := (hs.bit w hw).1 hb
        have h2 := (List.nodup_append.1 hI.2.2).2.2 _ h1 _ List.mem_cons_self
        exact absurd rfl h2
    have hu2 := unb_add hn hw
    rw [show o ++ (w : Int) :: r = (o ++ [(w : Int)]) ++ r by simp] at hI he
    obtain ⟨xs, c, h1, h2⟩ := pth_of r (m ||| 2 ^ w) w (o ++ [(w : Int)]) (by simp) (by simp [List.getD]) (hs.add hw hn) hI he (by simp only [List.length_cons] at hu; omega)
    exact ⟨(w, 0) :: xs, _, .cons hw hn (by omega) (by omega) h1, by rw [← h2]; rfl⟩
end Go.Sx.M0
