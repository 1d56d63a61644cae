/-
  Chapter 10, plain: ways to the end, and the least of them.
-/
import Derived.Test.YtjojnolcohjebaaM0X
namespace Go.Sx.M0
set_option linter.unusedVariables false
set_option linter.unusedSimpArgs false
open Go Go.Sx

/-- A way from a set, a last wire and a number of shields to the end: wires, each with the shield ahead of it or not, and what they cost. -/
inductive Pth (W : List (List Int)) (e : Int) : Nat → Nat → Nat → List (Nat × Nat) → Int → Prop
  | nil {m l : Nat} : unb W.length m = 0 → (e < 0 ∨ (l : Int) = e) → Pth W e m l 0 [] 0
  | cons {m l k w sh : Nat} {xs : List (Nat × Nat)} {c : Int} : w < W.length → m.testBit w = false → sh ≤ 1 → sh ≤ k → Pth W e (m ||| 2 ^ w) w (k - sh) xs c → Pth W e m l k ((w, sh) :: xs) (c + if sh = 0 then wt W l w else 0)
theorem Pth.le {W : List (List Int)} (hW : okW W) {e : Int} {m l k : Nat} {xs : List (Nat × Nat)} {c : Int} (h : Pth W e m l k xs c) : l < W.length → 0 ≤ Lt W e m l k ∧ Lt W e m l k ≤ c := by
  induction h with
  | nil h1 h2 =>
    intro _
    rw [Lt_base h1, baseL, if_pos ⟨rfl, h2⟩]
    omega
  | @cons m l k w sh xs c h1 h2 h3 h4 h5 ih =>
    intro hl
    obtain ⟨i1, i2⟩ := ih h1
    have hu : unb W.length m ≠ 0 := by have := unb_add h2 h1; omega
    have hcd : Cd W e m l k w sh (Lt W e (m ||| 2 ^ w) w (k - sh) + if sh = 0 then wt W l w else 0) := ⟨h1, h2, h3, h4, i1, rfl⟩
    rcases Lt_is hW (e := e) (m := m) (k := k) hl hu with ⟨_, b2⟩ | ⟨b1, _, b3⟩
    · exact (b2 _ _ _ hcd).elim
    · have := b3 _ _ _ hcd
      exact ⟨b1, by omega⟩
/-- The order that is followed is a way that costs the least. -/
theorem fol_path {W : List (List Int)} (hW : okW W) {e : Int} : ∀ (f m l : Nat) (K : List Nat), unb W.length m = f → l < W.length → K ≠ [] → (∀ k ∈ K, k ≤ 8 ∧ 0 ≤ Lt W e m l k) →
    ∃ k ∈ K, ∃ xs, Pth W e m l k xs (Lt W e m l k) ∧ xs.map (fun x => (x.1 : Int)) = fol W e f m l K
  | 0, m, l, K, hu, hl, hne, hK => by
    obtain ⟨k, hk⟩ := List.exists_mem_of_ne_nil _ hne
    have h1 := (hK k hk).2
    rw [Lt_base hu, baseL] at h1
    split at h1
    · next h2 =>
      obtain ⟨rfl, h3⟩ := h2
      refine ⟨0, hk, [], ?_, rfl⟩
      rw [Lt_base hu, baseL, if_pos ⟨rfl, h3⟩]
      exact .nil hu h3
    · omega
  | f + 1, m, l, K, hu, hl, hne, hK => by
    obtain ⟨k0, hk0⟩ := List.exists_mem_of_ne_nil _ hne
    obtain ⟨w, h1, h2, h3, h4⟩ := firstW_some hW hl (show unb W.length m ≠ 0 by omega) hk0 (by have := (hK k0 hk0).1; omega) (hK k0 hk0).2
    have hu2 := unb_add h3 h2
    have hK2 : ∀ k ∈ nxtK W e K m l w, ∃ k0 ∈ K, ∃ sh, Cd W e m l k0 w sh (Lt W e m l k0) ∧ k = k0 - sh := fun k hk => by
      obtain ⟨_, k0, hk0, hx⟩ := nxtK_mem.1 hk
      obtain ⟨sh, hc, he⟩ := (nx_iff h2 h3).1 hx
      exact ⟨k0, hk0, sh, hc, he⟩
    obtain ⟨k', hk', xs, hp, hx⟩ := fol_path hW f (m ||| 2 ^ w) w (nxtK W e K m l w) (by omega) h2 h4 (fun k hk => by
      obtain ⟨k0, hk0, sh, hc, rfl⟩ := hK2 k hk
      have := (hK k0 hk0).1
      exact ⟨by omega, hc.ok⟩)
    obtain ⟨k1, hk1, sh, hc, rfl⟩ := hK2 k' hk'
    refine ⟨k1, hk1, (w, sh) :: xs, ?_, ?_⟩
    · have hv := hc.val
      rw [hv]
      exact .cons h2 h3 hc.sh1 hc.shk hp
    · simp only [fol, h1, List.map_cons, hx]
end Go.Sx.M0
