/-
  Bytes that came in.
-/
import Derived.Test.YtkjbmkldghkpfaaSxV2
namespace Go.Sx
set_option linter.unusedVariables false
set_option linter.unusedSimpArgs false
open Go
open Go.RowKit
section
variable {H : Type} {enc : TypeId × Value → H} {P : Program} {w : World} {base : Nat} {held : Bool} {ρ : Rho} {N : Nat} {G : Heap}

theorem open_sl_u8 {t e : TypeId} {fuel : Nat} {cs : List Value} {x : DataW H × List MemPlace} (hc : Came ρ N G w) (ht : P.underlying t = some (.slice e)) (he : P.underlying e = some (.int .u8)) (hce : P.cellsOf e = 1)
    (h : DataW.trod enc P w base (fun _ => true) held fuel t cs = some x) : ∃ xs : List Int, xs.length ≤ maxLen ∧ (∀ k ∈ xs, 0 ≤ k ∧ k ≤ 255) ∧ OpenSl ρ N G w cs (.ints .u8 xs) := by
  have main : ∃ (A : Option Addr) (c : Nat) (xs : List Int), cs = [.slice A xs.length c] ∧ xs.length ≤ c ∧ xs.length ≤ maxLen ∧ (∀ k ∈ xs, 0 ≤ k ∧ k ≤ 255) ∧
      ((∃ b o, A = some ⟨b, o, none⟩ ∧ ∀ i, i < xs.length → w.cell? ⟨b, o + i, none⟩ = some (.int .u8 (xs.getD i 0))) ∨ (xs.length = 0 ∧ c = 0)) := by
    rcases Go.Deep.open_slice ht h with ⟨rfl, _⟩ | ⟨a, len, cap, m, n, D, Pl, rfl, _, hl, hm, hmm, _, hx⟩
    · exact ⟨none, 0, [], rfl, Nat.le_refl _, Nat.zero_le _, by simp, .inr ⟨rfl, rfl⟩⟩
    · simp only [if_true] at hmm
      subst hmm
      rw [hce] at hx
      have hrow : ∀ i, i < m → ∃ k : Int, (0 ≤ k ∧ k ≤ 255) ∧ w.cell? (a.add i) = some (.int .u8 k) := fun i hi => by
        obtain ⟨us, h1, h2⟩ := hx i hi
        obtain ⟨k, rfl, _, hw⟩ := DataW.trod_int he h2
        obtain ⟨_, _, hc⟩ := World.cells?_some h1
        refine ⟨k, bounds_u8 hw, ?_⟩
        have := hc 0 (by omega)
        rw [Go.Deep.add_add] at this
        simpa using this
      obtain ⟨R, hR⟩ := Go.Deep.choose_lt (α := Int) hrow
      refine ⟨some a, m, (List.range len).map R, by simp, by simpa using hl, by simp; omega, fun r hr => ?_, ?_⟩
      · obtain ⟨i, hi, rfl⟩ := List.mem_map.1 hr
        exact (hR i (by have := List.mem_range.1 hi; omega)).1
      · by_cases hm0 : m = 0
        · right; simp; omega
        · left
          have h0 := (hR 0 (by omega)).2
          have hsp : a.spot = none := by
            have := World.cell?_spot h0
            simpa [Addr.add] using this
          obtain ⟨b, o, s⟩ := a
          simp only at hsp
          subst hsp
          refine ⟨b, o, rfl, fun i hi => ?_⟩
          simp only [List.length_map, List.length_range] at hi
          have := (hR i (by omega)).2
          rw [show (Addr.add ⟨b, o, none⟩ i) = ⟨b, o + i, none⟩ by unfold Addr.add; split <;> simp_all] at this
          rw [this]
          simp [List.getD, hi]
  obtain ⟨A, c, xs, rfl, hlc, hm, hr, hA⟩ := main
  refine ⟨xs, hm, hr, ?_⟩
  obtain ⟨ρ', h1, h2, h3⟩ := hc.flat (.ints .u8 xs) (by simp [Flat.sz]) (A := A) (c := c) (by simpa [Flat.n] using hlc) (by
    rcases hA with ⟨b, o, rfl, hcell⟩ | ⟨e1, e2⟩
    · refine .inl ⟨b, o, rfl, fun i hi j hj => ?_⟩
      simp only [Flat.sz, Flat.n] at hi hj ⊢
      obtain rfl : j = 0 := by omega
      refine ⟨.int .u8 (xs.getD i 0), by simpa using hcell i hi, ?_, rfl⟩
      simp only [Flat.cell, VR]
    · exact .inr ⟨by simpa [Flat.n] using e1, e2⟩)
  exact ⟨_, ρ', rfl, rfl, h1, h2, by simpa [Flat.n] using h3⟩
end
end Go.Sx
