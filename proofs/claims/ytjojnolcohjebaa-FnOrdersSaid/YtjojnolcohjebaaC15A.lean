/-
  Chapter 10, plain: when there is a best order.
-/
import Derived.Test.YtjojnolcohjebaaSd
import Derived.Test.YtjojnolcohjebaaM0X
namespace Go.Sx.U
set_option linter.unusedVariables false
set_option linter.unusedSimpArgs false
set_option maxRecDepth 100000
set_option maxHeartbeats 8000000
open Go Go.Sx Go.Sx.M0

abbrev boP (W : List (List Int)) (c : Int) : Prop := okW W ∧ 0 ≤ c ∧ c ≤ (W.length : Int) - 1
abbrev bbP (W : List (List Int)) (f l : Int) : Prop := okW W ∧ (0 ≤ f ∧ f ≤ (W.length : Int) - 1) ∧ (0 ≤ l ∧ l ≤ (W.length : Int) - 1) ∧ (f = l ↔ W.length = 1)
theorem unb_one {n w : Nat} (hw : w < n) : unb n (2 ^ w) + 1 = n := by
  have hu := unb_add (n := n) (m := 0) (w := w) (by simp) hw
  rw [Nat.zero_or] at hu
  have hz : ∀ n, unb n 0 = n := fun n => by
    induction n with
    | zero => rfl
    | succ n ih => simp only [unb, ih]; simp; omega
  rw [hz] at hu
  exact hu
theorem beg_nn {W : List (List Int)} {e : Int} {cnt w : Nat} {first : Int} (hw : w < W.length) (ha : first < 0 ∨ (w : Int) = first) (h : 0 ≤ Lt W e (2 ^ w) w cnt) : 0 ≤ begL W e cnt first := by
  rcases begT_is W e cnt first W.length with ⟨_, h2⟩ | ⟨h1, _⟩
  · have := h2 w hw ha; omega
  · exact h1
theorem bo_nn {W : List (List Int)} {c : Int} (h : boP W c) : 0 ≤ begL W (-1) c.toNat (-1) := by
  obtain ⟨hW, h1, h2⟩ := h
  have hn := hW.1
  have hu := unb_one (n := W.length) (w := 0) (by omega)
  exact beg_nn (w := 0) (by omega) (.inl (by omega)) (Lt_can hW _ _ _ _ rfl (by omega) ⟨by omega, fun h => by omega⟩)
theorem bb_nn {W : List (List Int)} {f l : Int} (h : bbP W f l) : 0 ≤ begL W l 0 f := by
  obtain ⟨hW, h1, h2, h3⟩ := h
  have hn := hW.1
  have hu := unb_one (n := W.length) (w := f.toNat) (by omega)
  refine beg_nn (w := f.toNat) (by omega) (.inr (by omega)) (Lt_can hW _ _ _ _ rfl (by omega) ⟨by omega, fun _ => ⟨rfl, by omega, fun h0 => by have := h3.2 (by omega); omega, fun h0 => ?_⟩⟩)
  rw [Nat.testBit_two_pow]
  refine decide_eq_false fun he => ?_
  have := h3.1 (by omega)
  omega

theorem b_or {m w : Nat} (hm : m < 512) (hw : w < 9) : orI .i64 (m : Int) (shlI .i64 1 (w : Int)) = ((m ||| 2 ^ w : Nat) : Int) := by
  have h : ∀ m : Nat, m < 512 → ∀ w : Nat, w < 9 → orI .i64 (m : Int) (shlI .i64 1 (w : Int)) = ((m ||| 2 ^ w : Nat) : Int) := by decide +kernel
  exact h m hm w hw
theorem b_bit {m w : Nat} (hm : m < 512) (hw : w < 9) : andI .i64 (shrI .i64 (m : Int) (w : Int)) 1 = if m.testBit w = true then 1 else 0 := by
  have h : ∀ m : Nat, m < 512 → ∀ w : Nat, w < 9 → andI .i64 (shrI .i64 (m : Int) (w : Int)) 1 = if m.testBit w = true then 1 else 0 := by decide +kernel
  exact h m hm w hw
theorem b_shl {n : Nat} (h : n ≤ 9) : shlI .i64 1 (n : Int) = ((2 ^ n : Nat) : Int) := by
  have k : ∀ n : Nat, n < 10 → shlI .i64 1 (n : Int) = ((2 ^ n : Nat) : Int) := by decide +kernel
  exact k n (by omega)
theorem b_wrap {w : Nat} (h : w < 100) : IntKind.u64.wrap (w : Int) = w := by
  have k : ∀ w : Nat, w < 100 → IntKind.u64.wrap (w : Int) = w := by decide +kernel
  exact k w h
theorem pow9 {n : Nat} (h : n ≤ 9) : 1 ≤ 2 ^ n ∧ 2 ^ n ≤ 512 := ⟨Nat.one_le_two_pow, Nat.pow_le_pow_right (n := 2) (by omega) h⟩

theorem LtT_skip {W : List (List Int)} {e : Int} {S l k j : Nat} (hb : S.testBit j = true) : LtT W e S l k (j + 1) = LtT W e S l k j := by
  rw [LtT_succ]; unfold M0.stepG; rw [if_pos hb]
theorem condOr (a b : Prop) [Decidable a] [Decidable b] : (bif decide a then true else decide b) = decide (a ∨ b) := by
  by_cases h1 : a <;> by_cases h2 : b <;> simp [h1, h2]
def natL (K : List Nat) : List Int := K.map fun (k : Nat) => (k : Int)
theorem natL_get {K : List Nat} {i : Nat} (h : i < K.length) : (natL K).getD i 0 = ((K.getD i 0 : Nat) : Int) := by
  simp [natL, List.getD, List.getElem?_eq_getElem h]
theorem natL_len (K : List Nat) : (natL K).length = K.length := by simp [natL]
theorem natL_mem {K : List Nat} {k : Nat} : (k : Int) ∈ natL K ↔ k ∈ K := by
  unfold natL
  rw [List.mem_map]
  exact ⟨fun ⟨x, h1, h2⟩ => by have : x = k := by omega
                               subst this; exact h1, fun h => ⟨k, h, rfl⟩⟩
theorem natL_snoc (K : List Nat) (k : Nat) : natL (K ++ [k]) = natL K ++ [(k : Int)] := by simp [natL]
theorem begT_bd {W : List (List Int)} (hW : okW W) {e : Int} {cnt : Nat} {first : Int} {j : Nat} (hj : j ≤ W.length) : -1 ≤ begT W e cnt first j ∧ begT W e cnt first j ≤ 9000 := by
  rcases begT_is W e cnt first j with ⟨h1, _⟩ | ⟨h0, ⟨w, h1, _, h3⟩, _⟩
  · omega
  · have := Lt_bd9 hW (e := e) (m := 2 ^ w) (k := cnt) (show w < W.length by omega); omega
end Go.Sx.U
