/-
  Chapter 8, plain: all choices in order, by number and by search; the best of them.
-/
import Derived.Test.YtpbmikcicibfcaaM8Y
namespace Go.Sx.M8
set_option linter.unusedVariables false
set_option linter.unusedSimpArgs false
open Go Go.Sx Go.Sx.U

/-- How many shapes a net has. -/
def sN (ns : List R4) (i : Nat) : Nat := (shapesR (ns.getD i default)).length
/-- How many choices the nets from the i-th on have. -/
def pT (s : Nat → Nat) : Nat → Nat → Nat
  | 0, _ => 1
  | f + 1, i => s i * pT s f (i + 1)
/-- The product of the first ones. -/
def pF (s : Nat → Nat) : Nat → Nat
  | 0 => 1
  | i + 1 => pF s i * s i
theorem pT_pos {s : Nat → Nat} {n : Nat} (h : ∀ i, i < n → 0 < s i) : ∀ f i, i + f ≤ n → 0 < pT s f i
  | 0, _, _ => Nat.one_pos
  | f + 1, i, hi => Nat.mul_pos (h i (by omega)) (pT_pos h f (i + 1) (by omega))
theorem pT_snoc (s : Nat → Nat) : ∀ f i, pT s (f + 1) i = pT s f i * s (i + f)
  | 0, i => by simp [pT]
  | f + 1, i => by
    rw [pT, pT_snoc s f (i + 1), pT, Nat.mul_assoc]
    congr 3
    omega
theorem pF_eq (s : Nat → Nat) : ∀ n, pF s n = pT s n 0
  | 0 => rfl
  | n + 1 => by rw [pF, pF_eq s n, pT_snoc, Nat.zero_add]
/-- The number of a beginning of a choice. -/
def vH (s : Nat → Nat) (ks : List Int) : Nat → Nat
  | 0 => 0
  | i + 1 => vH s ks i * s i + (ks.getD i 0).toNat
theorem vH_app {s : Nat → Nat} {ks zs : List Int} : ∀ i, i ≤ ks.length → vH s (ks ++ zs) i = vH s ks i
  | 0, _ => rfl
  | i + 1, h => by
    simp only [vH]
    rw [vH_app i (by omega)]
    congr 2
    rw [List.getD, List.getElem?_append_left (by omega)]; rfl
theorem vH_snoc (s : Nat → Nat) (ks : List Int) (k : Nat) : vH s (ks ++ [(k : Int)]) (ks.length + 1) = vH s ks ks.length * s ks.length + k := by
  rw [vH, vH_app _ (Nat.le_refl _)]
  simp [List.getD]
/-- What is left of a number behind so many digits from the end. -/
def qD (s : Nat → Nat) (n k : Nat) : Nat → Nat
  | 0 => k
  | t + 1 => qD s n k t / s (n - 1 - t)
/-- The k-th choice. -/
def dL (s : Nat → Nat) (n k : Nat) : List Int := (List.range n).map fun i => ((qD s n k (n - 1 - i) % s i : Nat) : Int)
theorem qD_vH {s : Nat → Nat} {n : Nat} {ks : List Int} (h : ∀ i, i < n → 0 ≤ ks.getD i 0 ∧ (ks.getD i 0).toNat < s i) : ∀ t, t ≤ n → qD s n (vH s ks n) t = vH s ks (n - t)
  | 0, _ => rfl
  | t + 1, ht => by
    rw [qD, qD_vH h t (by omega)]
    obtain ⟨m, hm⟩ : ∃ m, n - t = m + 1 := ⟨n - t - 1, by omega⟩
    rw [hm, show n - 1 - t = m by omega, show n - (t + 1) = m by omega, vH, Nat.mul_comm, Nat.mul_add_div (by have := (h m (by omega)).2; omega), Nat.div_eq_of_lt (h m (by omega)).2, Nat.add_zero]
theorem dL_vH {s : Nat → Nat} {n : Nat} {ks : List Int} (hl : ks.length = n) (h : ∀ i, i < n → 0 ≤ ks.getD i 0 ∧ (ks.getD i 0).toNat < s i) : dL s n (vH s ks n) = ks := by
  apply List.ext_getElem
  · simp [dL, hl]
  · intro i h1 h2
    have hi : i < n := by omega
    have hx := h i hi
    simp only [dL, List.getElem_map, List.getElem_range]
    rw [qD_vH h _ (by omega), show n - (n - 1 - i) = i + 1 by omega, vH, Nat.mul_comm, Nat.mul_add_mod, Nat.mod_eq_of_lt hx.2]
    rw [List.getD, List.getElem?_eq_getElem h2, Option.getD_some] at hx ⊢
    omega
theorem dL_len (s : Nat → Nat) (n k : Nat) : (dL s n k).length = n := by simp [dL]
theorem dL_get {s : Nat → Nat} {n k i : Nat} (h : i < n) : (dL s n k).getD i 0 = ((qD s n k (n - 1 - i) % s i : Nat) : Int) := by
  simp [dL, List.getD, h]
/-- The best of the first choices. -/
def bStep (f : List Int → Int) (b : List Int × Int) (x : List Int) : List Int × Int := if (decide (b.2 < 0) || decide (f x < b.2)) = true then (x, f x) else b
def bT (f : List Int → Int) (s : Nat → Nat) (n : Nat) : Nat → List Int × Int
  | 0 => ([], -1)
  | k + 1 => bStep f (bT f s n k) (dL s n k)
theorem bT_bd {f : List Int → Int} {s : Nat → Nat} {n : Nat} {m : Int} (hm : -1 ≤ m) : ∀ k, (∀ j, j < k → -1 ≤ f (dL s n j) ∧ f (dL s n j) ≤ m) → -1 ≤ (bT f s n k).2 ∧ (bT f s n k).2 ≤ m
  | 0, _ => by simp [bT]; exact hm
  | k + 1, h => by
    rw [bT, bStep]
    split
    · exact h k (by omega)
    · exact bT_bd hm k fun j hj => h j (by omega)
/-- The best choice has its value, and no choice has a lesser one. -/
theorem bT_best {f : List Int → Int} {s : Nat → Nat} {n : Nat} : ∀ k, (∀ j, j < k → 0 ≤ f (dL s n j)) → 0 < k → (∃ j, j < k ∧ (bT f s n k).1 = dL s n j) ∧ (bT f s n k).2 = f (bT f s n k).1 ∧ ∀ j, j < k → (bT f s n k).2 ≤ f (dL s n j)
  | 0, _, h => by omega
  | 1, h0, _ => by
    have e : bT f s n 1 = (dL s n 0, f (dL s n 0)) := by simp [bT, bStep]
    rw [e]
    refine ⟨⟨0, by omega, rfl⟩, rfl, fun j hj => ?_⟩
    obtain rfl : j = 0 := by omega
    exact Int.le_refl _
  | k + 2, h0, _ => by
    obtain ⟨⟨i, hi, h1⟩, h2, h3⟩ := bT_best (k + 1) (fun j hj => h0 j (by omega)) (by omega)
    have h4 := h0 i (by omega)
    rw [← h1, ← h2] at h4
    rw [bT, bStep]
    split
    · next hc =>
      have hlt : f (dL s n (k + 1)) < (bT f s n (k + 1)).2 := by
        rcases Bool.or_eq_true_iff.1 hc with hc | hc
        · have := of_decide_eq_true hc; omega
        · exact of_decide_eq_true hc
      refine ⟨⟨k + 1, by omega, rfl⟩, rfl, fun j hj => ?_⟩
      by_cases e : j = k + 1
      · subst e; exact Int.le_refl _
      · have := h3 j (by omega)
        show f (dL s n (k + 1)) ≤ _
        omega
    · next hc =>
      have hge : ¬ f (dL s n (k + 1)) < (bT f s n (k + 1)).2 := fun h => hc (by rw [decide_eq_true h, Bool.or_true])
      refine ⟨⟨i, by omega, h1⟩, h2, fun j hj => ?_⟩
      by_cases e : j = k + 1
      · subst e; omega
      · exact h3 j (by omega)
end Go.Sx.M8
