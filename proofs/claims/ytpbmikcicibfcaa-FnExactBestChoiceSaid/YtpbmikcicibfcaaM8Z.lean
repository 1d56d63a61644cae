/-
  Chapter 8, plain: all choices in order, by number and by search; the best of them.
-/
import Derived.Test.YtpbmikcicibfcaaM8Y
namespace Go.Sx.M8
set_option linter.unusedVariables false
set_option linter.unusedSimpArgs false
open Go Go.Sx Go.Sx.U

/-- How many shapes a net has. -/
def sN (ns : List R4) (i : Nat) : Nat := (shapesR (ns.getD i default)).length
/-- How many choices the nets from the i-th on have. -/
def pT (s : Nat → Nat) : Nat → Nat → Nat
  | 0, _ => 1
  | f + 1, i => s i * pT s f (i + 1)
/-- The product of the first ones. -/
def pF (s : Nat → Nat) : Nat → Nat
  | 0 => 1
  | i + 1 => pF s i * s i
theorem pT_snoc (s : Nat → Nat) : ∀ f i, pT s (f + 1) i = pT s f i * s (i + f)
  | 0, i => by simp [pT]
  | f + 1, i => by
    rw [pT, pT_snoc s f (i + 1), pT, Nat.mul_assoc]
    congr 3
    omega
theorem pF_eq (s : Nat → Nat) : ∀ n, pF s n = pT s n 0
  | 0 => rfl
  | n + 1 => by rw [pF, pF_eq s n, pT_snoc, Nat.zero_add]
/-- The number of a beginning of a choice. -/
def vH (s : Nat → Nat) (ks : List Int) : Nat → Nat
  | 0 => 0
  | i + 1 => vH s ks i * s i + (ks.getD i 0).toNat
theorem vH_app {s : Nat → Nat} {ks zs : List Int} : ∀ i, i ≤ ks.length → vH s (ks ++ zs) i = vH s ks i
  | 0, _ => rfl
  | i + 1, h => by
    simp only [vH]
    rw [vH_app i (by omega)]
    congr 2
    rw [List.getD, List.getElem?_append_left (by omega)]; rfl
theorem vH_snoc (s : Nat → Nat) (ks : List Int) (k : Nat) : vH s (ks ++ [(k : Int)]) (ks.length + 1) = vH s ks ks.length * s ks.length + k := by
  rw [vH, vH_app _ (Nat.le_refl _)]
  simp [List.getD]
/-- What is left of a number behind so many digits from the end. -/
def qD (s : Nat → Nat) (n k : Nat) : Nat → Nat
  | 0 => k
  | t + 1 => qD s n k t / s (n - 1 - t)
/-- The k-th choice. -/
def dL (s : Nat → Nat) (n k : Nat) : List Int := (List.range n).map fun i => ((qD s n k (n - 1 - i) % s i : Nat) : Int)
theorem qD_le (s : Nat → Nat) (n k : Nat) : ∀ t, qD s n k t ≤ k
  | 0 => Nat.le_refl _
  | t + 1 => Nat.le_trans (Nat.div_le_self _ _) (qD_le s n k t)
theorem qD_vH {s : Nat → Nat} {n : Nat} {ks : List Int} (h : ∀ i, i < n → 0 ≤ ks.getD i 0 ∧ (ks.getD i 0).toNat < s i) : ∀ t, t ≤ n → qD s n (vH s ks n) t = vH s ks (n - t)
  | 0, _ => rfl
  | t + 1, ht => by
    rw [qD, qD_vH h t (by omega)]
    obtain ⟨m, hm⟩ : ∃ m, n - t = m + 1 := ⟨n - t - 1, by omega⟩
    rw [hm, show n - 1 - t = m by omega, show n - (t + 1) = m by omega, vH, Nat.mul_comm, Nat.mul_add_div (by have := (h m (by omega)).2; omega), Nat.div_eq_of_lt (h m (by omega)).2, Nat.add_zero]
theorem dL_vH {s : Nat → Nat} {n : Nat} {ks : List Int} (hl : ks.length = n) (h : ∀ i, i < n → 0 ≤ ks.getD i 0 ∧ (ks.getD i 0).toNat < s i) : dL s n (vH s ks n) = ks := by
  apply List.ext_getElem
  · simp [dL, hl]
  · intro i h1 h2
    have hi : i < n := by omega
    have hx := h i hi
    simp only [dL, List.getElem_map, List.getElem_range]
    rw [qD_vH h _ (by omega), show n - (n - 1 - i) = i + 1 by omega, vH, Nat.mul_comm, Nat.mul_add_mod, Nat.mod_eq_of_lt hx.2]
    rw [List.getD, List.getElem?_eq_getElem h2, Option.getD_some] at hx ⊢
    omega
theorem dL_len (s : Nat → Nat) (n k : Nat) : (dL s n k).length = n := by simp [dL]
theorem dL_get {s : Nat → Nat} {n k i : Nat} (h : i < n) : (dL s n k).getD i 0 = ((qD s n k (n - 1 - i) % s i : Nat) : Int) := by
  simp [dL, List.getD, h]
/-- The best of the first choices. -/
def bStep (f : List Int → Int) (b : List Int × Int) (x : List Int) : List Int × Int := if (decide (b.2 < 0) || decide (f x < b.2)) = true then (x, f x) else b
def bT (f : List Int → Int) (s : Nat → Nat) (n : Nat) : Nat → List Int × Int
  | 0 => ([], -1)
  | k + 1 => bStep f (bT f s n k) (dL s n k)
theorem bT_len (f : List Int → Int) (s : Nat → Nat) (n : Nat) : ∀ k, (bT f s n k).1.length ≤ n
  | 0 => Nat.zero_le _
  | k + 1 => by
    rw [bT, bStep]
    split
    · simp [dL_len]
    · exact bT_len f s n k
theorem bT_bd {f : List Int → Int} {s : Nat → Nat} {n : Nat} {m : Int} (hm : -1 ≤ m) : ∀ k, (∀ j, j < k → -1 ≤ f (dL s n j) ∧ f (dL s n j) ≤ m) → -1 ≤ (bT f s n k).2 ∧ (bT f s n k).2 ≤ m
  | 0, _ => by simp [bT]; exact hm
  | k + 1, h => by
    rw [bT, bStep]
    split
    · exact h k (by omega)
    · exact bT_bd hm k fun j hj => h j (by omega)
end Go.Sx.M8
