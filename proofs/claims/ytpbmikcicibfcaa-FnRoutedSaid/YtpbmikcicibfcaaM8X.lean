/-
  Chapter 8, plain: the fullest edge.
-/
import Derived.Test.YtpbmikcicibfcaaM8W
namespace Go.Sx.M8
set_option linter.unusedVariables false
set_option linter.unusedSimpArgs false
open Go Go.Sx Go.Sx.U

def diffR (r u : List Int) : Nat → List Int
  | 0 => []
  | x + 1 => diffR r u x ++ [u.getD x 0 - r.getD x 0]
def diffT (R U : List (List Int)) : Nat → List Int
  | 0 => []
  | y + 1 => diffT R U y ++ diffR (R.getD y []) (U.getD y []) (R.getD y []).length
def maxF (m : Int) (l : List Int) : Int := l.foldl max m
theorem maxF_snoc (m : Int) (l : List Int) (x : Int) : maxF m (l ++ [x]) = max (maxF m l) x := by simp [maxF]
theorem maxF_head {l : List Int} {m : Int} (hl : 0 < l.length) (h : ∀ x ∈ l, m ≤ x) : maxF m l = maxF (l.getD 0 0) (l.drop 1) := by
  cases l with
  | nil => simp at hl
  | cons x l =>
    have := h x List.mem_cons_self
    simp only [maxF, List.foldl_cons, List.getD_cons_zero, List.drop_succ_cons, List.drop_zero]
    rw [show max m x = x by omega]
theorem diffR_len (r u : List Int) : ∀ x, (diffR r u x).length = x
  | 0 => rfl
  | x + 1 => by simp [diffR, diffR_len r u x]
theorem diffR_mem {r u : List Int} {P : Int → Prop} (h : ∀ x, x < r.length → P (u.getD x 0 - r.getD x 0)) : ∀ x, x ≤ r.length → ∀ v ∈ diffR r u x, P v
  | 0, _, v, hv => by simp [diffR] at hv
  | x + 1, hx, v, hv => by
    simp only [diffR, List.mem_append, List.mem_singleton] at hv
    rcases hv with hv | rfl
    · exact diffR_mem h x (by omega) v hv
    · exact h x (by omega)
theorem diffT_mem {R U : List (List Int)} {P : Int → Prop} (h : ∀ y, y < R.length → ∀ x, x < (R.getD y []).length → P ((U.getD y []).getD x 0 - (R.getD y []).getD x 0)) : ∀ y, y ≤ R.length → ∀ v ∈ diffT R U y, P v
  | 0, _, v, hv => by simp [diffT] at hv
  | y + 1, hy, v, hv => by
    simp only [diffT, List.mem_append] at hv
    rcases hv with hv | hv
    · exact diffT_mem h y (by omega) v hv
    · exact diffR_mem (h y (by omega)) _ (Nat.le_refl _) v hv
theorem diffT_len {R U : List (List Int)} {e : Nat} (h : ∀ y, y < R.length → (R.getD y []).length = e) : ∀ y, y ≤ R.length → (diffT R U y).length = y * e
  | 0, _ => by simp [diffT]
  | y + 1, hy => by
    rw [diffT, List.length_append, diffR_len, diffT_len h y (by omega), h y (by omega), Nat.succ_mul]
def diffV (A V : List (List Int)) (U : UU) : List Int := diffT A U.1 A.length ++ diffT V U.2 V.length

/-! ### Uses are not negative -/
structure Nn (U : UU) : Prop where
  a : ∀ y x, 0 ≤ (U.1.getD y []).getD x 0
  u : ∀ y x, 0 ≤ (U.2.getD y []).getD x 0
theorem rowsE_nn (n e : Nat) (y x : Nat) : 0 ≤ ((rowsE n e 0).getD y []).getD x 0 := by
  by_cases hy : y < n
  · rw [show (rowsE n e 0).getD y [] = List.replicate e 0 by simp [rowsE, List.getD, hy]]
    by_cases hx : x < e
    · simp [List.getD, hx]
    · simp [List.getD, hx]
  · simp [rowsE, List.getD, hy]
theorem zero_nn (w h : Nat) : Nn (zeroU w h) := ⟨rowsE_nn _ _, rowsE_nn _ _⟩
theorem hitA_nn (xs : List R2) (y x : Nat) : ∀ i, 0 ≤ hitA xs y x i
  | 0 => by simp [hitA]
  | i + 1 => by have := hitA_nn xs y x i; simp only [hitA]; split <;> omega
theorem hitU_nn (xs : List R2) (y x : Nat) : ∀ i, 0 ≤ hitU xs y x i
  | 0 => by simp [hitU]
  | i + 1 => by have := hitU_nn xs y x i; simp only [hitU]; split <;> omega
theorem use_nn {w h : Nat} {m : Int} {U : UU} (hU : Dims w h m U) (hn : Nn U) {s : List R2} (hg : GoodShape s) (hw : Way w h (pathL s)) : Nn (useE 1 U s) := by
  have h1 := hg.ok.one
  have hget := fun y x => walk_get hU hw (k := 1) (.inl rfl) ((pathL s).length - 1) (by omega) y x
  refine ⟨fun y x => ?_, fun y x => ?_⟩
  · have := hn.a y x
    have := hitA_nn (pathL s) y x ((pathL s).length - 1)
    unfold useE
    rw [(hget y x).1]; omega
  · have := hn.u y x
    have := hitU_nn (pathL s) y x ((pathL s).length - 1)
    unfold useE
    rw [(hget y x).2]; omega
theorem used_nn {w h : Nat} {ns : List R4} {ks : List Int} (hc : ChoiceOK w h ns ks) : ∀ i, i ≤ ks.length → Nn (usedT w h ns ks i)
  | 0, _ => zero_nn w h
  | i + 1, hi => by
    obtain ⟨hg, hw⟩ := shape_good (hc.cel i (by have := hc.len; omega)) (hc.ch i (by omega))
    exact use_nn (used_dims hc i (by omega)) (used_nn hc i (by omega)) hg hw
/-- The differences, and how they lie. -/
theorem diff_facts {A V : List (List Int)} (hg : gridB A V = true) {m : Int} (hm : m ≤ 100000) {U : UU} (hU : Dims (wN A) A.length m U) (hn : Nn U) : (∀ v ∈ diffT A U.1 A.length, -20 ≤ v ∧ v ≤ 100000) ∧ (∀ v ∈ diffT V U.2 V.length, -20 ≤ v ∧ v ≤ 100000) ∧ (diffV A V U).length = A.length * (wN A - 1) + (A.length - 1) * wN A := by
  obtain ⟨r1, r2, r3⟩ := grid_room hg
  refine ⟨diffT_mem (fun y hy x hx => ?_) _ (Nat.le_refl _), diffT_mem (fun y hy x hx => ?_) _ (Nat.le_refl _), ?_⟩
  · have h1 := (r1 y hy).2 x hx
    have h2 := hU.a.bd y hy x (by rw [(r1 y hy).1] at hx; exact hx)
    have h3 := hn.a y x
    omega
  · have h1 := (r3 y hy).2 x hx
    have h2 := hU.u.bd y (by omega) x (by rw [(r3 y hy).1] at hx; exact hx)
    have h3 := hn.u y x
    omega
  · rw [diffV, List.length_append, diffT_len (fun y hy => (r1 y hy).1) _ (Nat.le_refl _), diffT_len (fun y hy => (r3 y hy).1) _ (Nat.le_refl _), r2]
theorem diff_empty {A V : List (List Int)} (hg : gridB A V = true) {m : Int} (hm : m ≤ 100000) {U : UU} (hU : Dims (wN A) A.length m U) (hn : Nn U) : (diffV A V U).length = 0 ↔ (wN A = 1 ∧ A.length = 1) := by
  have h1 := (diff_facts hg hm hU hn).2.2
  have h2 := (gridB_len hg).1
  have h3 : 1 ≤ wN A := by unfold wN; omega
  rw [h1]
  constructor
  · intro h
    have h4 : A.length * (wN A - 1) = 0 := by omega
    have h5 : (A.length - 1) * wN A = 0 := by omega
    rcases Nat.mul_eq_zero.1 h4 with h | h
    · omega
    · rcases Nat.mul_eq_zero.1 h5 with h | h <;> omega
  · rintro ⟨e1, e2⟩
    rw [e1, e2]
end Go.Sx.M8
