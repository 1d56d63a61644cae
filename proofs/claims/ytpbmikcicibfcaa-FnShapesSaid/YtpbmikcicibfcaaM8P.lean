/-
  Chapter 8, plain: paths of shapes.
-/
import Derived.Test.YtpbmikcicibfcaaM8S
namespace Go.Sx.M8
set_option linter.unusedVariables false
set_option linter.unusedSimpArgs false
open Go Go.Sx Go.Sx.U

/-! ### Walks of one coordinate -/
theorem wk_inj {a c : Int} {i j : Nat} (hi : i ≤ (c - a).natAbs) (hj : j ≤ (c - a).natAbs) : wk a c i = wk a c j ↔ i = j := by
  unfold wk
  rcases sgn_cases (c - a) with ⟨h1, h2⟩ | ⟨h1, h2⟩ | ⟨h1, h2⟩ <;> rw [h2] <;> omega
theorem wk_far {a c : Int} {i : Nat} (hi : i + 1 ≤ (c - a).natAbs) : max (wk a c i - wk a c (i + 1)) (-(wk a c i - wk a c (i + 1))) = 1 := by
  unfold wk
  rcases sgn_cases (c - a) with ⟨h1, h2⟩ | ⟨h1, h2⟩ | ⟨h1, h2⟩ <;> rw [h2] <;> push_cast <;> omega
theorem wk_mid {a c : Int} {n : Nat} (hn : n ≤ (c - a).natAbs) : (wk a c n - a).natAbs = n ∧ (c - wk a c n).natAbs = (c - a).natAbs - n := by
  unfold wk
  rcases sgn_cases (c - a) with ⟨h1, h2⟩ | ⟨h1, h2⟩ | ⟨h1, h2⟩ <;> rw [h2] <;> omega
theorem wk_front {a c : Int} {n j : Nat} (hn : n ≤ (c - a).natAbs) (hj : j ≤ n) : wk a (wk a c n) j = wk a c j := by
  unfold wk
  rcases sgn_cases (c - a) with ⟨h1, h2⟩ | ⟨h1, h2⟩ | ⟨h1, h2⟩ <;> rw [h2] <;> rcases sgn_cases (a + _ * (n : Int) - a) with ⟨h3, h4⟩ | ⟨h3, h4⟩ | ⟨h3, h4⟩ <;> rw [h4] <;> omega
theorem wk_back {a c : Int} {n j : Nat} (hn : n ≤ (c - a).natAbs) (hj : n + j ≤ (c - a).natAbs) : wk (wk a c n) c j = wk a c (n + j) := by
  unfold wk
  rcases sgn_cases (c - a) with ⟨h1, h2⟩ | ⟨h1, h2⟩ | ⟨h1, h2⟩ <;> rw [h2] <;> rcases sgn_cases (c - (a + _ * (n : Int))) with ⟨h3, h4⟩ | ⟨h3, h4⟩ | ⟨h3, h4⟩ <;> rw [h4] <;> push_cast <;> omega

/-! ### Paths -/
def ptOk (p : R2) : Prop := (0 ≤ p.a ∧ p.a ≤ 99) ∧ (0 ≤ p.b ∧ p.b ≤ 99)
def farP (p q : R2) : Int := farI p.a p.b q.a q.b
structure PathOK (xs : List R2) : Prop where
  one : 1 ≤ xs.length
  few : xs.length ≤ 576
  pt : ∀ i, i < xs.length → ptOk (xs.getD i default)
  new : ∀ i, i < xs.length → ∀ j, j < i → xs.getD j default ≠ xs.getD i default
  near : ∀ i, i + 1 < xs.length → farP (xs.getD i default) (xs.getD (i + 1) default) = 1
def bendB (xs : List R2) (i : Nat) : Bool := decide (0 < i) && decide (i + 1 < xs.length) && decide ((xs.getD (i - 1) default).a ≠ (xs.getD (i + 1) default).a) && decide ((xs.getD (i - 1) default).b ≠ (xs.getD (i + 1) default).b)
def keepB (xs : List R2) (i : Nat) : Bool := decide (i = 0) || decide (i + 1 = xs.length) || bendB xs i
def cornT (xs : List R2) : Nat → List R2
  | 0 => []
  | i + 1 => if keepB xs i = true then cornT xs i ++ [xs.getD i default] else cornT xs i
def cornL (xs : List R2) : List R2 := cornT xs xs.length
theorem cornT_len (xs : List R2) : ∀ i, (cornT xs i).length ≤ i
  | 0 => by simp [cornT]
  | i + 1 => by
    have := cornT_len xs i
    simp only [cornT]; split <;> simp <;> omega
theorem cornT_skip {xs : List R2} {i : Nat} : ∀ (j : Nat), i ≤ j → (∀ k, i ≤ k → k < j → keepB xs k = false) → cornT xs j = cornT xs i
  | 0, h, _ => by rw [show i = 0 by omega]
  | j + 1, h, hk => by
    by_cases e : i = j + 1
    · rw [e]
    · simp only [cornT]
      rw [if_neg (by rw [hk j (by omega) (by omega)]; simp)]
      exact cornT_skip j (by omega) fun k h1 h2 => hk k h1 (by omega)
theorem cornT_keep {xs : List R2} {i : Nat} (h : keepB xs i = true) : cornT xs (i + 1) = cornT xs i ++ [xs.getD i default] := by
  simp only [cornT]; rw [if_pos h]
/-- The points through corners. -/
def linesT (s : List R2) : Nat → List R2
  | 0 => [s.getD 0 default]
  | i + 1 => linesT s i ++ lineL (s.getD i default).a (s.getD i default).b (s.getD (i + 1) default).a (s.getD (i + 1) default).b
def pathL (s : List R2) : List R2 := linesT s (s.length - 1)
def aligned (p q : R2) : Prop := p.a = q.a ∨ p.b = q.b
structure GoodShape (s : List R2) : Prop where
  one : 1 ≤ s.length
  few : s.length ≤ 8
  cel : ∀ i, i < s.length → (0 ≤ (s.getD i default).a ∧ (s.getD i default).a ≤ 7) ∧ (0 ≤ (s.getD i default).b ∧ (s.getD i default).b ≤ 7)
  ali : ∀ i, i + 1 < s.length → aligned (s.getD i default) (s.getD (i + 1) default)
  ok : PathOK (pathL s)
  corn : cornL (pathL s) = s
  box : ∀ w h : Int, (∀ i, i < s.length → (s.getD i default).a < w ∧ (s.getD i default).b < h) → ∀ k, k < (pathL s).length → ((pathL s).getD k default).a < w ∧ ((pathL s).getD k default).b < h

/-! ### Stairs -/
/-- A way from (a, b) to (c, d) by X steps across and Y steps up. -/
def stair (a b c d : Int) (X Y : Nat → Nat) (N : Nat) : List R2 := (List.range (N + 1)).map fun k => ⟨wk a c (X k), wk b d (Y k)⟩
theorem stair_len (a b c d : Int) (X Y : Nat → Nat) (N : Nat) : (stair a b c d X Y N).length = N + 1 := by simp [stair]
theorem stair_get {a b c d : Int} {X Y : Nat → Nat} {N k : Nat} (h : k < N + 1) : (stair a b c d X Y N).getD k default = ⟨wk a c (X k), wk b d (Y k)⟩ := by simp [stair, List.getD, h]
structure Steps (a b c d : Int) (X Y : Nat → Nat) (N : Nat) : Prop where
  sum : ∀ k, k ≤ N → X k + Y k = k
  x : ∀ k, k ≤ N → X k ≤ (c - a).natAbs
  y : ∀ k, k ≤ N → Y k ≤ (d - b).natAbs
  up : ∀ k, k + 1 ≤ N → (X (k + 1) = X k + 1 ∧ Y (k + 1) = Y k) ∨ (X (k + 1) = X k ∧ Y (k + 1) = Y k + 1)
theorem stair_ok {a b c d : Int} {X Y : Nat → Nat} {N : Nat} (hs : Steps a b c d X Y N) (ha : 0 ≤ a ∧ a ≤ 7) (hb : 0 ≤ b ∧ b ≤ 7) (hc : 0 ≤ c ∧ c ≤ 7) (hd : 0 ≤ d ∧ d ≤ 7) (hN : N ≤ 14) : PathOK (stair a b c d X Y N) := by
  refine ⟨by rw [stair_len]; omega, by rw [stair_len]; omega, fun i hi => ?_, fun i hi j hj e => ?_, fun i hi => ?_⟩
  · rw [stair_len] at hi
    rw [stair_get hi]
    have h1 := wk_bd ha hc (hs.x i (by omega))
    have h2 := wk_bd hb hd (hs.y i (by omega))
    exact ⟨by simp only; omega, by simp only; omega⟩
  · rw [stair_len] at hi
    rw [stair_get hi, stair_get (by omega)] at e
    injection e with e1 e2
    rw [wk_inj (hs.x j (by omega)) (hs.x i (by omega))] at e1
    rw [wk_inj (hs.y j (by omega)) (hs.y i (by omega))] at e2
    have h1 := hs.sum j (by omega)
    have h2 := hs.sum i (by omega)
    omega
  · rw [stair_len] at hi
    rw [stair_get (by omega), stair_get (by omega)]
    simp only [farP, farI]
    rcases hs.up i (by omega) with ⟨h1, h2⟩ | ⟨h1, h2⟩
    · rw [h1, h2, wk_far (by have := hs.x (i + 1) (by omega); omega)]; omega
    · rw [h1, h2, wk_far (by have := hs.y (i + 1) (by omega); omega)]; omega
theorem stair_bend {a b c d : Int} {X Y : Nat → Nat} {N k : Nat} (hs : Steps a b c d X Y N) (h0 : 0 < k) (h1 : k < N) : bendB (stair a b c d X Y N) k = (decide (X (k - 1) ≠ X (k + 1)) && decide (Y (k - 1) ≠ Y (k + 1))) := by
  unfold bendB
  rw [stair_len, stair_get (by omega), stair_get (by omega), decide_eq_true h0, decide_eq_true (by omega : k + 1 < N + 1), Bool.true_and, Bool.true_and]
  simp only [ne_eq, wk_inj (hs.x (k - 1) (by omega)) (hs.x (k + 1) (by omega)), wk_inj (hs.y (k - 1) (by omega)) (hs.y (k + 1) (by omega))]
theorem stair_keep {a b c d : Int} {X Y : Nat → Nat} {N k : Nat} (hs : Steps a b c d X Y N) (h1 : k ≤ N) : keepB (stair a b c d X Y N) k = (decide (k = 0) || decide (k = N) || (decide (X (k - 1) ≠ X (k + 1)) && decide (Y (k - 1) ≠ Y (k + 1)))) := by
  unfold keepB
  rw [stair_len]
  by_cases h0 : k = 0
  · simp [h0]
  · by_cases h2 : k = N
    · simp [h2]
    · rw [stair_bend hs (by omega) (by omega), show decide (k + 1 = N + 1) = decide (k = N) from decide_eq_decide.2 (by omega)]

theorem wk_lt {a c w : Int} (ha : a < w) (hc : c < w) {i : Nat} (hi : i ≤ (c - a).natAbs) : wk a c i < w := by
  unfold wk
  rcases sgn_cases (c - a) with ⟨h1, h2⟩ | ⟨h1, h2⟩ | ⟨h1, h2⟩ <;> rw [h2] <;> omega
theorem stair_box {a b c d : Int} {X Y : Nat → Nat} {N : Nat} (hs : Steps a b c d X Y N) {w h : Int} (h1 : a < w) (h2 : b < h) (h3 : c < w) (h4 : d < h) : ∀ k, k < (stair a b c d X Y N).length → ((stair a b c d X Y N).getD k default).a < w ∧ ((stair a b c d X Y N).getD k default).b < h := fun k hk => by
  rw [stair_len] at hk
  rw [stair_get hk]
  exact ⟨wk_lt h1 h3 (hs.x k (by omega)), wk_lt h2 h4 (hs.y k (by omega))⟩
theorem mem_box {s : List R2} {w h : Int} (hb : ∀ i, i < s.length → (s.getD i default).a < w ∧ (s.getD i default).b < h) {p : R2} (hp : p ∈ s) : p.a < w ∧ p.b < h := by
  obtain ⟨i, hi, rfl⟩ := List.mem_iff_getElem.1 hp
  have := hb i hi
  rwa [getD_get hi] at this

/-! ### Corners of stairs with one, two, three or four corners -/
theorem corn_two {a b c d : Int} {X Y : Nat → Nat} {N : Nat} (hs : Steps a b c d X Y N) (hN : 0 < N) (hb : ∀ k, 0 < k → k < N → X (k - 1) = X (k + 1) ∨ Y (k - 1) = Y (k + 1)) :
    cornL (stair a b c d X Y N) = [⟨wk a c (X 0), wk b d (Y 0)⟩, ⟨wk a c (X N), wk b d (Y N)⟩] := by
  unfold cornL
  rw [stair_len, cornT_keep (by rw [stair_keep hs (Nat.le_refl _)]; simp), cornT_skip (i := 1) N hN (fun k h1 h2 => by
    rw [stair_keep hs (by omega)]
    have := hb k (by omega) h2
    simp; omega)]
  rw [cornT_keep (by rw [stair_keep hs (Nat.zero_le _)]; simp), stair_get (by omega), stair_get (by omega)]
  rfl
theorem corn_three {a b c d : Int} {X Y : Nat → Nat} {N m : Nat} (hs : Steps a b c d X Y N) (h1 : 0 < m) (h2 : m < N) (hm : X (m - 1) ≠ X (m + 1) ∧ Y (m - 1) ≠ Y (m + 1)) (hb : ∀ k, 0 < k → k < N → k ≠ m → X (k - 1) = X (k + 1) ∨ Y (k - 1) = Y (k + 1)) :
    cornL (stair a b c d X Y N) = [⟨wk a c (X 0), wk b d (Y 0)⟩, ⟨wk a c (X m), wk b d (Y m)⟩, ⟨wk a c (X N), wk b d (Y N)⟩] := by
  unfold cornL
  rw [stair_len, cornT_keep (by rw [stair_keep hs (Nat.le_refl _)]; simp), cornT_skip (i := m + 1) N (by omega) (fun k h3 h4 => by
    rw [stair_keep hs (by omega)]
    have := hb k (by omega) h4 (by omega)
    simp; omega)]
  rw [cornT_keep (by rw [stair_keep hs (by omega)]; simp [hm]), cornT_skip (i := 1) m (by omega) (fun k h3 h4 => by
    rw [stair_keep hs (by omega)]
    have := hb k (by omega) (by omega) (by omega)
    simp; omega)]
  rw [cornT_keep (by rw [stair_keep hs (Nat.zero_le _)]; simp), stair_get (by omega), stair_get (by omega), stair_get (by omega)]
  rfl
theorem corn_four {a b c d : Int} {X Y : Nat → Nat} {N m n : Nat} (hs : Steps a b c d X Y N) (h1 : 0 < m) (h2 : m < n) (h3 : n < N) (hm : X (m - 1) ≠ X (m + 1) ∧ Y (m - 1) ≠ Y (m + 1)) (hn : X (n - 1) ≠ X (n + 1) ∧ Y (n - 1) ≠ Y (n + 1))
    (hb : ∀ k, 0 < k → k < N → k ≠ m → k ≠ n → X (k - 1) = X (k + 1) ∨ Y (k - 1) = Y (k + 1)) :
    cornL (stair a b c d X Y N) = [⟨wk a c (X 0), wk b d (Y 0)⟩, ⟨wk a c (X m), wk b d (Y m)⟩, ⟨wk a c (X n), wk b d (Y n)⟩, ⟨wk a c (X N), wk b d (Y N)⟩] := by
  unfold cornL
  rw [stair_len, cornT_keep (by rw [stair_keep hs (Nat.le_refl _)]; simp), cornT_skip (i := n + 1) N (by omega) (fun k h3 h4 => by
    rw [stair_keep hs (by omega)]
    have := hb k (by omega) h4 (by omega) (by omega)
    simp; omega)]
  rw [cornT_keep (by rw [stair_keep hs (by omega)]; simp [hn]), cornT_skip (i := m + 1) n (by omega) (fun k h3 h4 => by
    rw [stair_keep hs (by omega)]
    have := hb k (by omega) (by omega) (by omega) (by omega)
    simp; omega)]
  rw [cornT_keep (by rw [stair_keep hs (by omega)]; simp [hm]), cornT_skip (i := 1) m (by omega) (fun k h3 h4 => by
    rw [stair_keep hs (by omega)]
    have := hb k (by omega) (by omega) (by omega) (by omega)
    simp; omega)]
  rw [cornT_keep (by rw [stair_keep hs (Nat.zero_le _)]; simp), stair_get (by omega), stair_get (by omega), stair_get (by omega), stair_get (by omega)]
  rfl
end Go.Sx.M8
