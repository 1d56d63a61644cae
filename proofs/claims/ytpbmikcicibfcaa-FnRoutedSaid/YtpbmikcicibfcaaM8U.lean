/-
  Chapter 8, plain: uses.
-/
import Derived.Test.YtpbmikcicibfcaaM8Q
namespace Go.Sx.M8
set_option linter.unusedVariables false
set_option linter.unusedSimpArgs false
open Go Go.Sx Go.Sx.U

/-! ### Prefixes of paths -/
theorem linesT_pre (s : List R2) (i : Nat) : ∀ j, i ≤ j → ∃ t, linesT s j = linesT s i ++ t
  | 0, h => ⟨[], by rw [show i = 0 by omega]; simp⟩
  | j + 1, h => by
    by_cases e : i = j + 1
    · exact ⟨[], by rw [e]; simp⟩
    · obtain ⟨t, ht⟩ := linesT_pre s i j (by omega)
      exact ⟨t ++ lineL (s.getD j default).a (s.getD j default).b (s.getD (j + 1) default).a (s.getD (j + 1) default).b, by rw [linesT, ht, List.append_assoc]⟩
theorem linesT_pos (s : List R2) : ∀ i, 1 ≤ (linesT s i).length
  | 0 => by simp [linesT]
  | i + 1 => by have := linesT_pos s i; rw [linesT, List.length_append]; omega
theorem getD_app_l {α : Type} {xs ys : List α} {k : Nat} {d : α} (h : k < xs.length) : (xs ++ ys).getD k d = xs.getD k d := by
  simp only [List.getD_eq_getElem?_getD, List.getElem?_append_left h]
theorem getD_app_r {α : Type} {xs ys : List α} {k : Nat} {d : α} : (xs ++ ys).getD (xs.length + k) d = ys.getD k d := by
  simp only [List.getD_eq_getElem?_getD, List.getElem?_append_right (Nat.le_add_right _ _), Nat.add_sub_cancel_left]
/-- The last point so far is the corner. -/
theorem linesT_last {s : List R2} (ha : ∀ i, i + 1 < s.length → aligned (s.getD i default) (s.getD (i + 1) default)) : ∀ i, i < s.length → (linesT s i).getD ((linesT s i).length - 1) default = s.getD i default
  | 0, _ => by simp [linesT]
  | i + 1, h => by
    have hal := ha i h
    have hi := linesT_last ha i (by omega)
    have hp := linesT_pos s i
    rw [linesT]
    by_cases hz : lineN (s.getD i default).a (s.getD i default).b (s.getD (i + 1) default).a (s.getD (i + 1) default).b = 0
    · have he : lineL (s.getD i default).a (s.getD i default).b (s.getD (i + 1) default).a (s.getD (i + 1) default).b = [] := by
        have := lineL_len (s.getD i default).a (s.getD i default).b (s.getD (i + 1) default).a (s.getD (i + 1) default).b
        rw [hz] at this
        exact List.length_eq_zero_iff.1 this
      rw [he, List.append_nil, hi]
      unfold lineN at hz
      have e1 : (s.getD i default).a = (s.getD (i + 1) default).a := by omega
      have e2 : (s.getD i default).b = (s.getD (i + 1) default).b := by omega
      calc s.getD i default = ⟨(s.getD i default).a, (s.getD i default).b⟩ := rfl
        _ = ⟨(s.getD (i + 1) default).a, (s.getD (i + 1) default).b⟩ := by rw [e1, e2]
        _ = s.getD (i + 1) default := rfl
    · have hl := lineL_len (s.getD i default).a (s.getD i default).b (s.getD (i + 1) default).a (s.getD (i + 1) default).b
      rw [List.length_append, hl, show (linesT s i).length + lineN (s.getD i default).a (s.getD i default).b (s.getD (i + 1) default).a (s.getD (i + 1) default).b - 1 = (linesT s i).length + (lineN (s.getD i default).a (s.getD i default).b (s.getD (i + 1) default).a (s.getD (i + 1) default).b - 1) by omega, getD_app_r]
      rw [lineL_get (by omega), show lineN (s.getD i default).a (s.getD i default).b (s.getD (i + 1) default).a (s.getD (i + 1) default).b - 1 + 1 = lineN (s.getD i default).a (s.getD i default).b (s.getD (i + 1) default).a (s.getD (i + 1) default).b by omega]
      obtain ⟨e1, e2⟩ := line_end hal
      calc ptAt (s.getD i default).a (s.getD i default).b (s.getD (i + 1) default).a (s.getD (i + 1) default).b _ = ⟨(s.getD (i + 1) default).a, (s.getD (i + 1) default).b⟩ := by unfold ptAt; rw [e1, e2]
        _ = s.getD (i + 1) default := rfl

/-! ### Steps on edges -/
def bump (W : List (List Int)) (y x : Nat) (k : Int) : List (List Int) := W.set y ((W.getD y []).set x ((W.getD y []).getD x 0 + k))
abbrev UU := List (List Int) × List (List Int)
def stepE (k : Int) (U : UU) (p q : R2) : UU := if p.b = q.b then (bump U.1 p.b.toNat (min p.a q.a).toNat k, U.2) else (U.1, bump U.2 (min p.b q.b).toNat p.a.toNat k)
def walkE (k : Int) (U : UU) (xs : List R2) : Nat → UU
  | 0 => U
  | i + 1 => stepE k (walkE k U xs i) (xs.getD i default) (xs.getD (i + 1) default)
def useE (k : Int) (U : UU) (s : List R2) : UU := walkE k U (pathL s) ((pathL s).length - 1)
/-- So many rows of so many numbers from -m to m. -/
structure Rows (n e : Nat) (m : Int) (W : List (List Int)) : Prop where
  len : W.length = n
  each : ∀ y, y < n → (W.getD y []).length = e
  bd : ∀ y, y < n → ∀ x, x < e → -m ≤ (W.getD y []).getD x 0 ∧ (W.getD y []).getD x 0 ≤ m
theorem bump_len (W : List (List Int)) (y x : Nat) (k : Int) : (bump W y x k).length = W.length := by simp [bump]
theorem bump_row {W : List (List Int)} {y x : Nat} {k : Int} (y' : Nat) (hy : y < W.length) : (bump W y x k).getD y' [] = if y' = y then (W.getD y []).set x ((W.getD y []).getD x 0 + k) else W.getD y' [] := by
  unfold bump
  by_cases h : y' = y
  · subst h; rw [if_pos rfl, getD_set_self hy]
  · rw [if_neg h, List.getD, List.getElem?_set_ne (Ne.symm h)]; rfl
theorem bump_rows {n e : Nat} {m : Int} {W : List (List Int)} (h : Rows n e m W) {y x : Nat} (hy : y < n) (hx : x < e) {k : Int} (hk : k = 1 ∨ k = -1) : Rows n e (m + 1) (bump W y x k) := by
  have hyl : y < W.length := by rw [h.len]; exact hy
  refine ⟨by rw [bump_len, h.len], fun y' hy' => ?_, fun y' hy' x' hx' => ?_⟩
  · rw [bump_row y' hyl]
    split
    · rw [List.length_set]; exact h.each y hy
    · exact h.each y' hy'
  · rw [bump_row y' hyl]
    split
    · have hb := h.bd y hy x' hx'
      by_cases hxx : x' = x
      · subst hxx
        rw [getD_set_self (by rw [h.each y hy]; exact hx)]
        omega
      · rw [List.getD, List.getElem?_set_ne (Ne.symm hxx)]
        have : (W.getD y [])[x']?.getD 0 = (W.getD y []).getD x' 0 := rfl
        rw [this]; omega
    · have := h.bd y' hy' x' hx'; omega
theorem bump_at {n e : Nat} {m : Int} {W : List (List Int)} (h : Rows n e m W) {y x : Nat} (hy : y < n) (hx : x < e) (k : Int) {y' x' : Nat} : ((bump W y x k).getD y' []).getD x' 0 = (W.getD y' []).getD x' 0 + if y' = y ∧ x' = x then k else 0 := by
  have hyl : y < W.length := by rw [h.len]; exact hy
  rw [bump_row y' hyl]
  by_cases h1 : y' = y
  · subst h1
    rw [if_pos rfl]
    by_cases h2 : x' = x
    · subst h2
      rw [getD_set_self (by rw [h.each y' hy]; exact hx), if_pos ⟨rfl, rfl⟩]
    · rw [if_neg (fun e => h2 e.2), List.getD, List.getElem?_set_ne (Ne.symm h2)]
      show (W.getD y' []).getD x' 0 = _
      omega
  · rw [if_neg h1, if_neg (fun e => h1 e.1)]; omega
theorem rows_mono {n e : Nat} {m m' : Int} {W : List (List Int)} (h : Rows n e m W) (hm : m ≤ m') : Rows n e m' W :=
  ⟨h.len, h.each, fun y hy x hx => by have := h.bd y hy x hx; omega⟩
structure Dims (w h : Nat) (m : Int) (U : UU) : Prop where
  a : Rows h (w - 1) m U.1
  u : Rows (h - 1) w m U.2
def inG (w h : Nat) (p : R2) : Prop := (0 ≤ p.a ∧ p.a < w) ∧ (0 ≤ p.b ∧ p.b < h)
/-- Where a step counts. -/
theorem step_at {w h : Nat} {p q : R2} (hp : inG w h p) (hq : inG w h q) (hf : farP p q = 1) :
    (p.b = q.b ∧ p.b.toNat < h ∧ (min p.a q.a).toNat < w - 1 ∧ (p.a = q.a + 1 ∨ q.a = p.a + 1)) ∨ (p.b ≠ q.b ∧ p.a = q.a ∧ (min p.b q.b).toNat < h - 1 ∧ p.a.toNat < w) := by
  unfold farP farI at hf
  unfold inG at hp hq
  omega
theorem step_dims {w h : Nat} {m : Int} {U : UU} (hU : Dims w h m U) {p q : R2} (hp : inG w h p) (hq : inG w h q) (hf : farP p q = 1) {k : Int} (hk : k = 1 ∨ k = -1) : Dims w h (m + 1) (stepE k U p q) := by
  unfold stepE
  rcases step_at hp hq hf with ⟨h1, h2, h3, _⟩ | ⟨h1, _, h2, h3⟩
  · rw [if_pos h1]; exact ⟨bump_rows hU.a h2 h3 hk, rows_mono hU.u (by omega)⟩
  · rw [if_neg h1]; exact ⟨rows_mono hU.a (by omega), bump_rows hU.u h2 h3 hk⟩
def Way (w h : Nat) (xs : List R2) : Prop := (∀ i, i < xs.length → inG w h (xs.getD i default)) ∧ ∀ i, i + 1 < xs.length → farP (xs.getD i default) (xs.getD (i + 1) default) = 1
theorem walk_dims {w h : Nat} {m : Int} {U : UU} (hU : Dims w h m U) {xs : List R2} (hx : Way w h xs) {k : Int} (hk : k = 1 ∨ k = -1) : ∀ i, i + 1 ≤ xs.length → Dims w h (m + i) (walkE k U xs i)
  | 0, _ => by simpa [walkE] using hU
  | i + 1, hi => by
    have := step_dims (walk_dims hU hx hk i (by omega)) (hx.1 i (by omega)) (hx.1 (i + 1) (by omega)) (hx.2 i (by omega)) hk
    rw [show m + ((i + 1 : Nat) : Int) = m + i + 1 by push_cast; omega]
    exact this
theorem good_way {s : List R2} (hs : GoodShape s) {w h : Nat} (hb : ∀ i, i < s.length → (s.getD i default).a < w ∧ (s.getD i default).b < h) : Way w h (pathL s) :=
  ⟨fun i hi => by
    have h1 := hs.ok.pt i hi
    have h2 := hs.box w h hb i hi
    exact ⟨⟨h1.1.1, h2.1⟩, h1.2.1, h2.2⟩, fun i hi => hs.ok.near i hi⟩
end Go.Sx.M8
