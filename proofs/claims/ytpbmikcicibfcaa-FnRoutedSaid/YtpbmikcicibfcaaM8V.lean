/-
  Chapter 8, plain: the uses of choices, overflows.
-/
import Derived.Test.YtpbmikcicibfcaaM8U
namespace Go.Sx.M8
set_option linter.unusedVariables false
set_option linter.unusedSimpArgs false
open Go Go.Sx Go.Sx.U

def shapesR (r : R4) : List (List R2) := shapesV r.a r.b r.c r.d
def shapeOf (r : R4) (k : Int) : List R2 := (shapesR r).getD k.toNat []
def zeroU (w h : Nat) : UU := (rowsE h (w - 1) 0, rowsE (h - 1) w 0)
def usedT (w h : Nat) (ns : List R4) (ks : List Int) : Nat → UU
  | 0 => zeroU w h
  | i + 1 => useE 1 (usedT w h ns ks i) (shapeOf (ns.getD i default) (ks.getD i 0))
theorem rows_zero (n e : Nat) : Rows n e 0 (rowsE n e 0) := by
  have hg : ∀ y, y < n → (rowsE n e 0).getD y [] = List.replicate e 0 := fun y hy => by simp [rowsE, List.getD, hy]
  refine ⟨rowsE_len n e 0, fun y hy => by rw [hg y hy]; simp, fun y hy x hx => ?_⟩
  rw [hg y hy]
  simp [List.getD, hx]
theorem zero_dims (w h : Nat) : Dims w h 0 (zeroU w h) := ⟨rows_zero _ _, rows_zero _ _⟩
/-- The choice is one of these nets. -/
structure ChoiceOK (w h : Nat) (ns : List R4) (ks : List Int) : Prop where
  len : ks.length ≤ ns.length
  cel : ∀ i, i < ns.length → (cl (ns.getD i default).a ∧ cl (ns.getD i default).b ∧ cl (ns.getD i default).c ∧ cl (ns.getD i default).d) ∧ ((ns.getD i default).a < w ∧ (ns.getD i default).c < w) ∧ ((ns.getD i default).b < h ∧ (ns.getD i default).d < h)
  ch : ∀ i, i < ks.length → 0 ≤ ks.getD i 0 ∧ ks.getD i 0 < (shapesR (ns.getD i default)).length
theorem shapes_pos {a b c d : Int} : 1 ≤ (shapesV a b c d).length := by
  unfold shapesV
  split
  · simp
  · simp [shapesX, shapesY]; omega
theorem shape_lt {a b c d : Int} {w h : Int} (ha : a < w) (hb : b < h) (hc : c < w) (hd : d < h) {s : List R2} (hs : s ∈ shapesV a b c d) : ∀ p ∈ s, p.a < w ∧ p.b < h := by
  intro p hp
  unfold shapesV at hs
  split at hs
  · rw [List.mem_singleton.1 hs] at hp
    split at hp
    · rw [List.mem_singleton.1 hp]; exact ⟨ha, hb⟩
    · simp only [List.mem_cons, List.not_mem_nil, or_false] at hp
      rcases hp with rfl | rfl
      · exact ⟨ha, hb⟩
      · exact ⟨hc, hd⟩
  · rcases List.mem_append.1 hs with hs | hs
    · simp only [shapesX, List.mem_map, List.mem_range] at hs
      obtain ⟨i, hi, rfl⟩ := hs
      have := wk_lt ha hc (i := i + 1) hi
      rcases cut4_mem hp with rfl | rfl | rfl | rfl <;> exact ⟨by assumption, by assumption⟩
    · simp only [shapesY, List.mem_map, List.mem_range] at hs
      obtain ⟨i, hi, rfl⟩ := hs
      have := wk_lt hb hd (i := i + 1) hi
      rcases cut4_mem hp with rfl | rfl | rfl | rfl <;> exact ⟨by assumption, by assumption⟩
theorem shape_good {w h : Nat} {r : R4} (hc : (cl r.a ∧ cl r.b ∧ cl r.c ∧ cl r.d) ∧ (r.a < w ∧ r.c < w) ∧ (r.b < h ∧ r.d < h)) {k : Int} (hk : 0 ≤ k ∧ k < (shapesR r).length) : GoodShape (shapeOf r k) ∧ Way w h (pathL (shapeOf r k)) := by
  have hm : shapeOf r k ∈ shapesV r.a r.b r.c r.d := mem_of_getD (by unfold shapesR at hk; omega)
  have hg := good_shapes hc.1.1 hc.1.2.1 hc.1.2.2.1 hc.1.2.2.2 _ hm
  exact ⟨hg, good_way hg fun i hi => shape_lt hc.2.1.1 hc.2.2.1 hc.2.1.2 hc.2.2.2 hm _ (mem_of_getD hi)⟩
theorem use_dims {w h : Nat} {m : Int} {U : UU} (hU : Dims w h m U) {s : List R2} (hg : GoodShape s) (hw : Way w h (pathL s)) {k : Int} (hk : k = 1 ∨ k = -1) : Dims w h (m + 576) (useE k U s) := by
  have := walk_dims hU hw hk ((pathL s).length - 1) (by have := hg.ok.one; omega)
  have h2 := hg.ok.few
  exact ⟨rows_mono this.a (by omega), rows_mono this.u (by omega)⟩
theorem used_dims {w h : Nat} {ns : List R4} {ks : List Int} (hc : ChoiceOK w h ns ks) : ∀ i, i ≤ ks.length → Dims w h (576 * i) (usedT w h ns ks i)
  | 0, _ => by simpa [usedT] using zero_dims w h
  | i + 1, hi => by
    obtain ⟨hg, hw⟩ := shape_good (hc.cel i (by have := hc.len; omega)) (hc.ch i (by omega))
    have := use_dims (used_dims hc i (by omega)) hg hw (k := 1) (.inl rfl)
    rw [show 576 * ((i + 1 : Nat) : Int) = 576 * i + 576 by push_cast; omega]
    exact this

/-! ### Overflows -/
def overR (r u : List Int) : Nat → Int
  | 0 => 0
  | x + 1 => overR r u x + max (u.getD x 0 - r.getD x 0) 0
def overT (R U : List (List Int)) : Nat → Int
  | 0 => 0
  | y + 1 => overT R U y + overR (R.getD y []) (U.getD y []) (R.getD y []).length
def overV (A V : List (List Int)) (U : UU) : Int := overT A U.1 A.length + overT V U.2 V.length
theorem overR_bd {r u : List Int} {m : Int} (h : ∀ x, x < r.length → 0 ≤ r.getD x 0 ∧ u.getD x 0 ≤ m) (hm : 0 ≤ m) : ∀ x, x ≤ r.length → 0 ≤ overR r u x ∧ overR r u x ≤ m * x
  | 0, _ => by simp [overR]
  | x + 1, hx => by
    have h1 := overR_bd h hm x (by omega)
    have h2 := h x (by omega)
    have e : m * ((x + 1 : Nat) : Int) = m * x + m := by push_cast; rw [Int.mul_add, Int.mul_one]
    rw [e]
    simp only [overR]
    generalize m * (x : Int) = q at *
    omega
theorem overT_bd {R U : List (List Int)} {m : Int} {e : Nat} (hR : ∀ y, y < R.length → (R.getD y []).length ≤ e ∧ ∀ x, x < (R.getD y []).length → 0 ≤ (R.getD y []).getD x 0 ∧ (U.getD y []).getD x 0 ≤ m) (hm : 0 ≤ m) : ∀ y, y ≤ R.length → 0 ≤ overT R U y ∧ overT R U y ≤ m * e * y
  | 0, _ => by simp [overT]
  | y + 1, hy => by
    have h1 := overT_bd hR hm y (by omega)
    obtain ⟨h2, h3⟩ := hR y (by omega)
    have h4 := overR_bd h3 hm _ (Nat.le_refl _)
    have h5 : m * ((R.getD y []).length : Int) ≤ m * e := Int.mul_le_mul_of_nonneg_left (by omega) hm
    have e' : m * e * ((y + 1 : Nat) : Int) = m * e * y + m * e := by push_cast; rw [Int.mul_add, Int.mul_one]
    rw [e']
    simp only [overT]
    generalize m * (e : Int) * (y : Int) = q at *
    generalize m * (e : Int) = q2 at *
    generalize m * ((R.getD y []).length : Int) = q3 at *
    omega

/-! ### Uses that are put back -/
theorem rows_ext {n e : Nat} {m m' : Int} {W W' : List (List Int)} (h : Rows n e m W) (h' : Rows n e m' W') (hx : ∀ y, y < n → ∀ x, x < e → (W.getD y []).getD x 0 = (W'.getD y []).getD x 0) : W = W' := by
  apply List.ext_getElem (by rw [h.len, h'.len])
  intro y h1 h2
  have hy : y < n := by rw [h.len] at h1; exact h1
  have l1 := h.each y hy
  have l2 := h'.each y hy
  have q := hx y hy
  rw [getD_get h1] at l1 q
  rw [getD_get h2] at l2 q
  apply List.ext_getElem (by rw [l1, l2])
  intro x k1 k2
  have := q x (by omega)
  rwa [getD_get k1, getD_get k2] at this
/-- How often a walk meets an edge. -/
def hitA (xs : List R2) (y x : Nat) : Nat → Int
  | 0 => 0
  | i + 1 => hitA xs y x i + if (xs.getD i default).b = (xs.getD (i + 1) default).b ∧ y = (xs.getD i default).b.toNat ∧ x = (min (xs.getD i default).a (xs.getD (i + 1) default).a).toNat then 1 else 0
def hitU (xs : List R2) (y x : Nat) : Nat → Int
  | 0 => 0
  | i + 1 => hitU xs y x i + if ¬ (xs.getD i default).b = (xs.getD (i + 1) default).b ∧ y = (min (xs.getD i default).b (xs.getD (i + 1) default).b).toNat ∧ x = (xs.getD i default).a.toNat then 1 else 0
theorem ite_and_pos {p q : Prop} [Decidable p] [Decidable q] (hp : p) : (if p ∧ q then (1 : Int) else 0) = if q then 1 else 0 := by simp [hp]
theorem ite_not_and {p q : Prop} [Decidable p] [Decidable q] (hp : p) : (if ¬ p ∧ q then (1 : Int) else 0) = 0 := by simp [hp]
theorem ite_and_neg {p q : Prop} [Decidable p] [Decidable q] (hp : ¬ p) : (if p ∧ q then (1 : Int) else 0) = 0 := by simp [hp]
theorem ite_not_pos {p q : Prop} [Decidable p] [Decidable q] (hp : ¬ p) : (if ¬ p ∧ q then (1 : Int) else 0) = if q then 1 else 0 := by simp [hp]
theorem walk_get {w h : Nat} {m : Int} {U : UU} (hU : Dims w h m U) {xs : List R2} (hx : Way w h xs) {k : Int} (hk : k = 1 ∨ k = -1) : ∀ i, i + 1 ≤ xs.length → ∀ y x,
    ((walkE k U xs i).1.getD y []).getD x 0 = (U.1.getD y []).getD x 0 + k * hitA xs y x i ∧ ((walkE k U xs i).2.getD y []).getD x 0 = (U.2.getD y []).getD x 0 + k * hitU xs y x i
  | 0, _, y, x => by simp [walkE, hitA, hitU]
  | i + 1, hi, y, x => by
    obtain ⟨h1, h2⟩ := walk_get hU hx hk i (by omega) y x
    have hd := walk_dims hU hx hk i (by omega)
    have hs := step_at (hx.1 i (by omega)) (hx.1 (i + 1) (by omega)) (hx.2 i (by omega))
    simp only [walkE, stepE, hitA, hitU]
    rcases hs with ⟨q1, q2, q3, _⟩ | ⟨q1, q0, q2, q3⟩
    · rw [if_pos q1, ite_and_pos q1, ite_not_and q1, Int.add_zero]
      simp only
      rw [bump_at hd.a q2 q3, h1, h2]
      refine ⟨?_, rfl⟩
      by_cases hh : y = (xs.getD i default).b.toNat ∧ x = (min (xs.getD i default).a (xs.getD (i + 1) default).a).toNat
      · rw [if_pos hh, if_pos hh, Int.mul_add, Int.mul_one]; omega
      · rw [if_neg hh, if_neg hh, Int.mul_add, Int.mul_zero]; omega
    · rw [if_neg q1, ite_and_neg q1, ite_not_pos q1, Int.add_zero]
      simp only
      rw [bump_at hd.u q2 q3, h1, h2]
      refine ⟨rfl, ?_⟩
      by_cases hh : y = (min (xs.getD i default).b (xs.getD (i + 1) default).b).toNat ∧ x = (xs.getD i default).a.toNat
      · rw [if_pos hh, if_pos hh, Int.mul_add, Int.mul_one]; omega
      · rw [if_neg hh, if_neg hh, Int.mul_add, Int.mul_zero]; omega
theorem use_back {w h : Nat} {m : Int} {U : UU} (hU : Dims w h m U) {s : List R2} (hg : GoodShape s) (hw : Way w h (pathL s)) : useE (-1) (useE 1 U s) s = U := by
  have hp := hg.ok.one
  have h1 := use_dims hU hg hw (k := 1) (.inl rfl)
  have h2 := use_dims h1 hg hw (k := -1) (.inr rfl)
  have hget := fun y x => walk_get hU hw (k := 1) (.inl rfl) ((pathL s).length - 1) (by omega) y x
  have hget2 := fun y x => walk_get h1 hw (k := -1) (.inr rfl) ((pathL s).length - 1) (by omega) y x
  refine Prod.ext ?_ ?_
  · refine rows_ext h2.a hU.a fun y _ x _ => ?_
    have e1 := (hget y x).1
    have e2 := (hget2 y x).1
    unfold useE at e2 ⊢
    rw [e2, e1]; omega
  · refine rows_ext h2.u hU.u fun y _ x _ => ?_
    have e1 := (hget y x).2
    have e2 := (hget2 y x).2
    unfold useE at e2 ⊢
    rw [e2, e1]; omega
end Go.Sx.M8
