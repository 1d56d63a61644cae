/-
  Chapter 10, plain: quiet orders.
-/
import Derived.Test.YtjojnolcohjebaaM0C
namespace Go.Sx.M0
set_option linter.unusedVariables false
set_option linter.unusedSimpArgs false
open Go Go.Sx

/-! ### How loud an order is -/
def loudT (W : List (List Int)) (o : List Int) : Nat → Int
  | 0 => 0
  | j + 1 => max (loudT W o j) (if 0 < j then cst W o j + cst W o (j - 1) else cst W o j)
def loud (W : List (List Int)) (o : List Int) : Int := loudT W o (o.length - 1)
theorem cst_app {W : List (List Int)} {o zs : List Int} {j : Nat} (hj : j + 1 < o.length) : cst W (o ++ zs) j = cst W o j := by
  have e : ∀ k, k < o.length → (o ++ zs).getD k 0 = o.getD k 0 := fun k hk => by
    simp only [List.getD_eq_getElem?_getD, List.getElem?_append_left hk]
  rw [cst, cst, e j (by omega), e (j + 1) (by omega)]
theorem loudT_app {W : List (List Int)} {o zs : List Int} : ∀ j, j + 1 ≤ o.length ∨ j = 0 → loudT W (o ++ zs) j = loudT W o j
  | 0, _ => rfl
  | j + 1, hj => by
    simp only [loudT]
    rw [loudT_app j (by omega), cst_app (by omega)]
    split
    · rw [cst_app (by omega)]
    · rfl
/-- What one wire more adds. -/
def step2 (W : List (List Int)) (o : List Int) (x : Int) : Int :=
  if 1 < o.length then wt W (o.getD (o.length - 1) 0).toNat x.toNat + wt W (o.getD (o.length - 2) 0).toNat (o.getD (o.length - 1) 0).toNat else wt W (o.getD (o.length - 1) 0).toNat x.toNat
theorem loud_snoc {W : List (List Int)} {o : List Int} {x : Int} (h : 0 < o.length) : loud W (o ++ [x]) = max (loud W o) (step2 W o x) := by
  unfold loud step2
  obtain ⟨n, hn⟩ : ∃ n, o.length = n + 1 := ⟨o.length - 1, by omega⟩
  have e1 : (o ++ [x]).getD n 0 = o.getD n 0 := by rw [List.getD, List.getElem?_append_left (by omega)]; rfl
  have e2 : (o ++ [x]).getD (n + 1) 0 = x := by rw [List.getD, List.getElem?_append_right (by omega), hn, Nat.sub_self]; rfl
  rw [List.length_append, List.length_singleton, Nat.add_sub_cancel, hn, Nat.add_sub_cancel, loudT, loudT_app n (by omega)]
  have ec : cst W (o ++ [x]) n = wt W (o.getD n 0).toNat x.toNat := by rw [cst, e1, e2]
  by_cases h0 : 0 < n
  · rw [if_pos h0, if_pos (by omega), ec]
    obtain ⟨k, rfl⟩ : ∃ k, n = k + 1 := ⟨n - 1, by omega⟩
    rw [Nat.add_sub_cancel, cst_app (by omega), cst]
    rfl
  · rw [if_neg h0, if_neg (by omega), ec]
theorem loud_one {W : List (List Int)} (x : Int) : loud W [x] = 0 := rfl
theorem loud_nil {W : List (List Int)} : loud W [] = 0 := rfl
theorem loudT_bd {W : List (List Int)} (hW : okW W) {o : List Int} (ho : ∀ x ∈ o, 0 ≤ x ∧ x < (W.length : Int)) : ∀ j, j < o.length ∨ j = 0 → 0 ≤ loudT W o j ∧ loudT W o j ≤ 2000
  | 0, _ => by simp [loudT]
  | j + 1, hj => by
    have h1 := loudT_bd hW ho j (by omega)
    have h2 := cst_bd hW ho (j := j) (by omega)
    simp only [loudT]
    split
    · have h3 := cst_bd hW ho (j := j - 1) (by omega)
      omega
    · omega
theorem loud_bd {W : List (List Int)} (hW : okW W) {o : List Int} (ho : ∀ x ∈ o, 0 ≤ x ∧ x < (W.length : Int)) : 0 ≤ loud W o ∧ loud W o ≤ 2000 :=
  loudT_bd hW ho (o.length - 1) (by omega)
theorem loud_mono {W : List (List Int)} {o : List Int} {x : Int} (h0 : 0 ≤ loud W (o ++ [x])) : loud W o ≤ loud W (o ++ [x]) := by
  by_cases h : 0 < o.length
  · rw [loud_snoc h]; omega
  · have : o = [] := List.eq_nil_of_length_eq_zero (by omega)
    subst this
    rw [loud_nil]; exact h0

/-! ### All orders that begin so, in order -/
def allO (n : Nat) : Nat → List Int → List (List Int)
  | 0, o => [o]
  | f + 1, o => (List.range n).flatMap fun (w : Nat) => if (w : Int) ∈ o then [] else allO n f (o ++ [(w : Int)])
/-- Those up to a wire. -/
def allT (n f : Nat) (o : List Int) (i : Nat) : List (List Int) := (List.range i).flatMap fun (w : Nat) => if (w : Int) ∈ o then [] else allO n f (o ++ [(w : Int)])
theorem allT_succ (n f : Nat) (o : List Int) (i : Nat) : allT n f o (i + 1) = allT n f o i ++ if (i : Int) ∈ o then [] else allO n f (o ++ [(i : Int)]) := by
  unfold allT
  rw [List.range_succ, List.flatMap_append]
  simp
theorem allT_all (n f : Nat) (o : List Int) : allT n f o n = allO n (f + 1) o := rfl
theorem allO_loud {W : List (List Int)} (hW : okW W) : ∀ (f : Nat) (o : List Int), PreO W f o → ∀ x ∈ allO W.length f o, loud W o ≤ loud W x ∧ PreO W 0 x
  | 0, o, hp, x, hx => by rw [List.mem_singleton.1 hx]; exact ⟨Int.le_refl _, hp⟩
  | f + 1, o, hp, x, hx => by
    simp only [allO, List.mem_flatMap, List.mem_range] at hx
    obtain ⟨w, hw, hx⟩ := hx
    split at hx
    · cases hx
    · obtain ⟨h1, h2⟩ := allO_loud hW f (o ++ [(w : Int)]) (pre_snoc hp hw) x hx
      exact ⟨Int.le_trans (loud_mono (loud_bd hW (pre_snoc hp hw).rng).1) h1, h2⟩

/-! ### The quietest one so far -/
abbrev QS := List Int × Int
def qStep (W : List (List Int)) (s : QS) (x : List Int) : QS := if (decide (s.2 < 0) || decide (loud W x < s.2)) = true then (x, loud W x) else s
def qFold (W : List (List Int)) (s : QS) (xs : List (List Int)) : QS := xs.foldl (qStep W) s
theorem qFold_app (W : List (List Int)) (s : QS) (xs ys : List (List Int)) : qFold W s (xs ++ ys) = qFold W (qFold W s xs) ys := by simp [qFold]
theorem qFold_skip {W : List (List Int)} {s : QS} (h0 : 0 ≤ s.2) : ∀ {xs : List (List Int)}, (∀ x ∈ xs, s.2 ≤ loud W x) → qFold W s xs = s
  | [], _ => rfl
  | x :: xs, h => by
    have hx := h x List.mem_cons_self
    have e : qStep W s x = s := by
      unfold qStep
      rw [if_neg (by simp only [Bool.or_eq_true, decide_eq_true_eq]; omega)]
    simp only [qFold, List.foldl_cons, e]
    exact qFold_skip h0 fun y hy => h y (List.mem_cons_of_mem _ hy)
/-- A search that goes on below is left where nothing quieter can come. -/
theorem qFold_cut {W : List (List Int)} (hW : okW W) {f : Nat} {o : List Int} (hp : PreO W f o) {s : QS} (h : (decide (s.2 < 0) || decide (loud W o < s.2)) = false) : qFold W s (allO W.length f o) = s := by
  simp only [Bool.or_eq_false_iff, decide_eq_false_iff_not] at h
  exact qFold_skip (by omega) fun x hx => by have := (allO_loud hW f o hp x hx).1; omega
theorem qFold_spec {W : List (List Int)} {P : List Int → Prop} : ∀ {xs : List (List Int)} {s : QS}, (∀ x ∈ xs, 0 ≤ loud W x ∧ P x) → (s.2 < 0 ∨ (s.2 = loud W s.1 ∧ 0 ≤ s.2)) → (xs ≠ [] ∨ 0 ≤ s.2) →
    let r := qFold W s xs
    r.2 = loud W r.1 ∧ 0 ≤ r.2 ∧ (∀ x ∈ xs, r.2 ≤ loud W x) ∧ (0 ≤ s.2 → r.2 ≤ s.2)
  | [], s, _, h1, h2 => by
    rcases h2 with h2 | h2
    · exact absurd rfl h2
    · rcases h1 with h1 | h1
      · omega
      · exact ⟨h1.1, h1.2, by simp, fun _ => Int.le_refl _⟩
  | x :: xs, s, hx, h1, _ => by
    have h0 := (hx x List.mem_cons_self).1
    have hs : (qStep W s x).2 = loud W (qStep W s x).1 ∧ 0 ≤ (qStep W s x).2 ∧ (qStep W s x).2 ≤ loud W x ∧ (0 ≤ s.2 → (qStep W s x).2 ≤ s.2) := by
      unfold qStep
      split
      · rename_i hc
        simp only [Bool.or_eq_true, decide_eq_true_eq] at hc
        exact ⟨rfl, h0, Int.le_refl _, fun h => by simp only; omega⟩
      · rename_i hc
        simp only [Bool.or_eq_true, decide_eq_true_eq, not_or] at hc
        rcases h1 with h1 | h1
        · omega
        · exact ⟨h1.1, h1.2, by omega, fun _ => Int.le_refl _⟩
    obtain ⟨g1, g2, g3, g4⟩ := hs
    have ih := qFold_spec (W := W) (P := P) (xs := xs) (s := qStep W s x) (fun y hy => hx y (List.mem_cons_of_mem _ hy)) (.inr ⟨g1, g2⟩) (.inr g2)
    simp only [qFold, List.foldl_cons] at ih ⊢
    obtain ⟨i1, i2, i3, i4⟩ := ih
    refine ⟨i1, i2, fun y hy => ?_, fun h => ?_⟩
    · rcases List.mem_cons.1 hy with rfl | hy
      · have := i4 g2; omega
      · exact i3 y hy
    · have := i4 g2
      have := g4 h
      omega
end Go.Sx.M0
