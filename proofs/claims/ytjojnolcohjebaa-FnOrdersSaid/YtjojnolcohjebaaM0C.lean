/-
  Chapter 10, plain: counting orders.
-/
import Derived.Test.YtjojnolcohjebaaM0
namespace Go.Sx.M0
set_option linter.unusedVariables false
set_option linter.unusedSimpArgs false
open Go Go.Sx

def sumTo (f : Nat → Int) : Nat → Int
  | 0 => 0
  | i + 1 => sumTo f i + f i
theorem sumTo_bd {f : Nat → Int} {b : Int} (h : ∀ i, 0 ≤ f i ∧ f i ≤ b) : ∀ i, 0 ≤ sumTo f i ∧ sumTo f i ≤ b * i
  | 0 => by simp [sumTo]
  | i + 1 => by
    have h1 := sumTo_bd h i
    have h2 := h i
    have e : b * ((i + 1 : Nat) : Int) = b * i + b := by push_cast; rw [Int.mul_add, Int.mul_one]
    simp only [sumTo]
    rw [e]; omega
/-- How many orders begin so and have that coupling; the number tells how many wires are left. -/
def walkC (W : List (List Int)) (c : Int) : Nat → List Int → Int
  | 0, o => if coup W o [] = c then 1 else 0
  | f + 1, o => if c < coup W o [] then 0 else sumTo (fun i => if (i : Int) ∈ o then 0 else walkC W c f (o ++ [(i : Int)])) W.length
def nine : Nat → Int
  | 0 => 1
  | f + 1 => nine f * 9
theorem nine_pos : ∀ f, 1 ≤ nine f
  | 0 => Int.le_refl _
  | f + 1 => by have := nine_pos f; simp only [nine]; omega
theorem nine_mono : ∀ {f g : Nat}, f ≤ g → nine f ≤ nine g
  | f, 0, h => by rw [show f = 0 by omega]; exact Int.le_refl _
  | f, g + 1, h => by
    by_cases e : f = g + 1
    · rw [e]; exact Int.le_refl _
    · have := nine_mono (f := f) (g := g) (by omega)
      have := nine_pos g
      simp only [nine]; omega
theorem walkC_bd {W : List (List Int)} (hW : W.length ≤ 9) (c : Int) : ∀ f o, 0 ≤ walkC W c f o ∧ walkC W c f o ≤ nine f
  | 0, o => by simp only [walkC, nine]; split <;> omega
  | f + 1, o => by
    have hp := nine_pos f
    simp only [walkC, nine]
    split
    · omega
    · have := sumTo_bd (f := fun i => if (i : Int) ∈ o then 0 else walkC W c f (o ++ [(i : Int)])) (b := nine f) (fun i => by
        have := walkC_bd hW c f (o ++ [(i : Int)])
        try simp only
        split <;> omega) W.length
      have h3 : nine f * (W.length : Int) ≤ nine f * 9 := Int.mul_le_mul_of_nonneg_left (by omega) (by omega)
      omega
/-- What is counted up to a wire. -/
def sumC (W : List (List Int)) (c : Int) (f : Nat) (o : List Int) (i : Nat) : Int := sumTo (fun i => if (i : Int) ∈ o then 0 else walkC W c f (o ++ [(i : Int)])) i
theorem sumC_succ (W : List (List Int)) (c : Int) (f : Nat) (o : List Int) (i : Nat) : sumC W c f o (i + 1) = sumC W c f o i + if (i : Int) ∈ o then 0 else walkC W c f (o ++ [(i : Int)]) := rfl
theorem sumC_bd {W : List (List Int)} (hW : W.length ≤ 9) (c : Int) (f : Nat) (o : List Int) {i : Nat} (hi : i ≤ 9) : 0 ≤ sumC W c f o i ∧ sumC W c f o i ≤ nine (f + 1) := by
  have hp := nine_pos f
  have := sumTo_bd (f := fun i => if (i : Int) ∈ o then 0 else walkC W c f (o ++ [(i : Int)])) (b := nine f) (fun i => by
    have := walkC_bd hW c f (o ++ [(i : Int)])
    try simp only
    split <;> omega) i
  have h3 : nine f * (i : Int) ≤ nine f * 9 := Int.mul_le_mul_of_nonneg_left (by omega) (by omega)
  unfold sumC nine
  omega
theorem sumC_bd1 {W : List (List Int)} (hW : W.length ≤ 9) (c : Int) (f : Nat) (o : List Int) {i : Nat} (hi : i < 9) : 0 ≤ sumC W c f o i ∧ sumC W c f o i + nine f ≤ nine (f + 1) := by
  have hp := nine_pos f
  have := sumTo_bd (f := fun i => if (i : Int) ∈ o then 0 else walkC W c f (o ++ [(i : Int)])) (b := nine f) (fun i => by
    have := walkC_bd hW c f (o ++ [(i : Int)])
    try simp only
    split <;> omega) i
  have h3 : nine f * (i : Int) ≤ nine f * 8 := Int.mul_le_mul_of_nonneg_left (by omega) (by omega)
  unfold sumC
  simp only [nine]
  omega
theorem walkC_more {W : List (List Int)} {c : Int} {f : Nat} {o : List Int} (h : ¬ c < coup W o []) : walkC W c (f + 1) o = sumC W c f o W.length := by simp only [walkC]; rw [if_neg h]; rfl
theorem walkC_cut {W : List (List Int)} {c : Int} {f : Nat} {o : List Int} (h : c < coup W o []) : walkC W c f o = 0 := by
  cases f with
  | zero => simp only [walkC]; rw [if_neg (by omega)]
  | succ f => simp only [walkC]; rw [if_pos h]

/-! ### Beginnings of orders -/
/-- A beginning of an order, with so many wires left. -/
structure PreO (W : List (List Int)) (f : Nat) (o : List Int) : Prop where
  len : o.length + f = W.length
  rng : ∀ x ∈ o, 0 ≤ x ∧ x < (W.length : Int)
theorem pre_nil (W : List (List Int)) : PreO W W.length [] := ⟨by simp, by simp⟩
theorem pre_snoc {W : List (List Int)} {f : Nat} {o : List Int} (h : PreO W (f + 1) o) {i : Nat} (hi : i < W.length) : PreO W f (o ++ [(i : Int)]) := by
  refine ⟨by have := h.len; simp; omega, fun x hx => ?_⟩
  rcases List.mem_append.1 hx with hx | hx
  · exact h.rng x hx
  · rw [List.mem_singleton.1 hx]; omega
theorem getD_mem {o : List Int} {j : Nat} (h : j < o.length) : o.getD j 0 ∈ o := by
  rw [List.getD, List.getElem?_eq_getElem h]; exact List.getElem_mem h
theorem pre_coup {W : List (List Int)} (hW : okW W) {f : Nat} {o : List Int} (h : PreO W f o) : 0 ≤ coup W o [] ∧ coup W o [] ≤ 9000 := by
  have := coupT_bd hW h.rng [] (j := o.length - 1) (by omega)
  have h2 := h.len
  have h3 := hW.1.2
  unfold coup
  omega
theorem coupT_app {W : List (List Int)} {o zs sh : List Int} : ∀ j, j + 1 ≤ o.length ∨ j = 0 → coupT W (o ++ zs) sh j = coupT W o sh j
  | 0, _ => rfl
  | j + 1, hj => by
    have e : ∀ k, k < o.length → (o ++ zs).getD k 0 = o.getD k 0 := fun k hk => by
      simp only [List.getD_eq_getElem?_getD, List.getElem?_append_left hk]
    simp only [coupT]
    rw [coupT_app j (by omega), cst, cst, e j (by omega), e (j + 1) (by omega)]
theorem coup_snoc {W : List (List Int)} {o : List Int} {x : Int} (h : 0 < o.length) : coup W (o ++ [x]) [] = coup W o [] + wt W (o.getD (o.length - 1) 0).toNat x.toNat := by
  unfold coup
  obtain ⟨n, hn⟩ : ∃ n, o.length = n + 1 := ⟨o.length - 1, by omega⟩
  rw [List.length_append, List.length_singleton, Nat.add_sub_cancel, hn, Nat.add_sub_cancel, coupT, coupT_app n (by omega), if_neg (by simp), cst]
  congr 2
  · rw [List.getD, List.getElem?_append_left (by omega)]; rfl
  · rw [List.getD, List.getElem?_append_right (by omega), hn, Nat.sub_self]; rfl
theorem coup_one {W : List (List Int)} (x : Int) : coup W [x] [] = 0 := rfl
theorem coup_zero {W : List (List Int)} : coup W [] [] = 0 := rfl
theorem seenL_unset {n : Nat} {l : List Int} {x : Int} (h0 : 0 ≤ x) (h1 : x < n) (hx : x ∉ l) : (seenL n (l ++ [x])).set x.toNat false = seenL n l := by
  apply List.ext_getElem
  · simp [seenL]
  · intro i h2 h3
    rw [List.getElem_set]
    simp only [seenL, List.getElem_map, List.getElem_range, List.mem_append, List.mem_singleton]
    by_cases he : x.toNat = i
    · rw [if_pos he]
      have : ((i : Nat) : Int) = x := by omega
      rw [this]
      simp [hx]
    · rw [if_neg he]
      have : ¬ ((i : Nat) : Int) = x := by omega
      simp [this]
end Go.Sx.M0
