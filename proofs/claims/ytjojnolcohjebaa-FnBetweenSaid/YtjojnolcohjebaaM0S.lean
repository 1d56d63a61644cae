/-
  Chapter 10, plain: the noises of an order, their greatest one and their sum.
-/
import Derived.Test.YtjojnolcohjebaaM0R
namespace Go.Sx.M0
set_option linter.unusedVariables false
set_option linter.unusedSimpArgs false
open Go Go.Sx

/-! ### The greatest number, the sum -/
def greatI (xs : List Int) : Int := xs.foldl (fun m x => if m < x then x else m) 0
def greatT (xs : List Int) (i : Nat) : Int := greatI (xs.take i)
theorem greatI_snoc (xs : List Int) (x : Int) : greatI (xs ++ [x]) = if greatI xs < x then x else greatI xs := by unfold greatI; rw [List.foldl_append]; rfl
theorem greatT_succ {xs : List Int} {i : Nat} (h : i < xs.length) : greatT xs (i + 1) = if greatT xs i < xs.getD i 0 then xs.getD i 0 else greatT xs i := by
  unfold greatT; rw [take_snoc 0 h, greatI_snoc]
theorem greatT_nn {xs : List Int} : ∀ i, i ≤ xs.length → 0 ≤ greatT xs i
  | 0, _ => by simp [greatT, greatI]
  | i + 1, h => by have := greatT_nn (xs := xs) i (by omega); rw [greatT_succ (by omega)]; split <;> omega
theorem greatT_ge {xs : List Int} : ∀ i, i ≤ xs.length → ∀ k, k < i → xs.getD k 0 ≤ greatT xs i
  | 0, _, k, h => absurd h (Nat.not_lt_zero k)
  | i + 1, h, k, hk => by
    rw [greatT_succ (by omega)]
    by_cases e : k = i
    · subst e; split <;> omega
    · have := greatT_ge (xs := xs) i (by omega) k (by omega)
      split <;> omega
theorem greatT_le {xs : List Int} {m : Int} (hm : 0 ≤ m) (h : ∀ k, k < xs.length → xs.getD k 0 ≤ m) : ∀ i, i ≤ xs.length → greatT xs i ≤ m
  | 0, _ => by simpa [greatT, greatI] using hm
  | i + 1, hi => by
    have h1 := greatT_le hm h i (by omega)
    have h2 := h i (by omega)
    rw [greatT_succ (by omega)]; split <;> omega
def sumL (xs : List Int) : Int := xs.foldl (· + ·) 0
theorem sumL_snoc (xs : List Int) (x : Int) : sumL (xs ++ [x]) = sumL xs + x := by simp [sumL]
theorem sumL_take {xs : List Int} {i : Nat} (h : i < xs.length) : sumL (xs.take (i + 1)) = sumL (xs.take i) + xs.getD i 0 := by rw [take_snoc 0 h, sumL_snoc]
theorem sumL_cons (x : Int) (xs : List Int) : sumL (x :: xs) = x + sumL xs := by
  have key : ∀ (l : List Int) (a : Int), l.foldl (· + ·) a = a + l.foldl (· + ·) 0 := fun l => by
    induction l with
    | nil => intro a; simp
    | cons y l ih => intro a; simp only [List.foldl_cons]; rw [ih (a + y), ih (0 + y)]; omega
  unfold sumL
  simp only [List.foldl_cons]
  rw [key]; omega
theorem sumL_set : ∀ {xs : List Int} {i : Nat} {d : Int}, i < xs.length → sumL (xs.set i (xs.getD i 0 + d)) = sumL xs + d
  | [], i, d, h => absurd h (Nat.not_lt_zero i)
  | x :: xs, 0, d, _ => by simp only [List.set_cons_zero, List.getD_cons_zero, sumL_cons]; omega
  | x :: xs, i + 1, d, h => by
    have := sumL_set (xs := xs) (i := i) (d := d) (by simpa using h)
    simp only [List.set_cons_succ, List.getD_cons_succ, sumL_cons, this]; omega
theorem sumL_rep (n : Nat) : sumL (List.replicate n 0) = 0 := by
  induction n with
  | zero => rfl
  | succ n ih => rw [List.replicate_succ, sumL_cons, ih]; rfl
theorem sumL_bd {xs : List Int} {m : Int} (h : ∀ k, k < xs.length → 0 ≤ xs.getD k 0 ∧ xs.getD k 0 ≤ m) : ∀ i, i ≤ xs.length → 0 ≤ sumL (xs.take i) ∧ sumL (xs.take i) ≤ m * i
  | 0, _ => by simp [sumL]
  | i + 1, hi => by
    have h1 := sumL_bd h i (by omega)
    have h2 := h i (by omega)
    rw [sumL_take (by omega), show m * ((i + 1 : Nat) : Int) = m * i + m by push_cast; rw [Int.mul_add, Int.mul_one]]
    omega

/-! ### Noises -/
theorem noise_nil_succ (W : List (List Int)) (o : List Int) (j : Nat) : noiseT W o [] (j + 1) = addAt (addAt (noiseT W o [] j) (o.getD j 0).toNat (cst W o j)) (o.getD (j + 1) 0).toNat (cst W o j) := by
  simp only [noiseT]; rw [if_neg (by simp)]
theorem addAt_get {xs : List Int} {i : Nat} {d : Int} (h : i < xs.length) (k : Nat) : (addAt xs i d).getD k 0 = xs.getD k 0 + if k = i then d else 0 := by
  unfold addAt
  by_cases e : k = i
  · subst e; rw [if_pos rfl]; simp [List.getD, h]
  · rw [if_neg e, List.getD, List.getElem?_set_ne (Ne.symm e)]
    show xs.getD k 0 = _
    omega
theorem noise_sum {W : List (List Int)} {o : List Int} (ho : isO W.length o) : ∀ j, j + 1 ≤ o.length → sumL (noiseT W o [] j) = 2 * coupT W o [] j
  | 0, _ => by simp [noiseT, coupT, sumL_rep]
  | j + 1, hj => by
    have r1 := isO_range ho (show j < o.length by omega)
    have r2 := isO_range ho (show j + 1 < o.length by omega)
    have hl := ho.1
    have l1 := noiseT_len W o [] j
    have l2 : (addAt (noiseT W o [] j) (o.getD j 0).toNat (cst W o j)).length = o.length := by simp [addAt, l1]
    rw [noise_nil_succ]
    have e2 : sumL (addAt (addAt (noiseT W o [] j) (o.getD j 0).toNat (cst W o j)) (o.getD (j + 1) 0).toNat (cst W o j)) = sumL (addAt (noiseT W o [] j) (o.getD j 0).toNat (cst W o j)) + cst W o j := sumL_set (by rw [l2]; omega)
    have e1 : sumL (addAt (noiseT W o [] j) (o.getD j 0).toNat (cst W o j)) = sumL (noiseT W o [] j) + cst W o j := sumL_set (by rw [l1]; omega)
    rw [e2, e1, noise_sum ho j (by omega)]
    simp only [coupT]
    rw [if_neg (by simp)]
    omega
theorem isO_inj {n : Nat} {o : List Int} (h : isO n o) {i j : Nat} (hi : i < o.length) (hj : j < o.length) (e : o.getD i 0 = o.getD j 0) : i = j := by
  rcases Nat.lt_trichotomy i j with c | c | c
  · exfalso
    refine isO_new h hj ?_
    rw [← e]
    rw [List.mem_take_iff_getElem]
    exact ⟨i, by omega, by rw [List.getD, List.getElem?_eq_getElem hi]; rfl⟩
  · exact c
  · exfalso
    refine isO_new h hi ?_
    rw [e]
    rw [List.mem_take_iff_getElem]
    exact ⟨j, by omega, by rw [List.getD, List.getElem?_eq_getElem hj]; rfl⟩
/-- The noise of the wire at a place, as far as it has been added up. -/
theorem noise_at {W : List (List Int)} {o : List Int} (ho : isO W.length o) : ∀ j, j + 1 ≤ o.length → ∀ k, k < o.length → (noiseT W o [] j).getD (o.getD k 0).toNat 0 = (if k < j then cst W o k else 0) + (if 0 < k ∧ k ≤ j then cst W o (k - 1) else 0)
  | 0, _, k, hk => by
    have r := isO_range ho hk
    have hl := ho.1
    have : (noiseT W o [] 0).getD (o.getD k 0).toNat 0 = 0 := by
      simp only [noiseT]
      simp [List.getD, show (o[k]?.getD 0).toNat < o.length by have : o[k]?.getD 0 = o.getD k 0 := rfl; rw [this]; omega]
    rw [this, if_neg (by omega), if_neg (by omega)]; rfl
  | j + 1, hj, k, hk => by
    have hl := ho.1
    have r1 := isO_range ho (show j < o.length by omega)
    have r2 := isO_range ho (show j + 1 < o.length by omega)
    have rk := isO_range ho hk
    have l1 := noiseT_len W o [] j
    have l2 : (addAt (noiseT W o [] j) (o.getD j 0).toNat (cst W o j)).length = o.length := by simp [addAt, l1]
    rw [noise_nil_succ, addAt_get (by rw [l2]; omega), addAt_get (by rw [l1]; omega), noise_at ho j (by omega) k hk]
    have c1 : (o.getD k 0).toNat = (o.getD j 0).toNat ↔ k = j := ⟨fun e => isO_inj ho hk (by omega) (by omega), fun e => by rw [e]⟩
    have c2 : (o.getD k 0).toNat = (o.getD (j + 1) 0).toNat ↔ k = j + 1 := ⟨fun e => isO_inj ho hk (by omega) (by omega), fun e => by rw [e]⟩
    simp only [c1, c2]
    by_cases e1 : k = j
    · subst e1
      by_cases e0 : 0 < k <;> simp [e0] <;> omega
    · by_cases e2 : k = j + 1
      · subst e2
        simp
        rw [if_neg (by omega), if_neg (by omega)]
        omega
      · have q1 : (k < j + 1) ↔ (k < j) := by omega
        have q2 : (k ≤ j + 1) ↔ (k ≤ j) := by omega
        simp only [q1, q2, e1, e2, if_false, Int.add_zero]
theorem noise_off {W : List (List Int)} {o : List Int} (ho : isO W.length o) {v : Nat} (hv : ∀ k, k < o.length → (o.getD k 0).toNat ≠ v) : ∀ j, j + 1 ≤ o.length → (noiseT W o [] j).getD v 0 = 0
  | 0, _ => by
    simp only [noiseT]
    by_cases h : v < o.length
    · simp [List.getD, h]
    · simp [List.getD, h]
  | j + 1, hj => by
    have hl := ho.1
    have r1 := isO_range ho (show j < o.length by omega)
    have r2 := isO_range ho (show j + 1 < o.length by omega)
    have l1 := noiseT_len W o [] j
    have l2 : (addAt (noiseT W o [] j) (o.getD j 0).toNat (cst W o j)).length = o.length := by simp [addAt, l1]
    rw [noise_nil_succ, addAt_get (by rw [l2]; omega), addAt_get (by rw [l1]; omega), noise_off ho hv j (by omega), if_neg (Ne.symm (hv j (by omega))), if_neg (Ne.symm (hv (j + 1) (by omega)))]
    rfl
theorem loudT_ge {W : List (List Int)} {o : List Int} : ∀ j i, i < j → (if 0 < i then cst W o i + cst W o (i - 1) else cst W o i) ≤ loudT W o j
  | 0, i, h => absurd h (Nat.not_lt_zero i)
  | j + 1, i, h => by
    simp only [loudT]
    by_cases e : i = j
    · subst e; omega
    · have := loudT_ge (W := W) (o := o) j i (by omega); omega
theorem loudT_le {W : List (List Int)} {o : List Int} {m : Int} (hm : 0 ≤ m) : ∀ j, (∀ i, i < j → (if 0 < i then cst W o i + cst W o (i - 1) else cst W o i) ≤ m) → loudT W o j ≤ m
  | 0, _ => hm
  | j + 1, h => by
    have h1 := loudT_le hm j fun i hi => h i (by omega)
    have h2 := h j (by omega)
    simp only [loudT]; omega
theorem noise_great {W : List (List Int)} (hW : okW W) {o : List Int} (ho : isO W.length o) : greatI (noise W o []) = loud W o := by
  have hl := ho.1
  have hn := hW.1
  have hlen : (noise W o []).length = o.length := noiseT_len W o [] _
  have hlb := loud_bd hW ho.2.1
  have hg : greatI (noise W o []) = greatT (noise W o []) (noise W o []).length := by unfold greatT; rw [List.take_length]
  have hat : ∀ k, k < o.length → (noise W o []).getD (o.getD k 0).toNat 0 = (if k < o.length - 1 then cst W o k else 0) + (if 0 < k ∧ k ≤ o.length - 1 then cst W o (k - 1) else 0) := noise_at ho (o.length - 1) (by omega)
  have hcb : ∀ j, j + 1 < o.length → _ := fun j hj => cst_bd hW ho.2.1 (j := j) hj
  rw [hg]
  apply Int.le_antisymm
  · refine greatT_le hlb.1 (fun v hv => ?_) _ (Nat.le_refl _)
    by_cases hex : ∃ k, k < o.length ∧ (o.getD k 0).toNat = v
    · obtain ⟨k, hk, rfl⟩ := hex
      rw [hat k hk]
      by_cases c1 : k < o.length - 1
      · have := loudT_ge (W := W) (o := o) (o.length - 1) k c1
        rw [if_pos c1]
        by_cases c0 : 0 < k
        · rw [if_pos c0] at this
          rw [if_pos ⟨c0, by omega⟩]; exact this
        · rw [if_neg c0] at this
          rw [if_neg (by omega), Int.add_zero]; exact this
      · rw [if_neg c1, Int.zero_add]
        by_cases c0 : 0 < k
        · rw [if_pos ⟨c0, by omega⟩]
          have h1 := loudT_ge (W := W) (o := o) (o.length - 1) (k - 1) (by omega)
          have h2 := hcb (k - 1) (by omega)
          by_cases c2 : 0 < k - 1
          · rw [if_pos c2] at h1
            have h3 := hcb (k - 1 - 1) (by omega)
            unfold loud; omega
          · rw [if_neg c2] at h1
            exact h1
        · rw [if_neg (by omega)]; exact hlb.1
    · have : (noise W o []).getD v 0 = 0 := noise_off ho (fun k hk e => hex ⟨k, hk, e⟩) _ (by omega)
      rw [this]; exact hlb.1
  · refine loudT_le (greatT_nn _ (Nat.le_refl _)) _ (fun i hi => ?_)
    have r := isO_range ho (show i < o.length by omega)
    have h1 := greatT_ge (xs := noise W o []) _ (Nat.le_refl _) (o.getD i 0).toNat (by rw [hlen]; omega)
    rw [hat i (by omega), if_pos hi] at h1
    by_cases c0 : 0 < i
    · rw [if_pos ⟨c0, by omega⟩] at h1
      rw [if_pos c0]; exact h1
    · rw [if_neg (by omega), Int.add_zero] at h1
      rw [if_neg c0]; exact h1
end Go.Sx.M0
