/-
  Chapter 10, plain: counting orders of a coupling.
-/
import Derived.Test.YtjojnolcohjebaaM0C
import Derived.Test.YtjojnolcohjebaaM0T
namespace Go.Sx.M0
set_option linter.unusedVariables false
set_option linter.unusedSimpArgs false
open Go Go.Sx

/-! ### Lists without repetition -/
theorem nd_le {α : Type} [DecidableEq α] : ∀ {L M : List α}, L.Nodup → (∀ x ∈ L, x ∈ M) → L.length ≤ M.length
  | [], _, _, _ => Nat.zero_le _
  | x :: r, M, hd, hs => by
    rw [List.nodup_cons] at hd
    have h1 := nd_le (L := r) (M := M.erase x) hd.2 fun y hy => by
      have : y ≠ x := fun e => hd.1 (e ▸ hy)
      exact (List.mem_erase_of_ne this).2 (hs y (by simp [hy]))
    have h2 := List.length_erase_of_mem (hs x (by simp))
    have h3 := List.length_pos_of_mem (hs x (by simp))
    simp only [List.length_cons]; omega
theorem nd_eq {α : Type} [DecidableEq α] {L M : List α} (h1 : L.Nodup) (h2 : M.Nodup) (h : ∀ x, x ∈ L ↔ x ∈ M) : L.length = M.length :=
  Nat.le_antisymm (nd_le h1 fun x hx => (h x).1 hx) (nd_le h2 fun x hx => (h x).2 hx)
theorem even_of {α : Type} [DecidableEq α] (f : α → α) (hf : ∀ x, f (f x) = x) : ∀ (n : Nat) (L : List α), L.length ≤ n → L.Nodup → (∀ x ∈ L, f x ∈ L ∧ f x ≠ x) → L.length % 2 = 0
  | _, [], _, _, _ => rfl
  | 0, x :: r, hn, _, _ => by simp at hn
  | n + 1, x :: r, hn, hd, h => by
    obtain ⟨h1, h2⟩ := h x (by simp)
    have h3 : f x ∈ r := by
      rcases List.mem_cons.1 h1 with h1 | h1
      · exact absurd h1 h2
      · exact h1
    rw [List.nodup_cons] at hd
    have h4 := List.length_erase_of_mem h3
    have h5 := List.length_pos_of_mem h3
    have ih := even_of f hf n (r.erase (f x)) (by simp only [List.length_cons] at hn; omega) (hd.2.erase _) fun y hy => by
      obtain ⟨hy1, hy2⟩ := (List.Nodup.mem_erase_iff hd.2).1 hy
      obtain ⟨hy3, hy4⟩ := h y (by simp [hy2])
      refine ⟨(List.Nodup.mem_erase_iff hd.2).2 ⟨fun e => ?_, ?_⟩, hy4⟩
      · have := congrArg f e
        rw [hf, hf] at this
        subst this
        exact hd.1 hy2
      · rcases List.mem_cons.1 hy3 with e | hy3
        · exact absurd (by rw [← e, hf]) hy1
        · exact hy3
    simp only [List.length_cons]; omega

/-! ### The count is a count -/
theorem allO_pre {n : Nat} : ∀ (f : Nat) (o x : List Int), x ∈ allO n f o → ∃ z, x = o ++ z
  | 0, o, x, h => ⟨[], by simpa [allO] using h⟩
  | f + 1, o, x, h => by
    simp only [allO, List.mem_flatMap, List.mem_range] at h
    obtain ⟨w, _, h⟩ := h
    split at h
    · cases h
    · obtain ⟨z, rfl⟩ := allO_pre f _ x h
      exact ⟨(w : Int) :: z, by simp⟩
theorem allO_nodup {n : Nat} : ∀ (f : Nat) (o : List Int), (allO n f o).Nodup
  | 0, o => by simp [allO]
  | f + 1, o => by
    rw [allO, List.nodup_iff_pairwise_ne, List.pairwise_flatMap]
    refine ⟨fun w _ => ?_, ?_⟩
    · split
      · exact .nil
      · exact allO_nodup f _
    · refine List.Pairwise.imp ?_ (List.nodup_iff_pairwise_ne.1 (List.nodup_range (n := n)))
      intro v w hvw x hx y hy e
      subst e
      split at hx
      · cases hx
      · split at hy
        · cases hy
        · obtain ⟨z, h1⟩ := allO_pre f _ _ hx
          obtain ⟨z', h2⟩ := allO_pre f _ _ hy
          rw [h1, List.append_assoc, List.append_assoc, List.append_cancel_left_eq] at h2
          simp at h2
          omega
def cntO (W : List (List Int)) (c : Int) (L : List (List Int)) : Nat := (L.filter fun x => decide (coup W x [] = c)).length
theorem cntO_flat (W : List (List Int)) (c : Int) (g : Nat → List (List Int)) : ∀ n, (cntO W c ((List.range n).flatMap g) : Int) = sumTo (fun i => (cntO W c (g i) : Int)) n
  | 0 => rfl
  | n + 1 => by
    rw [List.range_succ, List.flatMap_append]
    simp only [List.flatMap_cons, List.flatMap_nil, List.append_nil, sumTo]
    rw [← cntO_flat W c g n]
    simp only [cntO, List.filter_append, List.length_append]
    omega
theorem coup_grow {W : List (List Int)} (hW : okW W) : ∀ (z o : List Int), (∀ x ∈ o ++ z, 0 ≤ x ∧ x < (W.length : Int)) → coup W o [] ≤ coup W (o ++ z) []
  | [], o, _ => by simp
  | x :: r, o, h => by
    have ih := coup_grow hW r (o ++ [x]) (by simpa using h)
    rw [List.append_assoc] at ih
    have hx := h x (by simp)
    cases o with
    | nil =>
      have h1 : coup W ([] ++ [x]) [] = 0 := rfl
      have h2 : coup W [] [] = 0 := rfl
      simp only [List.nil_append] at ih h1
      rw [h1] at ih
      rw [h2]; exact ih
    | cons y s =>
      have h1 := coup_snoc (W := W) (o := y :: s) (x := x) (by simp)
      have h2 := h _ (List.mem_append_left _ (getD_mem (o := y :: s) (j := (y :: s).length - 1) (by simp)))
      have h3 := hW.2.2 ((y :: s).getD ((y :: s).length - 1) 0).toNat (by omega) x.toNat (by omega)
      have h4 : coup W (y :: s) [] ≤ coup W (y :: s ++ [x]) [] := by rw [h1]; omega
      exact Int.le_trans h4 ih
theorem walkC_is {W : List (List Int)} (hW : okW W) (c : Int) : ∀ (f : Nat) (o : List Int), (∀ x ∈ o, 0 ≤ x ∧ x < (W.length : Int)) → walkC W c f o = cntO W c (allO W.length f o)
  | 0, o, _ => by
    simp only [walkC, cntO, allO]
    by_cases h : coup W o [] = c <;> simp [h]
  | f + 1, o, ho => by
    have hr : ∀ w : Nat, w < W.length → ∀ x ∈ o ++ [(w : Int)], 0 ≤ x ∧ x < (W.length : Int) := fun w hw x hx => by
      rcases List.mem_append.1 hx with hx | hx
      · exact ho x hx
      · rw [List.mem_singleton.1 hx]; omega
    by_cases hlt : c < coup W o []
    · rw [walkC_cut hlt]
      have : cntO W c (allO W.length (f + 1) o) = 0 := by
        unfold cntO
        rw [List.length_eq_zero_iff, List.filter_eq_nil_iff]
        intro x hx
        have hz := allO_pre _ _ _ hx
        obtain ⟨z, rfl⟩ := hz
        have hin : ∀ y ∈ o ++ z, 0 ≤ y ∧ y < (W.length : Int) := by
          have key : ∀ (f : Nat) (o x : List Int), (∀ x ∈ o, 0 ≤ x ∧ x < (W.length : Int)) → x ∈ allO W.length f o → ∀ y ∈ x, 0 ≤ y ∧ y < (W.length : Int) := fun f => by
            induction f with
            | zero => intro o x ho hx; rw [allO, List.mem_singleton] at hx; rw [hx]; exact ho
            | succ f ih =>
              intro o x ho hx
              simp only [allO, List.mem_flatMap, List.mem_range] at hx
              obtain ⟨w, hw, hx⟩ := hx
              split at hx
              · cases hx
              · refine ih (o ++ [(w : Int)]) x (fun y hy => ?_) hx
                rcases List.mem_append.1 hy with hy | hy
                · exact ho y hy
                · rw [List.mem_singleton.1 hy]; omega
          exact key _ _ _ ho hx
        have := coup_grow hW z o hin
        simp only [decide_eq_true_eq]
        omega
      omega
    · rw [walkC_more hlt, allO, cntO_flat]
      unfold sumC
      have : ∀ n, n ≤ W.length → sumTo (fun i => if (i : Int) ∈ o then 0 else walkC W c f (o ++ [(i : Int)])) n = sumTo (fun i => (cntO W c (if (i : Int) ∈ o then [] else allO W.length f (o ++ [(i : Int)])) : Int)) n := fun n => by
        induction n with
        | zero => intro _; rfl
        | succ n ih =>
          intro hn
          simp only [sumTo]
          rw [ih (by omega)]
          congr 1
          by_cases hm : (n : Int) ∈ o
          · rw [if_pos hm, if_pos hm]; rfl
          · rw [if_neg hm, if_neg hm, walkC_is hW c f _ (hr n (by omega))]
      exact this _ (Nat.le_refl _)
/-! ### Reversed orders -/
theorem coup_cons {W : List (List Int)} {x : Int} : ∀ (o : List Int), o ≠ [] → coup W (x :: o) [] = wt W x.toNat (o.getD 0 0).toNat + coup W o [] := by
  have e : ∀ (o : List Int) (j : Nat), coupT W (x :: o) [] (j + 1) = wt W x.toNat (o.getD 0 0).toNat + coupT W o [] j := fun o j => by
    induction j with
    | zero => simp [coupT, cst, wt, List.getD]
    | succ j ih =>
      rw [coupT, ih, coupT, if_neg (by simp), if_neg (by simp)]
      simp only [cst, List.getD_cons_succ]
      omega
  intro o ho
  have h1 := List.length_pos_iff.2 ho
  unfold coup
  rw [List.length_cons, Nat.add_sub_cancel, show o.length = (o.length - 1) + 1 by omega, e]
  simp
theorem coup_rev {W : List (List Int)} (hW : okW W) : ∀ (o : List Int), (∀ x ∈ o, 0 ≤ x ∧ x < (W.length : Int)) → coup W o.reverse [] = coup W o []
  | [], _ => rfl
  | [x], _ => rfl
  | x :: y :: r, h => by
    have ih := coup_rev hW (y :: r) fun z hz => h z (by simp [List.mem_cons.1 hz])
    rw [coup_cons (y :: r) (by simp), List.reverse_cons, coup_snoc (by simp), ih]
    have h1 := h x (by simp)
    have h2 := h y (by simp)
    have h3 := hW.2.2 x.toNat (by omega) y.toNat (by omega)
    have h4 : (y :: r).reverse.getD ((y :: r).reverse.length - 1) 0 = y := by
      simp [List.getD]
    rw [h4]
    simp only [List.getD_cons_zero]
    omega
/-- How many orders have a coupling. -/
def nOrd (W : List (List Int)) (c : Int) : Nat := cntO W c (allO W.length W.length [])
theorem nOrd_walk {W : List (List Int)} (hW : okW W) (c : Int) : walkC W c W.length [] = nOrd W c := walkC_is hW c _ _ (by simp)
theorem mem_nOrd {W : List (List Int)} {c : Int} {x : List Int} : x ∈ (allO W.length W.length []).filter (fun x => decide (coup W x [] = c)) ↔ isO W.length x ∧ coup W x [] = c := by
  rw [List.mem_filter, allO_all, decide_eq_true_eq]
theorem nOrd_pos {W : List (List Int)} {x : List Int} (hx : isO W.length x) : 1 ≤ nOrd W (coup W x []) := by
  have := List.length_pos_of_mem (mem_nOrd.2 ⟨hx, rfl⟩)
  exact this
theorem nOrd_none {W : List (List Int)} {c : Int} (h : ∀ x, isO W.length x → coup W x [] ≠ c) : nOrd W c = 0 := by
  unfold nOrd cntO
  rw [List.length_eq_zero_iff, List.filter_eq_nil_iff]
  intro x hx
  have := h x (allO_all.1 hx)
  simpa using this
theorem isO_rev {n : Nat} {x : List Int} (h : isO n x) : isO n x.reverse := ⟨by rw [List.length_reverse]; exact h.1, fun y hy => h.2.1 y (List.mem_reverse.1 hy), by
  rw [List.nodup_iff_pairwise_ne, List.pairwise_reverse]
  exact List.Pairwise.imp (fun h => h.symm) (List.nodup_iff_pairwise_ne.1 h.2.2)⟩
theorem nOrd_even {W : List (List Int)} (hW : okW W) (h1 : 1 < W.length) (c : Int) : nOrd W c % 2 = 0 := by
  refine even_of List.reverse (fun x => List.reverse_reverse x) _ _ (Nat.le_refl _) ((allO_nodup _ _).filter _) fun x hx => ?_
  obtain ⟨hx, hc⟩ := mem_nOrd.1 hx
  refine ⟨mem_nOrd.2 ⟨isO_rev hx, by rw [coup_rev hW x hx.2.1, hc]⟩, fun e => ?_⟩
  obtain ⟨a, b, r, rfl⟩ : ∃ a b r, x = a :: b :: r := by
    match x, hx with
    | [], h => have := h.1; simp at this; omega
    | [_], h => have := h.1; simp at this; omega
    | a :: b :: r, _ => exact ⟨a, b, r, rfl⟩
  have h2 := hx.2.2
  have h3 : (a :: b :: r).reverse.getD 0 0 = (a :: b :: r).getD 0 0 := by rw [e]
  rw [List.reverse_cons, List.reverse_cons] at h3
  have h4 : (r.reverse ++ [b] ++ [a]).getD 0 0 ∈ b :: r := by
    cases hr : r.reverse with
    | nil => simp
    | cons z s =>
      have : z ∈ r := List.mem_reverse.1 (by rw [hr]; simp)
      simp [this]
  rw [h3] at h4
  exact (List.nodup_cons.1 h2).1 (by simpa using h4)
/-! ### All lists -/
def dig (n : Nat) : Nat → Nat → List Int
  | 0, _ => []
  | i + 1, k => ((k % n : Nat) : Int) :: dig n i (k / n)
def valD (n : Nat) : List Int → Nat
  | [] => 0
  | x :: r => x.toNat + n * valD n r
theorem valD_dig {n : Nat} (h : 0 < n) : ∀ i k, k < n ^ i → valD n (dig n i k) = k
  | 0, k, hk => by simp at hk; simp [dig, valD, hk]
  | i + 1, k, hk => by
    rw [Nat.pow_succ] at hk
    have : k / n < n ^ i := Nat.div_lt_of_lt_mul (by rw [Nat.mul_comm]; exact hk)
    simp only [dig, valD, valD_dig h i _ this, Int.toNat_natCast]
    exact Nat.mod_add_div k n
theorem dig_valD {n : Nat} : ∀ (x : List Int), (∀ y ∈ x, 0 ≤ y ∧ y < (n : Int)) → valD n x < n ^ x.length ∧ dig n x.length (valD n x) = x
  | [], _ => ⟨by simp [valD], rfl⟩
  | y :: r, h => by
    obtain ⟨h1, h2⟩ := dig_valD r fun z hz => h z (by simp [hz])
    have hy := h y (by simp)
    have hn : y.toNat < n := by omega
    constructor
    · simp only [valD, List.length_cons, Nat.pow_succ]
      have : n * (valD n r + 1) ≤ n * n ^ r.length := Nat.mul_le_mul_left n h1
      rw [Nat.mul_add] at this
      rw [Nat.mul_comm (n ^ r.length) n]
      omega
    · simp only [valD, List.length_cons, dig]
      rw [Nat.add_mul_mod_self_left, Nat.mod_eq_of_lt hn, Nat.add_mul_div_left _ _ (by omega), Nat.div_eq_of_lt hn, Nat.zero_add, h2]
      congr 1
      omega
/-- How many of the first lists are orders of a coupling. -/
def ownT (W : List (List Int)) (c : Int) : Nat → Nat
  | 0 => 0
  | k + 1 => ownT W c k + if isO W.length (dig W.length W.length k) ∧ coup W (dig W.length W.length k) [] = c then 1 else 0
theorem ownT_is (W : List (List Int)) (c : Int) : ∀ k, ownT W c k = ((List.range k).filter fun k => decide (isO W.length (dig W.length W.length k) ∧ coup W (dig W.length W.length k) [] = c)).length
  | 0 => rfl
  | k + 1 => by
    rw [ownT, ownT_is W c k, List.range_succ, List.filter_append, List.length_append]
    congr 1
    by_cases h : isO W.length (dig W.length W.length k) ∧ coup W (dig W.length W.length k) [] = c
    · rw [if_pos h]; simp only [List.filter, decide_eq_true h]; rfl
    · rw [if_neg h]; simp only [List.filter, decide_eq_false h]; rfl
theorem ownT_le (W : List (List Int)) (c : Int) : ∀ k, ownT W c k ≤ k
  | 0 => Nat.le_refl _
  | k + 1 => by
    have := ownT_le W c k
    rw [ownT]; split <;> omega
theorem own_all {W : List (List Int)} (hW : okW W) (c : Int) : ownT W c (W.length ^ W.length) = nOrd W c := by
  have hn := hW.1
  rw [ownT_is]
  have h1 : ((List.range (W.length ^ W.length)).filter fun k => decide (isO W.length (dig W.length W.length k) ∧ coup W (dig W.length W.length k) [] = c)).length = (((List.range (W.length ^ W.length)).filter fun k => decide (isO W.length (dig W.length W.length k) ∧ coup W (dig W.length W.length k) [] = c)).map (dig W.length W.length)).length := by rw [List.length_map]
  rw [h1]
  refine nd_eq ?_ ((allO_nodup _ _).filter _) fun x => ?_
  · rw [List.nodup_iff_pairwise_ne, List.pairwise_map]
    refine List.Pairwise.imp_of_mem ?_ (List.nodup_iff_pairwise_ne.1 ((List.nodup_range (n := W.length ^ W.length)).filter _))
    intro a b ha hb hab he
    have ha := List.mem_range.1 (List.mem_filter.1 ha).1
    have hb := List.mem_range.1 (List.mem_filter.1 hb).1
    exact hab (by rw [← valD_dig (by omega) _ _ ha, ← valD_dig (by omega) _ _ hb, he])
  · rw [mem_nOrd, List.mem_map]
    constructor
    · rintro ⟨k, hk, rfl⟩
      exact of_decide_eq_true (List.mem_filter.1 hk).2
    · intro h
      have h2 := dig_valD (n := W.length) x h.1.2.1
      rw [h.1.1] at h2
      exact ⟨_, List.mem_filter.2 ⟨List.mem_range.2 h2.1, decide_eq_true (by rw [h2.2]; exact h)⟩, h2.2⟩
end Go.Sx.M0
