/-
  Chapter 9, plain: rising rings: the search by depth, from a part and from a rule, finds the same ring.
-/
import Derived.Test.YtgfbiehncbinmaaM9
namespace Go.Sx.M9
set_option linter.unusedVariables false
set_option linter.unusedSimpArgs false
open Go Go.Sx

/-! ### The first success -/
theorem fs_succ {α : Type} (g : Nat → Option α) (i : Nat) : (List.range (i + 1)).findSome? g = ((List.range i).findSome? g).or (g i) := by
  rw [List.range_succ, List.findSome?_append]
  simp [List.findSome?_cons]
  cases (List.range i).findSome? g <;> cases g i <;> rfl
theorem fs_more {α : Type} {g : Nat → Option α} {i : Nat} {x : α} (h : (List.range i).findSome? g = some x) : ∀ {n : Nat}, i ≤ n → (List.range n).findSome? g = some x
  | n, hn => by
    obtain ⟨d, rfl⟩ := Nat.exists_eq_add_of_le hn
    clear hn
    induction d with
    | zero => exact h
    | succ d ih => rw [← Nat.add_assoc, fs_succ, ih]; rfl
theorem fs_none {α : Type} {g : Nat → Option α} {n : Nat} : (List.range n).findSome? g = none ↔ ∀ i, i < n → g i = none := by
  rw [List.findSome?_eq_none_iff]
  exact ⟨fun h i hi => h i (List.mem_range.2 hi), fun h i hi => h i (List.mem_range.1 hi)⟩
theorem fs_some {α : Type} {g : Nat → Option α} {x : α} : ∀ {n : Nat}, (List.range n).findSome? g = some x → ∃ i, i < n ∧ g i = some x ∧ ∀ j, j < i → g j = none
  | 0, h => by cases h
  | n + 1, h => by
    rw [fs_succ] at h
    cases hp : (List.range n).findSome? g with
    | some y =>
      rw [hp] at h
      obtain ⟨i, h1, h2, h3⟩ := fs_some hp
      have : y = x := by simpa using h
      subst this
      exact ⟨i, by omega, h2, h3⟩
    | none =>
      rw [hp] at h
      exact ⟨n, by omega, by simpa using h, fs_none.1 hp⟩
theorem fs_first {α : Type} {g : Nat → Option α} {x : α} {n i : Nat} (hi : i < n) (h : g i = some x) (hb : ∀ j, j < i → g j = none) : (List.range n).findSome? g = some x := by
  refine fs_more (i := i + 1) ?_ hi
  rw [fs_succ, fs_none.2 hb, h]; rfl

/-! ### The search -/
def lastI (l : List Int) : Int := l.getD (l.length - 1) 0
def ringF (rs : List R3) : Nat → List Int → List Int → Int → Option (List Int)
  | 0, l, pa, s => if lastI pa = pa.getD 0 0 ∧ 0 < s then some l else none
  | f + 1, l, pa, s => if l ≠ [] ∧ lastI pa ∈ pa.dropLast then none else
    (List.range rs.length).findSome? fun i => if (rs.getD i default).a = lastI pa then ringF rs f (l ++ [(i : Int)]) (pa ++ [(rs.getD i default).b]) (s + (rs.getD i default).c) else none
def ringG (rs : List R3) (f : Nat) (l pa : List Int) (s : Int) (i : Nat) : Option (List Int) := if (rs.getD i default).a = lastI pa then ringF rs f (l ++ [(i : Int)]) (pa ++ [(rs.getD i default).b]) (s + (rs.getD i default).c) else none
theorem ringF_succ (rs : List R3) (f : Nat) (l pa : List Int) (s : Int) (h : ¬ (l ≠ [] ∧ lastI pa ∈ pa.dropLast)) : ringF rs (f + 1) l pa s = (List.range rs.length).findSome? (ringG rs f l pa s) := by
  rw [ringF, if_neg h]; rfl
theorem ringF_cut (rs : List R3) (f : Nat) (l pa : List Int) (s : Int) (h : l ≠ [] ∧ lastI pa ∈ pa.dropLast) : ringF rs (f + 1) l pa s = none := by
  rw [ringF, if_pos h]
theorem ringF_pre {rs : List R3} : ∀ {f : Nat} {l pa : List Int} {s : Int} {x : List Int}, ringF rs f l pa s = some x → l <+: x ∧ x.length = l.length + f
  | 0, l, pa, s, x, h => by
    rw [ringF] at h
    split at h
    · injection h with h; subst h; exact ⟨List.prefix_refl _, rfl⟩
    · cases h
  | f + 1, l, pa, s, x, h => by
    by_cases hc : l ≠ [] ∧ lastI pa ∈ pa.dropLast
    · rw [ringF_cut _ _ _ _ _ hc] at h; cases h
    · rw [ringF_succ _ _ _ _ _ hc] at h
      obtain ⟨i, _, hi, _⟩ := fs_some h
      unfold ringG at hi
      split at hi
      · obtain ⟨h1, h2⟩ := ringF_pre hi
        exact ⟨(List.prefix_append _ _).trans h1, by rw [h2]; simp; omega⟩
      · cases hi
theorem lastI_snoc (l : List Int) (x : Int) : lastI (l ++ [x]) = x := by
  simp [lastI, List.getD]
theorem dropLast_snoc' (l : List Int) (x : Int) : (l ++ [x]).dropLast = l := by simp
theorem lastI_mem {l : List Int} (h : l ≠ []) : lastI l ∈ l := by
  have : l.length - 1 < l.length := by have := List.length_pos_iff.2 h; omega
  rw [lastI, List.getD, List.getElem?_eq_getElem this]
  exact List.getElem_mem this
theorem last_split {l : List Int} (h : l ≠ []) : l.dropLast ++ [lastI l] = l := by
  have e : lastI l = l.getLast h := by
    have : l.length - 1 < l.length := by have := List.length_pos_iff.2 h; omega
    rw [lastI, List.getD, List.getElem?_eq_getElem this, List.getLast_eq_getElem]; rfl
  rw [e]; exact List.dropLast_concat_getLast h

/-- A ring visits different parts: it has no more rules than there are parts. -/
theorem nodup_small : ∀ (n : Nat) {R : List Int}, R.Nodup → (∀ x ∈ R, 0 ≤ x ∧ x < (n : Int)) → R.length ≤ n
  | 0, [], _, _ => Nat.le_refl _
  | 0, x :: _, _, h => by have := h x (by simp); omega
  | n + 1, R, hd, h => by
    by_cases hm : (n : Int) ∈ R
    · have h1 := nodup_small n (R := R.erase (n : Int)) (hd.erase _) fun x hx => by
        obtain ⟨h2, h3⟩ := (List.Nodup.mem_erase_iff hd).1 hx
        have := h x h3; omega
      have h2 := List.length_erase_of_mem hm
      omega
    · have h1 := nodup_small n hd fun x hx => by
        have := h x hx
        have : x ≠ (n : Int) := fun e => hm (e ▸ hx)
        omega
      omega
theorem ringF_len {P : Nat} {rs : List R3} (hr : ∀ r ∈ rs, 0 ≤ r.b ∧ r.b < (P : Int)) : ∀ {f : Nat} {l pa : List Int} {s : Int} {x : List Int}, ringF rs f l pa s = some x → l ≠ [] → pa.length = l.length + 1 → pa.dropLast.Nodup → (∀ v ∈ pa, 0 ≤ v ∧ v < (P : Int)) → l.length + f ≤ P
  | 0, l, pa, s, x, h, hl, hp, hd, hv => by
    have := nodup_small P hd fun v hv' => hv v (List.dropLast_subset _ hv')
    rw [List.length_dropLast, hp] at this
    omega
  | f + 1, l, pa, s, x, h, hl, hp, hd, hv => by
    by_cases hc : l ≠ [] ∧ lastI pa ∈ pa.dropLast
    · rw [ringF_cut _ _ _ _ _ hc] at h; cases h
    · rw [ringF_succ _ _ _ _ _ hc] at h
      obtain ⟨i, hi0, hi, _⟩ := fs_some h
      unfold ringG at hi
      split at hi
      · have hpne : pa ≠ [] := fun e => by rw [e] at hp; simp at hp
        have hmem : rs.getD i default ∈ rs := by
          rw [List.getD, List.getElem?_eq_getElem hi0]; exact List.getElem_mem hi0
        have := ringF_len hr hi (by simp) (by simp [hp]) (by
          rw [dropLast_snoc']
          have hnd : (pa.dropLast ++ [lastI pa]).Nodup := by
            rw [List.nodup_append]
            refine ⟨hd, by simp, fun a ha b hb => ?_⟩
            simp only [List.mem_singleton] at hb
            subst hb
            intro e; subst e
            exact hc ⟨hl, ha⟩
          rwa [last_split hpne] at hnd) (by
          intro v hv'
          rcases List.mem_append.1 hv' with hv' | hv'
          · exact hv v hv'
          · rw [List.mem_singleton.1 hv']; exact hr _ hmem)
        simp at this; omega
      · cases hi

/-! ### From a rule, and from a part -/
def fromR (rs : List R3) (n k : Nat) : Option (List Int) := ringF rs (n - 1) [(k : Int)] [(rs.getD k default).a, (rs.getD k default).b] (rs.getD k default).c
def ringN (rs : List R3) (n : Nat) : Option (List Int) := if n < 2 then none else (List.range rs.length).findSome? (fromR rs n)
/-- All numbers of rules. -/
def ringV (rs : List R3) : Option (List Int) := (List.range 9).findSome? (ringN rs)
theorem fromP {rs : List R3} {n : Nat} (hn : 0 < n) (j : Nat) : ringF rs n [] [(j : Int)] 0 = (List.range rs.length).findSome? fun i => if (rs.getD i default).a = (j : Int) then fromR rs n i else none := by
  obtain ⟨n, rfl⟩ : ∃ m, n = m + 1 := ⟨n - 1, by omega⟩
  rw [ringF_succ _ _ _ _ _ (by simp)]
  congr 1
  funext i
  simp only [ringG, fromR, lastI]
  simp only [List.length_singleton, Nat.sub_self, List.getD_cons_zero, List.nil_append, List.singleton_append, Int.zero_add, Nat.add_sub_cancel]
  split
  · next h => rw [h]
  · rfl
theorem fromR_head {rs : List R3} {n k : Nat} {x : List Int} (h : fromR rs n k = some x) : x.getD 0 0 = (k : Int) ∧ x.length = n - 1 + 1 := by
  obtain ⟨⟨t, ht⟩, h2⟩ := ringF_pre h
  refine ⟨by rw [← ht]; rfl, by rw [h2]; simp; omega⟩

/-- Is a list before another one? -/
def lessL : List Int → List Int → Bool
  | [], [] => false
  | [], _ :: _ => true
  | _ :: _, [] => false
  | a :: r, b :: q => if a = b then lessL r q else decide (a < b)
theorem lessL_head {x y : List Int} (hx : x ≠ []) (hy : y ≠ []) (h : x.getD 0 0 ≠ y.getD 0 0) : lessL x y = decide (x.getD 0 0 < y.getD 0 0) := by
  cases x with
  | nil => exact absurd rfl hx
  | cons a r =>
    cases y with
    | nil => exact absurd rfl hy
    | cons b q =>
      have : a ≠ b := h
      simp only [lessL, if_neg this, List.getD_cons_zero]

/-- The best ring of those that begin at the first parts. -/
def bestT (rs : List R3) (n : Nat) : Nat → List Int
  | 0 => []
  | j + 1 => match ringF rs n [] [(j : Int)] 0 with
    | none => bestT rs n j
    | some x => if bestT rs n j = [] ∨ lessL x (bestT rs n j) = true then x else bestT rs n j
theorem bestT_none {rs : List R3} {n j : Nat} (h : ringF rs n [] [(j : Int)] 0 = none) : bestT rs n (j + 1) = bestT rs n j := by
  rw [bestT, h]
theorem bestT_some {rs : List R3} {n j : Nat} {x : List Int} (h : ringF rs n [] [(j : Int)] 0 = some x) : bestT rs n (j + 1) = if bestT rs n j = [] ∨ lessL x (bestT rs n j) = true then x else bestT rs n j := by
  rw [bestT, h]
/-- What the best one is. -/
theorem bestT_is {rs : List R3} {n : Nat} (hn : 0 < n) : ∀ j, (bestT rs n j = [] ∧ ∀ i, i < rs.length → 0 ≤ (rs.getD i default).a → (rs.getD i default).a < (j : Int) → fromR rs n i = none) ∨
    (∃ i, i < rs.length ∧ (rs.getD i default).a < (j : Int) ∧ fromR rs n i = some (bestT rs n j) ∧ ∀ k, k < i → 0 ≤ (rs.getD k default).a → (rs.getD k default).a < (j : Int) → fromR rs n k = none)
  | 0 => .inl ⟨rfl, fun i _ h0 h1 => by omega⟩
  | j + 1 => by
    have ih := bestT_is hn (rs := rs) j
    have hfp := fromP (rs := rs) hn j
    cases hr : ringF rs n [] [(j : Int)] 0 with
    | none =>
      rw [bestT_none hr]
      rw [hr] at hfp
      have hno : ∀ i, i < rs.length → (rs.getD i default).a = (j : Int) → fromR rs n i = none := fun i hi ha => by
        have := fs_none.1 hfp.symm i hi
        simpa only [if_pos ha] using this
      rcases ih with ⟨h1, h2⟩ | ⟨i, h1, h2, h3, h4⟩
      · refine .inl ⟨h1, fun i hi h0 ha => ?_⟩
        by_cases he : (rs.getD i default).a = (j : Int)
        · exact hno i hi he
        · exact h2 i hi h0 (by omega)
      · refine .inr ⟨i, h1, by omega, h3, fun k hk h0 ha => ?_⟩
        by_cases he : (rs.getD k default).a = (j : Int)
        · exact hno k (by omega) he
        · exact h4 k hk h0 (by omega)
    | some x =>
      rw [bestT_some hr]
      rw [hr] at hfp
      obtain ⟨i, hi, hix, hib⟩ := fs_some hfp.symm
      split at hix
      case isFalse => cases hix
      rename_i hai
      have hib' : ∀ k, k < i → (rs.getD k default).a = (j : Int) → fromR rs n k = none := fun k hk ha => by
        have := hib k hk
        simpa only [if_pos ha] using this
      have hxi := fromR_head hix
      have hxne : x ≠ [] := fun e => by rw [e] at hxi; simp at hxi
      rcases ih with ⟨h1, h2⟩ | ⟨i0, h1, h2, h3, h4⟩
      · rw [if_pos (.inl h1)]
        refine .inr ⟨i, hi, by omega, hix, fun k hk h0 ha => ?_⟩
        by_cases he : (rs.getD k default).a = (j : Int)
        · exact hib' k hk he
        · exact h2 k (by omega) h0 (by omega)
      · have hyi := fromR_head h3
        have hyne : bestT rs n j ≠ [] := fun e => by rw [e] at hyi; simp at hyi
        have hne : i ≠ i0 := fun e => by subst e; omega
        have hl := lessL_head hxne hyne (by rw [hxi.1, hyi.1]; omega)
        rw [hxi.1, hyi.1] at hl
        by_cases hlt : i < i0
        · rw [if_pos (.inr (by rw [hl]; exact decide_eq_true (by omega)))]
          refine .inr ⟨i, hi, by omega, hix, fun k hk h0 ha => ?_⟩
          by_cases he : (rs.getD k default).a = (j : Int)
          · exact hib' k hk he
          · exact h4 k (by omega) h0 (by omega)
        · rw [if_neg (by rintro (h | h); exact hyne h; rw [hl] at h; have := of_decide_eq_true h; omega)]
          refine .inr ⟨i0, h1, by omega, h3, fun k hk h0 ha => ?_⟩
          by_cases he : (rs.getD k default).a = (j : Int)
          · exact hib' k (by omega) he
          · exact h4 k hk h0 (by omega)
/-- All parts: the first rule from which a ring is found. -/
theorem best_all {p : Int} {rs : List R3} (hp : okPress p rs = true) {n : Nat} (hn : 2 ≤ n) : ringN rs n = if bestT rs n p.toNat = [] then none else some (bestT rs n p.toNat) := by
  obtain ⟨hp1, _, _, hall⟩ := okPress_bd hp
  have hrange : ∀ i, i < rs.length → 0 ≤ (rs.getD i default).a ∧ (rs.getD i default).a < (p.toNat : Int) := fun i hi => by
    have hm : rs.getD i default ∈ rs := by
      rw [List.getD, List.getElem?_eq_getElem hi]; exact List.getElem_mem hi
    have := okRule_bd (hall _ hm)
    omega
  unfold ringN
  rw [if_neg (by omega)]
  rcases bestT_is (rs := rs) (n := n) (by omega) p.toNat with ⟨h1, h2⟩ | ⟨i, h1, h2, h3, h4⟩
  · rw [if_pos h1]
    exact fs_none.2 fun i hi => h2 i hi (hrange i hi).1 (hrange i hi).2
  · have hyi := fromR_head h3
    have hyne : bestT rs n p.toNat ≠ [] := fun e => by rw [e] at hyi; simp at hyi
    rw [if_neg hyne]
    exact fs_first h1 h3 fun k hk => h4 k hk (hrange k (by omega)).1 (hrange k (by omega)).2
theorem ringN_big {p : Int} {rs : List R3} (hp : okPress p rs = true) {n : Nat} (hn : p < n) : ringN rs n = none := by
  obtain ⟨hp1, _, _, hall⟩ := okPress_bd hp
  unfold ringN
  split
  · rfl
  · refine fs_none.2 fun k hk => ?_
    cases h : fromR rs n k with
    | none => rfl
    | some x =>
      have hmem : ∀ i, i < rs.length → rs.getD i default ∈ rs := fun i hi => by
        rw [List.getD, List.getElem?_eq_getElem hi]; exact List.getElem_mem hi
      have hb := okRule_bd (hall _ (hmem k hk))
      have := ringF_len (P := p.toNat) (fun r hr => by have := okRule_bd (hall r hr); omega) h (by simp) (by simp) (by simp) (by
        intro v hv
        simp only [List.mem_cons, List.not_mem_nil, or_false] at hv
        rcases hv with rfl | rfl <;> omega)
      simp at this; omega
theorem ringV_P {p : Int} {rs : List R3} (hp : okPress p rs = true) (h8 : p ≤ 8) : ringV rs = (List.range (p.toNat + 1)).findSome? (ringN rs) := by
  obtain ⟨hp1, _, _, hall⟩ := okPress_bd hp
  unfold ringV
  cases h : (List.range (p.toNat + 1)).findSome? (ringN rs) with
  | some x => exact fs_more h (by omega)
  | none =>
    refine fs_none.2 fun n _ => ?_
    by_cases hn : n < p.toNat + 1
    · exact fs_none.1 h n hn
    · exact ringN_big hp (by omega)
/-- What the functions return. -/
def ring? (p : Int) (rs : List R3) : Option (List Int) := if okPress p rs = true ∧ p ≤ 8 ∧ (leastR p rs).isSome = false then ringV rs else none
theorem ringV_len {rs : List R3} {x : List Int} (h : ringV rs = some x) : x.length ≤ 8 := by
  obtain ⟨n, hn, h1, _⟩ := fs_some h
  unfold ringN at h1
  split at h1
  · cases h1
  · obtain ⟨k, hk, h2, _⟩ := fs_some h1
    have := (fromR_head h2).2
    omega
end Go.Sx.M9
