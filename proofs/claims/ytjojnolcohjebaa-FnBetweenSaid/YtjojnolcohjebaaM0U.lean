/-
  Chapter 10, plain: the best shields; the greedy choice is the best of all choices.
-/
import Derived.Test.YtjojnolcohjebaaM0
set_option linter.unusedSimpArgs false
namespace Go.Sx.M0
set_option linter.unusedVariables false
set_option linter.unusedSimpArgs false
open Go Go.Sx

def sf (g : Nat → Int) : Nat → Nat → Int
  | _, 0 => 0
  | j, m + 1 => g j + sf g (j + 1) m
def ind (p : Nat → Bool) (f : Nat → Int) (j : Nat) : Int := if p j = true then f j else 0
def lf (p : Nat → Bool) : Nat → Nat → List Int
  | _, 0 => []
  | j, m + 1 => if p j = true then ((j : Int) + 1) :: lf p (j + 1) m else lf p (j + 1) m
theorem sf_snoc (g : Nat → Int) : ∀ m j, sf g j (m + 1) = sf g j m + g (j + m)
  | 0, j => by simp [sf]
  | m + 1, j => by
    have h := sf_snoc g m (j + 1)
    rw [show j + 1 + m = j + (m + 1) by omega] at h
    rw [sf, h, sf]
    omega
theorem lf_snoc (p : Nat → Bool) : ∀ m j, lf p j (m + 1) = lf p j m ++ (if p (j + m) = true then [((j + m : Nat) : Int) + 1] else [])
  | 0, j => by simp [lf]
  | m + 1, j => by
    have h := lf_snoc p m (j + 1)
    rw [show j + 1 + m = j + (m + 1) by omega] at h
    rw [lf, h, lf]
    split <;> simp
theorem sf_le {g h : Nat → Int} : ∀ m j, (∀ i, j ≤ i → i < j + m → g i ≤ h i) → sf g j m ≤ sf h j m
  | 0, _, _ => by simp [sf]
  | m + 1, j, k => by
    have h1 := sf_le m (j + 1) fun i h1 h2 => k i (by omega) (by omega)
    have h2 := k j (by omega) (by omega)
    simp only [sf]
    omega
theorem sf_congr {g h : Nat → Int} {m j : Nat} (k : ∀ i, j ≤ i → i < j + m → g i = h i) : sf g j m = sf h j m := by
  have h1 := sf_le m j fun i a b => Int.le_of_eq (k i a b)
  have h2 := sf_le m j fun i a b => Int.le_of_eq (k i a b).symm
  omega
theorem lf_congr {p q : Nat → Bool} : ∀ m j, (∀ i, j ≤ i → i < j + m → p i = q i) → lf p j m = lf q j m
  | 0, _, _ => rfl
  | m + 1, j, k => by
    simp only [lf]
    rw [k j (by omega) (by omega), lf_congr m (j + 1) fun i h1 h2 => k i (by omega) (by omega)]
theorem mem_lf (p : Nat → Bool) (x : Int) : ∀ m j, x ∈ lf p j m ↔ ∃ i : Nat, j ≤ i ∧ i < j + m ∧ p i = true ∧ x = (i : Int) + 1
  | 0, j => by
    simp only [lf, List.not_mem_nil, false_iff]
    rintro ⟨i, h1, h2, _⟩
    omega
  | m + 1, j => by
    have ih := mem_lf p x m (j + 1)
    simp only [lf]
    constructor
    · intro h
      by_cases hp : p j = true
      · rw [if_pos hp] at h
        rcases List.mem_cons.1 h with h | h
        · exact ⟨j, by omega, by omega, hp, h⟩
        · obtain ⟨i, h1, h2, h3⟩ := ih.1 h
          exact ⟨i, by omega, by omega, h3⟩
      · rw [if_neg hp] at h
        obtain ⟨i, h1, h2, h3⟩ := ih.1 h
        exact ⟨i, by omega, by omega, h3⟩
    · rintro ⟨i, h1, h2, h3, h4⟩
      by_cases hij : i = j
      · subst hij
        rw [if_pos h3, h4]
        exact List.mem_cons_self
      · have := ih.2 ⟨i, by omega, by omega, h3, h4⟩
        split
        · exact List.mem_cons_of_mem _ this
        · exact this
theorem mem_lf0 (p : Nat → Bool) {N j : Nat} (h : j < N) : ((j : Int) + 1) ∈ lf p 0 N ↔ p j = true := by
  rw [mem_lf]
  constructor
  · rintro ⟨i, _, _, h3, h4⟩
    obtain rfl : i = j := by omega
    exact h3
  · exact fun k => ⟨j, by omega, by omega, k, rfl⟩
theorem len_lf (p : Nat → Bool) : ∀ m j, ((lf p j m).length : Int) = sf (ind p fun _ => 1) j m
  | 0, _ => rfl
  | m + 1, j => by
    have ih := len_lf p m (j + 1)
    simp only [lf, sf, ind]
    split
    · simp only [List.length_cons]; omega
    · omega
theorem ind_add (p : Nat → Bool) (f g : Nat → Int) : ∀ m j, sf (ind p fun i => f i + g i) j m = sf (ind p f) j m + sf (ind p g) j m
  | 0, _ => rfl
  | m + 1, j => by
    have ih := ind_add p f g m (j + 1)
    simp only [sf, ih, ind]
    split <;> omega
theorem ind_mul (p : Nat → Bool) (a : Int) (f : Nat → Int) : ∀ m j, sf (ind p fun i => a * f i) j m = a * sf (ind p f) j m
  | 0, _ => by simp [sf]
  | m + 1, j => by
    have ih := ind_mul p a f m (j + 1)
    simp only [sf, ih, ind, Int.mul_add]
    split <;> omega

/-- How two lists compare. -/
def cmpL : List Int → List Int → Int
  | [], [] => 0
  | [], _ :: _ => -1
  | _ :: _, [] => 1
  | a :: l, b :: m => if a < b then -1 else if b < a then 1 else cmpL l m
theorem cmpL_cons (a : Int) (l m : List Int) : cmpL (a :: l) (a :: m) = cmpL l m := by simp [cmpL]
def pwI (m : Nat) : Int := ((2 ^ m : Nat) : Int)
theorem pwI_succ (m : Nat) : pwI (m + 1) = 2 * pwI m := by
  have := Nat.pow_succ 2 m
  unfold pwI
  rw [this, Int.natCast_mul, Int.mul_comm]
  rfl
theorem pwI_pos (m : Nat) : 0 < pwI m := by
  have := Nat.two_pow_pos m
  unfold pwI
  exact Int.ofNat_lt.2 this
theorem pwI_le {m k : Nat} (h : m ≤ k) : pwI m ≤ pwI k := Int.ofNat_le.2 (Nat.pow_le_pow_right (by omega) h)
theorem pwI_7 : pwI 7 = 128 := rfl
theorem pwI_8 : pwI 8 = 256 := rfl
abbrev pwr (N i : Nat) : Int := pwI (N - 1 - i)
def pw (N : Nat) (p : Nat → Bool) (j m : Nat) : Int := sf (ind p (pwr N)) j m
theorem pw_succ {N j m : Nat} (p : Nat → Bool) (h : j + (m + 1) = N) : pw N p j (m + 1) = (if p j = true then pwI m else 0) + pw N p (j + 1) m := by
  simp only [pw, sf, ind, pwr]
  rw [show N - 1 - j = m by omega]
theorem pw_lt {N : Nat} (p : Nat → Bool) : ∀ m j, j + m = N → 0 ≤ pw N p j m ∧ pw N p j m < pwI m
  | 0, _, _ => by simp [pw, sf, pwI]
  | m + 1, j, h => by
    have ih := pw_lt (N := N) p m (j + 1) (by omega)
    rw [pw_succ p h, pwI_succ]
    have := pwI_pos m
    split <;> omega
theorem cmp_pw {N : Nat} (p q : Nat → Bool) : ∀ m j, j + m = N → (lf p j m).length = (lf q j m).length → (cmpL (lf p j m) (lf q j m) < 0 ↔ pw N q j m < pw N p j m)
  | 0, _, _, _ => by simp [lf, cmpL, pw, sf]
  | m + 1, j, h, hl => by
    have ih := cmp_pw (N := N) p q m (j + 1) (by omega)
    have b1 := pw_lt (N := N) p m (j + 1) (by omega)
    have b2 := pw_lt (N := N) q m (j + 1) (by omega)
    rw [pw_succ p h, pw_succ q h]
    simp only [lf] at hl ⊢
    by_cases hp : p j = true <;> by_cases hq : q j = true
    · simp only [hp, hq, if_true, cmpL_cons, List.length_cons] at hl ⊢
      rw [ih (by omega)]
      omega
    · simp only [hp, hq, if_true, if_false, List.length_cons, Bool.false_eq_true] at hl ⊢
      cases hc : lf q (j + 1) m with
      | nil => rw [hc] at hl; simp at hl
      | cons a l =>
        have : a ∈ lf q (j + 1) m := by rw [hc]; exact List.mem_cons_self
        obtain ⟨i, h1, _, _, h4⟩ := (mem_lf q a m (j + 1)).1 this
        simp only [cmpL]
        rw [if_pos (by omega)]
        omega
    · simp only [hp, hq, if_true, if_false, List.length_cons, Bool.false_eq_true] at hl ⊢
      cases hc : lf p (j + 1) m with
      | nil => rw [hc] at hl; simp at hl
      | cons a l =>
        have : a ∈ lf p (j + 1) m := by rw [hc]; exact List.mem_cons_self
        obtain ⟨i, h1, _, _, h4⟩ := (mem_lf p a m (j + 1)).1 this
        simp only [cmpL]
        rw [if_neg (by omega), if_pos (by omega)]
        omega
    · simp only [hp, hq, if_false, Bool.false_eq_true] at hl ⊢
      rw [ih hl]
      omega
theorem pw_inj {N : Nat} (p q : Nat → Bool) : ∀ m j, j + m = N → pw N p j m = pw N q j m → ∀ i, j ≤ i → i < j + m → p i = q i
  | 0, _, _, _ => fun i h1 h2 => by omega
  | m + 1, j, h, e => fun i h1 h2 => by
    have b1 := pw_lt (N := N) p m (j + 1) (by omega)
    have b2 := pw_lt (N := N) q m (j + 1) (by omega)
    rw [pw_succ p h, pw_succ q h] at e
    have hpq : p j = q j := by
      cases hp : p j <;> cases hq : q j <;> simp [hp, hq] at e ⊢ <;> omega
    rw [hpq] at e
    by_cases hi : i = j
    · rw [hi]; exact hpq
    · exact pw_inj (N := N) p q m (j + 1) (by omega) (by omega) i (by omega) (by omega)

/-- What a choice is worth: weights first, then early places. -/
abbrev uu (w : Nat → Int) (N i : Nat) : Int := 512 * w i + pwr N i
def vv (w : Nat → Int) (N : Nat) (p : Nat → Bool) : Int := sf (ind p (uu w N)) 0 N
theorem vv_eq (w : Nat → Int) (N : Nat) (p : Nat → Bool) : vv w N p = 512 * sf (ind p w) 0 N + pw N p 0 N := by
  rw [vv, pw, ← ind_mul, ← ind_add]
theorem thresh {u : Nat → Int} {p : Nat → Bool} : ∀ N, (∀ i, i < N → ∀ k, k < N → p i = true → p k = false → u k ≤ u i) → ∃ t : Int, ∀ i, i < N → (p i = true → t ≤ u i) ∧ (p i = false → u i ≤ t)
  | 0, _ => ⟨0, fun i h => by omega⟩
  | N + 1, h => by
    obtain ⟨t, ht⟩ := thresh N fun i hi k hk => h i (by omega) k (by omega)
    cases hp : p N with
    | true =>
      refine ⟨min t (u N), fun i hi => ?_⟩
      by_cases e : i = N
      · subst e
        rw [hp]
        exact ⟨fun _ => by omega, fun k => by simp at k⟩
      · have := ht i (by omega)
        refine ⟨fun k => ?_, fun k => ?_⟩
        · have := this.1 k; omega
        · have := this.2 k
          have := h N (by omega) i (by omega) hp k
          omega
    | false =>
      refine ⟨max t (u N), fun i hi => ?_⟩
      by_cases e : i = N
      · subst e
        rw [hp]
        exact ⟨fun k => by simp at k, fun _ => by omega⟩
      · have := ht i (by omega)
        refine ⟨fun k => ?_, fun k => ?_⟩
        · have := this.1 k
          have := h i (by omega) N (by omega) k hp
          omega
        · have := this.2 k; omega
theorem dom_best {u : Nat → Int} {N : Nat} {p q : Nat → Bool} (h : ∀ i, i < N → ∀ k, k < N → p i = true → p k = false → u k ≤ u i) (hc : sf (ind p fun _ => 1) 0 N = sf (ind q fun _ => 1) 0 N) : sf (ind q u) 0 N ≤ sf (ind p u) 0 N := by
  obtain ⟨t, ht⟩ := thresh N h
  have e : ∀ r : Nat → Bool, sf (ind r fun i => u i + (-t) * 1) 0 N = sf (ind r u) 0 N + (-t) * sf (ind r fun _ => 1) 0 N := fun r => by
    rw [ind_add r u fun _ => (-t) * 1, ind_mul r (-t) fun _ => 1]
  have k := sf_le (g := ind q fun i => u i + (-t) * 1) (h := ind p fun i => u i + (-t) * 1) N 0 fun i _ hi => by
    have := ht i (by omega)
    simp only [ind]
    cases hp : p i <;> cases hq : q i <;> simp only [hp, Bool.false_eq_true, if_true, if_false] at this ⊢
    · exact Int.le_refl _
    · have := this.2 trivial; omega
    · have := this.1 trivial; omega
    · exact Int.le_refl _
  rw [e, e, hc] at k
  omega

/-- A number put into a rising list. -/
def putL : List Int → Int → List Int
  | [], x => [x]
  | a :: l, x => if x ≤ a then (if x < a then x :: a :: l else a :: l) else a :: putL l x
theorem putL_lt {x : Int} : ∀ {l : List Int}, (∀ a ∈ l, x < a) → putL l x = x :: l
  | [], _ => rfl
  | a :: l, h => by
    have := h a List.mem_cons_self
    rw [putL, if_pos (by omega), if_pos this]
def upd (p : Nat → Bool) (b : Nat) (i : Nat) : Bool := p i || decide (i = b)
theorem put_lf {p : Nat → Bool} {b : Nat} (hb : p b = false) : ∀ m j, j ≤ b → b < j + m → putL (lf p j m) ((b : Int) + 1) = lf (upd p b) j m
  | 0, _, _, _ => by omega
  | m + 1, j, h1, h2 => by
    by_cases e : j = b
    · subst e
      have e2 : lf p (j + 1) m = lf (upd p j) (j + 1) m := lf_congr m (j + 1) fun i h3 _ => by
        simp only [upd, decide_eq_false (show ¬ i = j by omega), Bool.or_false]
      have e3 : upd p j j = true := by simp [upd]
      simp only [lf, hb, e3, if_true, if_false, Bool.false_eq_true]
      rw [putL_lt, e2]
      intro a ha
      obtain ⟨i, h3, _, _, h4⟩ := (mem_lf p a m (j + 1)).1 ha
      omega
    · have ih := put_lf hb m (j + 1) (by omega) (by omega)
      have e3 : upd p b j = p j := by simp only [upd, decide_eq_false e, Bool.or_false]
      simp only [lf, e3]
      split
      · rw [putL, if_neg (by omega), ih]
      · exact ih
theorem cnt_upd {p : Nat → Bool} {b : Nat} (hb : p b = false) (f : Nat → Int) : ∀ m j, j ≤ b → b < j + m → sf (ind (upd p b) f) j m = sf (ind p f) j m + f b
  | 0, _, _, _ => by omega
  | m + 1, j, h1, h2 => by
    by_cases e : j = b
    · subst e
      have e2 : sf (ind (upd p j) f) (j + 1) m = sf (ind p f) (j + 1) m := sf_congr fun i h3 _ => by
        simp only [ind, upd, decide_eq_false (show ¬ i = j by omega), Bool.or_false]
      have e3 : upd p j j = true := by simp [upd]
      simp only [sf, e2, ind, hb, e3, if_true, if_false, Bool.false_eq_true]
      omega
    · have ih := cnt_upd hb f m (j + 1) (by omega) (by omega)
      have e3 : upd p b j = p j := by simp only [upd, decide_eq_false e, Bool.or_false]
      simp only [sf, ih, ind, e3]
      omega
theorem cnt_all {p : Nat → Bool} : ∀ m j, (∀ i, j ≤ i → i < j + m → p i = true) → sf (ind p fun _ => 1) j m = m
  | 0, _, _ => rfl
  | m + 1, j, h => by
    have ih := cnt_all m (j + 1) fun i h1 h2 => h i (by omega) (by omega)
    simp only [sf, ih, ind, h j (by omega) (by omega), if_true]
    omega

/-- The greedy pick: the first of the greatest weights of the places that are not taken. -/
def pickT (w : Nat → Int) (out : List Int) : Nat → Int
  | 0 => 0
  | j + 1 => if ((j : Int) + 1) ∈ out then pickT w out j else if pickT w out j = 0 ∨ w (pickT w out j - 1).toNat < w j then (j : Int) + 1 else pickT w out j
def greT (w : Nat → Int) (N : Nat) : Nat → List Int
  | 0 => []
  | c + 1 => putL (greT w N c) (pickT w (greT w N c) N)
theorem pickT_succ (w : Nat → Int) (out : List Int) (j : Nat) : pickT w out (j + 1) = if ((j : Int) + 1) ∈ out then pickT w out j else if pickT w out j = 0 ∨ w (pickT w out j - 1).toNat < w j then (j : Int) + 1 else pickT w out j := rfl
theorem pickT_bd (w : Nat → Int) (out : List Int) : ∀ j, 0 ≤ pickT w out j ∧ pickT w out j ≤ j
  | 0 => by simp [pickT]
  | j + 1 => by
    have ih := pickT_bd w out j
    simp only [pickT]
    split
    · omega
    · split <;> omega
theorem pwr_le {N : Nat} (hN : N ≤ 8) (i : Nat) : pwr N i ≤ 128 := by
  have := pwI_le (show N - 1 - i ≤ 7 by omega)
  have := pwI_7
  simp only [pwr]
  omega
theorem pickT_ok {w : Nat → Int} {p : Nat → Bool} {N : Nat} (hN : N ≤ 8) : ∀ j, j ≤ N → (pickT w (lf p 0 N) j = 0 ∧ ∀ i, i < j → p i = true) ∨ ∃ b : Nat, b < j ∧ pickT w (lf p 0 N) j = (b : Int) + 1 ∧ p b = false ∧ ∀ i, i < j → p i = false → uu w N i ≤ uu w N b
  | 0, _ => Or.inl ⟨rfl, fun i h => by omega⟩
  | j + 1, h => by
    have ih := pickT_ok (w := w) (p := p) hN j (by omega)
    have hm := mem_lf0 p (show j < N by omega)
    simp only [pickT, hm]
    cases hp : p j with
    | true =>
      simp only [if_true]
      rcases ih with ⟨h1, h2⟩ | ⟨b, h1, h2, h3, h4⟩
      · refine Or.inl ⟨h1, fun i hi => ?_⟩
        by_cases e : i = j
        · rw [e]; exact hp
        · exact h2 i (by omega)
      · refine Or.inr ⟨b, by omega, h2, h3, fun i hi k => ?_⟩
        by_cases e : i = j
        · rw [e, hp] at k; cases k
        · exact h4 i (by omega) k
    | false =>
      simp only [Bool.false_eq_true, if_false]
      rcases ih with ⟨h1, h2⟩ | ⟨b, h1, h2, h3, h4⟩
      · rw [if_pos (Or.inl h1)]
        refine Or.inr ⟨j, by omega, rfl, hp, fun i hi k => ?_⟩
        by_cases e : i = j
        · rw [e]; exact Int.le_refl _
        · rw [h2 i (by omega)] at k; cases k
      · have e2 : (pickT w (lf p 0 N) j - 1).toNat = b := by omega
        rw [e2]
        have hx : ∀ x y : Nat, x ≤ y → y < N → pwr N y ≤ pwr N x := fun x y h5 h6 => by
          exact pwI_le (by omega)
        by_cases hw : w b < w j
        · rw [if_pos (Or.inr hw)]
          refine Or.inr ⟨j, by omega, rfl, hp, fun i hi k => ?_⟩
          by_cases e : i = j
          · rw [e]; exact Int.le_refl _
          · have h5 := h4 i (by omega) k
            have h6 := pwr_le hN b
            have h7 : 0 < pwr N j := pwI_pos _
            simp only [uu] at h5 ⊢
            omega
        · rw [if_neg (by omega)]
          refine Or.inr ⟨b, by omega, h2, h3, fun i hi k => ?_⟩
          by_cases e : i = j
          · have := hx b j (by omega) (by omega)
            simp only [uu]
            rw [e]
            omega
          · exact h4 i (by omega) k
theorem gre_ok (w : Nat → Int) {N : Nat} (hN : N ≤ 8) : ∀ c : Nat, c ≤ N → ∃ p : Nat → Bool, greT w N c = lf p 0 N ∧ sf (ind p fun _ => 1) 0 N = c ∧ ∀ i, i < N → ∀ k, k < N → p i = true → p k = false → uu w N k ≤ uu w N i
  | 0, _ => by
    have e : ∀ m j, lf (fun _ => false) j m = [] := fun m => by
      induction m with
      | zero => exact fun _ => rfl
      | succ m ih => exact fun j => by simp only [lf, Bool.false_eq_true, if_false, ih]
    refine ⟨fun _ => false, (e N 0).symm, ?_, fun i _ k _ h => by cases h⟩
    rw [← len_lf, e]
    rfl
  | c + 1, h => by
    obtain ⟨p, h1, h2, h3⟩ := gre_ok w hN c (by omega)
    rcases pickT_ok (w := w) (p := p) hN N (Nat.le_refl _) with ⟨_, k2⟩ | ⟨b, k1, k2, k3, k4⟩
    · rw [cnt_all N 0 fun i _ hi => k2 i (by omega)] at h2
      omega
    · refine ⟨upd p b, ?_, ?_, fun i hi k hk hp hq => ?_⟩
      · rw [greT, h1, k2, put_lf k3 N 0 (by omega) (by omega)]
      · rw [cnt_upd k3 _ N 0 (by omega) (by omega), h2]
        omega
      · simp only [upd, Bool.or_eq_true, Bool.or_eq_false_iff, decide_eq_true_eq, decide_eq_false_iff_not] at hp hq
        rcases hp with hp | rfl
        · exact h3 i hi k hk hp hq.1
        · exact k4 k hk hq.1
theorem putL_len : ∀ (l : List Int) (x : Int), (putL l x).length ≤ l.length + 1
  | [], _ => by simp [putL]
  | a :: l, x => by
    have := putL_len l x
    rw [putL]
    split
    · split <;> simp
    · simp only [List.length_cons]; omega
theorem greT_len (w : Nat → Int) (N : Nat) : ∀ c, (greT w N c).length ≤ c
  | 0 => by simp [greT]
  | c + 1 => by
    have := greT_len w N c
    have := putL_len (greT w N c) (pickT w (greT w N c) N)
    simp only [greT]
    omega

/-- All choices, as numbers. -/
def popc (t : Nat) : Int := sf (ind t.testBit fun _ => 1) 0 8
theorem sf_split (g : Nat → Int) : ∀ a b j, sf g j (a + b) = sf g j a + sf g (j + a) b
  | 0, b, j => by simp [sf]
  | a + 1, b, j => by
    have h := sf_split g a b (j + 1)
    rw [show a + 1 + b = (a + b) + 1 by omega, sf, sf, h, show j + 1 + a = j + (a + 1) by omega]
    omega
theorem sf_zero {g : Nat → Int} : ∀ m j, (∀ i, j ≤ i → g i = 0) → sf g j m = 0
  | 0, _, _ => rfl
  | m + 1, j, h => by
    rw [sf, h j (Nat.le_refl _), sf_zero m (j + 1) fun i hi => h i (by omega)]
    rfl
theorem popc_N {N t : Nat} (hN : N ≤ 8) (ht : t < 2 ^ N) : popc t = sf (ind t.testBit fun _ => 1) 0 N := by
  rw [popc, show 8 = N + (8 - N) by omega, sf_split, sf_zero (8 - N)]
  · omega
  · intro i hi
    simp only [ind]
    rw [if_neg]
    rw [Nat.testBit_lt_two_pow (Nat.lt_of_lt_of_le ht (Nat.pow_le_pow_right (by omega) (by omega)))]
    simp
theorem ex_bits : ∀ m (p : Nat → Bool), ∃ t, t < 2 ^ m ∧ ∀ i, i < m → t.testBit i = p i
  | 0, _ => ⟨0, by simp, fun i h => by omega⟩
  | m + 1, p => by
    obtain ⟨t, h1, h2⟩ := ex_bits m fun i => p (i + 1)
    refine ⟨2 * t + (p 0).toNat, ?_, fun i hi => ?_⟩
    · rw [Nat.pow_succ]
      cases p 0 <;> simp <;> omega
    · cases i with
      | zero =>
        rw [Nat.testBit_zero]
        cases p 0 <;> simp <;> omega
      | succ i =>
        rw [Nat.testBit_succ, show (2 * t + (p 0).toNat) / 2 = t by cases p 0 <;> simp <;> omega]
        exact h2 i (by omega)
theorem coup_sf (W : List (List Int)) (o : List Int) {p : Nat → Bool} {N : Nat} : ∀ j, j ≤ N → coupT W o (lf p 0 N) j = sf (cst W o) 0 j - sf (ind p (cst W o)) 0 j
  | 0, _ => by simp [coupT, sf]
  | j + 1, h => by
    have hm := mem_lf0 p (show j < N by omega)
    rw [coupT, coup_sf W o j (by omega), sf_snoc, sf_snoc]
    simp only [hm, ind, Nat.zero_add]
    split <;> omega

abbrev setL (N t : Nat) : List Int := lf t.testBit 0 N
abbrev Better (b : List Int) (l : Int) (sh : List Int) (c : Int) : Prop := l < 0 ∨ c < l ∨ c = l ∧ cmpL sh b < 0
def bsT (W : List (List Int)) (o : List Int) (c : Int) : Nat → List Int × Int
  | 0 => ([], -1)
  | s + 1 => if popc s = c ∧ Better (bsT W o c s).1 (bsT W o c s).2 (setL (o.length - 1) s) (coup W o (setL (o.length - 1) s)) then (setL (o.length - 1) s, coup W o (setL (o.length - 1) s)) else bsT W o c s
theorem lf_len_le (p : Nat → Bool) : ∀ m j, (lf p j m).length ≤ m
  | 0, _ => by simp [lf]
  | m + 1, j => by
    have := lf_len_le p m (j + 1)
    simp only [lf]
    split
    · simp only [List.length_cons]; omega
    · omega
theorem bs_len (W : List (List Int)) (o : List Int) (c : Int) : ∀ s, (bsT W o c s).1.length ≤ o.length - 1
  | 0 => by simp [bsT]
  | s + 1 => by
    have := bs_len W o c s
    rw [bsT]
    split
    · exact lf_len_le _ _ _
    · exact this
theorem bs_inv {W : List (List Int)} (hW : okW W) {o : List Int} (ho : isO W.length o) (c : Int) : ∀ s, s ≤ 2 ^ (o.length - 1) → (bsT W o c s = ([], -1) ∧ ∀ t, t < s → popc t ≠ c) ∨ ∃ t, t < s ∧ popc t = c ∧ bsT W o c s = (setL (o.length - 1) t, coup W o (setL (o.length - 1) t)) ∧ ∀ k, k < s → popc k = c → vv (cst W o) (o.length - 1) k.testBit ≤ vv (cst W o) (o.length - 1) t.testBit
  | 0, _ => Or.inl ⟨rfl, fun t h => by omega⟩
  | s + 1, h => by
    have ih := bs_inv hW ho c s (by omega)
    have hN : o.length - 1 ≤ 8 := by have := hW.1; have := ho.1; omega
    by_cases hp : popc s = c
    · rcases ih with ⟨h1, h2⟩ | ⟨t, h1, h2, h3, h4⟩
      · refine Or.inr ⟨s, by omega, hp, ?_, fun k hk hc => ?_⟩
        · rw [bsT, if_pos ⟨hp, Or.inl (by rw [h1]; simp only; omega)⟩]
        · by_cases e : k = s
          · rw [e]; exact Int.le_refl _
          · exact absurd hc (h2 k (by omega))
      · have hl : (setL (o.length - 1) s).length = (setL (o.length - 1) t).length := by
          have e1 := len_lf s.testBit (o.length - 1) 0
          have e2 := len_lf t.testBit (o.length - 1) 0
          rw [← popc_N hN (by omega)] at e1 e2
          simp only [setL]
          omega
        have hc := cmp_pw (N := o.length - 1) s.testBit t.testBit (o.length - 1) 0 (by omega) hl
        have b1 := pw_lt (N := o.length - 1) s.testBit (o.length - 1) 0 (by omega)
        have b2 := pw_lt (N := o.length - 1) t.testBit (o.length - 1) 0 (by omega)
        have b3 := pwI_le hN
        have b4 := pwI_8
        have c1 := coup_sf W o (p := s.testBit) (N := o.length - 1) (o.length - 1) (Nat.le_refl _)
        have c2 := coup_sf W o (p := t.testBit) (N := o.length - 1) (o.length - 1) (Nat.le_refl _)
        have c3 := (coup_bd hW ho (setL (o.length - 1) t)).1
        have v1 := vv_eq (cst W o) (o.length - 1) s.testBit
        have v2 := vv_eq (cst W o) (o.length - 1) t.testBit
        simp only [coup, setL] at c3
        have key : Better (setL (o.length - 1) t) (coup W o (setL (o.length - 1) t)) (setL (o.length - 1) s) (coup W o (setL (o.length - 1) s)) ↔ vv (cst W o) (o.length - 1) t.testBit < vv (cst W o) (o.length - 1) s.testBit := by
          simp only [Better, coup, setL]
          rw [hc]
          omega
        rw [bsT, h3]
        by_cases hb : Better (setL (o.length - 1) t) (coup W o (setL (o.length - 1) t)) (setL (o.length - 1) s) (coup W o (setL (o.length - 1) s))
        · rw [if_pos ⟨hp, hb⟩]
          refine Or.inr ⟨s, by omega, hp, rfl, fun k hk hc => ?_⟩
          by_cases e : k = s
          · rw [e]; exact Int.le_refl _
          · have := h4 k (by omega) hc
            have := key.1 hb
            omega
        · rw [if_neg fun k => hb k.2]
          refine Or.inr ⟨t, by omega, h2, rfl, fun k hk hc => ?_⟩
          by_cases e : k = s
          · rw [e]
            rw [key] at hb
            omega
          · exact h4 k (by omega) hc
    · have e : bsT W o c (s + 1) = bsT W o c s := by rw [bsT, if_neg fun k => hp k.1]
      rw [e]
      rcases ih with ⟨h1, h2⟩ | ⟨t, h1, h2, h3, h4⟩
      · refine Or.inl ⟨h1, fun t ht => ?_⟩
        by_cases e : t = s
        · rw [e]; exact hp
        · exact h2 t (by omega)
      · refine Or.inr ⟨t, by omega, h2, h3, fun k hk hc => ?_⟩
        by_cases e : k = s
        · rw [e] at hc; exact absurd hc hp
        · exact h4 k (by omega) hc
/-- The greedy choice is what the search of all choices finds. -/
theorem bs_eq {W : List (List Int)} (hW : okW W) {o : List Int} (ho : isO W.length o) {c : Nat} (hc : c ≤ o.length - 1) : bsT W o c (2 ^ (o.length - 1)) = (greT (cst W o) (o.length - 1) c, coup W o (greT (cst W o) (o.length - 1) c)) := by
  have hN : o.length - 1 ≤ 8 := by have := hW.1; have := ho.1; omega
  obtain ⟨p, h1, h2, h3⟩ := gre_ok (cst W o) hN c hc
  obtain ⟨s, s1, s2⟩ := ex_bits (o.length - 1) p
  have s3 : popc s = c := by
    rw [popc_N hN s1, ← h2]
    exact sf_congr fun i _ hi => by simp only [ind, s2 i (by omega)]
  have s4 : vv (cst W o) (o.length - 1) s.testBit = vv (cst W o) (o.length - 1) p := by
    simp only [vv]
    exact sf_congr fun i _ hi => by simp only [ind, s2 i (by omega)]
  rcases bs_inv hW ho c (2 ^ (o.length - 1)) (Nat.le_refl _) with ⟨_, k2⟩ | ⟨t, k1, k2, k3, k4⟩
  · exact absurd s3 (k2 s s1)
  · have k5 := k4 s s1 s3
    have k6 : vv (cst W o) (o.length - 1) t.testBit ≤ vv (cst W o) (o.length - 1) p := dom_best h3 (by rw [h2, ← popc_N hN k1, k2])
    have v1 := vv_eq (cst W o) (o.length - 1) p
    have v2 := vv_eq (cst W o) (o.length - 1) t.testBit
    have b1 := pw_lt (N := o.length - 1) p (o.length - 1) 0 (by omega)
    have b2 := pw_lt (N := o.length - 1) t.testBit (o.length - 1) 0 (by omega)
    have b3 := pwI_le hN
    have b4 := pwI_8
    have e := pw_inj (N := o.length - 1) t.testBit p (o.length - 1) 0 (by omega) (by omega)
    have e2 : setL (o.length - 1) t = lf p 0 (o.length - 1) := lf_congr _ 0 fun i h5 h6 => e i h5 h6
    rw [k3, h1, e2]
end Go.Sx.M0
