/-
  Chapter 10, plain: bundles, orders, shields, coupling.
-/
import Derived.Test.YtgfbiehncbinmaaSd
namespace Go.Sx.M0
set_option linter.unusedVariables false
set_option linter.unusedSimpArgs false
open Go Go.Sx

/-- The weight of two wires. -/
abbrev wt (W : List (List Int)) (i k : Nat) : Int := (W.getD i []).getD k 0
abbrev okW (W : List (List Int)) : Prop := (1 ≤ W.length ∧ W.length ≤ 9) ∧ (∀ i, i < W.length → (W.getD i []).length = W.length) ∧ ∀ i, i < W.length → ∀ k, k < W.length → 0 ≤ wt W i k ∧ wt W i k ≤ 1000 ∧ wt W i k = wt W k i ∧ wt W i i = 0
def okB (W : List (List Int)) : Bool := decide (okW W)
theorem okB_iff {W : List (List Int)} : okB W = true ↔ okW W := by simp [okB]
theorem okB_no {W : List (List Int)} : okB W = false ↔ ¬ okW W := by simp [okB]

/-! ### Orders -/
abbrev isO (n : Nat) (o : List Int) : Prop := o.length = n ∧ (∀ x ∈ o, 0 ≤ x ∧ x < (n : Int)) ∧ o.Nodup
def isOB (n : Nat) (o : List Int) : Bool := decide (isO n o)
theorem isOB_iff {n : Nat} {o : List Int} : isOB n o = true ↔ isO n o := by simp [isOB]
theorem isOB_no {n : Nat} {o : List Int} : isOB n o = false ↔ ¬ isO n o := by simp [isOB]
theorem isO_get {n : Nat} {o : List Int} (h : isO n o) {i : Nat} (hi : i < n) : 0 ≤ o.getD i 0 ∧ o.getD i 0 < (n : Int) := by
  refine h.2.1 _ ?_
  have : i < o.length := by rw [h.1]; exact hi
  rw [List.getD, List.getElem?_eq_getElem this]
  exact List.getElem_mem this
/-- Which numbers stand in a list. -/
def seenL (n : Nat) (l : List Int) : List Bool := (List.range n).map fun (v : Nat) => decide ((v : Int) ∈ l)
theorem seenL_nil (n : Nat) : seenL n [] = List.replicate n false := by
  simp only [seenL, List.not_mem_nil, decide_false]
  apply List.ext_getElem <;> simp
theorem seenL_len (n : Nat) (l : List Int) : (seenL n l).length = n := by simp [seenL]
theorem seenL_get {n : Nat} {l : List Int} {x : Int} (h0 : 0 ≤ x) (h1 : x < n) : (seenL n l).getD x.toNat false = decide (x ∈ l) := by
  have : x.toNat < n := by omega
  simp only [seenL, List.getD, List.getElem?_map, List.getElem?_range this, Option.map_some, Option.getD_some]
  rw [show ((x.toNat : Nat) : Int) = x by omega]
theorem seenL_set {n : Nat} {l : List Int} {x : Int} (h0 : 0 ≤ x) (h1 : x < n) : (seenL n l).set x.toNat true = seenL n (l ++ [x]) := by
  apply List.ext_getElem
  · simp [seenL]
  · intro i h2 h3
    simp only [seenL, List.length_set, List.length_map, List.length_range] at h2
    rw [List.getElem_set]
    simp only [seenL, List.getElem_map, List.getElem_range, List.mem_append, List.mem_singleton]
    by_cases he : x.toNat = i
    · rw [if_pos he]
      simp only [Bool.true_eq, decide_eq_true_eq]
      right; omega
    · rw [if_neg he]
      congr 1
      simp only [eq_iff_iff]
      constructor
      · exact .inl
      · rintro (h | h)
        · exact h
        · omega
theorem nodup_snoc {l : List Int} {x : Int} (h : l.Nodup) (hx : x ∉ l) : (l ++ [x]).Nodup := by
  rw [List.nodup_append]
  refine ⟨h, by simp, fun a ha b hb => ?_⟩
  simp only [List.mem_singleton] at hb
  subst hb
  intro e; subst e; exact hx ha
theorem not_nodup {l : List Int} {i : Nat} (hi : i < l.length) (h : l.getD i 0 ∈ l.take i) : ¬ l.Nodup := by
  intro hn
  rw [← List.take_append_drop i l, List.nodup_append] at hn
  refine hn.2.2 _ h (l.getD i 0) ?_ rfl
  rw [List.drop_eq_getElem_cons hi, List.getD, List.getElem?_eq_getElem hi]
  exact List.mem_cons_self

/-- The numbers of a list as bits. -/
def maskL : List Int → Nat
  | [] => 0
  | x :: r => 2 ^ x.toNat ||| maskL r
theorem maskL_lt {n : Nat} : ∀ {l : List Int}, (∀ x ∈ l, 0 ≤ x ∧ x < (n : Int)) → maskL l < 2 ^ n
  | [], _ => by simp only [maskL]; exact Nat.pow_pos (by omega)
  | x :: r, h => by
    simp only [maskL]
    refine Nat.or_lt_two_pow (Nat.pow_lt_pow_right (by omega) ?_) (maskL_lt fun y hy => h y (List.mem_cons_of_mem _ hy))
    have := h x (by simp); omega
theorem maskL_bit : ∀ (l : List Int), (∀ x ∈ l, 0 ≤ x) → ∀ (v : Nat), (maskL l).testBit v = decide ((v : Int) ∈ l)
  | [], _, v => by simp [maskL]
  | x :: r, h, v => by
    simp only [maskL, Nat.testBit_or, Nat.testBit_two_pow, maskL_bit r (fun y hy => h y (List.mem_cons_of_mem _ hy))]
    have hx := h x (by simp)
    by_cases he : x.toNat = v
    · have : (v : Int) = x := by omega
      simp [he, this]
    · have : ¬ (v : Int) = x := by omega
      simp [he, this]
theorem maskL_snoc : ∀ (l : List Int) (x : Int), maskL (l ++ [x]) = maskL l ||| 2 ^ x.toNat
  | [], x => by simp [maskL]
  | y :: r, x => by simp only [List.cons_append, maskL, maskL_snoc r x, Nat.or_assoc]

/-! ### Shields -/
abbrev rises (xs : List Int) (a b : Int) : Prop := ∀ i, i < xs.length → (a ≤ xs.getD i 0 ∧ xs.getD i 0 ≤ b) ∧ (0 < i → xs.getD (i - 1) 0 < xs.getD i 0)
def risesB (xs : List Int) (a b : Int) : Bool := decide (rises xs a b)
theorem risesB_iff {xs : List Int} {a b : Int} : risesB xs a b = true ↔ rises xs a b := by simp [risesB]
theorem risesB_no {xs : List Int} {a b : Int} : risesB xs a b = false ↔ ¬ rises xs a b := by simp [risesB]

/-! ### Coupling -/
/-- The weight at a place. -/
def cst (W : List (List Int)) (o : List Int) (j : Nat) : Int := wt W (o.getD j 0).toNat (o.getD (j + 1) 0).toNat
def coupT (W : List (List Int)) (o sh : List Int) : Nat → Int
  | 0 => 0
  | j + 1 => coupT W o sh j + if (j : Int) + 1 ∈ sh then 0 else cst W o j
def coup (W : List (List Int)) (o sh : List Int) : Int := coupT W o sh (o.length - 1)
theorem cst_bd {W : List (List Int)} (h : okW W) {o : List Int} (ho : ∀ x ∈ o, 0 ≤ x ∧ x < (W.length : Int)) {j : Nat} (hj : j + 1 < o.length) : 0 ≤ cst W o j ∧ cst W o j ≤ 1000 := by
  have h1 := ho _ (mem_of_getD' (show j < o.length by omega))
  have h2 := ho _ (mem_of_getD' hj)
  obtain ⟨q1, q2, _⟩ := h.2.2 (o.getD j 0).toNat (by omega) (o.getD (j + 1) 0).toNat (by omega)
  exact ⟨q1, q2⟩
where
  mem_of_getD' {o : List Int} {i : Nat} (h : i < o.length) : o.getD i 0 ∈ o := by
    rw [List.getD, List.getElem?_eq_getElem h]; exact List.getElem_mem h
theorem coupT_bd {W : List (List Int)} (h : okW W) {o : List Int} (ho : ∀ x ∈ o, 0 ≤ x ∧ x < (W.length : Int)) (sh : List Int) : ∀ {j : Nat}, j < o.length ∨ j = 0 → 0 ≤ coupT W o sh j ∧ coupT W o sh j ≤ 1000 * j
  | 0, _ => by simp [coupT]
  | j + 1, hj => by
    obtain ⟨q1, q2⟩ := coupT_bd h ho sh (j := j) (by omega)
    obtain ⟨r1, r2⟩ := cst_bd h ho (j := j) (by omega)
    simp only [coupT]
    split <;> omega

/-! ### Orders by bits, by marks -/
theorem maskL_inB {n : Nat} {l : List Int} (hn : n ≤ 9) (hl : ∀ x ∈ l, 0 ≤ x ∧ x < (n : Int)) : inB (maskL l : Int) := by
  have h1 := maskL_lt hl
  have h2 : 2 ^ n ≤ 2 ^ 9 := Nat.pow_le_pow_right (by omega) hn
  exact ⟨by omega, by omega⟩
theorem pow_cast (x : Nat) : (2 : Int) ^ x = ((2 ^ x : Nat) : Int) := by simp
theorem mask_test {n : Nat} {l : List Int} (hn : n ≤ 9) (hl : ∀ x ∈ l, 0 ≤ x ∧ x < (n : Int)) {x : Int} (h0 : 0 ≤ x) (h1 : x < n) : andI .i64 (shrI .i64 (maskL l) x) 1 = if x ∈ l then 1 else 0 := by
  have hb := maskL_inB hn hl
  rw [shrI_in (.inl rfl) (by omega), pow_cast, ← Int.natCast_ediv]
  have hle : maskL l / 2 ^ x.toNat ≤ maskL l := Nat.div_le_self _ _
  have hdin : inB ((maskL l / 2 ^ x.toNat : Nat) : Int) := by
    generalize maskL l / 2 ^ x.toNat = d at hle
    exact ⟨by omega, by have := hb.2; omega⟩
  rw [andI_nat (.inl rfl) hdin ⟨by omega, by omega⟩]
  rw [Int.toNat_natCast, show (1 : Int).toNat = 1 from rfl, Nat.and_one_is_mod]
  have hbit := maskL_bit l (fun y hy => (hl y hy).1) x.toNat
  rw [Nat.testBit_eq_decide_div_mod_eq, show ((x.toNat : Nat) : Int) = x by omega] at hbit
  by_cases hx : x ∈ l
  · simp only [hx, decide_true, decide_eq_true_eq] at hbit
    rw [if_pos hx, hbit]; rfl
  · simp only [hx, decide_false, decide_eq_false_iff_not] at hbit
    rw [if_neg hx]
    have : maskL l / 2 ^ x.toNat % 2 = 0 := by omega
    rw [this]; rfl
theorem mask_or {n : Nat} {l : List Int} (hn : n ≤ 9) (hl : ∀ x ∈ l, 0 ≤ x ∧ x < (n : Int)) {x : Int} (h0 : 0 ≤ x) (h1 : x < n) : orI .i64 (maskL l) (shlI .i64 1 x) = maskL (l ++ [x]) := by
  have hb := maskL_inB hn hl
  have hp : 2 ^ x.toNat ≤ 2 ^ 9 := Nat.pow_le_pow_right (by omega) (by omega)
  have hpin : inB ((2 ^ x.toNat : Nat) : Int) := by
    generalize 2 ^ x.toNat = d at hp
    exact ⟨by omega, by omega⟩
  have hpi : inI64 (1 * 2 ^ x.toNat) := by
    rw [Int.one_mul, pow_cast]
    exact ⟨by have := hpin.1; omega, by have := hpin.2; omega⟩
  rw [shlI_in (by omega) hpi, Int.one_mul, pow_cast]
  rw [orI_nat (.inl rfl) hb hpin, Int.toNat_natCast, Int.toNat_natCast, maskL_snoc]
/-- The first i of a list are different wires. -/
abbrev preO (n : Nat) (o : List Int) (i : Nat) : Prop := (∀ x ∈ o.take i, 0 ≤ x ∧ x < (n : Int)) ∧ (o.take i).Nodup
theorem preO_zero (n : Nat) (o : List Int) : preO n o 0 := by simp [preO]
theorem preO_succ {n : Nat} {o : List Int} {i : Nat} (h : preO n o i) (hi : i < o.length) (h0 : 0 ≤ o.getD i 0) (h1 : o.getD i 0 < n) (hx : o.getD i 0 ∉ o.take i) : preO n o (i + 1) := by
  rw [preO, take_snoc 0 hi]
  refine ⟨fun x hx => ?_, nodup_snoc h.2 hx⟩
  rcases List.mem_append.1 hx with hx | hx
  · exact h.1 x hx
  · simp only [List.mem_singleton] at hx; omega
theorem preO_full {n : Nat} {o : List Int} (h : preO n o o.length) (hl : o.length = n) : isO n o := by
  rw [preO, List.take_length] at h
  exact ⟨hl, h⟩
theorem isO_range {n : Nat} {o : List Int} (h : isO n o) {i : Nat} (hi : i < o.length) : 0 ≤ o.getD i 0 ∧ o.getD i 0 < (n : Int) := isO_get h (by rw [← h.1]; exact hi)
theorem isO_new {n : Nat} {o : List Int} (h : isO n o) {i : Nat} (hi : i < o.length) : o.getD i 0 ∉ o.take i := fun hx => not_nodup hi hx h.2.2
theorem isOB_no_range {n : Nat} {o : List Int} {i : Nat} (hi : i < o.length) (h : ¬ (0 ≤ o.getD i 0 ∧ o.getD i 0 < (n : Int))) : isOB n o = false := isOB_no.2 fun k => h (isO_range k hi)
theorem isOB_no_seen {n : Nat} {o : List Int} {i : Nat} (hi : i < o.length) (h : o.getD i 0 ∈ o.take i) : isOB n o = false := isOB_no.2 fun k => isO_new k hi h
theorem isOB_no_len {n : Nat} {o : List Int} (h : o.length ≠ n) : isOB n o = false := isOB_no.2 fun k => h k.1
theorem not_mem_snoc {n : Int} {xs : List Int} {i : Nat} (hi : i < xs.length) (h : n ∉ xs.take i) (hx : xs.getD i 0 ≠ n) : n ∉ xs.take (i + 1) := by
  rw [take_snoc 0 hi]
  intro hm
  rcases List.mem_append.1 hm with hm | hm
  · exact h hm
  · simp only [List.mem_singleton] at hm; exact hx hm.symm
theorem mem_at {n : Int} {xs : List Int} {i : Nat} (hi : i < xs.length) (hx : xs.getD i 0 = n) : n ∈ xs := by
  rw [← hx, List.getD, List.getElem?_eq_getElem hi]
  exact List.getElem_mem hi
/-- The first i of shields rise. -/
abbrev risesP (xs : List Int) (a b : Int) (i : Nat) : Prop := ∀ j, j < i → (a ≤ xs.getD j 0 ∧ xs.getD j 0 ≤ b) ∧ (0 < j → xs.getD (j - 1) 0 < xs.getD j 0)
theorem risesP_succ {xs : List Int} {a b : Int} {i : Nat} (h : risesP xs a b i) (h1 : a ≤ xs.getD i 0 ∧ xs.getD i 0 ≤ b) (h2 : 0 < i → xs.getD (i - 1) 0 < xs.getD i 0) : risesP xs a b (i + 1) := fun j hj => by
  rcases Nat.lt_or_ge j i with hj' | hj'
  · exact h j hj'
  · obtain rfl : j = i := by omega
    exact ⟨h1, h2⟩
theorem risesB_yes {xs : List Int} {a b : Int} (h : risesP xs a b xs.length) : risesB xs a b = true := risesB_iff.2 h
theorem risesB_bad {xs : List Int} {a b : Int} {i : Nat} (hi : i < xs.length) (h : ¬ ((a ≤ xs.getD i 0 ∧ xs.getD i 0 ≤ b) ∧ (0 < i → xs.getD (i - 1) 0 < xs.getD i 0))) : risesB xs a b = false := risesB_no.2 fun k => h (k i hi)

/-! ### Exchanges -/
/-- Two neighbours exchanged. -/
def exch (o : List Int) (p : Nat) : List Int := (o.set p (o.getD (p + 1) 0)).set (p + 1) (o.getD p 0)
theorem exch_len (o : List Int) (p : Nat) : (exch o p).length = o.length := by simp [exch]
theorem exch_get {o : List Int} {p : Nat} (hp : p + 1 < o.length) (i : Nat) : (exch o p).getD i 0 = if i = p then o.getD (p + 1) 0 else if i = p + 1 then o.getD p 0 else o.getD i 0 := by
  simp only [exch, List.getD, List.getElem?_set, List.length_set]
  by_cases h1 : p + 1 = i
  · subst h1
    simp [hp]
  · by_cases h2 : p = i
    · subst h2
      simp [show p < o.length by omega]
    · simp [h1, h2, Ne.symm h1, Ne.symm h2]
theorem exch_isO {n : Nat} {o : List Int} (h : isO n o) {p : Nat} (hp : p + 1 < o.length) : isO n (exch o p) := by
  obtain ⟨h1, h2, h3⟩ := h
  refine ⟨by rw [exch_len, h1], fun x hx => ?_, ?_⟩
  · obtain ⟨i, hi, rfl⟩ := List.getElem_of_mem hx
    rw [exch_len] at hi
    have e : (exch o p)[i]'(by rw [exch_len]; exact hi) = (exch o p).getD i 0 := by
      rw [List.getD, List.getElem?_eq_getElem (by rw [exch_len]; exact hi)]; rfl
    rw [e, exch_get hp]
    split
    · exact isO_range ⟨h1, h2, h3⟩ hp
    · split
      · exact isO_range ⟨h1, h2, h3⟩ (by omega)
      · exact isO_range ⟨h1, h2, h3⟩ hi
  · rw [List.Nodup, List.pairwise_iff_getElem]
    intro i j hi' hj' hij
    have hj := hj'
    rw [exch_len] at hj
    have inj : ∀ a b, a < o.length → b < o.length → o.getD a 0 = o.getD b 0 → a = b := fun a b ha hb e => by
      simp only [List.getD, List.getElem?_eq_getElem ha, List.getElem?_eq_getElem hb, Option.getD_some] at e
      have hp3 := List.pairwise_iff_getElem.1 h3
      rcases Nat.lt_trichotomy a b with hlt | heq | hgt
      · exact absurd e (hp3 a b ha hb hlt)
      · exact heq
      · exact absurd e.symm (hp3 b a hb ha hgt)
    have g : ∀ k (hk : k < (exch o p).length), (exch o p)[k] = (exch o p).getD k 0 := fun k hk => by
      rw [List.getD, List.getElem?_eq_getElem hk]; rfl
    rw [g i hi', g j hj', exch_get hp, exch_get hp]
    intro e
    split at e <;> split at e <;> (try split at e) <;> (try split at e)
    all_goals first | omega | (have := inj _ _ (by omega) (by omega) e; omega)
/-- What an exchange gains. -/
def gain (W : List (List Int)) (o : List Int) (p : Nat) : Int := coup W o [] - coup W (exch o p) []
theorem coup_bd {W : List (List Int)} (h : okW W) {o : List Int} (ho : isO W.length o) (sh : List Int) : 0 ≤ coup W o sh ∧ coup W o sh ≤ 8000 := by
  have h1 := ho.1
  have h9 := h.1
  obtain ⟨q1, q2⟩ := coupT_bd h ho.2.1 sh (j := o.length - 1) (by omega)
  unfold coup
  exact ⟨q1, by omega⟩
theorem gain_bd {W : List (List Int)} (h : okW W) {o : List Int} (ho : isO W.length o) {p : Nat} (hp : p + 1 < o.length) : -8000 ≤ gain W o p ∧ gain W o p ≤ 8000 := by
  have h1 := coup_bd h ho []
  have h2 := coup_bd h (exch_isO ho hp) []
  unfold gain; omega

/-! ### Noise -/
def addAt (xs : List Int) (i : Nat) (d : Int) : List Int := xs.set i (xs.getD i 0 + d)
def noiseT (W : List (List Int)) (o sh : List Int) : Nat → List Int
  | 0 => List.replicate o.length 0
  | j + 1 => if (j : Int) + 1 ∈ sh then noiseT W o sh j else addAt (addAt (noiseT W o sh j) (o.getD j 0).toNat (cst W o j)) (o.getD (j + 1) 0).toNat (cst W o j)
def noise (W : List (List Int)) (o sh : List Int) : List Int := noiseT W o sh (o.length - 1)
theorem noiseT_len (W : List (List Int)) (o sh : List Int) : ∀ j, (noiseT W o sh j).length = o.length
  | 0 => by simp [noiseT]
  | j + 1 => by
    simp only [noiseT]
    split
    · exact noiseT_len W o sh j
    · simp [addAt, noiseT_len W o sh j]
theorem addAt_bd {xs : List Int} {a d : Int} (h : ∀ k, 0 ≤ xs.getD k 0 ∧ xs.getD k 0 ≤ a) (hd : 0 ≤ d) (i : Nat) : ∀ k, 0 ≤ (addAt xs i d).getD k 0 ∧ (addAt xs i d).getD k 0 ≤ a + d := fun k => by
  have h1 := h k
  have h2 := h i
  simp only [addAt, List.getD, List.getElem?_set] at h1 h2 ⊢
  by_cases e : i = k
  · subst e
    by_cases hl : i < xs.length
    · simp [hl] at h1 h2 ⊢; omega
    · simp [hl] at h1 h2 ⊢; omega
  · simp only [e, if_false]; omega
theorem noiseT_bd {W : List (List Int)} (h : okW W) {o : List Int} (ho : ∀ x ∈ o, 0 ≤ x ∧ x < (W.length : Int)) (sh : List Int) : ∀ {j : Nat}, j < o.length ∨ j = 0 → ∀ k, 0 ≤ (noiseT W o sh j).getD k 0 ∧ (noiseT W o sh j).getD k 0 ≤ 2000 * j
  | 0, _, k => by
    simp only [noiseT, List.getD, List.getElem?_replicate]
    split <;> simp
  | j + 1, hj, k => by
    have ih := noiseT_bd h ho sh (j := j) (by omega)
    obtain ⟨r1, r2⟩ := cst_bd h ho (j := j) (by omega)
    simp only [noiseT]
    split
    · have := ih k; omega
    · have := addAt_bd (addAt_bd ih r1 (o.getD j 0).toNat) r1 (o.getD (j + 1) 0).toNat k
      omega

/-! ### Settling -/
/-- The first best exchange among the first i, and its gain; place -1 if none gains. -/
def bestP (W : List (List Int)) (o : List Int) : Nat → Int × Nat
  | 0 => (0, 0)
  | i + 1 => if (bestP W o i).1 < gain W o i then (gain W o i, i) else bestP W o i
theorem bestP_ge (W : List (List Int)) (o : List Int) : ∀ i, 0 ≤ (bestP W o i).1
  | 0 => by simp [bestP]
  | i + 1 => by
    have := bestP_ge W o i
    simp only [bestP]
    split
    · simp only; omega
    · exact this
theorem bestP_at (W : List (List Int)) (o : List Int) : ∀ i, 0 < (bestP W o i).1 → (bestP W o i).2 < i ∧ (bestP W o i).1 = gain W o (bestP W o i).2
  | 0, h => by simp [bestP] at h
  | i + 1, h => by
    simp only [bestP] at h ⊢
    split at h
    · next hc => rw [if_pos hc]; exact ⟨by simp, rfl⟩
    · next hc =>
      rw [if_neg hc]
      obtain ⟨q1, q2⟩ := bestP_at W o i h
      exact ⟨by omega, q2⟩
theorem bestP_le (W : List (List Int)) (o : List Int) : ∀ i j, j < i → gain W o j ≤ (bestP W o i).1
  | 0, j, h => by omega
  | i + 1, j, h => by
    simp only [bestP]
    split
    · next hc =>
      rcases Nat.lt_or_ge j i with h' | h'
      · have := bestP_le W o i j h'; simp only; omega
      · obtain rfl : j = i := by omega
        simp
    · next hc =>
      rcases Nat.lt_or_ge j i with h' | h'
      · exact bestP_le W o i j h'
      · obtain rfl : j = i := by omega
        omega
def settleN (W : List (List Int)) : Nat → List Int → List Int
  | 0, o => o
  | f + 1, o => if 0 < (bestP W o (o.length - 1)).1 then settleN W f (exch o (bestP W o (o.length - 1)).2) else o
/-- The order that has settled. -/
def settl (W : List (List Int)) (o : List Int) : List Int := settleN W (coup W o []).toNat o
theorem settle_none {W : List (List Int)} {o : List Int} (h : ¬ 0 < (bestP W o (o.length - 1)).1) : settl W o = o := by
  unfold settl
  cases (coup W o []).toNat with
  | zero => rfl
  | succ f => simp only [settleN]; rw [if_neg h]
theorem settle_step {W : List (List Int)} (hW : okW W) {o : List Int} (ho : isO W.length o) (h : 0 < (bestP W o (o.length - 1)).1) : settl W (exch o (bestP W o (o.length - 1)).2) = settl W o ∧ coup W (exch o (bestP W o (o.length - 1)).2) [] < coup W o [] ∧ (bestP W o (o.length - 1)).2 + 1 < o.length := by
  obtain ⟨q1, q2⟩ := bestP_at W o _ h
  have hp : (bestP W o (o.length - 1)).2 + 1 < o.length := by omega
  have hlt : coup W (exch o (bestP W o (o.length - 1)).2) [] < coup W o [] := by
    have : gain W o (bestP W o (o.length - 1)).2 = coup W o [] - coup W (exch o (bestP W o (o.length - 1)).2) [] := rfl
    omega
  refine ⟨?_, hlt, hp⟩
  have hgen : ∀ f g (o : List Int), isO W.length o → (coup W o []).toNat ≤ f → (coup W o []).toNat ≤ g → settleN W f o = settleN W g o := by
    intro f
    induction f with
    | zero =>
      intro g o ho hf hg
      cases g with
      | zero => rfl
      | succ g =>
        simp only [settleN]
        split
        · next hb =>
          obtain ⟨r1, r2⟩ := bestP_at W o _ hb
          have b1 := coup_bd hW ho []
          have b2 := coup_bd hW (exch_isO ho (p := (bestP W o (o.length - 1)).2) (by omega)) []
          have : gain W o (bestP W o (o.length - 1)).2 = coup W o [] - coup W (exch o (bestP W o (o.length - 1)).2) [] := rfl
          omega
        · rfl
    | succ f ih =>
      intro g o ho hf hg
      by_cases hb : 0 < (bestP W o (o.length - 1)).1
      · obtain ⟨r1, r2⟩ := bestP_at W o _ hb
        have hx := exch_isO ho (p := (bestP W o (o.length - 1)).2) (by omega)
        have b1 := coup_bd hW ho []
        have b2 := coup_bd hW hx []
        have : gain W o (bestP W o (o.length - 1)).2 = coup W o [] - coup W (exch o (bestP W o (o.length - 1)).2) [] := rfl
        cases g with
        | zero => omega
        | succ g =>
          simp only [settleN]
          rw [if_pos hb, if_pos hb]
          exact ih g _ hx (by omega) (by omega)
      · cases g with
        | zero => simp only [settleN]; rw [if_neg hb]
        | succ g => simp only [settleN]; rw [if_neg hb, if_neg hb]
  have b1 := coup_bd hW ho []
  have b2 := coup_bd hW (exch_isO ho hp) []
  show settleN W _ _ = settleN W _ _
  obtain ⟨f, hf⟩ : ∃ f, (coup W o []).toNat = f + 1 := ⟨(coup W o []).toNat - 1, by omega⟩
  rw [hf]
  simp only [settleN]
  rw [if_pos h]
  exact hgen _ _ _ (exch_isO ho hp) (Nat.le_refl _) (by omega)

/-! ### What the functions answer -/
abbrev ordOk (W : List (List Int)) (o : List Int) : Bool := okB W && isOB W.length o
abbrev layOk (W : List (List Int)) (o sh : List Int) : Bool := okB W && isOB W.length o && risesB sh 1 (o.length - 1)
def bestI (W : List (List Int)) (o : List Int) (i : Nat) : Int := if 0 < (bestP W o i).1 then ((bestP W o i).2 : Int) else -1
theorem settle_isO {W : List (List Int)} (hW : okW W) : ∀ {o : List Int}, isO W.length o → isO W.length (settl W o) := by
  have gen : ∀ f (o : List Int), isO W.length o → isO W.length (settleN W f o) := by
    intro f
    induction f with
    | zero => intro o h; exact h
    | succ f ih =>
      intro o h
      simp only [settleN]
      split
      · next hb =>
        have := bestP_at W o _ hb
        exact ih _ (exch_isO h (by omega))
      · exact h
  exact fun {o} h => gen _ o h
theorem rises_len {xs : List Int} {a b : Int} (h : rises xs a b) (ha : a ≤ b + 1) : (xs.length : Int) ≤ b - a + 1 := by
  have key : ∀ i, i < xs.length → a + i ≤ xs.getD i 0 := by
    intro i
    induction i with
    | zero => intro hi; have := (h 0 hi).1; omega
    | succ i ih =>
      intro hi
      have h1 := ih (by omega)
      have h2 := (h (i + 1) hi).2 (by omega)
      simp only [Nat.add_sub_cancel] at h2
      omega
  cases hx : xs.length with
  | zero => omega
  | succ n =>
    have h1 := key n (by omega)
    have h2 := (h n (by omega)).1
    omega

/-! ### Drawn bundles -/
def zeroW (m : Nat) : List (List Int) := List.replicate m (List.replicate m 0)
theorem zeroW_row {m y : Nat} (hy : y < m) : (zeroW m).getD y [] = List.replicate m 0 := by
  simp [zeroW, List.getD, List.getElem?_replicate, hy]
theorem zeroW_ok {m : Nat} (h1 : 1 ≤ m) (h2 : m ≤ 9) : okW (zeroW m) := by
  have hl : (zeroW m).length = m := by simp [zeroW]
  have hw : ∀ y x, y < m → wt (zeroW m) y x = 0 := fun y x hy => by
    show ((zeroW m).getD y []).getD x 0 = 0
    rw [zeroW_row hy]
    simp only [List.getD, List.getElem?_replicate]
    split <;> rfl
  refine ⟨by omega, fun i hi => ?_, fun i hi k hk => ?_⟩
  · rw [zeroW_row (by omega)]; simp [hl]
  · rw [hw i k (by omega), hw k i (by omega), hw i i (by omega)]; omega
/-- The same weight at both places of two wires. -/
def putR (W : List (List Int)) (i k : Nat) (w : Int) : List (List Int) := W.set i ((W.getD i []).set k w)
theorem putR_len (W : List (List Int)) (i k : Nat) (w : Int) : (putR W i k w).length = W.length := by simp [putR]
theorem putR_row {W : List (List Int)} {i k : Nat} {w : Int} (hi : i < W.length) (y : Nat) : (putR W i k w).getD y [] = if y = i then (W.getD i []).set k w else W.getD y [] := by
  simp only [putR, List.getD, List.getElem?_set]
  by_cases h : i = y
  · subst h; simp [hi]
  · simp [h, Ne.symm h]
theorem putR_wt {W : List (List Int)} {i k : Nat} {w : Int} (hi : i < W.length) (hk : k < (W.getD i []).length) (y x : Nat) : wt (putR W i k w) y x = if y = i ∧ x = k then w else wt W y x := by
  show ((putR W i k w).getD y []).getD x 0 = _
  rw [putR_row hi]
  by_cases h : y = i
  · subst h
    rw [if_pos rfl]
    by_cases hx : x = k
    · subst hx
      rw [if_pos ⟨rfl, rfl⟩]
      simp only [List.getD, List.getElem?_set] at hk ⊢
      simp [hk]
    · rw [if_neg (fun c => hx c.2)]
      show ((W.getD y []).set k w).getD x 0 = (W.getD y []).getD x 0
      generalize W.getD y [] = r
      simp only [List.getD, List.getElem?_set]
      simp [Ne.symm hx]
  · rw [if_neg h, if_neg (fun c => h c.1)]
def put2 (W : List (List Int)) (i k : Nat) (w : Int) : List (List Int) := putR (putR W i k w) k i w
theorem put2_len (W : List (List Int)) (i k : Nat) (w : Int) : (put2 W i k w).length = W.length := by simp [put2, putR_len]
theorem put2_ok {W : List (List Int)} (h : okW W) {i k : Nat} {w : Int} (hi : i < W.length) (hk : k < W.length) (hne : i ≠ k) (h0 : 0 ≤ w) (h1 : w ≤ 1000) : okW (put2 W i k w) := by
  have l1 := h.2.1 i hi
  have l2 := h.2.1 k hk
  have r2 : (putR W i k w).getD k [] = W.getD k [] := by rw [putR_row hi, if_neg (Ne.symm hne)]
  have hwt : ∀ y x, wt (put2 W i k w) y x = if (y = k ∧ x = i) ∨ (y = i ∧ x = k) then w else wt W y x := fun y x => by
    unfold put2
    rw [putR_wt (by rw [putR_len]; exact hk) (by rw [r2]; omega), putR_wt hi (by omega)]
    by_cases c1 : y = k ∧ x = i
    · rw [if_pos c1, if_pos (.inl c1)]
    · rw [if_neg c1]
      by_cases c2 : y = i ∧ x = k
      · rw [if_pos c2, if_pos (.inr c2)]
      · rw [if_neg c2, if_neg (fun c => c.elim c1 c2)]
  have hrow : ∀ y, y < W.length → ((put2 W i k w).getD y []).length = W.length := fun y hy => by
    unfold put2
    rw [putR_row (by rw [putR_len]; exact hk)]
    split
    · rw [r2, List.length_set, l2]
    · rw [putR_row hi]
      split
      · rw [List.length_set, l1]
      · exact h.2.1 y hy
  refine ⟨by rw [put2_len]; exact h.1, fun y hy => ?_, fun y hy x hx => ?_⟩
  · rw [put2_len] at hy ⊢; exact hrow y hy
  · rw [put2_len] at hy hx
    obtain ⟨q1, q2, q3, q4⟩ := h.2.2 y hy x hx
    rw [hwt, hwt, hwt]
    have e4 : ¬ ((y = k ∧ y = i) ∨ (y = i ∧ y = k)) := by omega
    rw [if_neg e4]
    by_cases c : (y = k ∧ x = i) ∨ (y = i ∧ x = k)
    · rw [if_pos c, if_pos (by omega)]
      exact ⟨h0, h1, rfl, q4⟩
    · rw [if_neg c, if_neg (by omega)]
      exact ⟨q1, q2, q3, q4⟩

/-! ### Drawn orders -/
def idO (n : Nat) : List Int := (List.range n).map fun (i : Nat) => (i : Int)
theorem idO_succ (n : Nat) : idO (n + 1) = idO n ++ [(n : Int)] := by simp [idO, List.range_succ]
theorem idO_len (n : Nat) : (idO n).length = n := by simp [idO]
theorem idO_isO (n : Nat) : isO n (idO n) := by
  refine ⟨idO_len n, fun x hx => ?_, ?_⟩
  · obtain ⟨i, hi, rfl⟩ := List.mem_map.1 hx
    have := List.mem_range.1 hi
    omega
  · rw [idO, List.Nodup, List.pairwise_map]
    refine List.Pairwise.imp_of_mem (fun {a b} _ _ hab e => hab (by omega)) (List.nodup_range (n := n))
/-- Two places of a list exchanged. -/
def swp (o : List Int) (a b : Nat) : List Int := (o.set a (o.getD b 0)).set b (o.getD a 0)
theorem swp_len (o : List Int) (a b : Nat) : (swp o a b).length = o.length := by simp [swp]
theorem swp_get {o : List Int} {a b : Nat} (ha : a < o.length) (hb : b < o.length) (i : Nat) : (swp o a b).getD i 0 = if i = b then o.getD a 0 else if i = a then o.getD b 0 else o.getD i 0 := by
  simp only [swp, List.getD, List.getElem?_set, List.length_set]
  by_cases h1 : b = i
  · subst h1; simp [hb]
  · by_cases h2 : a = i
    · subst h2; simp [ha, h1, Ne.symm h1]
    · simp [h1, h2, Ne.symm h1, Ne.symm h2]
theorem swp_isO {n : Nat} {o : List Int} (h : isO n o) {a b : Nat} (ha : a < o.length) (hb : b < o.length) : isO n (swp o a b) := by
  obtain ⟨h1, h2, h3⟩ := h
  have g : ∀ k (hk : k < (swp o a b).length), (swp o a b)[k] = (swp o a b).getD k 0 := fun k hk => by
    rw [List.getD, List.getElem?_eq_getElem hk]; rfl
  refine ⟨by rw [swp_len, h1], fun x hx => ?_, ?_⟩
  · obtain ⟨i, hi, rfl⟩ := List.getElem_of_mem hx
    rw [g, swp_get ha hb]
    rw [swp_len] at hi
    split
    · exact isO_range ⟨h1, h2, h3⟩ ha
    · split
      · exact isO_range ⟨h1, h2, h3⟩ hb
      · exact isO_range ⟨h1, h2, h3⟩ hi
  · rw [List.Nodup, List.pairwise_iff_getElem]
    intro i j hi hj hij
    rw [g i hi, g j hj, swp_get ha hb, swp_get ha hb]
    rw [swp_len] at hi hj
    have inj : ∀ a b, a < o.length → b < o.length → o.getD a 0 = o.getD b 0 → a = b := fun a b ha hb e => by
      simp only [List.getD, List.getElem?_eq_getElem ha, List.getElem?_eq_getElem hb, Option.getD_some] at e
      have hp3 := List.pairwise_iff_getElem.1 h3
      rcases Nat.lt_trichotomy a b with hlt | heq | hgt
      · exact absurd e (hp3 a b ha hb hlt)
      · exact heq
      · exact absurd e.symm (hp3 b a hb ha hgt)
    intro e
    split at e <;> split at e <;> (try split at e) <;> (try split at e)
    all_goals first | omega | (have := inj _ _ (by omega) (by omega) e; omega)

/-! ### What has settled -/
theorem settle_ind {W : List (List Int)} (hW : okW W) (P : List Int → List Int → Prop) (h0 : ∀ o, isO W.length o → ¬ 0 < (bestP W o (o.length - 1)).1 → P o o) (h1 : ∀ o q, isO W.length o → 0 < (bestP W o (o.length - 1)).1 → coup W (exch o (bestP W o (o.length - 1)).2) [] < coup W o [] → P (exch o (bestP W o (o.length - 1)).2) q → P o q) :
    ∀ (n : Nat) (o : List Int), isO W.length o → (coup W o []).toNat ≤ n → P o (settl W o) := by
  intro n
  induction n with
  | zero =>
    intro o ho hn
    have hb : ¬ 0 < (bestP W o (o.length - 1)).1 := fun hb => by
      obtain ⟨_, q2, q3⟩ := settle_step hW ho hb
      have := coup_bd hW ho []
      have := coup_bd hW (exch_isO ho q3) []
      omega
    rw [settle_none hb]; exact h0 o ho hb
  | succ n ih =>
    intro o ho hn
    by_cases hb : 0 < (bestP W o (o.length - 1)).1
    · obtain ⟨q1, q2, q3⟩ := settle_step hW ho hb
      have c1 := coup_bd hW ho []
      have c2 := coup_bd hW (exch_isO ho q3) []
      have := ih _ (exch_isO ho q3) (by omega)
      rw [q1] at this
      exact h1 o _ ho hb q2 this
    · rw [settle_none hb]; exact h0 o ho hb
theorem settle_le {W : List (List Int)} (hW : okW W) {o : List Int} (ho : isO W.length o) : coup W (settl W o) [] ≤ coup W o [] :=
  settle_ind hW (fun o q => coup W q [] ≤ coup W o []) (fun _ _ _ => Int.le_refl _) (fun _ _ _ _ h1 h2 => by omega) _ o ho (Nat.le_refl _)
theorem settle_end {W : List (List Int)} (hW : okW W) {o : List Int} (ho : isO W.length o) {p : Nat} (hp : p + 1 < W.length) : gain W (settl W o) p ≤ 0 := by
  have key := settle_ind hW (fun _ q => ¬ 0 < (bestP W q (q.length - 1)).1 ∧ q.length = W.length) (fun o ho h => ⟨h, ho.1⟩) (fun _ _ _ _ _ h => h) _ o ho (Nat.le_refl _)
  have := bestP_le W (settl W o) ((settl W o).length - 1) p (by omega)
  omega

end Go.Sx.M0
