/-
  Chapter 9, plain: shapes that have been pressed.
-/
import Derived.Test.YtgfbiehncbinmaaQ8
import Derived.Test.YtgfbiehncbinmaaM10
set_option linter.unusedSimpArgs false
namespace Go.Sx.U
set_option linter.unusedVariables false
set_option linter.unusedSimpArgs false
open Go Go.Sx Go.Sx.M9 Go.Proofs

theorem flatMap_cg {α β : Type} {f g : α → List β} : ∀ {l : List α}, (∀ x ∈ l, f x = g x) → l.flatMap f = l.flatMap g
  | [], _ => rfl
  | a :: l, h => by
    rw [List.flatMap_cons, List.flatMap_cons, h a List.mem_cons_self, flatMap_cg fun x hx => h x (List.mem_cons_of_mem _ hx)]
/-! ### How many rules there are -/
def sN (f : Nat → Nat) : Nat → Nat
  | 0 => 0
  | n + 1 => sN f n + f n
theorem sN_add (f g : Nat → Nat) : ∀ n, sN (fun i => f i + g i) n = sN f n + sN g n
  | 0 => rfl
  | n + 1 => by have := sN_add f g n; simp only [sN]; omega
theorem sN_le {f : Nat → Nat} (h : ∀ i, f i ≤ 1) : ∀ n, sN f n ≤ n
  | 0 => Nat.le_refl _
  | n + 1 => by have := sN_le h n; have := h n; simp only [sN]; omega
theorem sN_congr {f g : Nat → Nat} : ∀ n, (∀ i, i < n → f i = g i) → sN f n = sN g n
  | 0, _ => rfl
  | n + 1, h => by simp only [sN]; rw [sN_congr n fun i hi => h i (by omega), h n (by omega)]
def tb : Nat → Nat
  | 0 => 0
  | n + 1 => tb n + n
theorem sN_pairs {f : Nat → Nat → Nat} (h1 : ∀ i k, f i k + f k i ≤ 1) (h2 : ∀ i, f i i = 0) : ∀ n, sN (fun i => sN (f i) n) n ≤ tb n
  | 0 => Nat.le_refl _
  | n + 1 => by
    have ih := sN_pairs h1 h2 n
    have e1 : sN (fun i => sN (f i) (n + 1)) n = sN (fun i => sN (f i) n) n + sN (fun i => f i n) n := by
      rw [← sN_add]
      exact sN_congr n fun i _ => rfl
    have e2 : sN (fun i => f i n) n + sN (f n) n ≤ n := by
      rw [← sN_add]
      exact sN_le (fun i => h1 i n) n
    have e3 := h2 n
    simp only [tb]
    show sN (fun i => sN (f i) (n + 1)) n + (sN (f n) n + f n n) ≤ _
    omega
theorem rowR_sum (ap : Int) (xs : List R4) (i : Nat) : ∀ k, (rowR ap xs i k).length = sN (fun k => (pairR ap xs i k).length) k
  | 0 => rfl
  | k + 1 => by rw [rowR_succ, List.length_append, rowR_sum ap xs i k]; rfl
theorem rulesR_sum (ap : Int) (xs : List R4) : ∀ i, (rulesR ap xs i).length = sN (fun i => sN (fun k => (pairR ap xs i k).length) xs.length) i
  | 0 => by simp [rulesR, sN]
  | i + 1 => by rw [rulesR_succ, List.length_append, rulesR_sum ap xs i, rowR_sum]; rfl
theorem rulesR_le (ap : Int) (xs : List R4) : (rulesR ap xs xs.length).length ≤ tb xs.length := by
  rw [rulesR_sum]
  refine sN_pairs (f := fun i k => (pairR ap xs i k).length) (fun i k => ?_) (fun i => ?_) _
  · have l1 := pairR_len ap xs i k
    have l2 := pairR_len ap xs k i
    by_cases h : (xs.getD i default).a < (xs.getD k default).a
    · have : pairR ap xs k i = [] := pairR_no fun q => by omega
      simp only [this, List.length_nil]
      omega
    · have : pairR ap xs i k = [] := pairR_no fun q => h q.1
      simp only [this, List.length_nil]
      omega
  · have : pairR ap xs i i = [] := pairR_no fun q => by omega
    simp only [this, List.length_nil]
theorem rulesR_mem {ap : Int} {xs : List R4} {n : Nat} {r : R3} (h : r ∈ rulesR ap xs n) : ∃ i k, i < n ∧ k < xs.length ∧ (xs.getD i default).a < (xs.getD k default).a ∧ meet1 (xs.getD i default).b (xs.getD i default).d (xs.getD k default).b (xs.getD k default).d = true ∧ r = ⟨i, k, (xs.getD i default).c + ap⟩ := by
  unfold rulesR rowR at h
  simp only [List.mem_flatMap, List.mem_range] at h
  obtain ⟨i, hi, k, hk, hr⟩ := h
  unfold pairR at hr
  split at hr
  · next hc => exact ⟨i, k, hi, hk, hc.1, hc.2, by simpa using hr⟩
  · cases hr
theorem rulesR_has {ap : Int} {xs : List R4} {n i k : Nat} (hi : i < n) (hk : k < xs.length) (h1 : (xs.getD i default).a < (xs.getD k default).a) (h2 : meet1 (xs.getD i default).b (xs.getD i default).d (xs.getD k default).b (xs.getD k default).d = true) : (⟨i, k, (xs.getD i default).c + ap⟩ : R3) ∈ rulesR ap xs n := by
  unfold rulesR rowR
  simp only [List.mem_flatMap, List.mem_range]
  exact ⟨i, hi, k, hk, by rw [pairR_yes h1 h2]; simp⟩

/-! ### Shapes that a test draws -/
abbrev smallS (s : R4) : Prop := (0 ≤ s.a ∧ s.a ≤ 19) ∧ (0 ≤ s.b ∧ s.b ≤ 11) ∧ (1 ≤ s.c ∧ s.c ≤ 6) ∧ (1 ≤ s.d ∧ s.d ≤ 5)
structure Drawn (xs : List R4) : Prop where
  ok : okShapes xs = true
  len : xs.length ≤ 7
  small : ∀ i, i < xs.length → smallS (xs.getD i default)
theorem meet1_symm (a l b o : Int) : meet1 a l b o = meet1 b o a l := by
  unfold meet1
  exact Bool.and_comm _ _
theorem okShapes_apart {xs : List R4} (h : okShapes xs = true) {i k : Nat} (hi : i < xs.length) (hk : k < xs.length) (hne : i ≠ k) : meet (xs.getD i default) (xs.getD k default) = false := by
  have hall : ∀ i, i < xs.length → ∀ k, k < i → meet (xs.getD i default) (xs.getD k default) = false := fun i hi k hk => by
    simp only [okShapes, Bool.and_eq_true, List.all_eq_true, List.mem_range, okAt, Bool.not_eq_true'] at h
    refine (h.1 i hi).2 _ ?_
    rw [List.getD, List.getElem?_eq_getElem (show k < xs.length by omega)]
    exact List.mem_take_iff_getElem.2 ⟨k, by omega, rfl⟩
  have hsym : ∀ s t : R4, meet s t = meet t s := fun s t => by
    unfold meet
    rw [meet1_symm s.a, meet1_symm s.b]
  rcases Nat.lt_or_ge k i with hlt | hge
  · exact hall i hi k hlt
  · rw [hsym]
    exact hall k hk i (by omega)
theorem drawn_press {xs : List R4} (h : Drawn xs) {ap : Int} (h0 : 0 ≤ ap) (h3 : ap ≤ 3) : okPress xs.length (rulesR ap xs xs.length) = true := by
  obtain ⟨l1, l2, _⟩ := okShapes_bd h.ok
  have hr := rulesR_le ap xs
  have ht : tb xs.length ≤ 21 := by
    have : ∀ n, n < 8 → tb n ≤ 21 := by decide
    exact this _ (by have := h.len; omega)
  have hall : ∀ r ∈ rulesR ap xs xs.length, okRule xs.length r = true := fun r hr => by
    obtain ⟨i, k, hi, hk, c1, c2, rfl⟩ := rulesR_mem hr
    have s := h.small i hi
    have : i ≠ k := fun e => by subst e; omega
    simp only [okRule, Bool.and_eq_true, decide_eq_true_eq, Bool.not_eq_true', decide_eq_false_iff_not]
    omega
  simp only [okPress, Bool.and_eq_true, decide_eq_true_eq, List.all_eq_true]
  exact ⟨⟨⟨by omega, by omega⟩, by omega⟩, hall⟩
theorem drawn_least {xs : List R4} (h : Drawn xs) {ap : Int} (h0 : 0 ≤ ap) (h3 : ap ≤ 3) : ∃ L, leastR xs.length (rulesR ap xs xs.length) = some L ∧ L.length = xs.length ∧ ∀ i, 0 ≤ L.getD i 0 ∧ L.getD i 0 ≤ 190 := by
  have hp := drawn_press h h0 h3
  have hget : ∀ i, ((List.range xs.length).map fun i => 10 * (xs.getD i default).a).getD i 0 = if i < xs.length then 10 * (xs.getD i default).a else 0 := fun i => by
    by_cases hi : i < xs.length
    · rw [if_pos hi]; simp [List.getD, hi]
    · rw [if_neg hi]; simp [List.getD, hi]
  have hF0 : ∀ i, 0 ≤ ((List.range xs.length).map fun i => 10 * (xs.getD i default).a).getD i 0 ∧ ((List.range xs.length).map fun i => 10 * (xs.getD i default).a).getD i 0 ≤ 190 := fun i => by
    rw [hget]
    split
    · next hi => have := h.small i hi; omega
    · omega
  have hf : Feas (rulesR ap xs xs.length) ((List.range xs.length).map fun i => 10 * (xs.getD i default).a) := fun r hr => by
    obtain ⟨i, k, hi, hk, c1, c2, rfl⟩ := rulesR_mem hr
    have s := h.small i hi
    simp only [Int.toNat_natCast]
    rw [hget, hget, if_pos hi, if_pos hk]
    omega
  have hs := least_some hp (by simp) (fun i => (hF0 i).1) hf
  cases hl : leastR xs.length (rulesR ap xs xs.length) with
  | none => rw [hl] at hs; cases hs
  | some L =>
    have q := leastR_spec hp hl
    have k := least_le hp hl (fun i => (hF0 i).1) hf
    refine ⟨L, rfl, by simpa using q.1, fun i => ⟨q.2.1 i, ?_⟩⟩
    have := k i
    have := (hF0 i).2
    omega
theorem moved_len (xs : List R4) (L : List Int) : (moved xs L).length = xs.length := by simp [moved]
theorem moved_get {xs : List R4} {L : List Int} {i : Nat} (hi : i < xs.length) : (moved xs L).getD i default = movedAt xs L i := by
  simp [moved, List.getD, hi]
/-- What holds of shapes that have been drawn, and pressed. -/
structure Pressed (ap : Int) (xs : List R4) (L : List Int) : Prop where
  sh : shapeOk ap xs = true
  lp : least? xs.length (rulesR ap xs xs.length) = some L
  pr : press? ap xs = some (moved xs L)
  ag : press? ap (moved xs L) = some (moved xs L)
  ok1 : okShapes xs = true
  ok2 : okShapes (moved xs L) = true
  ll : L.length = xs.length
  far : ∀ i k, i < xs.length → k < xs.length → (xs.getD i default).a < (xs.getD k default).a → meet1 (xs.getD i default).b (xs.getD i default).d (xs.getD k default).b (xs.getD k default).d = true → L.getD i 0 + ((xs.getD i default).c + ap) ≤ L.getD k 0
  bd : ∀ i, 0 ≤ L.getD i 0 ∧ L.getD i 0 ≤ 190
theorem pressed {xs : List R4} (h : Drawn xs) {ap : Int} (h0 : 0 ≤ ap) (h3 : ap ≤ 3) : ∃ L, Pressed ap xs L := by
  have hp := drawn_press h h0 h3
  obtain ⟨L, hl, ll, hb⟩ := drawn_least h h0 h3
  have hfe := (leastR_spec hp hl).2.2.1
  have hsh : shapeOk ap xs = true := by
    simp only [shapeOk, Bool.and_eq_true, decide_eq_true_eq]
    exact ⟨⟨h.ok, h0, by omega⟩, hp⟩
  have far : ∀ i k, i < xs.length → k < xs.length → (xs.getD i default).a < (xs.getD k default).a → meet1 (xs.getD i default).b (xs.getD i default).d (xs.getD k default).b (xs.getD k default).d = true → L.getD i 0 + ((xs.getD i default).c + ap) ≤ L.getD k 0 := fun i k hi hk c1 c2 => by
    have := hfe _ (rulesR_has (ap := ap) hi hk c1 c2)
    simpa using this
  have hap : ∀ i k, i < xs.length → k < xs.length → i ≠ k → meet1 (xs.getD i default).b (xs.getD i default).d (xs.getD k default).b (xs.getD k default).d = true → (xs.getD i default).a + (xs.getD i default).c ≤ (xs.getD k default).a ∨ (xs.getD k default).a + (xs.getD k default).c ≤ (xs.getD i default).a := fun i k hi hk hne c2 => by
    have := okShapes_apart h.ok hi hk hne
    unfold meet at this
    rw [c2, Bool.and_true] at this
    simp only [meet1, Bool.and_eq_false_iff, decide_eq_false_iff_not] at this
    omega
  have hlt : ∀ i k, i < xs.length → k < xs.length → meet1 (xs.getD i default).b (xs.getD i default).d (xs.getD k default).b (xs.getD k default).d = true → (L.getD i 0 < L.getD k 0 ↔ (xs.getD i default).a < (xs.getD k default).a) := fun i k hi hk c2 => by
    have s1 := h.small i hi
    have s2 := h.small k hk
    constructor
    · intro q
      by_cases hne : i = k
      · subst hne; omega
      · rcases hap i k hi hk hne c2 with c | c
        · omega
        · have := far k i hk hi (by omega) (by rw [meet1_symm]; exact c2)
          omega
    · intro q
      have := far i k hi hk q c2
      omega
  have hpair : ∀ i k, i < xs.length → k < xs.length → pairR ap (moved xs L) i k = pairR ap xs i k := fun i k hi hk => by
    unfold pairR
    rw [moved_get hi, moved_get hk]
    simp only [movedAt]
    by_cases c2 : meet1 (xs.getD i default).b (xs.getD i default).d (xs.getD k default).b (xs.getD k default).d = true
    · simp only [c2, and_true, hlt i k hi hk c2]
    · simp only [c2, Bool.false_eq_true, and_false, if_false]
  have hrules : rulesR ap (moved xs L) (moved xs L).length = rulesR ap xs xs.length := by
    unfold rulesR rowR
    rw [moved_len]
    exact flatMap_cg fun i hi => flatMap_cg fun k hk => hpair i k (List.mem_range.1 hi) (List.mem_range.1 hk)
  have hok2 : okShapes (moved xs L) = true := by
    obtain ⟨l1, l2, _⟩ := okShapes_bd h.ok
    simp only [okShapes, Bool.and_eq_true, List.all_eq_true, List.mem_range, okAt, Bool.not_eq_true', decide_eq_true_eq]
    rw [moved_len]
    refine ⟨fun i hi => ⟨?_, fun t ht => ?_⟩, by omega, by omega⟩
    · rw [moved_get hi]
      have s := h.small i hi
      have := hb i
      simp only [okShape, movedAt, Bool.and_eq_true, decide_eq_true_eq]
      repeat' apply And.intro
      all_goals (apply decide_eq_true; omega)
    · obtain ⟨k, hk, rfl⟩ := List.mem_take_iff_getElem.1 ht
      rw [moved_len] at hk
      have hk1 : k < xs.length := by omega
      have e : (moved xs L)[k]'(by rw [moved_len]; omega) = (moved xs L).getD k default := by
        rw [List.getD, List.getElem?_eq_getElem (by rw [moved_len]; omega)]; rfl
      rw [e, moved_get hi, moved_get hk1]
      unfold meet
      simp only [movedAt]
      by_cases c2 : meet1 (xs.getD i default).b (xs.getD i default).d (xs.getD k default).b (xs.getD k default).d = true
      · rw [c2, Bool.and_true]
        simp only [meet1, Bool.and_eq_false_iff, decide_eq_false_iff_not]
        have s1 := h.small i hi
        have s2 := h.small k hk1
        rcases hap i k hi hk1 (by omega) c2 with c | c
        · have := far i k hi hk1 (by omega) c2
          omega
        · have := far k i hk1 hi (by omega) (by rw [meet1_symm]; exact c2)
          omega
      · rw [Bool.not_eq_true] at c2
        rw [c2, Bool.and_false]
  have hmm : moved (moved xs L) L = moved xs L := by
    unfold moved
    rw [List.length_map, List.length_range]
    refine List.map_congr_left fun i hi => ?_
    have hi := List.mem_range.1 hi
    have := moved_get (L := L) hi
    unfold moved at this
    simp only [movedAt, this]
  have hsh2 : shapeOk ap (moved xs L) = true := by
    simp only [shapeOk, Bool.and_eq_true, decide_eq_true_eq]
    exact ⟨⟨hok2, h0, by omega⟩, by rw [hrules, moved_len]; exact hp⟩
  refine ⟨L, hsh, ?_, ?_, ?_, h.ok, hok2, ll, far, hb⟩
  · unfold least?
    rw [if_pos hp, hl]
  · unfold press?
    rw [if_pos hsh, hl]
    rfl
  · unfold press?
    rw [if_pos hsh2, hrules, moved_len, hl]
    show some (moved (moved xs L) L) = _
    rw [hmm]
end Go.Sx.U
