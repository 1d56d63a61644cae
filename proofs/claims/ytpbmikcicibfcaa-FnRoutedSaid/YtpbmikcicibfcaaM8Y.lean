/-
  Chapter 8, plain: the greedy choice, the best choice.
-/
import Derived.Test.YtpbmikcicibfcaaM8X
namespace Go.Sx.M8
set_option linter.unusedVariables false
set_option linter.unusedSimpArgs false
open Go Go.Sx Go.Sx.U

theorem usedT_app {w h : Nat} {ns : List R4} {ks zs : List Int} : ∀ j, j ≤ ks.length → usedT w h ns (ks ++ zs) j = usedT w h ns ks j
  | 0, _ => rfl
  | j + 1, hj => by
    simp only [usedT]
    rw [usedT_app j (by omega), getD_app_l (by omega)]
theorem usedT_snoc {w h : Nat} {ns : List R4} {ks : List Int} {k : Int} : usedT w h ns (ks ++ [k]) (ks.length + 1) = useE 1 (usedT w h ns ks ks.length) (shapeOf (ns.getD ks.length default) k) := by
  simp only [usedT]
  rw [usedT_app _ (Nat.le_refl _)]
  congr 2
  simp [List.getD]
def ovF (A V : List (List Int)) (ns : List R4) (ks : List Int) : Int := overV A V (usedT (wN A) A.length ns ks ks.length)
theorem ovF_snoc {A V : List (List Int)} {ns : List R4} {ks : List Int} {k : Int} : ovF A V ns (ks ++ [k]) = overV A V (useE 1 (usedT (wN A) A.length ns ks ks.length) (shapeOf (ns.getD ks.length default) k)) := by
  unfold ovF
  rw [List.length_append, List.length_singleton, usedT_snoc]
theorem choice_snoc {w h : Nat} {ns : List R4} {ks : List Int} {k : Int} (hc : ChoiceOK w h ns ks) (hl : ks.length < ns.length) (hk : 0 ≤ k ∧ k < (shapesR (ns.getD ks.length default)).length) : ChoiceOK w h ns (ks ++ [k]) := by
  refine ⟨by simp; omega, hc.cel, fun i hi => ?_⟩
  by_cases e : i < ks.length
  · rw [getD_app_l e]; exact hc.ch i e
  · have : i = ks.length := by simp at hi; omega
    subst this
    rw [show (ks ++ [k]).getD ks.length 0 = k by simp [List.getD]]
    exact hk
theorem choice_nil {A V : List (List Int)} {ns : List R4} (h : netsB A V ns = true) : ChoiceOK (wN A) A.length ns [] := by
  obtain ⟨hg, _, hn⟩ := netsB_all h
  exact ⟨by simp, fun i hi => netR_cel hg (hn i hi), fun i hi => by simp at hi⟩
theorem overR_zero {r u : List Int} (h : ∀ x, x < r.length → u.getD x 0 ≤ r.getD x 0) : ∀ x, x ≤ r.length → overR r u x = 0
  | 0, _ => rfl
  | x + 1, hx => by have := h x (by omega); simp only [overR]; rw [overR_zero h x (by omega)]; omega
theorem overT_zero {R U : List (List Int)} (h : ∀ y, y < R.length → ∀ x, x < (R.getD y []).length → (U.getD y []).getD x 0 ≤ (R.getD y []).getD x 0) : ∀ y, y ≤ R.length → overT R U y = 0
  | 0, _ => rfl
  | y + 1, hy => by simp only [overT]; rw [overT_zero h y (by omega), overR_zero (h y (by omega)) _ (Nat.le_refl _)]; rfl
theorem rowsE_zero (n e y x : Nat) : ((rowsE n e 0).getD y []).getD x 0 = 0 := by
  by_cases hy : y < n
  · rw [show (rowsE n e 0).getD y [] = List.replicate e 0 by simp [rowsE, List.getD, hy]]
    by_cases hx : x < e <;> simp [List.getD, hx]
  · simp [rowsE, List.getD, hy]
theorem ovF_nil {A V : List (List Int)} (hg : gridB A V = true) (ns : List R4) : ovF A V ns [] = 0 := by
  obtain ⟨r1, r2, r3⟩ := grid_room hg
  show overT A (zeroU (wN A) A.length).1 A.length + overT V (zeroU (wN A) A.length).2 V.length = 0
  rw [overT_zero (fun y hy x hx => ?_) _ (Nat.le_refl _), overT_zero (fun y hy x hx => ?_) _ (Nat.le_refl _)]
  · rfl
  · have := (r3 y hy).2 x hx; simp only [zeroU]; rw [rowsE_zero]; omega
  · have := (r1 y hy).2 x hx; simp only [zeroU]; rw [rowsE_zero]; omega
theorem ovF_bd {A V : List (List Int)} (hg : gridB A V = true) {ns : List R4} {ks : List Int} (hl : ks.length ≤ 6) (hc : ChoiceOK (wN A) A.length ns ks) : 0 ≤ ovF A V ns ks ∧ ovF A V ns ks ≤ 1000000 := by
  have hd := used_dims hc ks.length (Nat.le_refl _)
  have hd2 : Dims (wN A) A.length 3456 (usedT (wN A) A.length ns ks ks.length) := ⟨rows_mono hd.a (by omega), rows_mono hd.u (by omega)⟩
  obtain ⟨b1, b2, _, _⟩ := over_bdA hg (by omega) hd2
  obtain ⟨g1, g2, g3⟩ := gridB_len hg
  obtain ⟨_, r2, _⟩ := grid_room hg
  have c1 := b1 A.length (Nat.le_refl _)
  have c2 := b2 V.length (Nat.le_refl _)
  unfold ovF overV
  omega

/-! ### The first least one -/
def pickT (f : Nat → Int) : Nat → Nat × Int
  | 0 => (0, -1)
  | k + 1 => if (decide ((pickT f k).2 < 0) || decide (f k < (pickT f k).2)) = true then (k, f k) else pickT f k
theorem pickT_succ (f : Nat → Int) (k : Nat) : pickT f (k + 1) = if (decide ((pickT f k).2 < 0) || decide (f k < (pickT f k).2)) = true then (k, f k) else pickT f k := rfl
theorem pickT_one (f : Nat → Int) : pickT f 1 = (0, f 0) := by simp [pickT]
theorem pick_spec {f : Nat → Int} (hf : ∀ k, 0 ≤ f k) : ∀ n, 0 < n → (pickT f n).2 = f (pickT f n).1 ∧ (pickT f n).1 < n ∧ ∀ k, k < n → f (pickT f n).1 ≤ f k
  | 0, h => absurd h (Nat.lt_irrefl 0)
  | n + 1, _ => by
    by_cases h0 : n = 0
    · subst h0
      rw [Nat.zero_add, pickT_one]
      refine ⟨rfl, by omega, fun k hk => ?_⟩
      rw [show k = 0 by omega]; exact Int.le_refl _
    · obtain ⟨h1, h2, h3⟩ := pick_spec hf n (by omega)
      rw [pickT_succ]
      split
      · rename_i hc
        simp only [Bool.or_eq_true, decide_eq_true_eq] at hc
        refine ⟨rfl, by simp only; omega, fun k hk => ?_⟩
        by_cases e : k = n
        · rw [e]; exact Int.le_refl _
        · have := h3 k (by omega)
          have := hf (pickT f n).1
          simp only
          rcases hc with hc | hc <;> omega
      · rename_i hc
        simp only [Bool.or_eq_true, decide_eq_true_eq, not_or] at hc
        refine ⟨h1, by omega, fun k hk => ?_⟩
        by_cases e : k = n
        · rw [e]; omega
        · exact h3 k (by omega)
theorem pick_lt (f : Nat → Int) : ∀ n, 0 < n → (pickT f n).1 < n
  | 0, h => absurd h (Nat.lt_irrefl 0)
  | n + 1, _ => by
    simp only [pickT]
    split
    · simp
    · by_cases e : n = 0
      · subst e; simp [pickT]
      · have := pick_lt f n (by omega); omega
def gT (A V : List (List Int)) (ns : List R4) : Nat → List Int × Int
  | 0 => ([], 0)
  | i + 1 => ((gT A V ns i).1 ++ [((pickT (fun k => ovF A V ns ((gT A V ns i).1 ++ [(k : Int)])) (shapesR (ns.getD i default)).length).1 : Int)], (pickT (fun k => ovF A V ns ((gT A V ns i).1 ++ [(k : Int)])) (shapesR (ns.getD i default)).length).2)
theorem gT_len (A V : List (List Int)) (ns : List R4) : ∀ i, (gT A V ns i).1.length = i
  | 0 => rfl
  | i + 1 => by simp [gT, gT_len A V ns i]
/-- What a candidate costs: never less than 0 (beyond the shapes there are, 0). -/
theorem gT_ok {A V : List (List Int)} {ns : List R4} (h : netsB A V ns = true) : ∀ i, i ≤ ns.length → ChoiceOK (wN A) A.length ns (gT A V ns i).1
  | 0, _ => choice_nil h
  | i + 1, hi => by
    have hl := gT_len A V ns i
    have ih := gT_ok h i (by omega)
    simp only [gT]
    refine choice_snoc ih (by omega) ⟨by omega, ?_⟩
    rw [hl]
    have hp : 1 ≤ (shapesR (ns.getD i default)).length := shapes_pos
    have := pick_lt (fun k => ovF A V ns ((gT A V ns i).1 ++ [(k : Int)])) _ hp
    exact_mod_cast this
/-- What is told of a pick depends on the costs of the candidates alone. -/
theorem pick_at {f : Nat → Int} {n : Nat} (hf : ∀ k, k < n → 0 ≤ f k) (hn : 0 < n) : (pickT f n).2 = f (pickT f n).1 ∧ ∀ k, k < n → f (pickT f n).1 ≤ f k := by
  have key : ∀ m, m ≤ n → pickT f m = pickT (fun k => if k < n then f k else 0) m := fun m => by
    induction m with
    | zero => intro _; rfl
    | succ m ih => intro hm; simp only [pickT_succ, ih (by omega), show m < n by omega, if_true]
  have h := pick_spec (f := fun k => if k < n then f k else 0) (fun k => by split; exact hf k (by assumption); exact Int.le_refl 0) n hn
  rw [key n (Nat.le_refl _)]
  simp only [h.2.1, if_true] at h
  exact ⟨h.1, fun k hk => by have := h.2.2 k hk; rwa [if_pos hk] at this⟩
theorem pick_bd {f : Nat → Int} {m : Int} : ∀ n, (∀ k, k < n → -1 ≤ f k ∧ f k ≤ m) → -1 ≤ m → -1 ≤ (pickT f n).2 ∧ (pickT f n).2 ≤ m
  | 0, _, h => ⟨by simp [pickT], h⟩
  | n + 1, hf, h => by
    simp only [pickT]
    split
    · exact hf n (by omega)
    · exact pick_bd n (fun k hk => hf k (by omega)) h
theorem cand_ok {A V : List (List Int)} {ns : List R4} (h : netsB A V ns = true) {i : Nat} (hi : i < ns.length) {k : Nat} (hk : k < (shapesR (ns.getD i default)).length) : ChoiceOK (wN A) A.length ns ((gT A V ns i).1 ++ [(k : Int)]) := by
  refine choice_snoc (gT_ok h i (by omega)) (by rw [gT_len]; exact hi) ?_
  rw [gT_len]
  omega
theorem cand_bd {A V : List (List Int)} {ns : List R4} (h : netsB A V ns = true) {i : Nat} (hi : i < ns.length) {k : Nat} (hk : k < (shapesR (ns.getD i default)).length) : 0 ≤ ovF A V ns ((gT A V ns i).1 ++ [(k : Int)]) ∧ ovF A V ns ((gT A V ns i).1 ++ [(k : Int)]) ≤ 1000000 := by
  obtain ⟨hg, hl, _⟩ := netsB_all h
  exact ovF_bd hg (by rw [List.length_append, gT_len]; simp; omega) (cand_ok h hi hk)
theorem gT_ov {A V : List (List Int)} {ns : List R4} (h : netsB A V ns = true) : ∀ i, i ≤ ns.length → (gT A V ns i).2 = ovF A V ns (gT A V ns i).1
  | 0, _ => by rw [show (gT A V ns 0).1 = [] from rfl, ovF_nil (netsB_all h).1]; rfl
  | i + 1, hi => (pick_at (f := fun k => ovF A V ns ((gT A V ns i).1 ++ [(k : Int)])) (fun k hk => (cand_bd h (by omega) hk).1) shapes_pos).1
end Go.Sx.M8
