/-
  Chapter 10, plain: the best order is the first of all that are as good; greedy shields; the tree bound.
-/
import Derived.Test.YtjojnolcohjebaaM1A
namespace Go.Sx.M0
set_option linter.unusedVariables false
set_option linter.unusedSimpArgs false
open Go Go.Sx

/-! ### The first order -/
def befL : List Int → List Int → Bool
  | a :: r, b :: s => if a = b then befL r s else decide (a < b)
  | _, _ => false
theorem fol_lex {W : List (List Int)} (hW : okW W) {e : Int} : ∀ (xs : List (Nat × Nat)) (f m l k : Nat) (K : List Nat) (c : Int), Pth W e m l k xs c → l < W.length → k ∈ K → (∀ k ∈ K, k ≤ 8) → c = Lt W e m l k → unb W.length m = f → befL (outP xs) (fol W e f m l K) = false
  | [], _, _, _, _, _, _, _, _, _, _, _, _ => rfl
  | (w, sh) :: xs, f, m, l, k, K, c, h, hl, hk, hK, hc, hf => by
    cases h with
    | @cons _ _ _ _ _ _ c' h1 h2 h3 h4 h5 =>
      have hu := unb_add h2 h1
      obtain ⟨f', rfl⟩ : ∃ f', f = f' + 1 := ⟨f - 1, by omega⟩
      obtain ⟨i1, i2⟩ := h5.le hW h1
      have hcd : Cd W e m l k w sh (Lt W e (m ||| 2 ^ w) w (k - sh) + if sh = 0 then wt W l w else 0) := ⟨h1, h2, h3, h4, i1, rfl⟩
      have hle : Lt W e m l k ≤ Lt W e (m ||| 2 ^ w) w (k - sh) + if sh = 0 then wt W l w else 0 := by
        rcases Lt_is hW (e := e) (m := m) (k := k) hl (by omega) with ⟨_, b2⟩ | ⟨_, _, b3⟩
        · exact (b2 _ _ _ hcd).elim
        · exact b3 _ _ _ hcd
      have hcd2 : Cd W e m l k w sh (Lt W e m l k) := ⟨h1, h2, h3, h4, i1, by omega⟩
      have hmem : k - sh ∈ nxtK W e K m l w := nxtK_mem.2 ⟨by have := hK k hk; omega, k, hk, (nx_iff h1 h2).2 ⟨sh, hcd2, rfl⟩⟩
      have hg : goodW W e K m l w = true := by
        unfold goodW
        rw [h2]
        cases hq : nxtK W e K m l w with
        | nil => rw [hq] at hmem; cases hmem
        | cons _ _ => rfl
      simp only [fol]
      cases hv : firstW W e K m l with
      | none => exact absurd hg (by have := List.find?_eq_none.1 hv w (List.mem_range.2 h1); simpa using this)
      | some v =>
        have hv2 := hv
        unfold firstW at hv2
        rw [List.find?_range_eq_some] at hv2
        have hvw : v ≤ w := Nat.le_of_not_lt fun hlt => by have := hv2.2.2 w hlt; rw [hg] at this; cases this
        simp only [outP, List.map_cons, befL]
        by_cases e1 : (w : Int) = (v : Int)
        · rw [if_pos e1]
          obtain rfl : w = v := by omega
          refine fol_lex hW xs f' (m ||| 2 ^ w) w (k - sh) _ c' h5 h1 hmem (fun k' hk' => ?_) (by omega) (by omega)
          obtain ⟨_, k0, hk0, hx⟩ := nxtK_mem.1 hk'
          obtain ⟨s', hc', rfl⟩ := (nx_iff h1 h2).1 hx
          have := hK k0 hk0
          omega
        · rw [if_neg e1]; exact decide_eq_false (by omega)
theorem folO_lex {W : List (List Int)} (hW : okW W) {e : Int} {cnt : Nat} (hc : cnt ≤ 8) {first : Int} {w : Nat} {xs : List (Nat × Nat)} (hw : w < W.length) (ha : first < 0 ∨ (w : Int) = first) (h : Pth W e (2 ^ w) w cnt xs (begL W e cnt first)) : befL ((w : Int) :: outP xs) (folO W e cnt first) = false := by
  have h1 := h.le hW hw
  have h2 : Lt W e (2 ^ w) w cnt = begL W e cnt first := by
    unfold begL at h1 ⊢
    rcases begT_is W e cnt first W.length with ⟨_, h2⟩ | ⟨h2, _, h3⟩
    · have := h2 w hw ha; omega
    · have := h3 w hw ha; omega
  have hg : begB W e cnt first w = true := by
    unfold begB
    rw [decide_eq_true ha, decide_eq_true h2]; rfl
  have hu := unb_one hw
  unfold folO
  cases hv : (List.range W.length).find? (begB W e cnt first) with
  | none => exact absurd hg (by have := List.find?_eq_none.1 hv w (List.mem_range.2 hw); simpa using this)
  | some v =>
    have hv2 := hv
    rw [List.find?_range_eq_some] at hv2
    have hvw : v ≤ w := Nat.le_of_not_lt fun hlt => by have := hv2.2.2 w hlt; rw [hg] at this; cases this
    simp only [befL]
    by_cases e1 : (w : Int) = (v : Int)
    · rw [if_pos e1]
      obtain rfl : w = v := by omega
      exact fol_lex hW xs (W.length - 1) (2 ^ w) w cnt [cnt] _ h hw (by simp) (by simpa using hc) h2.symm (by omega)
    · rw [if_neg e1]; exact decide_eq_false (by omega)

/-! ### Greedy shields -/
theorem gre_le {W : List (List Int)} (hW : okW W) {o : List Int} (ho : isO W.length o) {q : Nat → Bool} (hq : (lf q 0 (o.length - 1)).length ≤ o.length - 1) :
    coup W o (greT (cst W o) (o.length - 1) (lf q 0 (o.length - 1)).length) ≤ coup W o (lf q 0 (o.length - 1)) ∧ ∃ p, greT (cst W o) (o.length - 1) (lf q 0 (o.length - 1)).length = lf p 0 (o.length - 1) ∧ (lf p 0 (o.length - 1)).length = (lf q 0 (o.length - 1)).length := by
  have hN : o.length - 1 ≤ 8 := by have := hW.1; have := ho.1; omega
  obtain ⟨p, h1, h2, h3⟩ := gre_ok (cst W o) hN _ hq
  have hlq := len_lf q (o.length - 1) 0
  have hlp := len_lf p (o.length - 1) 0
  have k6 := dom_best (u := uu (cst W o) (o.length - 1)) (p := p) (q := q) h3 (by rw [h2, ← hlq])
  have v1 := vv_eq (cst W o) (o.length - 1) p
  have v2 := vv_eq (cst W o) (o.length - 1) q
  unfold vv at v1 v2
  have b1 := pw_lt (N := o.length - 1) p (o.length - 1) 0 (by omega)
  have b2 := pw_lt (N := o.length - 1) q (o.length - 1) 0 (by omega)
  have b3 := pwI_le hN
  have b4 := pwI_8
  refine ⟨?_, p, h1, by omega⟩
  rw [h1]
  unfold coup
  rw [coup_sf W o (o.length - 1) (Nat.le_refl _), coup_sf W o (o.length - 1) (Nat.le_refl _)]
  omega
theorem shd_is_lf : ∀ (xs : List (Nat × Nat)) (j : Nat), ∃ p, shd (j + 1) xs = lf p j xs.length
  | [], _ => ⟨fun _ => false, rfl⟩
  | (w, s) :: r, j => by
    obtain ⟨p, hp⟩ := shd_is_lf r (j + 1)
    refine ⟨fun i => if i = j then decide (s ≠ 0) else p i, ?_⟩
    have e : lf (fun i => if i = j then decide (s ≠ 0) else p i) (j + 1) r.length = lf p (j + 1) r.length := lf_congr _ _ fun i h1 h2 => by rw [if_neg (by omega)]
    simp only [shd, List.length_cons, lf, e, if_true, hp]
    by_cases hs : s = 0
    · simp [hs]
    · simp [hs]
/-! ### The laws' facts -/
/-- The coupling with the best shields. -/
abbrev shV (W : List (List Int)) (o : List Int) (cnt : Nat) : Int := coup W o (greT (cst W o) (o.length - 1) cnt)
theorem best_all {W : List (List Int)} (hW : okW W) {cnt : Nat} (hc : cnt + 1 ≤ W.length) {o : List Int} (ho : isO W.length o) :
    0 ≤ begL W (-1) cnt (-1) ∧ begL W (-1) cnt (-1) ≤ shV W o cnt ∧ (shV W o cnt = begL W (-1) cnt (-1) → befL o (folO W (-1) cnt (-1)) = false) := by
  have hN : o.length - 1 ≤ 8 := by have := hW.1; have := ho.1; omega
  have hol := ho.1
  obtain ⟨p, h1, h2, _⟩ := gre_ok (cst W o) hN cnt (by omega)
  have hlp := len_lf p (o.length - 1) 0
  have hl : (lf p 0 (o.length - 1)).length = cnt := by omega
  obtain ⟨w, xs, k1, k2, k3, k4, k5⟩ := order_pth hW (e := -1) p ho (.inl (by omega))
  rw [hl, ← h1] at k5
  have k6 := beg_le hW (first := -1) k1 (.inl (by omega)) k5
  refine ⟨k6.1, k6.2, fun he => ?_⟩
  unfold shV at he
  rw [he] at k5
  have := folO_lex hW (by omega) (first := -1) k1 (.inl (by omega)) k5
  rw [← k3] at this
  exact this
theorem best_own {W : List (List Int)} (hW : okW W) {cnt : Nat} (hc : cnt + 1 ≤ W.length) : isO W.length (folO W (-1) cnt (-1)) ∧ shV W (folO W (-1) cnt (-1)) cnt = begL W (-1) cnt (-1) := by
  have h0 := (best_all hW hc (iota_isO W.length)).1
  obtain ⟨w, xs, k1, _, k2, k3⟩ := beg_fol hW (by have := hW.1; omega) h0
  obtain ⟨k4, _, k5⟩ := pth_order hW k1 k2
  rw [← k3] at k4 k5
  refine ⟨k4, ?_⟩
  have hle := (best_all hW hc k4).2.1
  obtain ⟨p, hp⟩ := shd_is_lf xs 0
  have hlen : (folO W (-1) cnt (-1)).length - 1 = xs.length := by rw [k3]; simp
  have hl := k2.shk 1
  rw [hp] at hl k5
  have hg := (gre_le hW k4 (q := p) (by rw [hlen, hl]; have := k4.1; omega)).1
  rw [hlen, hl] at hg
  unfold shV at hle ⊢
  rw [hlen] at hle ⊢
  omega
theorem lf_none : ∀ (m j : Nat), lf (fun _ => false) j m = []
  | 0, _ => rfl
  | m + 1, j => by simp only [lf, Bool.false_eq_true, if_false]; exact lf_none m (j + 1)
theorem shV_zero (W : List (List Int)) (o : List Int) : shV W o 0 = coup W o [] := rfl
/-- Between two ends. -/
theorem between_all {W : List (List Int)} (hW : okW W) {f l : Int} {o : List Int} (ho : isO W.length o) (hf : o.getD 0 0 = f) (hl : o.getD (o.length - 1) 0 = l) : 0 ≤ begL W l 0 f ∧ begL W l 0 f ≤ coup W o [] := by
  obtain ⟨w, xs, k1, k2, k3, k4, k5⟩ := order_pth hW (e := l) (fun _ => false) ho (.inr hl)
  rw [lf_none] at k5
  exact beg_le hW k1 (.inr (by omega)) k5
theorem between_own {W : List (List Int)} (hW : okW W) {f l : Int} (hf : 0 ≤ f) (hl : 0 ≤ l) (h0 : 0 ≤ begL W l 0 f) : isO W.length (folO W l 0 f) ∧ (folO W l 0 f).getD 0 0 = f ∧ (folO W l 0 f).getD ((folO W l 0 f).length - 1) 0 = l ∧ coup W (folO W l 0 f) [] = begL W l 0 f := by
  obtain ⟨w, xs, k1, ka, k2, k3⟩ := beg_fol hW (by omega) h0
  obtain ⟨k4, k6, k5⟩ := pth_order hW k1 k2
  have hs := k2.shk 1
  rw [List.length_eq_zero_iff.1 hs] at k5
  rw [k3]
  exact ⟨k4, by simp; omega, by omega, k5⟩

/-! ### The tree bound -/
theorem cr_least {W : List (List Int)} (hW : okW W) {R : List Int} : ∀ (v : Nat) (i k : Nat), Cr W.length R i k → wt W i k = v → ∃ i k, Cr W.length R i k ∧ ∀ x y, Cr W.length R x y → wt W i k ≤ wt W x y := fun v => by
  induction v using Nat.strongRecOn with
  | ind v ih =>
    intro i k hc hv
    by_cases h : ∀ x y, Cr W.length R x y → wt W i k ≤ wt W x y
    · exact ⟨i, k, hc, h⟩
    · simp only [Classical.not_forall] at h
      obtain ⟨x, y, hxy, hlt⟩ := h
      have := wt_nn hW hxy.hi hxy.hk
      exact ih (wt W x y).toNat (by omega) x y hxy (by omega)
theorem pr_ex {W : List (List Int)} (hW : okW W) : ∀ n, 1 ≤ n → n ≤ W.length → ∃ R ms, PR W R ms ∧ R.length = n
  | 0, h, _ => by omega
  | 1, _, _ => ⟨[0], [], .base, rfl⟩
  | n + 2, _, h => by
    obtain ⟨R, ms, h1, h2⟩ := pr_ex hW (n + 1) (by omega) (by omega)
    obtain ⟨k, hk, hk'⟩ := left_out (n := W.length) (R := R) (by omega)
    have hn := hW.1
    have hc : Cr W.length R 0 k := ⟨by omega, hk, h1.zero, hk'⟩
    obtain ⟨i, k, hc, hm⟩ := cr_least hW (wt W 0 k).toNat 0 k hc (by have := wt_nn hW hc.hi hc.hk; omega)
    exact ⟨_, _, .step h1 hc hm, by simp [h2]⟩
theorem ord_reps {W : List (List Int)} (hW : okW W) {t : Int} {o : List Int} (ho : isO W.length o) : ∀ j, j < o.length → ∃ C : List Nat, (∀ i, i ≤ j → ∃ y ∈ C, Con W t (o.getD i 0).toNat y) ∧ C.length = above t ((List.range j).map (cst W o)) + 1
  | 0, _ => ⟨[(o.getD 0 0).toNat], fun i hi => by
      obtain rfl : i = 0 := by omega
      exact ⟨_, by simp, .refl⟩, rfl⟩
  | j + 1, h => by
    obtain ⟨C, h1, h2⟩ := ord_reps hW ho (t := t) j (by omega)
    have g1 := isO_get ho (i := j) (by have := ho.1; omega)
    have g2 := isO_get ho (i := j + 1) (by have := ho.1; omega)
    rw [List.range_succ, List.map_append, above_app]
    simp only [List.map_cons, List.map_nil, above]
    by_cases hc : t < cst W o j
    · rw [if_pos hc]
      refine ⟨C ++ [(o.getD (j + 1) 0).toNat], fun i hi => ?_, by simp [h2]⟩
      by_cases e : i = j + 1
      · subst e; exact ⟨_, by simp, .refl⟩
      · obtain ⟨y, hy, hy2⟩ := h1 i (by omega)
        exact ⟨y, by simp [hy], hy2⟩
    · rw [if_neg hc]
      refine ⟨C, fun i hi => ?_, by omega⟩
      by_cases e : i = j + 1
      · subst e
        obtain ⟨y, hy, hy2⟩ := h1 j (by omega)
        refine ⟨y, hy, ?_⟩
        have hs := hW.2.2 (o.getD j 0).toNat (by omega) (o.getD (j + 1) 0).toNat (by omega)
        have hc2 : wt W (o.getD j 0).toNat (o.getD (j + 1) 0).toNat ≤ t := by unfold cst at hc; omega
        exact (Con.step .refl (by omega) (by omega) (by omega)).trans hy2
      · exact h1 i (by omega)
theorem cap_le {ms ws : List Int} (h1 : ∀ m ∈ ms, 0 ≤ m ∧ m ≤ 1000) (h2 : ∀ m ∈ ws, 0 ≤ m ∧ m ≤ 1000) (h : ∀ t : Int, above t ms ≤ above t ws) : sumI ms ≤ sumI ws := by
  have key : ∀ B : Nat, capS B ms ≤ capS B ws := fun B => by
    induction B with
    | zero => rw [show ((0 : Nat) : Int) = 0 from rfl, capS_zero h1, capS_zero h2]; omega
    | succ B ih => rw [show ((B + 1 : Nat) : Int) = (B : Int) + 1 by omega, capS_succ, capS_succ]; have := h B; omega
  have := key 1000
  rw [show ((1000 : Nat) : Int) = 1000 from rfl, capS_full h1, capS_full h2] at this
  exact this
theorem sum_cst (W : List (List Int)) (o : List Int) : ∀ j, sumI ((List.range j).map (cst W o)) = coupT W o [] j
  | 0 => rfl
  | j + 1 => by
    rw [List.range_succ, List.map_append, sumI_app, sum_cst W o j]
    simp only [List.map_cons, List.map_nil, sumI, coupT]
    rw [if_neg (by simp)]; omega
theorem tree_le {W : List (List Int)} (hW : okW W) {R ms : List Int} (h : PR W R ms) (hl : R.length = W.length) {o : List Int} (ho : isO W.length o) : sumI ms ≤ coup W o [] := by
  have hn := hW.1
  have hol := ho.1
  unfold coup
  rw [← sum_cst]
  refine cap_le (h.ms hW) (fun m hm => ?_) fun t => ?_
  · obtain ⟨j, hj, rfl⟩ := List.mem_map.1 hm
    exact cst_bd hW ho.2.1 (by have := List.mem_range.1 hj; omega)
  · obtain ⟨C, hC, hCl⟩ := h.reps hW t
    obtain ⟨C', hC', hCl'⟩ := ord_reps (t := t) hW ho (o.length - 1) (by omega)
    have := reps_le hW (C := C) (C' := C') hC.apart fun x hx => by
      have hx2 := h.rng (by omega) _ (hC.sub x hx)
      have hm : (x : Int) ∈ o := by
        refine Classical.byContradiction fun hno => ?_
        have h1 := nodup_len W.length (R := (x : Int) :: o) (List.nodup_cons.2 ⟨hno, ho.2.2⟩) (fun y hy => by
          rcases List.mem_cons.1 hy with rfl | hy
          · exact hx2
          · exact ho.2.1 y hy)
        simp at h1; omega
      obtain ⟨i, hi, he⟩ := List.mem_iff_getElem.1 hm
      obtain ⟨y, hy, hy2⟩ := hC' i (by omega)
      refine ⟨y, hy, ?_⟩
      have : o.getD i 0 = (x : Int) := by rw [List.getD, List.getElem?_eq_getElem hi, Option.getD_some, he]
      rw [this] at hy2
      simpa using hy2
    omega
end Go.Sx.M0
