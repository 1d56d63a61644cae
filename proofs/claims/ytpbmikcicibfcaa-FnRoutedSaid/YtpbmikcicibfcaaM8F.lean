/-
  Chapter 8, plain: what FnRouted asks.
-/
import Derived.Test.YtpbmikcicibfcaaM8G
import Derived.Test.YtpbmikcicibfcaaM8W
namespace Go.Sx.M8
set_option linter.unusedVariables false
set_option linter.unusedSimpArgs false
open Go Go.Sx Go.Sx.U

theorem vH_lt {s : Nat → Nat} {ks : List Int} : ∀ i, (∀ j, j < i → (ks.getD j 0).toNat < s j) → vH s ks i < pF s i
  | 0, _ => by simp [vH, pF]
  | i + 1, h => by
    have ih := vH_lt i fun j hj => h j (by omega)
    have hi := h i (by omega)
    rw [vH, pF]
    have : (vH s ks i + 1) * s i ≤ pF s i * s i := Nat.mul_le_mul_right _ ih
    rw [Nat.add_mul, Nat.one_mul] at this
    omega
/-- The best choice is no worse than any. -/
theorem best_choice {A V : List (List Int)} {ns : List R4} (h : netsB A V ns = true) (hs : ∀ i, i < ns.length → 1 ≤ sN ns i) (hd : ∀ k, ChoiceOK (wN A) A.length ns (dL (sN ns) ns.length k)) :
    (∃ k, (bT (ovF A V ns) (sN ns) ns.length (pF (sN ns) ns.length)).1 = dL (sN ns) ns.length k) ∧ (bT (ovF A V ns) (sN ns) ns.length (pF (sN ns) ns.length)).2 = ovF A V ns (bT (ovF A V ns) (sN ns) ns.length (pF (sN ns) ns.length)).1 ∧
      ∀ ks, ChoiceOK (wN A) A.length ns ks → ks.length = ns.length → (bT (ovF A V ns) (sN ns) ns.length (pF (sN ns) ns.length)).2 ≤ ovF A V ns ks := by
  obtain ⟨hg, hl, _⟩ := netsB_all h
  have hpos : 0 < pF (sN ns) ns.length := by
    rw [pF_eq]; exact pT_pos (n := ns.length) (fun i hi => hs i hi) _ _ (by omega)
  obtain ⟨⟨j, _, h1⟩, h2, h3⟩ := bT_best (f := ovF A V ns) (s := sN ns) (n := ns.length) (pF (sN ns) ns.length) (fun j _ => (ovF_bd hg (by rw [dL_len]; exact hl) (hd j)).1) hpos
  refine ⟨⟨j, h1⟩, h2, fun ks hc hk => ?_⟩
  have hv : ∀ i, i < ns.length → 0 ≤ ks.getD i 0 ∧ (ks.getD i 0).toNat < sN ns i := fun i hi => by
    have := hc.ch i (by omega)
    exact ⟨this.1, by unfold sN; omega⟩
  have := h3 (vH (sN ns) ks ns.length) (vH_lt _ fun j hj => (hv j hj).2)
  rwa [dL_vH hk hv] at this
/-- The sums over rows. -/
def rowS (W : List (List Int)) (n : Nat) : Int := ss (fun y => sumI (W.getD y [])) n
theorem rowS_rows {n e : Nat} {m : Int} {W : List (List Int)} (h : Rows n e m W) : rowS W n = ss (fun y => ss (fun x => (W.getD y []).getD x 0) e) n :=
  ss_cg n fun y hy => by rw [sumI_ss, h.each y hy]
/-- A net of a small grid has few shapes. -/
theorem sN_small {A : List (List Int)} {ns : List R4} {w g : Nat} (hw : wN A = w) (hg : A.length = g) (hw4 : w ≤ 4) (hg4 : g ≤ 4) {i : Nat} (h : ((ns.getD i default).a < w ∧ (ns.getD i default).c < w) ∧ ((ns.getD i default).b < g ∧ (ns.getD i default).d < g)) (hc : 0 ≤ (ns.getD i default).a ∧ 0 ≤ (ns.getD i default).b ∧ 0 ≤ (ns.getD i default).c ∧ 0 ≤ (ns.getD i default).d) : sN ns i ≤ 6 := by
  unfold sN shapesR
  rw [shapesV_len]
  split
  · omega
  · unfold lineN; omega
theorem pF_le {s : Nat → Nat} : ∀ n, (∀ i, i < n → s i ≤ 6) → pF s n ≤ 6 ^ n
  | 0, _ => by simp [pF]
  | n + 1, h => by
    rw [pF, Nat.pow_succ]
    exact Nat.mul_le_mul (pF_le n fun i hi => h i (by omega)) (h n (by omega))
theorem chAll_mk {ns : List R4} {ks : List Int} : ∀ n, (∀ i, i < n → 0 ≤ ks.getD i 0 ∧ ks.getD i 0 < (shapesR (ns.getD i default)).length) → chAll ns ks n = true
  | 0, _ => rfl
  | n + 1, h => by
    have h1 := h n (by omega)
    rw [chAll, chAll_mk n fun i hi => h i (by omega), Bool.true_and, chR, Bool.and_eq_true, decide_eq_true_eq, decide_eq_true_eq]
    omega
theorem chB_mk {A V : List (List Int)} {ns : List R4} {ks : List Int} (h : netsB A V ns = true) (hc : ChoiceOK (wN A) A.length ns ks) (hl : ks.length = ns.length) : chB A V ns ks = true := by
  rw [chB, h, Bool.true_and, Bool.and_eq_true, decide_eq_true_eq]
  exact ⟨by omega, chAll_mk _ fun i hi => hc.ch i (by omega)⟩
/-- What the law asks of a grid and its nets. -/
structure RoutedOK (A V : List (List Int)) (ns : List R4) (w g : Nat) : Prop where
  nets : netsB A V ns = true
  wn : wN A = w
  len : A.length = g
  lenV : V.length = g - 1
  few : pF (sN ns) ns.length ≤ 20000
  one : ∀ i, i < ns.length → 1 ≤ sN ns i ∧ sN ns i ≤ 14
theorem routed_mk {A V : List (List Int)} {ns : List R4} {w g : Nat} (hA : GR g (w - 1) A) (hV : GR (g - 1) w V) (hw : 1 ≤ w ∧ w ≤ 4) (hg : 1 ≤ g ∧ g ≤ 4) (hn : ns.length ≤ 4) (hr : ∀ r ∈ ns, netR A r = true) : RoutedOK A V ns w g := by
  obtain ⟨e1, e2, e3⟩ := grid_mk hA hV (by omega) (by omega)
  have hN : netsB A V ns = true := by
    simp only [netsB, e1, Bool.true_and, Bool.and_eq_true, decide_eq_true_eq, List.all_eq_true]
    exact ⟨by omega, hr⟩
  have hs : ∀ i, i < ns.length → sN ns i ≤ 6 := fun i hi => by
    obtain ⟨hg0, _, hnet⟩ := netsB_all hN
    have h1 := netR_cel hg0 (hnet i hi)
    rw [e2, e3] at h1
    obtain ⟨⟨a, b, c, d⟩, h2⟩ := h1
    exact sN_small e2 e3 (by omega) (by omega) h2 ⟨a.1, b.1, c.1, d.1⟩
  have h4 := pF_le ns.length hs
  have h5 : 6 ^ ns.length ≤ 6 ^ 4 := Nat.pow_le_pow_right (by omega) hn
  refine ⟨hN, e2, e3, hV.len, ?_, fun i hi => ⟨shapes_pos, ?_⟩⟩
  · have : (6 : Nat) ^ 4 = 1296 := by decide
    omega
  · have := hs i hi; omega
/-- The sums of what a choice uses. -/
theorem routed_use {A : List (List Int)} {ns : List R4} {ks : List Int} (hc : ChoiceOK (wN A) A.length ns ks) (hl : ks.length = ns.length) (U : UU) (hU : usedT (wN A) A.length ns ks ks.length = U) : rowS U.1 A.length + rowS U.2 (A.length - 1) = farS ns ∧ Dims (wN A) A.length (576 * ks.length) U := by
  have hd := used_dims hc ks.length (Nat.le_refl _)
  obtain ⟨h1, _, _⟩ := used_all hc ks.length (Nat.le_refl _)
  rw [hU] at hd h1
  rw [hl, List.take_of_length_le (Nat.le_refl _)] at h1
  exact ⟨by rw [rowS_rows hd.a, rowS_rows hd.u]; exact h1, hd⟩
theorem ss_bd2 {f : Nat → Int} {b : Int} : ∀ n, (∀ i, i < n → -b ≤ f i ∧ f i ≤ b) → -(b * n) ≤ ss f n ∧ ss f n ≤ b * n
  | 0, _ => by simp [ss]
  | n + 1, h => by
    have h1 := ss_bd2 n fun i hi => h i (by omega)
    have h2 := h n (by omega)
    have e : b * ((n + 1 : Nat) : Int) = b * n + b := by push_cast; rw [Int.mul_add, Int.mul_one]
    simp only [ss]
    omega
theorem sumI_bd2 {xs : List Int} {b : Int} (h : ∀ k, k < xs.length → -b ≤ xs.getD k 0 ∧ xs.getD k 0 ≤ b) : -(b * xs.length) ≤ sumI xs ∧ sumI xs ≤ b * xs.length := by
  rw [sumI_ss]
  exact ss_bd2 _ h
end Go.Sx.M8
