/-
  Chapter 10, plain: how the order is begun and followed.
-/
import Derived.Test.YtjojnolcohjebaaM0W
namespace Go.Sx.M0
set_option linter.unusedVariables false
set_option linter.unusedSimpArgs false
open Go Go.Sx

/-! ### The beginning -/
/-- The least coupling over the wires that may begin. -/
def begT (W : List (List Int)) (e : Int) (cnt : Nat) (first : Int) : Nat → Int
  | 0 => -1
  | j + 1 => if first < 0 ∨ (j : Int) = first then minO (begT W e cnt first j) (Lt W e (2 ^ j) j cnt) else begT W e cnt first j
def begL (W : List (List Int)) (e : Int) (cnt : Nat) (first : Int) : Int := begT W e cnt first W.length
theorem begT_is (W : List (List Int)) (e : Int) (cnt : Nat) (first : Int) : ∀ j, (begT W e cnt first j = -1 ∧ ∀ w, w < j → (first < 0 ∨ (w : Int) = first) → Lt W e (2 ^ w) w cnt < 0) ∨
    (0 ≤ begT W e cnt first j ∧ (∃ w, w < j ∧ (first < 0 ∨ (w : Int) = first) ∧ Lt W e (2 ^ w) w cnt = begT W e cnt first j) ∧ ∀ w, w < j → (first < 0 ∨ (w : Int) = first) → Lt W e (2 ^ w) w cnt < 0 ∨ begT W e cnt first j ≤ Lt W e (2 ^ w) w cnt)
  | 0 => .inl ⟨rfl, fun w h => by omega⟩
  | j + 1 => by
    have ih := begT_is W e cnt first j
    unfold begT
    by_cases ha : first < 0 ∨ (j : Int) = first
    · rw [if_pos ha]
      unfold minO
      by_cases hn : Lt W e (2 ^ j) j cnt < 0
      · rw [if_pos hn]
        rcases ih with ⟨h1, h2⟩ | ⟨h0, ⟨w, hw1, hw2, hw3⟩, h2⟩
        · refine .inl ⟨h1, fun w hw hal => ?_⟩
          by_cases e1 : w = j
          · subst e1; exact hn
          · exact h2 w (by omega) hal
        · refine .inr ⟨h0, ⟨w, by omega, hw2, hw3⟩, fun w hw hal => ?_⟩
          by_cases e1 : w = j
          · subst e1; exact .inl hn
          · exact h2 w (by omega) hal
      · rw [if_neg hn]
        rcases ih with ⟨h1, h2⟩ | ⟨h0, ⟨w, hw1, hw2, hw3⟩, h2⟩
        · rw [if_pos (.inl (by omega))]
          refine .inr ⟨by omega, ⟨j, by omega, ha, rfl⟩, fun w hw hal => ?_⟩
          by_cases e1 : w = j
          · subst e1; exact .inr (Int.le_refl _)
          · exact .inl (h2 w (by omega) hal)
        · by_cases hlt : Lt W e (2 ^ j) j cnt < begT W e cnt first j
          · rw [if_pos (.inr hlt)]
            refine .inr ⟨by omega, ⟨j, by omega, ha, rfl⟩, fun w hw hal => ?_⟩
            by_cases e1 : w = j
            · subst e1; exact .inr (Int.le_refl _)
            · have := h2 w (by omega) hal; omega
          · rw [if_neg (by omega)]
            refine .inr ⟨h0, ⟨w, by omega, hw2, hw3⟩, fun w hw hal => ?_⟩
            by_cases e1 : w = j
            · subst e1; omega
            · exact h2 w (by omega) hal
    · rw [if_neg ha]
      have hj : ∀ w, w < j + 1 → (first < 0 ∨ (w : Int) = first) → w < j := fun w hw hal => by
        have : w ≠ j := fun e1 => ha (e1 ▸ hal)
        omega
      rcases ih with ⟨h1, h2⟩ | ⟨h0, ⟨w, hw1, hw2, hw3⟩, h2⟩
      · exact .inl ⟨h1, fun w hw hal => h2 w (hj w hw hal) hal⟩
      · exact .inr ⟨h0, ⟨w, by omega, hw2, hw3⟩, fun w hw hal => h2 w (hj w hw hal) hal⟩
/-- May a wire be the first one? -/
def begB (W : List (List Int)) (e : Int) (cnt : Nat) (first : Int) (w : Nat) : Bool := decide (first < 0 ∨ (w : Int) = first) && decide (Lt W e (2 ^ w) w cnt = begL W e cnt first)
def folO (W : List (List Int)) (e : Int) (cnt : Nat) (first : Int) : List Int :=
  match (List.range W.length).find? (begB W e cnt first) with
  | none => []
  | some w => (w : Int) :: fol W e (W.length - 1) (2 ^ w) w [cnt]

/-! ### Lists of shields: what counts is what is in them -/
theorem nxtK_cg {W : List (List Int)} {e : Int} {K K' : List Nat} (h : ∀ x, x ∈ K ↔ x ∈ K') (m l w : Nat) : nxtK W e K m l w = nxtK W e K' m l w := by
  unfold nxtK
  congr 1
  funext k'
  rw [Bool.eq_iff_iff, List.any_eq_true, List.any_eq_true]
  exact ⟨fun ⟨k, h1, h2⟩ => ⟨k, (h k).1 h1, h2⟩, fun ⟨k, h1, h2⟩ => ⟨k, (h k).2 h1, h2⟩⟩
theorem fol_cg {W : List (List Int)} {e : Int} : ∀ {f m l : Nat} {K K' : List Nat}, (∀ x, x ∈ K ↔ x ∈ K') → fol W e f m l K = fol W e f m l K'
  | 0, _, _, _, _, _ => rfl
  | f + 1, m, l, K, K', h => by
    have hg : goodW W e K m l = goodW W e K' m l := by funext w; unfold goodW; rw [nxtK_cg h]
    have hn : nxtK W e K m l = nxtK W e K' m l := funext fun w => nxtK_cg h m l w
    simp only [fol, firstW, hg, hn]
theorem find_at {p : Nat → Bool} {n w : Nat} (hw : w < n) (hp : p w = true) (hb : ∀ v, v < w → p v = false) : (List.range n).find? p = some w := by
  rw [List.find?_range_eq_some]
  exact ⟨hp, by simpa using hw, fun j hj => by simp [hb j hj]⟩
theorem fol_at {W : List (List Int)} {e : Int} {f m l w : Nat} {K K' : List Nat} (hw : w < W.length) (hg : goodW W e K m l w = true) (hb : ∀ v, v < w → goodW W e K m l v = false) (hK : ∀ x, x ∈ K' ↔ x ∈ nxtK W e K m l w) :
    fol W e (f + 1) m l K = (w : Int) :: fol W e f (m ||| 2 ^ w) w K' := by
  have : firstW W e K m l = some w := find_at hw hg hb
  simp only [fol, this]
  rw [fol_cg fun x => (hK x).symm]

/-! ### A state of the search -/
structure FolP (W : List (List Int)) (e : Int) (cnt : Nat) (R : List Int) (o : List Int) (m l : Nat) (K : List Nat) : Prop where
  hm : m < 2 ^ W.length
  hl : l < W.length
  last : o.getD (o.length - 1) 0 = (l : Int)
  ne : o ≠ []
  len : o.length + unb W.length m = W.length
  Kne : K ≠ []
  Knd : K.Nodup
  Kle : ∀ k ∈ K, k ≤ cnt ∧ 0 ≤ Lt W e m l k
  res : o ++ fol W e (unb W.length m) m l K = R
theorem nodup_nat : ∀ (n : Nat) {R : List Nat}, R.Nodup → (∀ x ∈ R, x < n) → R.length ≤ n
  | 0, [], _, _ => Nat.le_refl _
  | 0, x :: _, _, h => by have := h x (by simp); omega
  | n + 1, R, hd, h => by
    by_cases hm : n ∈ R
    · have h1 := nodup_nat n (R := R.erase n) (hd.erase _) fun x hx => by
        obtain ⟨h2, h3⟩ := (List.Nodup.mem_erase_iff hd).1 hx
        have := h x h3; omega
      have h2 := List.length_erase_of_mem hm
      omega
    · have h1 := nodup_nat n hd fun x hx => by
        have := h x hx
        have : x ≠ n := fun e => hm (e ▸ hx)
        omega
      omega
/-- The next wire of a state. -/
theorem FolP.step {W : List (List Int)} {e : Int} {cnt : Nat} (hc : cnt ≤ 8) {R o : List Int} {m l : Nat} {K : List Nat} (h : FolP W e cnt R o m l K) {w : Nat} (hw : w < W.length) (hn : m.testBit w = false) {K' : List Nat} (hK : ∀ x, x ∈ K' ↔ x ∈ nxtK W e K m l w) (hne : K' ≠ []) (hnd : K'.Nodup)
    (hb : ∀ v, v < w → goodW W e K m l v = false) : FolP W e cnt R (o ++ [(w : Int)]) (m ||| 2 ^ w) w K' := by
  have hu := unb_add hn hw
  have hlen := h.len
  refine ⟨add_lt h.hm hw, hw, by simp [List.getD], by simp, by simp; omega, hne, hnd, fun k hk => ?_, ?_⟩
  · obtain ⟨_, k0, hk0, hx⟩ := nxtK_mem.1 ((hK k).1 hk)
    obtain ⟨sh, hcd, rfl⟩ := (nx_iff hw hn).1 hx
    have := (h.Kle k0 hk0).1
    exact ⟨by omega, hcd.ok⟩
  · rw [← h.res, List.append_assoc]
    congr 1
    have hg : goodW W e K m l w = true := by
      unfold goodW
      rw [hn]
      cases hq : nxtK W e K m l w with
      | nil =>
        obtain ⟨x, hx⟩ := List.exists_mem_of_ne_nil _ hne
        have := (hK x).1 hx
        rw [hq] at this; cases this
      | cons _ _ => rfl
    rw [show unb W.length m = unb W.length (m ||| 2 ^ w) + 1 by omega, fol_at hw hg hb hK]
    rfl
theorem FolP.start {W : List (List Int)} {e : Int} {cnt : Nat} {first : Int} (h0 : 0 ≤ begL W e cnt first) {w : Nat} (hw : w < W.length) (hg : begB W e cnt first w = true) (hb : ∀ v, v < w → begB W e cnt first v = false) : FolP W e cnt (folO W e cnt first) [(w : Int)] (2 ^ w) w [cnt] := by
  have hu := unb_add (n := W.length) (m := 0) (w := w) (by simp) hw
  rw [Nat.zero_or] at hu
  have hz : ∀ n, unb n 0 = n := fun n => by
    induction n with
    | zero => rfl
    | succ n ih => simp only [unb, ih]; simp; omega
  rw [hz] at hu
  have hlt : Lt W e (2 ^ w) w cnt = begL W e cnt first := by
    unfold begB at hg
    rw [Bool.and_eq_true, decide_eq_true_eq, decide_eq_true_eq] at hg
    exact hg.2
  refine ⟨Nat.pow_lt_pow_right (by omega) hw, hw, by simp, by simp, by simp; omega, by simp, by simp, fun k hk => ?_, ?_⟩
  · rw [List.mem_singleton.1 hk]; exact ⟨Nat.le_refl _, by omega⟩
  · unfold folO
    rw [find_at hw hg hb, show W.length - 1 = unb W.length (2 ^ w) by omega]
    rfl
/-- Somewhere there is a wire that may be next. -/
theorem FolP.next {W : List (List Int)} (hW : okW W) {e : Int} {cnt : Nat} (hc : cnt ≤ 8) {R o : List Int} {m l : Nat} {K : List Nat} (h : FolP W e cnt R o m l K) (hl : o.length < W.length) (hb : ∀ v, v < W.length → goodW W e K m l v = false) : False := by
  obtain ⟨k, hk⟩ := List.exists_mem_of_ne_nil _ h.Kne
  have := h.Kle k hk
  obtain ⟨w, h1, h2, h3, h4⟩ := firstW_some hW h.hl (show unb W.length m ≠ 0 by have := h.len; omega) hk (by omega) this.2
  have h5 := List.find?_some h1
  rw [hb w h2] at h5
  cases h5
theorem FolP.fin {W : List (List Int)} {e : Int} {cnt : Nat} {R o : List Int} {m l : Nat} {K : List Nat} (h : FolP W e cnt R o m l K) (hl : o.length = W.length) : o = R := by
  have h1 := h.res
  rw [show unb W.length m = 0 by have := h.len; omega] at h1
  simpa [fol] using h1
theorem beg_some {W : List (List Int)} {e : Int} {cnt : Nat} {first : Int} (h0 : 0 ≤ begL W e cnt first) : ∃ w, w < W.length ∧ begB W e cnt first w = true := by
  rcases begT_is W e cnt first W.length with ⟨h1, _⟩ | ⟨_, ⟨w, h1, h2, h3⟩, _⟩
  · unfold begL at h0; omega
  · exact ⟨w, h1, by unfold begB; rw [decide_eq_true h2, decide_eq_true (by unfold begL; exact h3)]; rfl⟩
end Go.Sx.M0
