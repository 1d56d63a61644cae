/-
  Chapter 10, plain: ways with shields are orders with shields; the best order is the best of all.
-/
import Derived.Test.YtjojnolcohjebaaM0Z
import Derived.Test.YtjojnolcohjebaaM0U
import Derived.Test.YtjojnolcohjebaaM0V
import Derived.Test.YtjojnolcohjebaaM0T
namespace Go.Sx.M0
set_option linter.unusedVariables false
set_option linter.unusedSimpArgs false
open Go Go.Sx

/-- The places of the shields of a way that begins behind j wires. -/
def shd : Nat → List (Nat × Nat) → List Int
  | _, [] => []
  | j, (_, s) :: r => if s = 0 then shd (j + 1) r else (j : Int) :: shd (j + 1) r
theorem shd_ge : ∀ (xs : List (Nat × Nat)) (j : Nat) (x : Int), x ∈ shd j xs → (j : Int) ≤ x
  | [], _, x, h => by cases h
  | (_, s) :: r, j, x, h => by
    simp only [shd] at h
    split at h
    · have := shd_ge r (j + 1) x h; omega
    · rcases List.mem_cons.1 h with rfl | h
      · omega
      · have := shd_ge r (j + 1) x h; omega
theorem coup_snocS {W : List (List Int)} {o S : List Int} {x : Int} (h : 0 < o.length) : coup W (o ++ [x]) S = coup W o S + if (o.length : Int) ∈ S then 0 else wt W (o.getD (o.length - 1) 0).toNat x.toNat := by
  unfold coup
  obtain ⟨n, hn⟩ : ∃ n, o.length = n + 1 := ⟨o.length - 1, by omega⟩
  have e : cst W (o ++ [x]) n = wt W (o.getD (o.length - 1) 0).toNat x.toNat := by
    rw [cst]
    congr 2
    · rw [List.getD, List.getElem?_append_left (by omega), hn]; rfl
    · rw [List.getD, List.getElem?_append_right (by omega), hn, Nat.sub_self]; rfl
  rw [List.length_append, List.length_singleton, Nat.add_sub_cancel]
  have e2 : coupT W (o ++ [x]) S o.length = coupT W (o ++ [x]) S n + if (n : Int) + 1 ∈ S then 0 else cst W (o ++ [x]) n := by rw [hn]; rfl
  rw [e2, coupT_app n (by omega), e, show o.length - 1 = n by omega, show ((n : Int) + 1) = (o.length : Int) by omega]
theorem Pth.coupS {W : List (List Int)} {e : Int} {m l k : Nat} {xs : List (Nat × Nat)} {c : Int} (h : Pth W e m l k xs c) : ∀ o S : List Int, o ≠ [] → o.getD (o.length - 1) 0 = (l : Int) → (∀ p : Nat, o.length ≤ p → ((p : Int) ∈ S ↔ (p : Int) ∈ shd o.length xs)) → coup W (o ++ outP xs) S = coup W o S + c := by
  induction h with
  | nil _ _ => intro o S _ _ _; simp [outP]
  | @cons m l k w sh xs c h1 h2 h3 h4 h5 ih =>
    intro o S ho hl hS
    have hlen : (o ++ [(w : Int)]).length = o.length + 1 := by simp
    have h6 := ih (o ++ [(w : Int)]) S (by simp) (by simp [List.getD]) (fun p hp => by
      rw [hlen] at hp ⊢
      rw [hS p (by omega)]
      simp only [shd]
      split
      · exact Iff.rfl
      · rw [List.mem_cons]
        exact ⟨fun h => h.elim (fun h => by omega) id, .inr⟩)
    rw [List.append_assoc, coup_snocS (List.length_pos_iff.2 ho), hl] at h6
    have h8 : outP ((w, sh) :: xs) = [(w : Int)] ++ outP xs := rfl
    have hb : (o.length : Int) ∈ S ↔ sh ≠ 0 := by
      rw [hS _ (Nat.le_refl _)]
      simp only [shd]
      split
      · next h => exact ⟨fun h' => by have := shd_ge xs _ _ h'; omega, fun h' => absurd h h'⟩
      · next h => exact ⟨fun _ => h, fun _ => List.mem_cons_self⟩
    rw [h8, h6]
    simp only [Int.toNat_natCast]
    by_cases h9 : sh = 0
    · rw [if_pos h9, if_neg (fun h => hb.1 h h9)]; omega
    · rw [if_neg h9, if_pos (hb.2 h9)]; omega
theorem Pth.shk {W : List (List Int)} {e : Int} {m l k : Nat} {xs : List (Nat × Nat)} {c : Int} (h : Pth W e m l k xs c) : ∀ j, (shd j xs).length = k := by
  induction h with
  | nil _ _ => intro j; rfl
  | @cons m l k w sh xs c h1 h2 h3 h4 h5 ih =>
    intro j
    simp only [shd]
    split
    · rw [ih]; omega
    · rw [List.length_cons, ih]; omega
/-- Every order with every choice of shields is a way. -/
theorem pth_lf {W : List (List Int)} {e : Int} (p : Nat → Bool) : ∀ (ys : List Int) (m l j : Nat) (o : List Int), o.length = j + 1 → o.getD (o.length - 1) 0 = (l : Int) → SetIs W m o → isO W.length (o ++ ys) → (e < 0 ∨ (o ++ ys).getD ((o ++ ys).length - 1) 0 = e) → unb W.length m = ys.length → ∃ xs c, Pth W e m l (lf p j ys.length).length xs c ∧ outP xs = ys ∧ shd (j + 1) xs = lf p j ys.length
  | [], m, l, j, o, ho, hl, hs, _, he, hu => by
    rw [List.append_nil, hl] at he
    exact ⟨[], 0, .nil hu he, rfl, rfl⟩
  | y :: r, m, l, j, o, ho, hl, hs, hI, he, hu => by
    have hy := hI.2.1 y (by simp)
    obtain ⟨w, rfl⟩ : ∃ w : Nat, y = (w : Int) := ⟨y.toNat, by omega⟩
    have hw : w < W.length := by omega
    have hn : m.testBit w = false := by
      cases hb : m.testBit w with
      | false => rfl
      | true =>
        have h1 := (hs.bit w hw).1 hb
        have h2 := (List.nodup_append.1 hI.2.2).2.2 _ h1 _ List.mem_cons_self
        exact absurd rfl h2
    have hu2 := unb_add hn hw
    rw [show o ++ (w : Int) :: r = (o ++ [(w : Int)]) ++ r by simp] at hI he
    obtain ⟨xs, c, h1, h2, h3⟩ := pth_lf p r (m ||| 2 ^ w) w (j + 1) (o ++ [(w : Int)]) (by simp [ho]) (by simp [List.getD]) (hs.add hw hn) hI he (by simp only [List.length_cons] at hu; omega)
    cases hp : p j with
    | true =>
      have el : lf p j ((w : Int) :: r).length = ((j : Int) + 1) :: lf p (j + 1) r.length := by simp only [List.length_cons, lf, hp, if_true]
      have hP : Pth W e m l ((lf p (j + 1) r.length).length + 1) ((w, 1) :: xs) (c + if (1 : Nat) = 0 then wt W l w else 0) := .cons hw hn (by omega) (by omega) h1
      refine ⟨(w, 1) :: xs, c + if (1 : Nat) = 0 then wt W l w else 0, ?_, by rw [← h2]; rfl, ?_⟩
      · rw [el]; exact hP
      · rw [el, shd, h3, if_neg (by omega), show ((j + 1 : Nat) : Int) = (j : Int) + 1 by omega]
    | false =>
      have el : lf p j ((w : Int) :: r).length = lf p (j + 1) r.length := by simp only [List.length_cons, lf, hp, Bool.false_eq_true, if_false]
      have hP : Pth W e m l (lf p (j + 1) r.length).length ((w, 0) :: xs) (c + if (0 : Nat) = 0 then wt W l w else 0) := .cons hw hn (by omega) (by omega) h1
      refine ⟨(w, 0) :: xs, c + if (0 : Nat) = 0 then wt W l w else 0, ?_, by rw [← h2]; rfl, ?_⟩
      · rw [el]; exact hP
      · rw [el, shd, h3, if_pos rfl]
theorem unb_nil : ∀ n, unb n 0 = n
  | 0 => rfl
  | n + 1 => by simp only [unb, unb_nil n]; simp; omega
theorem set_one {W : List (List Int)} {w : Nat} (hw : w < W.length) : SetIs W (2 ^ w) [(w : Int)] := by
  have h : SetIs W 0 [] := ⟨by simp, by simp, fun v hv => by simp⟩
  have := h.add hw (by simp)
  rwa [Nat.zero_or] at this
theorem unb_one {W : List (List Int)} {w : Nat} (hw : w < W.length) : unb W.length (2 ^ w) + 1 = W.length := by
  have hu := unb_add (n := W.length) (m := 0) (w := w) (by simp) hw
  rwa [Nat.zero_or, unb_nil] at hu
/-- An order, with shields, from its first wire on. -/
theorem order_pth {W : List (List Int)} (hW : okW W) {e : Int} (p : Nat → Bool) {o : List Int} (ho : isO W.length o) (he : e < 0 ∨ o.getD (o.length - 1) 0 = e) :
    ∃ w xs, w < W.length ∧ o.getD 0 0 = (w : Int) ∧ o = (w : Int) :: outP xs ∧ shd 1 xs = lf p 0 (o.length - 1) ∧ Pth W e (2 ^ w) w (lf p 0 (o.length - 1)).length xs (coup W o (lf p 0 (o.length - 1))) := by
  obtain ⟨w0, r, rfl⟩ : ∃ x r, o = x :: r := by
    cases o with
    | nil => have := ho.1; have := hW.1; simp at *; omega
    | cons x r => exact ⟨x, r, rfl⟩
  have h0 := ho.2.1 w0 (by simp)
  obtain ⟨w, rfl⟩ : ∃ w : Nat, w0 = (w : Int) := ⟨w0.toNat, by omega⟩
  have hw : w < W.length := by omega
  have hu := unb_one hw
  have hl := ho.1
  simp only [List.length_cons] at hl
  obtain ⟨xs, c, h1, h2, h3⟩ := pth_lf (W := W) (e := e) p r (2 ^ w) w 0 [(w : Int)] rfl rfl (set_one hw) ho he (by omega)
  refine ⟨w, xs, hw, rfl, by rw [h2], h3, ?_⟩
  have h4 := h1.coupS [(w : Int)] (shd 1 xs) (by simp) rfl (fun p _ => Iff.rfl)
  rw [h2, h3] at h4
  have h5 : coup W [(w : Int)] (lf p 0 r.length) = 0 := rfl
  rw [h5, Int.zero_add] at h4
  simp only [List.length_cons, Nat.add_sub_cancel]
  rw [show (w : Int) :: r = [(w : Int)] ++ r from rfl, h4]
  exact h1
theorem beg_le {W : List (List Int)} (hW : okW W) {e : Int} {cnt : Nat} {first : Int} {w : Nat} {xs : List (Nat × Nat)} {c : Int} (hw : w < W.length) (ha : first < 0 ∨ (w : Int) = first) (h : Pth W e (2 ^ w) w cnt xs c) : 0 ≤ begL W e cnt first ∧ begL W e cnt first ≤ c := by
  have h1 := h.le hW hw
  unfold begL
  rcases begT_is W e cnt first W.length with ⟨_, h2⟩ | ⟨h2, _, h3⟩
  · have := h2 w hw ha; omega
  · have := h3 w hw ha; omega
theorem beg_fol {W : List (List Int)} (hW : okW W) {e : Int} {cnt : Nat} (hc : cnt ≤ 8) {first : Int} (h0 : 0 ≤ begL W e cnt first) :
    ∃ w xs, w < W.length ∧ (first < 0 ∨ (w : Int) = first) ∧ Pth W e (2 ^ w) w cnt xs (begL W e cnt first) ∧ folO W e cnt first = (w : Int) :: outP xs := by
  obtain ⟨w0, h1, h2⟩ := beg_some h0
  unfold folO
  cases hf : (List.range W.length).find? (begB W e cnt first) with
  | none => exact absurd h2 (by have := List.find?_eq_none.1 hf w0 (List.mem_range.2 h1); simpa using this)
  | some w =>
    have h3 := List.find?_some hf
    have h4 := List.mem_range.1 (List.mem_of_find?_eq_some hf)
    unfold begB at h3
    rw [Bool.and_eq_true, decide_eq_true_eq, decide_eq_true_eq] at h3
    have hu := unb_one h4
    obtain ⟨k, hk, xs, h5, h6⟩ := fol_path hW (e := e) (W.length - 1) (2 ^ w) w [cnt] (by omega) h4 (by simp) (fun k hk => by
      rw [List.mem_singleton.1 hk, h3.2]; exact ⟨hc, h0⟩)
    obtain rfl := List.mem_singleton.1 hk
    refine ⟨w, xs, h4, h3.1, by rw [← h3.2]; exact h5, ?_⟩
    simp only
    rw [← h6]
/-- The order of a way. -/
theorem pth_order {W : List (List Int)} (hW : okW W) {e : Int} {k w : Nat} (hw : w < W.length) {xs : List (Nat × Nat)} {c : Int} (h : Pth W e (2 ^ w) w k xs c) :
    isO W.length ((w : Int) :: outP xs) ∧ (e < 0 ∨ ((w : Int) :: outP xs).getD (((w : Int) :: outP xs).length - 1) 0 = e) ∧ coup W ((w : Int) :: outP xs) (shd 1 xs) = c := by
  obtain ⟨⟨m2, h1, h2⟩, h3⟩ := h.order [(w : Int)] (by simp) rfl (set_one hw)
  have h4 := h.coupS [(w : Int)] (shd 1 xs) (by simp) rfl (fun p _ => Iff.rfl)
  have h5 : coup W [(w : Int)] (shd 1 xs) = 0 := rfl
  rw [h5, Int.zero_add] at h4
  refine ⟨⟨?_, h2.rng, h2.nd⟩, h3, h4⟩
  have ha : W.length ≤ ((w : Int) :: outP xs).length := mem_all_len W.length _ fun k hk => (h2.bit k hk).1 (unb_zero.1 h1 k hk)
  have hb := nodup_len W.length h2.nd h2.rng
  exact Nat.le_antisymm hb ha
end Go.Sx.M0
