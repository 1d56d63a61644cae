/-
  Chapter 10, plain: the least coupling of what is left of an order, and the order that it leads to.
-/
import Derived.Test.YtjojnolcohjebaaM0
namespace Go.Sx.M0
set_option linter.unusedVariables false
set_option linter.unusedSimpArgs false
open Go Go.Sx

/-! ### Sets of wires as bits -/
def unb : Nat → Nat → Nat
  | 0, _ => 0
  | n + 1, m => (if m.testBit n = true then 0 else 1) + unb n m
theorem bit_add (m w v : Nat) : (m ||| 2 ^ w).testBit v = (m.testBit v || decide (w = v)) := by
  rw [Nat.testBit_or, Nat.testBit_two_pow]
theorem unb_ge {m w : Nat} : ∀ {n : Nat}, n ≤ w → unb n (m ||| 2 ^ w) = unb n m
  | 0, _ => rfl
  | n + 1, h => by
    have ih := unb_ge (m := m) (w := w) (n := n) (by omega)
    simp only [unb, ih, bit_add, decide_eq_false (show ¬ w = n by omega), Bool.or_false]
theorem unb_add {m w : Nat} (hw : m.testBit w = false) : ∀ {n : Nat}, w < n → unb n (m ||| 2 ^ w) + 1 = unb n m
  | 0, h => by omega
  | n + 1, h => by
    simp only [unb, bit_add]
    by_cases e : w = n
    · subst e
      rw [unb_ge (Nat.le_refl _), hw]
      simp
      omega
    · rw [decide_eq_false e, Bool.or_false]
      have := unb_add hw (n := n) (by omega)
      omega
theorem unb_zero {m : Nat} : ∀ {n : Nat}, unb n m = 0 ↔ ∀ w, w < n → m.testBit w = true
  | 0 => by simp [unb]
  | n + 1 => by
    simp only [unb]
    constructor
    · intro h w hw
      by_cases e : w = n
      · subst e
        cases hb : m.testBit w with
        | true => rfl
        | false => rw [hb] at h; simp at h
      · have h2 : unb n m = 0 := by omega
        exact unb_zero.1 h2 w (by omega)
    · intro h
      rw [if_pos (h n (by omega)), unb_zero.2 fun w hw => h w (by omega)]
theorem unb_le (m : Nat) : ∀ n, unb n m ≤ n
  | 0 => Nat.le_refl _
  | n + 1 => by
    have := unb_le m n
    simp only [unb]
    split <;> omega
theorem full_iff {n m : Nat} (hm : m < 2 ^ n) : unb n m = 0 ↔ m = 2 ^ n - 1 := by
  rw [unb_zero]
  constructor
  · intro h
    apply Nat.eq_of_testBit_eq
    intro i
    rw [Nat.testBit_two_pow_sub_one]
    by_cases hi : i < n
    · rw [h i hi, decide_eq_true hi]
    · rw [decide_eq_false hi]
      exact Nat.testBit_lt_two_pow (Nat.lt_of_lt_of_le hm (Nat.pow_le_pow_right (by omega) (by omega)))
  · rintro rfl w hw
    rw [Nat.testBit_two_pow_sub_one, decide_eq_true hw]
theorem add_lt {n m w : Nat} (hm : m < 2 ^ n) (hw : w < n) : m ||| 2 ^ w < 2 ^ n :=
  Nat.or_lt_two_pow hm (Nat.pow_lt_pow_right (by omega) hw)
theorem add_gt {m w : Nat} (hw : m.testBit w = false) : m < m ||| 2 ^ w := by
  refine Nat.lt_of_le_of_ne Nat.left_le_or fun e => ?_
  have := congrArg (fun x => Nat.testBit x w) e
  simp only [bit_add, hw, decide_true, Bool.or_true] at this
  cases this
theorem bit_lt {n m w : Nat} (hm : m < 2 ^ n) (h : m.testBit w = true) : w < n := by
  refine Classical.byContradiction fun hn => ?_
  rw [Nat.testBit_lt_two_pow (Nat.lt_of_lt_of_le hm (Nat.pow_le_pow_right (by omega) (by omega)))] at h
  cases h

/-! ### The least coupling of what is left -/
def candO (r c : Int) : Int := if r < 0 then -1 else r + c
def minO (b c : Int) : Int := if c < 0 then b else if b < 0 ∨ c < b then c else b
def stepG (m : Nat) (c : Nat → Int) (g : Nat → Nat → Int) (k : Nat) (b : Int) (w : Nat) : Int :=
  if m.testBit w = true then b else if 0 < k then minO (minO b (candO (g w k) (c w))) (candO (g w (k - 1)) 0) else minO b (candO (g w k) (c w))
def baseL (e : Int) (l k : Nat) : Int := if k = 0 ∧ (e < 0 ∨ (l : Int) = e) then 0 else -1
def Lv (W : List (List Int)) (e : Int) : Nat → Nat → Nat → Nat → Int
  | 0, _, l, k => baseL e l k
  | f + 1, m, l, k => (List.range W.length).foldl (stepG m (wt W l) (fun w k' => Lv W e f (m ||| 2 ^ w) w k') k) (-1)
def Lt (W : List (List Int)) (e : Int) (m l k : Nat) : Int := Lv W e (unb W.length m) m l k
def LtT (W : List (List Int)) (e : Int) (m l k j : Nat) : Int := (List.range j).foldl (stepG m (wt W l) (fun w k' => Lt W e (m ||| 2 ^ w) w k') k) (-1)
theorem foldl_cg {α β : Type} {f g : β → α → β} : ∀ {l : List α} {b : β}, (∀ x ∈ l, ∀ b, f b x = g b x) → l.foldl f b = l.foldl g b
  | [], _, _ => rfl
  | x :: r, b, h => by
    rw [List.foldl_cons, List.foldl_cons, h x (by simp)]
    exact foldl_cg fun y hy => h y (by simp [hy])
theorem Lt_base {W : List (List Int)} {e : Int} {m l k : Nat} (h : unb W.length m = 0) : Lt W e m l k = baseL e l k := by
  unfold Lt; rw [h]; rfl
theorem Lt_step {W : List (List Int)} {e : Int} {m l k : Nat} (h : unb W.length m ≠ 0) : Lt W e m l k = LtT W e m l k W.length := by
  obtain ⟨f, hf⟩ : ∃ f, unb W.length m = f + 1 := ⟨unb W.length m - 1, by omega⟩
  unfold Lt LtT
  rw [hf, Lv]
  refine foldl_cg fun w hw b => ?_
  have hwn := List.mem_range.1 hw
  unfold stepG
  by_cases hb : m.testBit w = true
  · rw [if_pos hb, if_pos hb]
  · rw [if_neg hb, if_neg hb]
    have hu := unb_add (m := m) (w := w) (by simpa using hb) hwn
    have e2 : unb W.length (m ||| 2 ^ w) = f := by omega
    simp only [Lt, e2]
theorem LtT_zero (W : List (List Int)) (e : Int) (m l k : Nat) : LtT W e m l k 0 = -1 := rfl
theorem LtT_succ (W : List (List Int)) (e : Int) (m l k j : Nat) : LtT W e m l k (j + 1) = stepG m (wt W l) (fun w k' => Lt W e (m ||| 2 ^ w) w k') k (LtT W e m l k j) j := by
  unfold LtT; rw [List.range_succ, List.foldl_append]; rfl

/-- A way on: the next wire, and what there is in all. -/
structure Cd (W : List (List Int)) (e : Int) (m l k w sh : Nat) (c : Int) : Prop where
  hw : w < W.length
  new : m.testBit w = false
  sh1 : sh ≤ 1
  shk : sh ≤ k
  ok : 0 ≤ Lt W e (m ||| 2 ^ w) w (k - sh)
  val : c = Lt W e (m ||| 2 ^ w) w (k - sh) + if sh = 0 then wt W l w else 0
/-- What a scan over some ways has found. -/
def MinIs (D : Nat → Nat → Int → Prop) (b : Int) : Prop := (b = -1 ∧ ∀ w sh c, ¬ D w sh c) ∨ (0 ≤ b ∧ (∃ w sh, D w sh b) ∧ ∀ w sh c, D w sh c → b ≤ c)
theorem MinIs.take {D D' : Nat → Nat → Int → Prop} {b r cost : Int} (h : MinIs D b) (hc : 0 ≤ cost) {w0 sh0 : Nat} (hD : ∀ w sh c, D' w sh c ↔ D w sh c ∨ (w = w0 ∧ sh = sh0 ∧ 0 ≤ r ∧ c = r + cost)) : MinIs D' (minO b (candO r cost)) := by
  unfold candO minO
  by_cases hr : r < 0
  · rw [if_pos hr, if_pos (by omega)]
    have e : ∀ w sh c, D' w sh c ↔ D w sh c := fun w sh c => (hD w sh c).trans ⟨fun h => h.elim id fun ⟨_, _, h, _⟩ => by omega, .inl⟩
    rcases h with ⟨h1, h2⟩ | ⟨h0, ⟨w, sh, h1⟩, h2⟩
    · exact .inl ⟨h1, fun w sh c hd => h2 w sh c ((e w sh c).1 hd)⟩
    · exact .inr ⟨h0, ⟨w, sh, (e w sh b).2 h1⟩, fun w sh c hd => h2 w sh c ((e w sh c).1 hd)⟩
  · rw [if_neg hr, if_neg (by omega)]
    rcases h with ⟨h1, h2⟩ | ⟨h0, ⟨w, sh, h1⟩, h2⟩
    · rw [if_pos (.inl (by omega))]
      exact .inr ⟨by omega, ⟨w0, sh0, (hD _ _ _).2 (.inr ⟨rfl, rfl, by omega, rfl⟩)⟩, fun w sh c hd => by
        rcases (hD _ _ _).1 hd with hd | ⟨_, _, _, rfl⟩
        · exact absurd hd (h2 _ _ _)
        · exact Int.le_refl _⟩
    · by_cases hlt : r + cost < b
      · rw [if_pos (.inr hlt)]
        exact .inr ⟨by omega, ⟨w0, sh0, (hD _ _ _).2 (.inr ⟨rfl, rfl, by omega, rfl⟩)⟩, fun w sh c hd => by
          rcases (hD _ _ _).1 hd with hd | ⟨_, _, _, rfl⟩
          · have := h2 _ _ _ hd; omega
          · exact Int.le_refl _⟩
      · rw [if_neg (by omega)]
        exact .inr ⟨h0, ⟨w, sh, (hD _ _ _).2 (.inl h1)⟩, fun w sh c hd => by
          rcases (hD _ _ _).1 hd with hd | ⟨_, _, _, rfl⟩
          · exact h2 _ _ _ hd
          · omega⟩
theorem wt_nn {W : List (List Int)} (hW : okW W) {i k : Nat} (hi : i < W.length) (hk : k < W.length) : 0 ≤ wt W i k ∧ wt W i k ≤ 1000 := by
  have := hW.2.2 i hi k hk; omega
theorem LtT_is {W : List (List Int)} (hW : okW W) {e : Int} {m l k : Nat} (hl : l < W.length) : ∀ {j : Nat}, j ≤ W.length → MinIs (fun w sh c => w < j ∧ Cd W e m l k w sh c) (LtT W e m l k j)
  | 0, _ => .inl ⟨rfl, fun w sh c h => by omega⟩
  | j + 1, hj => by
    have ih := LtT_is hW (e := e) (m := m) (k := k) hl (j := j) (by omega)
    rw [LtT_succ]
    unfold stepG
    have hc := wt_nn hW hl (show j < W.length by omega)
    by_cases hb : m.testBit j = true
    · rw [if_pos hb]
      have hh : ∀ w sh c, (w < j + 1 ∧ Cd W e m l k w sh c) ↔ (w < j ∧ Cd W e m l k w sh c) := fun w sh c => by
        constructor
        · rintro ⟨h1, h2⟩
          refine ⟨?_, h2⟩
          have : w ≠ j := fun e => by subst e; rw [h2.new] at hb; cases hb
          omega
        · rintro ⟨h1, h2⟩; exact ⟨by omega, h2⟩
      rcases ih with ⟨h1, h2⟩ | ⟨h0, ⟨w, sh, h1⟩, h2⟩
      · exact .inl ⟨h1, fun w sh c h => h2 w sh c ((hh _ _ _).1 h)⟩
      · exact .inr ⟨h0, ⟨w, sh, (hh _ _ _).2 h1⟩, fun w sh c h => h2 w sh c ((hh _ _ _).1 h)⟩
    · rw [if_neg hb]
      have hbf : m.testBit j = false := by simpa using hb
      have step0 : MinIs (fun w sh c => (w < j ∧ Cd W e m l k w sh c) ∨ (w = j ∧ sh = 0 ∧ 0 ≤ Lt W e (m ||| 2 ^ j) j k ∧ c = Lt W e (m ||| 2 ^ j) j k + wt W l j)) (minO (LtT W e m l k j) (candO (Lt W e (m ||| 2 ^ j) j k) (wt W l j))) :=
        ih.take hc.1 (w0 := j) (sh0 := 0) fun w sh c => Iff.rfl
      have cd0 : ∀ c, Cd W e m l k j 0 c ↔ (0 ≤ Lt W e (m ||| 2 ^ j) j k ∧ c = Lt W e (m ||| 2 ^ j) j k + wt W l j) := fun c =>
        ⟨fun h => ⟨h.ok, by have := h.val; rwa [if_pos rfl] at this⟩, fun h => ⟨by omega, hbf, by omega, by omega, h.1, by rw [if_pos rfl]; exact h.2⟩⟩
      by_cases hk : 0 < k
      · rw [if_pos hk]
        have cd1 : ∀ c, Cd W e m l k j 1 c ↔ (0 ≤ Lt W e (m ||| 2 ^ j) j (k - 1) ∧ c = Lt W e (m ||| 2 ^ j) j (k - 1) + 0) := fun c =>
          ⟨fun h => ⟨h.ok, by have := h.val; rwa [if_neg (by omega)] at this⟩, fun h => ⟨by omega, hbf, by omega, by omega, h.1, by rw [if_neg (by omega)]; exact h.2⟩⟩
        refine MinIs.take step0 (Int.le_refl 0) (w0 := j) (sh0 := 1) fun w sh c => ?_
        constructor
        · rintro ⟨h1, h2⟩
          by_cases hwj : w = j
          · subst hwj
            have h3 := h2.sh1
            rcases (by omega : sh = 0 ∨ sh = 1) with rfl | rfl
            · exact .inl (.inr ⟨rfl, rfl, (cd0 c).1 h2⟩)
            · exact .inr ⟨rfl, rfl, (cd1 c).1 h2⟩
          · exact .inl (.inl ⟨by omega, h2⟩)
        · rintro ((⟨h1, h2⟩ | ⟨rfl, rfl, h⟩) | ⟨rfl, rfl, h⟩)
          · exact ⟨by omega, h2⟩
          · exact ⟨by omega, (cd0 c).2 h⟩
          · exact ⟨by omega, (cd1 c).2 h⟩
      · rw [if_neg hk]
        have hh : ∀ w sh c, (w < j + 1 ∧ Cd W e m l k w sh c) ↔ ((w < j ∧ Cd W e m l k w sh c) ∨ (w = j ∧ sh = 0 ∧ 0 ≤ Lt W e (m ||| 2 ^ j) j k ∧ c = Lt W e (m ||| 2 ^ j) j k + wt W l j)) := fun w sh c => by
          constructor
          · rintro ⟨h1, h2⟩
            by_cases hwj : w = j
            · subst hwj
              have h3 := h2.shk
              have h4 : sh = 0 := by omega
              subst h4
              exact .inr ⟨rfl, rfl, (cd0 c).1 h2⟩
            · exact .inl ⟨by omega, h2⟩
          · rintro (⟨h1, h2⟩ | ⟨rfl, rfl, h⟩)
            · exact ⟨by omega, h2⟩
            · exact ⟨by omega, (cd0 c).2 h⟩
        rcases step0 with ⟨h1, h2⟩ | ⟨h0, ⟨w, sh, h1⟩, h2⟩
        · exact .inl ⟨h1, fun w sh c h => h2 w sh c ((hh _ _ _).1 h)⟩
        · exact .inr ⟨h0, ⟨w, sh, (hh _ _ _).2 h1⟩, fun w sh c h => h2 w sh c ((hh _ _ _).1 h)⟩
theorem Lt_is {W : List (List Int)} (hW : okW W) {e : Int} {m l k : Nat} (hl : l < W.length) (h : unb W.length m ≠ 0) : MinIs (Cd W e m l k) (Lt W e m l k) := by
  have hi := LtT_is hW (e := e) (m := m) (k := k) hl (Nat.le_refl W.length)
  rw [← Lt_step h] at hi
  have hh : ∀ w sh c, Cd W e m l k w sh c ↔ (w < W.length ∧ Cd W e m l k w sh c) := fun w sh c => ⟨fun h => ⟨h.hw, h⟩, fun h => h.2⟩
  rcases hi with ⟨h1, h2⟩ | ⟨h0, ⟨w, sh, h1⟩, h2⟩
  · exact .inl ⟨h1, fun w sh c h => h2 w sh c ((hh _ _ _).1 h)⟩
  · exact .inr ⟨h0, ⟨w, sh, (hh _ _ _).2 h1⟩, fun w sh c h => h2 w sh c ((hh _ _ _).1 h)⟩

/-- Bounds. -/
theorem Lt_bd {W : List (List Int)} (hW : okW W) {e : Int} : ∀ (f m l k : Nat), unb W.length m = f → l < W.length → -1 ≤ Lt W e m l k ∧ Lt W e m l k ≤ 1000 * f
  | 0, m, l, k, hf, hl => by
    rw [Lt_base hf, baseL]
    split <;> omega
  | f + 1, m, l, k, hf, hl => by
    rcases Lt_is hW (e := e) (m := m) (k := k) hl (by omega) with ⟨h1, _⟩ | ⟨h0, ⟨w, sh, h1⟩, _⟩
    · omega
    · have hu := unb_add h1.new h1.hw
      have ih := Lt_bd hW (e := e) f (m ||| 2 ^ w) w (k - sh) (by omega) h1.hw
      have hv := h1.val
      have hc := wt_nn hW hl h1.hw
      split at hv <;> omega
theorem Lt_bd9 {W : List (List Int)} (hW : okW W) {e : Int} {m l k : Nat} (hl : l < W.length) : -1 ≤ Lt W e m l k ∧ Lt W e m l k ≤ 9000 := by
  have h1 := Lt_bd hW (e := e) (unb W.length m) m l k rfl hl
  have h2 := unb_le m W.length
  have := hW.1
  omega
theorem LtT_bd9 {W : List (List Int)} (hW : okW W) {e : Int} {m l k : Nat} (hl : l < W.length) {j : Nat} (hj : j ≤ W.length) : -1 ≤ LtT W e m l k j ∧ LtT W e m l k j ≤ 10000 := by
  rcases LtT_is hW (e := e) (m := m) (k := k) hl hj with ⟨h1, _⟩ | ⟨h0, ⟨w, sh, h1, h2⟩, _⟩
  · omega
  · have hb := Lt_bd9 hW (e := e) (m := m ||| 2 ^ w) (l := w) (k := k - sh) h2.hw
    have hv := h2.val
    have hc := wt_nn hW hl h2.hw
    split at hv <;> omega

/-- The wire at the end has a place already, and is not the last one: there is no order. -/
theorem Lt_dead {W : List (List Int)} (hW : okW W) {e : Int} (he : 0 ≤ e) : ∀ (f m l k : Nat), unb W.length m = f → l < W.length → m.testBit e.toNat = true → (l : Int) ≠ e → Lt W e m l k = -1
  | 0, m, l, k, hf, hl, hm, hle => by
    rw [Lt_base hf, baseL, if_neg]
    rintro ⟨_, h | h⟩
    · omega
    · exact hle h
  | f + 1, m, l, k, hf, hl, hm, hle => by
    rcases Lt_is hW (e := e) (m := m) (k := k) hl (by omega) with ⟨h1, _⟩ | ⟨h0, ⟨w, sh, h1⟩, _⟩
    · exact h1
    · have hu := unb_add h1.new h1.hw
      have hwe : (w : Int) ≠ e := fun h => by
        have := h1.new
        rw [← h, Int.toNat_natCast, this] at hm
        cases hm
      have ih := Lt_dead hW he f (m ||| 2 ^ w) w (k - sh) (by omega) h1.hw (by rw [bit_add, hm]; rfl) hwe
      have := h1.ok
      omega
/-- Ways that the program leaves out lead nowhere. -/
theorem Lt_skip {W : List (List Int)} (hW : okW W) {e : Int} (he : 0 ≤ e) {m w : Nat} (hm : m < 2 ^ W.length) (hw : w < W.length) (hnew : m.testBit w = false) (h : ((w : Int) = e) ↔ ¬ (m ||| 2 ^ w = 2 ^ W.length - 1)) (k : Nat) : Lt W e (m ||| 2 ^ w) w k = -1 := by
  have hfull := full_iff (add_lt hm hw)
  by_cases hwe : (w : Int) = e
  · have hnf : unb W.length (m ||| 2 ^ w) ≠ 0 := fun h0 => h.1 hwe (hfull.1 h0)
    rcases Lt_is hW (e := e) (m := m ||| 2 ^ w) (k := k) hw hnf with ⟨h1, _⟩ | ⟨h0, ⟨w', sh, h1⟩, _⟩
    · exact h1
    · exfalso
      have hm' : (m ||| 2 ^ w).testBit e.toNat = true := by
        rw [← hwe, Int.toNat_natCast, bit_add, decide_eq_true rfl, Bool.or_true]
      have hwe' : (w' : Int) ≠ e := fun h => by
        have := h1.new
        rw [← h, Int.toNat_natCast, this] at hm'
        cases hm'
      have := Lt_dead hW he _ (m ||| 2 ^ w ||| 2 ^ w') w' (k - sh) rfl h1.hw (by rw [bit_add, hm']; rfl) hwe'
      have := h1.ok
      omega
  · have hf : m ||| 2 ^ w = 2 ^ W.length - 1 := Classical.byContradiction fun hn => hwe (h.2 hn)
    rw [Lt_base (hfull.2 hf), baseL, if_neg]
    rintro ⟨_, h | h⟩
    · omega
    · exact hwe h

/-- There is an order. -/
structure Can (W : List (List Int)) (e : Int) (m l k : Nat) : Prop where
  hk : k ≤ unb W.length m
  he : 0 ≤ e → k = 0 ∧ e < W.length ∧ (unb W.length m = 0 → (l : Int) = e) ∧ (unb W.length m ≠ 0 → m.testBit e.toNat = false)
theorem unset {m : Nat} : ∀ {n : Nat}, unb n m ≠ 0 → ∃ w, w < n ∧ m.testBit w = false
  | n, h => by
    refine Classical.byContradiction fun hn => h (unb_zero.2 fun w hw => ?_)
    cases hb : m.testBit w with
    | true => rfl
    | false => exact absurd ⟨w, hw, hb⟩ hn
theorem Lt_can {W : List (List Int)} (hW : okW W) {e : Int} : ∀ (f m l k : Nat), unb W.length m = f → l < W.length → Can W e m l k → 0 ≤ Lt W e m l k
  | 0, m, l, k, hf, hl, hc => by
    rw [Lt_base hf, baseL, if_pos]
    · omega
    · have := hc.hk
      refine ⟨by omega, ?_⟩
      by_cases he : e < 0
      · exact .inl he
      · exact .inr ((hc.he (by omega)).2.2.1 hf)
  | f + 1, m, l, k, hf, hl, hc => by
    -- a wire that may come next
    have hw : ∃ w, w < W.length ∧ m.testBit w = false ∧ (0 ≤ e → (f = 0 → (w : Int) = e) ∧ (f ≠ 0 → (w : Int) ≠ e)) := by
      by_cases he : 0 ≤ e
      · obtain ⟨_, he2, _, he3⟩ := hc.he he
        have he4 := he3 (by omega)
        by_cases hf0 : f = 0
        · exact ⟨e.toNat, by omega, he4, fun _ => ⟨fun _ => by omega, fun h => absurd hf0 h⟩⟩
        · have hu := unb_add he4 (show e.toNat < W.length by omega)
          obtain ⟨w, h1, h2⟩ := unset (n := W.length) (m := m ||| 2 ^ e.toNat) (by omega)
          rw [bit_add, Bool.or_eq_false_iff] at h2
          exact ⟨w, h1, h2.1, fun _ => ⟨fun h => absurd h hf0, fun _ h => by
            have := of_decide_eq_false h2.2; omega⟩⟩
      · obtain ⟨w, h1, h2⟩ := unset (n := W.length) (m := m) (by omega)
        exact ⟨w, h1, h2, fun h => absurd h he⟩
    obtain ⟨w, hw1, hw2, hw3⟩ := hw
    have hu := unb_add hw2 hw1
    -- a shield if there are as many shields as places
    have key : ∀ sh, sh ≤ 1 → sh ≤ k → k - sh ≤ f → 0 ≤ Lt W e m l k := fun sh s1 s2 s3 => by
      have ih := Lt_can hW (e := e) f (m ||| 2 ^ w) w (k - sh) (by omega) hw1 ⟨by omega, fun he => by
        obtain ⟨k0, he2, _, he4⟩ := hc.he he
        refine ⟨by omega, he2, fun h0 => (hw3 he).1 (by omega), fun h0 => ?_⟩
        rw [bit_add, he4 (by omega), Bool.false_or]
        refine decide_eq_false fun h => (hw3 he).2 (by omega) (by omega)⟩
      have cd : Cd W e m l k w sh (Lt W e (m ||| 2 ^ w) w (k - sh) + if sh = 0 then wt W l w else 0) := ⟨hw1, hw2, s1, s2, ih, rfl⟩
      rcases Lt_is hW (e := e) (m := m) (k := k) hl (by omega) with ⟨h1, h2⟩ | ⟨h0, _, _⟩
      · exact absurd cd (h2 _ _ _)
      · exact h0
    by_cases hk : k ≤ f
    · exact key 0 (by omega) (by omega) (by omega)
    · have := hc.hk
      exact key 1 (by omega) (by omega) (by omega)

/-! ### The order -/
/-- From k shields to k', over a wire, without loss. -/
def nx (W : List (List Int)) (e : Int) (m l w k k' : Nat) : Bool :=
  decide (0 ≤ Lt W e (m ||| 2 ^ w) w k') && ((decide (k' = k) && decide (Lt W e (m ||| 2 ^ w) w k' + wt W l w = Lt W e m l k)) || (decide (k' + 1 = k) && decide (Lt W e (m ||| 2 ^ w) w k' = Lt W e m l k)))
def nxtK (W : List (List Int)) (e : Int) (K : List Nat) (m l w : Nat) : List Nat := (List.range 10).filter fun k' => K.any fun k => nx W e m l w k k'
def goodW (W : List (List Int)) (e : Int) (K : List Nat) (m l w : Nat) : Bool := !m.testBit w && !(nxtK W e K m l w).isEmpty
def firstW (W : List (List Int)) (e : Int) (K : List Nat) (m l : Nat) : Option Nat := (List.range W.length).find? (goodW W e K m l)
def fol (W : List (List Int)) (e : Int) : Nat → Nat → Nat → List Nat → List Int
  | 0, _, _, _ => []
  | f + 1, m, l, K => match firstW W e K m l with
    | none => []
    | some w => (w : Int) :: fol W e f (m ||| 2 ^ w) w (nxtK W e K m l w)
theorem nxtK_mem {W : List (List Int)} {e : Int} {K : List Nat} {m l w k' : Nat} : k' ∈ nxtK W e K m l w ↔ k' < 10 ∧ ∃ k ∈ K, nx W e m l w k k' = true := by
  simp [nxtK, List.mem_filter, List.any_eq_true]
/-- In the program's words. -/
theorem nx_iff {W : List (List Int)} {e : Int} {m l w k k' : Nat} (hw : w < W.length) (hn : m.testBit w = false) : nx W e m l w k k' = true ↔ ∃ sh, Cd W e m l k w sh (Lt W e m l k) ∧ k' = k - sh := by
  simp only [nx, Bool.and_eq_true, Bool.or_eq_true, decide_eq_true_eq]
  constructor
  · rintro ⟨h0, ⟨rfl, h⟩ | ⟨rfl, h⟩⟩
    · exact ⟨0, ⟨hw, hn, by omega, by omega, by simpa using h0, by rw [if_pos rfl]; simpa using h.symm⟩, by omega⟩
    · exact ⟨1, ⟨hw, hn, by omega, by omega, by simpa using h0, by rw [if_neg (by omega)]; simpa using h.symm⟩, by omega⟩
  · rintro ⟨sh, hc, rfl⟩
    refine ⟨hc.ok, ?_⟩
    have h1 := hc.sh1
    have h2 := hc.shk
    have hv := hc.val
    rcases (by omega : sh = 0 ∨ sh = 1) with rfl | rfl
    · rw [if_pos rfl] at hv
      exact .inl ⟨by omega, by simpa using hv.symm⟩
    · rw [if_neg (by omega)] at hv
      exact .inr ⟨by omega, by simpa using hv.symm⟩
/-- Where there is an order there is a next wire. -/
theorem firstW_some {W : List (List Int)} (hW : okW W) {e : Int} {K : List Nat} {m l : Nat} (hl : l < W.length) (hu : unb W.length m ≠ 0) {k : Nat} (hk : k ∈ K) (hk9 : k < 10) (h0 : 0 ≤ Lt W e m l k) :
    ∃ w, firstW W e K m l = some w ∧ w < W.length ∧ m.testBit w = false ∧ nxtK W e K m l w ≠ [] := by
  rcases Lt_is hW (e := e) (m := m) (k := k) hl hu with ⟨h1, _⟩ | ⟨_, ⟨w, sh, h1⟩, _⟩
  · omega
  · have hm : k - sh ∈ nxtK W e K m l w := nxtK_mem.2 ⟨by omega, k, hk, (nx_iff h1.hw h1.new).2 ⟨sh, h1, rfl⟩⟩
    have hg : goodW W e K m l w = true := by
      unfold goodW
      rw [h1.new]
      cases hq : nxtK W e K m l w with
      | nil => rw [hq] at hm; cases hm
      | cons _ _ => rfl
    cases hf : firstW W e K m l with
    | none => exact absurd hg (by have := List.find?_eq_none.1 hf w (List.mem_range.2 h1.hw); simpa using this)
    | some w' =>
      have h2 := List.find?_some hf
      have h3 := List.mem_range.1 (List.mem_of_find?_eq_some hf)
      unfold goodW at h2
      rw [Bool.and_eq_true, Bool.not_eq_true', Bool.not_eq_true'] at h2
      exact ⟨w', rfl, h3, h2.1, fun hn => by rw [hn] at h2; simp at h2⟩
end Go.Sx.M0
