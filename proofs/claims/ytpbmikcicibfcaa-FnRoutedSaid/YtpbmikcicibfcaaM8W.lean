/-
  Chapter 8, plain: choices.
-/
import Derived.Test.YtpbmikcicibfcaaM8V
namespace Go.Sx.M8
set_option linter.unusedVariables false
set_option linter.unusedSimpArgs false
open Go Go.Sx Go.Sx.U

def wN (A : List (List Int)) : Nat := (A.getD 0 []).length + 1
theorem wN_wd (A : List (List Int)) : wd A = (wN A : Nat) := by unfold wd wN; push_cast; rfl
def chR (r : R4) (k : Int) : Bool := decide (0 ≤ k) && decide (k ≤ ((shapesR r).length : Int) - 1)
def chAll (ns : List R4) (ks : List Int) : Nat → Bool
  | 0 => true
  | i + 1 => chAll ns ks i && chR (ns.getD i default) (ks.getD i 0)
def chB (A V : List (List Int)) (ns : List R4) (ks : List Int) : Bool := netsB A V ns && (decide ((ks.length : Int) = ns.length) && chAll ns ks ns.length)
theorem chAll_le {ns : List R4} {ks : List Int} {i : Nat} : ∀ j, i ≤ j → chAll ns ks j = true → chAll ns ks i = true
  | 0, h, e => by rw [show i = 0 by omega]; exact e
  | j + 1, h, e => by
    by_cases c : i = j + 1
    · rw [c]; exact e
    · simp only [chAll, Bool.and_eq_true] at e
      exact chAll_le j (by omega) e.1
theorem chAll_no {ns : List R4} {ks : List Int} {i n : Nat} (hi : i < n) (h : chR (ns.getD i default) (ks.getD i 0) = false) : chAll ns ks n = false := by
  cases e : chAll ns ks n with
  | false => rfl
  | true =>
    have := chAll_le (i := i + 1) n (by omega) e
    simp only [chAll, h, Bool.and_false] at this
    cases this
theorem cellB_lt {A : List (List Int)} {x y : Int} (h : cellB A x y = true) : x < (wN A : Nat) ∧ y < (A.length : Nat) := by
  simp only [cellB, Bool.and_eq_true, decide_eq_true_eq, wN_wd] at h
  omega
theorem netR_cel {A V : List (List Int)} (hg : gridB A V = true) {r : R4} (h : netR A r = true) : (cl r.a ∧ cl r.b ∧ cl r.c ∧ cl r.d) ∧ (r.a < (wN A : Nat) ∧ r.c < (wN A : Nat)) ∧ (r.b < (A.length : Nat) ∧ r.d < (A.length : Nat)) := by
  have h1 := netB_bd hg h
  simp only [netR, netB, Bool.and_eq_true] at h
  have h2 := cellB_lt h.1
  have h3 := cellB_lt h.2
  exact ⟨h1, ⟨h2.1, h3.1⟩, h2.2, h3.2⟩
theorem chB_ok {A V : List (List Int)} {ns : List R4} {ks : List Int} (h : chB A V ns ks = true) : ChoiceOK (wN A) A.length ns ks := by
  simp only [chB, Bool.and_eq_true, decide_eq_true_eq] at h
  obtain ⟨h1, h2, h3⟩ := h
  obtain ⟨hg, _, hn⟩ := netsB_all h1
  refine ⟨by omega, fun i hi => netR_cel hg (hn i hi), fun i hi => ?_⟩
  have := chAll_le (i := i + 1) ns.length (by omega) h3
  simp only [chAll, Bool.and_eq_true, chR, decide_eq_true_eq] at this
  omega
/-- The rooms of a grid that is valid. -/
theorem grid_room {A V : List (List Int)} (h : gridB A V = true) : (∀ y, y < A.length → (A.getD y []).length = wN A - 1 ∧ ∀ x, x < (A.getD y []).length → 0 ≤ (A.getD y []).getD x 0 ∧ (A.getD y []).getD x 0 ≤ 20) ∧ V.length = A.length - 1 ∧ (∀ y, y < V.length → (V.getD y []).length = wN A ∧ ∀ x, x < (V.getD y []).length → 0 ≤ (V.getD y []).getD x 0 ∧ (V.getD y []).getD x 0 ≤ 20) := by
  have h0 := (gridB_len h).1
  obtain ⟨rA, rV⟩ := gridB_rows h
  have rA := okRows_all rA
  have rV := okRows_all rV
  rw [wN_wd] at rA rV
  refine ⟨fun y hy => ⟨by have := (rA.2 y hy).1; omega, (rA.2 y hy).2⟩, by omega, fun y hy => ⟨by have := (rV.2 y hy).1; omega, (rV.2 y hy).2⟩⟩
theorem over_bdA {A V : List (List Int)} (h : gridB A V = true) {m : Int} {U : UU} (hm : 0 ≤ m) (hU : Dims (wN A) A.length m U) : (∀ y, y ≤ A.length → 0 ≤ overT A U.1 y ∧ overT A U.1 y ≤ m * 8 * y) ∧ (∀ y, y ≤ V.length → 0 ≤ overT V U.2 y ∧ overT V U.2 y ≤ m * 8 * y) ∧
    (∀ y, y < A.length → ∀ x, x ≤ (A.getD y []).length → 0 ≤ overR (A.getD y []) (U.1.getD y []) x ∧ overR (A.getD y []) (U.1.getD y []) x ≤ m * x) ∧ (∀ y, y < V.length → ∀ x, x ≤ (V.getD y []).length → 0 ≤ overR (V.getD y []) (U.2.getD y []) x ∧ overR (V.getD y []) (U.2.getD y []) x ≤ m * x) := by
  obtain ⟨r1, r2, r3⟩ := grid_room h
  have hw := (gridB_len h).2.2
  rw [wN_wd] at hw
  have q1 : ∀ y, y < A.length → ∀ x, x < (A.getD y []).length → 0 ≤ (A.getD y []).getD x 0 ∧ (U.1.getD y []).getD x 0 ≤ m := fun y hy x hx => ⟨((r1 y hy).2 x hx).1, (hU.a.bd y hy x (by rw [(r1 y hy).1] at hx; exact hx)).2⟩
  have q2 : ∀ y, y < V.length → ∀ x, x < (V.getD y []).length → 0 ≤ (V.getD y []).getD x 0 ∧ (U.2.getD y []).getD x 0 ≤ m := fun y hy x hx => ⟨((r3 y hy).2 x hx).1, (hU.u.bd y (by omega) x (by rw [(r3 y hy).1] at hx; exact hx)).2⟩
  exact ⟨overT_bd (e := 8) (fun y hy => ⟨by rw [(r1 y hy).1]; omega, q1 y hy⟩) hm, overT_bd (e := 8) (fun y hy => ⟨by rw [(r3 y hy).1]; omega, q2 y hy⟩) hm, fun y hy => overR_bd (q1 y hy) hm, fun y hy => overR_bd (q2 y hy) hm⟩
/-- Places on the way between two corners. -/
theorem path_mid {s : List R2} (ha : ∀ i, i + 1 < s.length → aligned (s.getD i default) (s.getD (i + 1) default)) {i j : Nat} (h : i + 1 < s.length) (hj : j < lineN (s.getD i default).a (s.getD i default).b (s.getD (i + 1) default).a (s.getD (i + 1) default).b) :
    (pathL s).getD ((linesT s i).length - 1 + j + 1) default = (lineL (s.getD i default).a (s.getD i default).b (s.getD (i + 1) default).a (s.getD (i + 1) default).b).getD j default := by
  obtain ⟨t, ht⟩ := linesT_pre s (i + 1) (s.length - 1) (by omega)
  have := linesT_pos s i
  have hl := lineL_len (s.getD i default).a (s.getD i default).b (s.getD (i + 1) default).a (s.getD (i + 1) default).b
  unfold pathL
  rw [ht, linesT, getD_app_l (by rw [List.length_append]; omega), show (linesT s i).length - 1 + j + 1 = (linesT s i).length + j by omega, getD_app_r]
end Go.Sx.M8
