/-
  Chapter 8, plain: grids.
-/
import Derived.Test.YtpbmikcicibfcaaK1
namespace Go.Sx.M8
set_option linter.unusedVariables false
set_option linter.unusedSimpArgs false
open Go Go.Sx Go.Sx.U

def inR (n : Int) : Bool := decide (0 ≤ n) && decide (n ≤ 20)
def badRow (e : Int) (r : List Int) : Bool := decide ((r.length : Int) ≠ e) || r.any (fun n => !inR n)
/-- So many lists of so many rooms. -/
def okRows (m e : Int) (xss : List (List Int)) : Bool := decide ((xss.length : Int) = m) && !(xss.any (badRow e))
def wd (A : List (List Int)) : Int := ((A.getD 0 []).length : Int) + 1
def gridB (A V : List (List Int)) : Bool := decide (A.length ≠ 0) && (decide (wd A ≤ 8) && decide ((A.length : Int) ≤ 8) && okRows A.length (wd A - 1) A && okRows ((A.length : Int) - 1) (wd A) V)
theorem badRow_no {e : Int} {r : List Int} (h : (r.length : Int) = e) (h2 : r.any (fun n => !inR n) = false) : badRow e r = false := by simp [badRow, h, h2]
theorem okRows_yes {m e : Int} {xss : List (List Int)} (h : (xss.length : Int) = m) (h2 : xss.any (badRow e) = false) : okRows m e xss = true := by simp [okRows, h, h2]
theorem okRows_all {m e : Int} {xss : List (List Int)} (h : okRows m e xss = true) : (xss.length : Int) = m ∧ ∀ i, i < xss.length → ((xss.getD i []).length : Int) = e ∧ ∀ k, k < (xss.getD i []).length → 0 ≤ (xss.getD i []).getD k 0 ∧ (xss.getD i []).getD k 0 ≤ 20 := by
  simp only [okRows, Bool.and_eq_true, decide_eq_true_eq, Bool.not_eq_true'] at h
  refine ⟨h.1, fun i hi => ?_⟩
  have hb := (List.any_eq_false.1 h.2) _ (mem_of_getD (d := []) hi)
  simp only [badRow, Bool.not_eq_true, Bool.or_eq_false_iff, decide_eq_false_iff_not, ne_eq, Classical.not_not] at hb
  refine ⟨hb.1, fun k hk => ?_⟩
  have := (List.any_eq_false.1 hb.2) _ (mem_of_getD (d := 0) hk)
  simpa [inR] using this

/-! ### Grids of one number -/
def rowsE (m e : Nat) (n : Int) : List (List Int) := List.replicate m (List.replicate e n)
theorem rowsE_len (m e : Nat) (n : Int) : (rowsE m e n).length = m := by simp [rowsE]
theorem rowsE_succ (m e : Nat) (n : Int) : rowsE (m + 1) e n = rowsE m e n ++ [List.replicate e n] := by simp [rowsE, List.replicate_succ']
/-! ### Cells, nets, sums -/
def cellB (A : List (List Int)) (x y : Int) : Bool := (decide (0 ≤ x) && decide (x ≤ wd A - 1)) && (decide (0 ≤ y) && decide (y ≤ (A.length : Int) - 1))
def netB (A : List (List Int)) (a b c d : Int) : Bool := cellB A a b && cellB A c d
def netR (A : List (List Int)) (r : R4) : Bool := netB A r.a r.b r.c r.d
def netsB (A V : List (List Int)) (ns : List R4) : Bool := gridB A V && decide (ns.length ≤ 6) && ns.all (netR A)
theorem gridB_len {A V : List (List Int)} (h : gridB A V = true) : 0 < A.length ∧ A.length ≤ 8 ∧ wd A ≤ 8 := by
  simp only [gridB, Bool.and_eq_true, decide_eq_true_eq] at h
  omega
theorem gridB_rows {A V : List (List Int)} (h : gridB A V = true) : okRows A.length (wd A - 1) A = true ∧ okRows ((A.length : Int) - 1) (wd A) V = true := by
  simp only [gridB, Bool.and_eq_true] at h
  exact ⟨h.2.1.2, h.2.2⟩
theorem netB_bd {A V : List (List Int)} (h : gridB A V = true) {a b c d : Int} (hn : netB A a b c d = true) : (0 ≤ a ∧ a ≤ 7) ∧ (0 ≤ b ∧ b ≤ 7) ∧ (0 ≤ c ∧ c ≤ 7) ∧ (0 ≤ d ∧ d ≤ 7) := by
  have := gridB_len h
  simp only [netB, cellB, Bool.and_eq_true, decide_eq_true_eq] at hn
  omega
theorem netsB_all {A V : List (List Int)} {ns : List R4} (h : netsB A V ns = true) : gridB A V = true ∧ ns.length ≤ 6 ∧ ∀ i, i < ns.length → netR A (ns.getD i default) = true := by
  simp only [netsB, Bool.and_eq_true, decide_eq_true_eq, List.all_eq_true] at h
  exact ⟨h.1.1, h.1.2, fun i hi => h.2 _ (mem_of_getD hi)⟩
def farI (a b c d : Int) : Int := max (a - c) (-(a - c)) + max (b - d) (-(b - d))
def farR (r : R4) : Int := farI r.a r.b r.c r.d
def sumI (xs : List Int) : Int := xs.foldr (· + ·) 0
theorem sumI_snoc (xs : List Int) (x : Int) : sumI (xs ++ [x]) = sumI xs + x := by
  induction xs with
  | nil => simp [sumI]
  | cons y xs ih => simp only [sumI, List.cons_append, List.foldr_cons] at *; omega
theorem sumI_bd {xs : List Int} {m : Int} (h : ∀ x ∈ xs, 0 ≤ x ∧ x ≤ m) : 0 ≤ sumI xs ∧ sumI xs ≤ m * xs.length := by
  induction xs with
  | nil => simp [sumI]
  | cons y xs ih =>
    have h1 := h y List.mem_cons_self
    have h2 := ih fun x hx => h x (List.mem_cons_of_mem _ hx)
    simp only [sumI, List.foldr_cons, List.length_cons, Int.natCast_add, Int.natCast_one, Int.mul_add, Int.mul_one] at *
    omega
theorem sumI_take {xs : List Int} {i : Nat} (hi : i < xs.length) : sumI (xs.take (i + 1)) = sumI (xs.take i) + xs.getD i 0 := by rw [take_snoc 0 hi, sumI_snoc]
def farS (ns : List R4) : Int := sumI (ns.map farR)
theorem farS_take {ns : List R4} {i : Nat} (hi : i < ns.length) : farS (ns.take (i + 1)) = farS (ns.take i) + farR (ns.getD i default) := by
  rw [take_snoc default hi]; simp only [farS, List.map_append, List.map_cons, List.map_nil, sumI_snoc]
theorem farI_bd {a b c d : Int} (h : (0 ≤ a ∧ a ≤ 7) ∧ (0 ≤ b ∧ b ≤ 7) ∧ (0 ≤ c ∧ c ≤ 7) ∧ (0 ≤ d ∧ d ≤ 7)) : 0 ≤ farI a b c d ∧ farI a b c d ≤ 14 := by
  unfold farI; omega
theorem farS_bd {A V : List (List Int)} {ns : List R4} (h : netsB A V ns = true) {i : Nat} (hi : i ≤ ns.length) : 0 ≤ farS (ns.take i) ∧ farS (ns.take i) ≤ 84 := by
  obtain ⟨h1, h2, h3⟩ := netsB_all h
  have := sumI_bd (xs := (ns.take i).map farR) (m := 14) (fun x hx => by
    obtain ⟨r, hr, rfl⟩ := List.mem_map.1 hx
    have hr2 : netR A r = true := by
      simp only [netsB, Bool.and_eq_true, List.all_eq_true] at h
      exact h.2 r (List.mem_of_mem_take hr)
    exact farI_bd (netB_bd h1 hr2))
  have hl : ((ns.take i).map farR).length ≤ 6 := by simp; omega
  unfold farS
  omega

theorem getD_get {α : Type} {xs : List α} {k : Nat} {d : α} (hk : k < xs.length) : xs.getD k d = xs[k] := by rw [List.getD, List.getElem?_eq_getElem hk]; rfl

/-! ### Cuts -/
def crX (t : Int) (r : R4) : Bool := decide (r.a ≤ t) != decide (r.c ≤ t)
def crY (t : Int) (r : R4) : Bool := decide (r.b ≤ t) != decide (r.d ≤ t)
def lackV (ns : List R4) (p : R4 → Bool) (rooms : List Int) : Int := max ((ns.countP p : Int) - sumI rooms) 0
theorem countP_take {ns : List R4} {p : R4 → Bool} {i : Nat} (hi : i < ns.length) : (ns.take (i + 1)).countP p = (ns.take i).countP p + if p (ns.getD i default) = true then 1 else 0 := by
  rw [take_snoc default hi, List.countP_append, List.countP_singleton]
def colL (A : List (List Int)) (x : Nat) : List Int := A.map (·.getD x 0)
theorem colL_len (A : List (List Int)) (x : Nat) : (colL A x).length = A.length := by simp [colL]
theorem colL_take {A : List (List Int)} {x i : Nat} (hi : i < A.length) : (colL A x).take (i + 1) = (colL A x).take i ++ [(A.getD i []).getD x 0] := by
  rw [take_snoc 0 (by simpa [colL] using hi)]
  congr 2
  exact getD_map_lt hi [] 0
theorem okRows_row {m e : Int} {xss : List (List Int)} (h : okRows m e xss = true) {i : Nat} (hi : i < xss.length) : ∀ x ∈ xss.getD i [], 0 ≤ x ∧ x ≤ 20 := fun x hx => by
  obtain ⟨k, hk, rfl⟩ := List.mem_iff_getElem.1 hx
  have := ((okRows_all h).2 i hi).2 k hk
  rwa [getD_get hk] at this
theorem col_bd {A V : List (List Int)} (h : gridB A V = true) {x : Nat} (hx : x < (A.getD 0 []).length) : ∀ n ∈ colL A x, 0 ≤ n ∧ n ≤ 20 := fun n hn => by
  obtain ⟨r, hr, rfl⟩ := List.mem_map.1 hn
  obtain ⟨i, hi, rfl⟩ := List.mem_iff_getElem.1 hr
  have hA := (gridB_rows h).1
  have h2 := (okRows_all hA).2 i hi
  have e : A.getD i [] = A[i] := by simp [List.getD, hi]
  rw [e] at h2
  exact h2.2 x (by have := h2.1; unfold wd at this; omega)
def cutX (A : List (List Int)) (ns : List R4) : Nat → Int
  | 0 => 0
  | x + 1 => cutX A ns x + lackV ns (crX x) (colL A x)
def cutY (V : List (List Int)) (ns : List R4) : Nat → Int
  | 0 => 0
  | y + 1 => cutY V ns y + lackV ns (crY y) (V.getD y [])
theorem lackV_bd {ns : List R4} {p : R4 → Bool} {rooms : List Int} (h : ∀ x ∈ rooms, 0 ≤ x ∧ x ≤ 20) : 0 ≤ lackV ns p rooms ∧ lackV ns p rooms ≤ ns.length := by
  have h1 := sumI_bd h
  have h2 : ns.countP p ≤ ns.length := List.countP_le_length
  unfold lackV; omega
theorem cutX_bd {A V : List (List Int)} (h : gridB A V = true) {ns : List R4} (hl : ns.length ≤ 6) : ∀ {x : Nat}, x ≤ (A.getD 0 []).length → 0 ≤ cutX A ns x ∧ cutX A ns x ≤ 6 * x
  | 0, _ => by simp [cutX]
  | x + 1, hx => by
    have h1 := cutX_bd h hl (show x ≤ (A.getD 0 []).length by omega)
    have h2 := lackV_bd (ns := ns) (p := crX x) (col_bd h (show x < (A.getD 0 []).length by omega))
    simp only [cutX, Int.natCast_add, Int.natCast_one]; omega
theorem cutY_bd {A V : List (List Int)} (h : gridB A V = true) {ns : List R4} (hl : ns.length ≤ 6) : ∀ {y : Nat}, y ≤ V.length → 0 ≤ cutY V ns y ∧ cutY V ns y ≤ 6 * y
  | 0, _ => by simp [cutY]
  | y + 1, hy => by
    have h1 := cutY_bd h hl (show y ≤ V.length by omega)
    have h2 := lackV_bd (ns := ns) (p := crY y) (okRows_row (gridB_rows h).2 (show y < V.length by omega))
    simp only [cutY, Int.natCast_add, Int.natCast_one]; omega
end Go.Sx.M8
