/-
  Chapter 8, plain: what routes use in all, and what crosses a cut.
-/
import Derived.Test.YtpbmikcicibfcaaM8Z
import Derived.Test.YtpbmikcicibfcaaM8W
namespace Go.Sx.M8
set_option linter.unusedVariables false
set_option linter.unusedSimpArgs false
open Go Go.Sx Go.Sx.U

/-! ### Lengths of paths -/
theorem linesT_len (s : List R2) (i : Nat) : (linesT s (i + 1)).length = (linesT s i).length + lineN (s.getD i default).a (s.getD i default).b (s.getD (i + 1) default).a (s.getD (i + 1) default).b := by
  rw [linesT, List.length_append, lineL_len]
/-- A shape leads from one end to the other by a shortest path. -/
structure ShapeLen (a b c d : Int) (s : List R2) : Prop where
  len : (pathL s).length = lineN a b c d + 1
  fst : s.getD 0 default = ⟨a, b⟩
  lst : s.getD (s.length - 1) default = ⟨c, d⟩
theorem shape_one (a b : Int) : ShapeLen a b a b [⟨a, b⟩] := ⟨by simp [pathL, linesT, lineN], rfl, rfl⟩
theorem shape_two (a b c d : Int) : ShapeLen a b c d [⟨a, b⟩, ⟨c, d⟩] := by
  refine ⟨?_, rfl, rfl⟩
  show (linesT _ 1).length = _
  rw [linesT_len]
  simp [linesT]
  omega
theorem shape_cut {a b c d x y x2 y2 : Int} (h1 : lineN a b x y + lineN x y x2 y2 + lineN x2 y2 c d = lineN a b c d) : ShapeLen a b c d (cut4 ⟨a, b⟩ ⟨x, y⟩ ⟨x2, y2⟩ ⟨c, d⟩) := by
  unfold cut4
  split
  · next h =>
    injection h with h2 h3
    subst h2 h3
    refine ⟨?_, rfl, rfl⟩
    show (linesT _ 2).length = _
    rw [linesT_len, linesT_len]
    have : lineN x2 y2 x2 y2 = 0 := by simp [lineN]
    simp [linesT]
    omega
  · refine ⟨?_, rfl, rfl⟩
    show (linesT _ 3).length = _
    rw [linesT_len, linesT_len, linesT_len]
    simp [linesT]
    omega
theorem shX_len {a b c d : Int} {i : Nat} (hi : i < (c - a).natAbs) : ShapeLen a b c d (shX a b c d i) := by
  refine shape_cut ?_
  have h := wk_mid (a := a) (c := c) (n := i + 1) (by omega)
  unfold lineN
  omega
theorem shY_len {a b c d : Int} {i : Nat} (hi : i < (d - b).natAbs) : ShapeLen a b c d (shY a b c d i) := by
  refine shape_cut ?_
  have h := wk_mid (a := b) (c := d) (n := i + 1) (by omega)
  unfold lineN
  omega
theorem shapes_lenP (a b c d : Int) : ∀ s ∈ shapesV a b c d, ShapeLen a b c d s := fun s hs => by
  unfold shapesV at hs
  split at hs
  · split at hs
    · next h1 h2 =>
      obtain ⟨rfl, rfl⟩ := h2
      rw [List.mem_singleton.1 hs]
      exact shape_one a b
    · rw [List.mem_singleton.1 hs]
      exact shape_two a b c d
  · rcases List.mem_append.1 hs with hs | hs
    · obtain ⟨i, hi, rfl⟩ := List.mem_map.1 hs
      exact shX_len (List.mem_range.1 hi)
    · obtain ⟨i, hi, rfl⟩ := List.mem_map.1 hs
      exact shY_len (List.mem_range.1 hi)
theorem shapesV_len (a b c d : Int) : (shapesV a b c d).length = if a = c ∨ b = d then 1 else lineN a b c d := by
  unfold shapesV
  split
  · rfl
  · simp [shapesX, shapesY, lineN]

/-! ### Sums -/
def ss (f : Nat → Int) : Nat → Int
  | 0 => 0
  | n + 1 => ss f n + f n
theorem ss_cg {f g : Nat → Int} : ∀ n, (∀ i, i < n → f i = g i) → ss f n = ss g n
  | 0, _ => rfl
  | n + 1, h => by rw [ss, ss, ss_cg n fun i hi => h i (by omega), h n (by omega)]
theorem ss_le {f g : Nat → Int} : ∀ n, (∀ i, i < n → f i ≤ g i) → ss f n ≤ ss g n
  | 0, _ => Int.le_refl _
  | n + 1, h => by
    have h1 := ss_le n fun i hi => h i (by omega)
    have h2 := h n (by omega)
    simp only [ss]; omega
theorem ss_add (f g : Nat → Int) : ∀ n, ss (fun i => f i + g i) n = ss f n + ss g n
  | 0 => rfl
  | n + 1 => by simp only [ss]; rw [ss_add f g n]; omega
theorem ss_zero : ∀ n, ss (fun _ => 0) n = 0
  | 0 => rfl
  | n + 1 => by rw [ss, ss_zero n]; rfl
theorem ss_swap (f : Nat → Nat → Int) (n : Nat) : ∀ m, ss (fun y => ss (fun x => f y x) n) m = ss (fun x => ss (fun y => f y x) m) n
  | 0 => by simp only [ss]; rw [ss_zero]
  | m + 1 => by simp only [ss]; rw [ss_swap f n m, ← ss_add]
theorem ss_upd (f : Nat → Int) (k : Nat) (d : Int) : ∀ n, ss (fun i => f i + if i = k then d else 0) n = ss f n + if k < n then d else 0
  | 0 => by simp [ss]
  | n + 1 => by
    simp only [ss]
    rw [ss_upd f k d n]
    by_cases h1 : k < n
    · rw [if_pos h1, if_neg (by omega), if_pos (by omega)]; omega
    · by_cases h2 : n = k
      · rw [if_neg h1, if_pos h2, if_pos (by omega)]; omega
      · rw [if_neg h1, if_neg h2, if_neg (by omega)]; omega
theorem ss_nn {f : Nat → Int} (n : Nat) (h : ∀ i, i < n → 0 ≤ f i) : 0 ≤ ss f n := by
  have := ss_le (f := fun _ => 0) (g := f) n h
  rwa [ss_zero] at this
theorem ss_max (f g : Nat → Int) (n : Nat) : max (ss f n - ss g n) 0 ≤ ss (fun i => max (f i - g i) 0) n := by
  have h1 : ss f n - ss g n ≤ ss (fun i => max (f i - g i) 0) n := by
    have h2 : ss f n ≤ ss (fun i => g i + max (f i - g i) 0) n := ss_le n fun i _ => by omega
    rw [ss_add] at h2
    omega
  have h3 := ss_nn n (f := fun i => max (f i - g i) 0) fun i _ => by omega
  omega
theorem sumI_ss : ∀ (l : List Int), sumI l = ss (fun i => l.getD i 0) l.length := fun l => by
  have key : ∀ i, i ≤ l.length → sumI (l.take i) = ss (fun i => l.getD i 0) i := fun i => by
    induction i with
    | zero => intro _; rfl
    | succ i ih =>
      intro h
      rw [take_snoc 0 (by omega), sumI_snoc, ih (by omega)]
      rfl
  have := key l.length (Nat.le_refl _)
  rwa [List.take_length] at this

/-! ### What a step changes -/
/-- All uses across a column's border, up a row's border, and in all. -/
def cxU (h : Nat) (U : UU) (x : Nat) : Int := ss (fun y => (U.1.getD y []).getD x 0) h
def cyU (w : Nat) (U : UU) (y : Nat) : Int := ss (fun x => (U.2.getD y []).getD x 0) w
def totU (w h : Nat) (U : UU) : Int := ss (fun y => ss (fun x => (U.1.getD y []).getD x 0) (w - 1)) h + ss (fun y => ss (fun x => (U.2.getD y []).getD x 0) w) (h - 1)
def crs (t : Int) (a c : Int) : Int := if decide (a ≤ t) = decide (c ≤ t) then 0 else 1
theorem crs_tri (t a b c : Int) : crs t a c ≤ crs t a b + crs t b c := by
  unfold crs
  by_cases h1 : a ≤ t <;> by_cases h2 : b ≤ t <;> by_cases h3 : c ≤ t <;> simp [h1, h2, h3]
theorem grid_upd (f : Nat → Nat → Int) (m n y0 x0 : Nat) (hy : y0 < m) (hx : x0 < n) (d : Int) : ss (fun y => ss (fun x => f y x + if y = y0 ∧ x = x0 then d else 0) n) m = ss (fun y => ss (fun x => f y x) n) m + d := by
  have e : ss (fun y => ss (fun x => f y x + if y = y0 ∧ x = x0 then d else 0) n) m = ss (fun y => ss (fun x => f y x) n + if y = y0 then d else 0) m := by
    refine ss_cg m fun y _ => ?_
    by_cases h : y = y0
    · rw [if_pos h]
      have := ss_upd (f y) x0 d n
      rw [if_pos hx] at this
      rw [← this]
      exact ss_cg n fun x _ => by simp [h]
    · rw [if_neg h, Int.add_zero]
      exact ss_cg n fun x _ => by simp [h]
  rw [e, ss_upd (fun y => ss (fun x => f y x) n) y0 d m, if_pos hy]
structure StepU (w h : Nat) (U U' : UU) (p q : R2) : Prop where
  tot : totU w h U' = totU w h U + 1
  cx : ∀ x : Nat, cxU h U' x = cxU h U x + crs x p.a q.a
  cy : ∀ y : Nat, cyU w U' y = cyU w U y + crs y p.b q.b
theorem step_use {w h : Nat} {m : Int} {U : UU} (hU : Dims w h m U) {p q : R2} (hp : inG w h p) (hq : inG w h q) (hf : farP p q = 1) : StepU w h U (stepE 1 U p q) p q := by
  have hs := step_at hp hq hf
  rcases hs with ⟨q1, q2, q3, q4⟩ | ⟨q1, q0, q2, q3⟩
  · have hb : ∀ y x, ((bump U.1 p.b.toNat (min p.a q.a).toNat 1).getD y []).getD x 0 = (U.1.getD y []).getD x 0 + if y = p.b.toNat ∧ x = (min p.a q.a).toNat then 1 else 0 := fun y x => by
      rw [bump_at hU.a q2 q3]
    unfold stepE
    rw [if_pos q1]
    refine ⟨?_, fun x => ?_, fun y => ?_⟩
    · unfold totU
      simp only [hb]
      rw [grid_upd _ _ _ _ _ q2 q3]
      omega
    · unfold cxU
      simp only [hb]
      by_cases hx : x = (min p.a q.a).toNat
      · have e : ss (fun y => (U.1.getD y []).getD x 0 + if y = p.b.toNat ∧ x = (min p.a q.a).toNat then 1 else 0) h = ss (fun y => (U.1.getD y []).getD x 0 + if y = p.b.toNat then 1 else 0) h := ss_cg h fun y _ => by simp [hx]
        rw [e, ss_upd, if_pos q2]
        have : crs x p.a q.a = 1 := by
          unfold crs
          have := hp.1; have := hq.1
          rw [if_neg]
          intro he
          have := decide_eq_decide.1 he
          omega
        omega
      · have e : ss (fun y => (U.1.getD y []).getD x 0 + if y = p.b.toNat ∧ x = (min p.a q.a).toNat then 1 else 0) h = ss (fun y => (U.1.getD y []).getD x 0) h := ss_cg h fun y _ => by simp [hx]
        rw [e]
        have : crs x p.a q.a = 0 := by
          unfold crs
          have := hp.1; have := hq.1
          rw [if_pos]
          refine decide_eq_decide.2 ?_
          omega
        omega
    · have : crs y p.b q.b = 0 := by
        unfold crs; rw [q1, if_pos rfl]
      show cyU w U y = _
      omega
  · have hb : ∀ y x, ((bump U.2 (min p.b q.b).toNat p.a.toNat 1).getD y []).getD x 0 = (U.2.getD y []).getD x 0 + if y = (min p.b q.b).toNat ∧ x = p.a.toNat then 1 else 0 := fun y x => by
      rw [bump_at hU.u q2 q3]
    unfold stepE
    rw [if_neg q1]
    have hfar : p.b = q.b + 1 ∨ q.b = p.b + 1 := by
      unfold farP farI at hf
      omega
    refine ⟨?_, fun x => ?_, fun y => ?_⟩
    · unfold totU
      simp only [hb]
      rw [grid_upd _ _ _ _ _ q2 q3]
      omega
    · have : crs x p.a q.a = 0 := by
        unfold crs; rw [q0, if_pos rfl]
      show cxU h U x = _
      omega
    · unfold cyU
      simp only [hb]
      by_cases hy : y = (min p.b q.b).toNat
      · have e : ss (fun x => (U.2.getD y []).getD x 0 + if y = (min p.b q.b).toNat ∧ x = p.a.toNat then 1 else 0) w = ss (fun x => (U.2.getD y []).getD x 0 + if x = p.a.toNat then 1 else 0) w := ss_cg w fun x _ => by simp [hy]
        rw [e, ss_upd, if_pos q3]
        have : crs y p.b q.b = 1 := by
          unfold crs
          have := hp.2; have := hq.2
          rw [if_neg]
          intro he
          have := decide_eq_decide.1 he
          omega
        omega
      · have e : ss (fun x => (U.2.getD y []).getD x 0 + if y = (min p.b q.b).toNat ∧ x = p.a.toNat then 1 else 0) w = ss (fun x => (U.2.getD y []).getD x 0) w := ss_cg w fun x _ => by simp [hy]
        rw [e]
        have : crs y p.b q.b = 0 := by
          unfold crs
          have := hp.2; have := hq.2
          rw [if_pos]
          refine decide_eq_decide.2 ?_
          omega
        omega
theorem walk_use {w h : Nat} {m : Int} {U : UU} (hU : Dims w h m U) {xs : List R2} (hx : Way w h xs) : ∀ i, i + 1 ≤ xs.length →
    totU w h (walkE 1 U xs i) = totU w h U + i ∧ (∀ x : Nat, cxU h U x + crs x (xs.getD 0 default).a (xs.getD i default).a ≤ cxU h (walkE 1 U xs i) x) ∧ ∀ y : Nat, cyU w U y + crs y (xs.getD 0 default).b (xs.getD i default).b ≤ cyU w (walkE 1 U xs i) y
  | 0, _ => by
    have hz : ∀ t a : Int, crs t a a = 0 := fun t a => by unfold crs; rw [if_pos rfl]
    exact ⟨by simp [walkE], fun x => by rw [hz]; simp [walkE], fun y => by rw [hz]; simp [walkE]⟩
  | i + 1, hi => by
    obtain ⟨h1, h2, h3⟩ := walk_use hU hx i (by omega)
    have hd := walk_dims hU hx (k := 1) (.inl rfl) i (by omega)
    obtain ⟨s1, s2, s3⟩ := step_use hd (hx.1 i (by omega)) (hx.1 (i + 1) (by omega)) (hx.2 i (by omega))
    refine ⟨?_, fun x => ?_, fun y => ?_⟩
    · rw [walkE, s1, h1]; push_cast; omega
    · rw [walkE, s2]
      have := h2 x
      have := crs_tri x (xs.getD 0 default).a (xs.getD i default).a (xs.getD (i + 1) default).a
      omega
    · rw [walkE, s3]
      have := h3 y
      have := crs_tri y (xs.getD 0 default).b (xs.getD i default).b (xs.getD (i + 1) default).b
      omega
theorem linesT_head (s : List R2) : ∀ i, (linesT s i).getD 0 default = s.getD 0 default
  | 0 => rfl
  | i + 1 => by
    have h := linesT_pos s i
    rw [linesT, getD_app_l (by omega), linesT_head s i]
theorem crs_X (t : Int) (r : R4) : crs t r.a r.c = if crX t r = true then 1 else 0 := by
  unfold crs crX
  by_cases h1 : r.a ≤ t <;> by_cases h2 : r.c ≤ t <;> simp [h1, h2]
theorem crs_Y (t : Int) (r : R4) : crs t r.b r.d = if crY t r = true then 1 else 0 := by
  unfold crs crY
  by_cases h1 : r.b ≤ t <;> by_cases h2 : r.d ≤ t <;> simp [h1, h2]
theorem farR_line (r : R4) : (lineN r.a r.b r.c r.d : Int) = farR r := by
  unfold lineN farR farI; omega
/-- What a shape of a net adds. -/
theorem shape_use {w h : Nat} {m : Int} {U : UU} (hU : Dims w h m U) {r : R4} {k : Int} (hk : 0 ≤ k ∧ k < (shapesR r).length) (hg : GoodShape (shapeOf r k)) (hw : M8.Way w h (pathL (shapeOf r k))) :
    totU w h (useE 1 U (shapeOf r k)) = totU w h U + farR r ∧ (∀ x : Nat, cxU h U x + (if crX x r = true then 1 else 0) ≤ cxU h (useE 1 U (shapeOf r k)) x) ∧ ∀ y : Nat, cyU w U y + (if crY y r = true then 1 else 0) ≤ cyU w (useE 1 U (shapeOf r k)) y := by
  have hmem : shapeOf r k ∈ shapesV r.a r.b r.c r.d := by
    have hlt : k.toNat < (shapesR r).length := by omega
    show (shapesR r).getD k.toNat [] ∈ shapesR r
    rw [List.getD, List.getElem?_eq_getElem hlt]
    exact List.getElem_mem hlt
  obtain ⟨l1, l2, l3⟩ := shapes_lenP _ _ _ _ _ hmem
  generalize shapeOf r k = s at *
  have hone := hg.one
  have hpos := hg.ok.one
  obtain ⟨h1, h2, h3⟩ := walk_use hU hw ((pathL s).length - 1) (by omega)
  have e0 : (pathL s).getD 0 default = ⟨r.a, r.b⟩ := by rw [← l2]; exact linesT_head s _
  have e1 : (pathL s).getD ((pathL s).length - 1) default = ⟨r.c, r.d⟩ := by
    rw [← l3]
    exact linesT_last hg.ali (s.length - 1) (by omega)
  rw [e0, e1] at h2 h3
  refine ⟨?_, fun x => ?_, fun y => ?_⟩
  · show totU w h (walkE 1 U (pathL s) ((pathL s).length - 1)) = _
    rw [h1, ← farR_line]
    omega
  · rw [← crs_X]; exact h2 x
  · rw [← crs_Y]; exact h3 y
theorem used_all {w h : Nat} {ns : List R4} {ks : List Int} (hc : ChoiceOK w h ns ks) : ∀ i, i ≤ ks.length →
    totU w h (usedT w h ns ks i) = farS (ns.take i) ∧ (∀ x : Nat, ((ns.take i).countP (crX x) : Int) ≤ cxU h (usedT w h ns ks i) x) ∧ ∀ y : Nat, ((ns.take i).countP (crY y) : Int) ≤ cyU w (usedT w h ns ks i) y
  | 0, _ => by
    have hz1 : ∀ y x, ((zeroU w h).1.getD y []).getD x 0 = 0 := fun y x => rowsE_zero _ _ y x
    have hz2 : ∀ y x, ((zeroU w h).2.getD y []).getD x 0 = 0 := fun y x => rowsE_zero _ _ y x
    refine ⟨?_, fun x => ?_, fun y => ?_⟩
    · simp only [usedT, totU, hz1, hz2, ss_zero]; rfl
    · simp only [usedT, cxU, hz1, ss_zero, List.take_zero, List.countP_nil]; omega
    · simp only [usedT, cyU, hz2, ss_zero, List.take_zero, List.countP_nil]; omega
  | i + 1, hi => by
    obtain ⟨h1, h2, h3⟩ := used_all hc i (by omega)
    have hin : i < ns.length := by have := hc.len; omega
    have hci := hc.cel i hin
    have hki := hc.ch i (by omega)
    obtain ⟨gs, ws⟩ := shape_good hci hki
    obtain ⟨s1, s2, s3⟩ := shape_use (used_dims hc i (by omega)) hki gs ws
    refine ⟨?_, fun x => ?_, fun y => ?_⟩
    · rw [usedT, s1, h1, farS_take hin]
    · rw [usedT, countP_take hin]
      have q1 := s2 x
      have q2 := h2 x
      by_cases hb : crX x (ns.getD i default) = true
      · rw [if_pos hb] at q1 ⊢; omega
      · rw [if_neg hb] at q1 ⊢; omega
    · rw [usedT, countP_take hin]
      have q1 := s3 y
      have q2 := h3 y
      by_cases hb : crY y (ns.getD i default) = true
      · rw [if_pos hb] at q1 ⊢; omega
      · rw [if_neg hb] at q1 ⊢; omega

/-! ### The bound by cuts -/
theorem overR_ss (r u : List Int) : ∀ n, overR r u n = ss (fun x => max (u.getD x 0 - r.getD x 0) 0) n
  | 0 => rfl
  | n + 1 => by rw [overR, overR_ss r u n, ss]
theorem overT_ss (R U : List (List Int)) : ∀ n, overT R U n = ss (fun y => overR (R.getD y []) (U.getD y []) (R.getD y []).length) n
  | 0 => rfl
  | n + 1 => by rw [overT, overT_ss R U n, ss]
theorem cutX_ss (A : List (List Int)) (ns : List R4) : ∀ n, cutX A ns n = ss (fun x => lackV ns (crX x) (colL A x)) n
  | 0 => rfl
  | n + 1 => by rw [cutX, cutX_ss A ns n, ss]
theorem cutY_ss (V : List (List Int)) (ns : List R4) : ∀ n, cutY V ns n = ss (fun y => lackV ns (crY y) (V.getD y [])) n
  | 0 => rfl
  | n + 1 => by rw [cutY, cutY_ss V ns n, ss]
theorem cut_le {A V : List (List Int)} {ns : List R4} {ks : List Int} (hx : netsB A V ns = true) (hc : ChoiceOK (wN A) A.length ns ks) (hl : ks.length = ns.length) : cutX A ns (A.getD 0 []).length + cutY V ns V.length ≤ ovF A V ns ks := by
  obtain ⟨hg, _, _⟩ := netsB_all hx
  obtain ⟨g1, g2, g3⟩ := gridB_len hg
  have hrow := gridB_rows hg
  obtain ⟨_, h2, h3⟩ := used_all hc ks.length (Nat.le_refl _)
  rw [hl, List.take_of_length_le (Nat.le_refl _)] at h2 h3
  obtain ⟨r1, _, r3⟩ := grid_room hg
  have hA : ∀ y, y < A.length → (A.getD y []).length = (A.getD 0 []).length := fun y hy => (r1 y hy).1.trans (r1 0 g1).1.symm
  have hV : ∀ y, y < V.length → (V.getD y []).length = wN A := fun y hy => (r3 y hy).1
  unfold ovF overV
  rw [hl]
  generalize usedT (wN A) A.length ns ks ns.length = U at *
  have e1 : cutX A ns (A.getD 0 []).length ≤ overT A U.1 A.length := by
    rw [overT_ss, cutX_ss]
    have e : ss (fun y => overR (A.getD y []) (U.1.getD y []) (A.getD y []).length) A.length = ss (fun y => ss (fun x => max ((U.1.getD y []).getD x 0 - (A.getD y []).getD x 0) 0) (A.getD 0 []).length) A.length :=
      ss_cg _ fun y hy => by rw [overR_ss, hA y hy]
    rw [e, ss_swap]
    refine ss_le _ fun x _ => ?_
    have m1 := ss_max (fun y => (U.1.getD y []).getD x 0) (fun y => (A.getD y []).getD x 0) A.length
    have m2 := h2 x
    unfold cxU at m2
    have m3 : sumI (colL A x) = ss (fun y => (A.getD y []).getD x 0) A.length := by
      rw [sumI_ss, colL_len]
      exact ss_cg _ fun y hy => getD_map_lt hy [] 0
    unfold lackV
    rw [m3]
    omega
  have e2 : cutY V ns V.length ≤ overT V U.2 V.length := by
    rw [overT_ss, cutY_ss]
    refine ss_le _ fun y hy => ?_
    have m1 := ss_max (fun x => (U.2.getD y []).getD x 0) (fun x => (V.getD y []).getD x 0) (wN A)
    have m2 := h3 y
    unfold cyU at m2
    unfold lackV
    rw [overR_ss, hV y hy, sumI_ss, hV y hy]
    omega
  omega
theorem cut_nn {ns : List R4} (A V : List (List Int)) : 0 ≤ cutX A ns (A.getD 0 []).length + cutY V ns V.length := by
  rw [cutX_ss, cutY_ss]
  have h1 := ss_nn (f := fun x => lackV ns (crX x) (colL A x)) (A.getD 0 []).length fun x _ => by unfold lackV; omega
  have h2 := ss_nn (f := fun y => lackV ns (crY y) (V.getD y [])) V.length fun y _ => by unfold lackV; omega
  omega

/-! ### The fullest edge -/
def sM : List Int → Int
  | [] => 0
  | v :: r => max v 0 + sM r
theorem sM_app : ∀ (a b : List Int), sM (a ++ b) = sM a + sM b
  | [], b => by simp [sM]
  | v :: r, b => by simp only [List.cons_append, sM, sM_app r b]; omega
theorem overR_sM (r u : List Int) : ∀ x, overR r u x = sM (diffR r u x)
  | 0 => rfl
  | x + 1 => by rw [overR, diffR, sM_app, overR_sM r u x]; simp [sM]
theorem overT_sM (R U : List (List Int)) : ∀ y, overT R U y = sM (diffT R U y)
  | 0 => rfl
  | y + 1 => by rw [overT, diffT, sM_app, overT_sM R U y, overR_sM]
theorem sM_nn : ∀ (l : List Int), 0 ≤ sM l
  | [] => Int.le_refl _
  | v :: r => by have := sM_nn r; simp only [sM]; omega
theorem maxF_le : ∀ (l : List Int) (m b : Int), maxF m l ≤ b ↔ m ≤ b ∧ ∀ v ∈ l, v ≤ b
  | [], m, b => by simp [maxF]
  | x :: r, m, b => by
    have := maxF_le r (max m x) b
    simp only [maxF, List.foldl_cons] at this ⊢
    rw [this]
    simp only [List.mem_cons, forall_eq_or_imp]
    constructor
    · rintro ⟨h1, h2⟩; exact ⟨by omega, by omega, h2⟩
    · rintro ⟨h1, h2, h3⟩; exact ⟨by omega, h3⟩
theorem sM_zero : ∀ (l : List Int), sM l ≤ 0 ↔ ∀ v ∈ l, v ≤ 0
  | [] => by simp [sM]
  | x :: r => by
    have h := sM_zero r
    have hn := sM_nn r
    simp only [sM, List.mem_cons, forall_eq_or_imp]
    rw [← h]
    omega
theorem full_over (A V : List (List Int)) (U : UU) : (0 < maxF (-20) (diffV A V U)) ↔ 0 < overV A V U := by
  have h1 := maxF_le (diffV A V U) (-20) 0
  have h2 := sM_zero (diffV A V U)
  have e : overV A V U = sM (diffV A V U) := by
    unfold overV diffV
    rw [sM_app, overT_sM, overT_sM]
  rw [e]
  have h3 : maxF (-20) (diffV A V U) ≤ 0 ↔ sM (diffV A V U) ≤ 0 := by
    rw [h1, h2]
    exact ⟨fun h => h.2, fun h => ⟨by omega, h⟩⟩
  omega
end Go.Sx.M8
