/-
  Chapter 9, plain: where there are no places there is a rising ring; what a ring is.
-/
import Derived.Test.YtgfbiehncbinmaaM9R
import Derived.Test.YtgfbiehncbinmaaM10
namespace Go.Sx.M9
set_option linter.unusedVariables false
set_option linter.unusedSimpArgs false
open Go Go.Sx

/-- A walk by rules: the rules, the parts, the sum. -/
inductive Seg (rs : List R3) : List Nat → List Int → Int → Prop
  | one (v : Int) : Seg rs [] [v] 0
  | more {js : List Nat} {vs : List Int} {s : Int} {j : Nat} : Seg rs js vs s → j < rs.length → (rs.getD j default).a = lastI vs → Seg rs (js ++ [j]) (vs ++ [(rs.getD j default).b]) (s + (rs.getD j default).c)
theorem Seg.ne {rs : List R3} {js : List Nat} {vs : List Int} {s : Int} (h : Seg rs js vs s) : vs ≠ [] := by
  cases h <;> simp
theorem Seg.len {rs : List R3} {js : List Nat} {vs : List Int} {s : Int} (h : Seg rs js vs s) : vs.length = js.length + 1 := by
  induction h with
  | one v => rfl
  | more _ _ _ ih => simp [ih]
abbrev natI (l : List Nat) : List Int := l.map fun (x : Nat) => (x : Int)
theorem head_snoc {l : List Int} (h : l ≠ []) (x : Int) : (l ++ [x]).getD 0 0 = l.getD 0 0 := by
  cases l with
  | nil => exact absurd rfl h
  | cons a r => rfl
theorem not_cut {l : List Int} (h : l ≠ []) (hd : l.Nodup) : lastI l ∉ l.dropLast := by
  intro hm
  rw [← last_split h, List.nodup_append] at hd
  exact hd.2.2 _ hm _ (List.mem_singleton.2 rfl) rfl
/-- What a walk can be continued to is found from its beginning. -/
theorem Seg.found {rs : List R3} {js : List Nat} {vs : List Int} {s : Int} (h : Seg rs js vs s) : vs.Nodup → ∀ f, (ringF rs f (natI js) vs s).isSome = true → (ringF rs (f + js.length) [] [vs.getD 0 0] 0).isSome = true := by
  induction h with
  | one v => intro _ f hf; exact hf
  | @more js vs s j h1 h2 h3 ih =>
    intro hd f hf
    have hd' : vs.Nodup := (List.nodup_append.1 hd).1
    have hc := not_cut h1.ne hd'
    have := ih hd' (f + 1) (by
      rw [ringF_succ _ _ _ _ _ (fun h => hc h.2)]
      cases hq : (List.range rs.length).findSome? (ringG rs f (natI js) vs s) with
      | some _ => rfl
      | none =>
        have h4 := fs_none.1 hq j h2
        unfold ringG at h4
        rw [if_pos h3] at h4
        simp only [natI, List.map_append, List.map_cons, List.map_nil] at hf h4
        rw [h4] at hf
        cases hf)
    rw [head_snoc h1.ne, List.length_append, List.length_singleton]
    rwa [show f + (js.length + 1) = f + 1 + js.length by omega]
/-- A walk's parts. -/
theorem Seg.split {rs : List R3} {js : List Nat} {vs : List Int} {s : Int} (h : Seg rs js vs s) (b : Int) : b ∈ vs → ∃ js1 vs1 s1 js2 vs2 s2, Seg rs js1 (vs1 ++ [b]) s1 ∧ Seg rs js2 (b :: vs2) s2 ∧ s = s1 + s2 ∧ vs = vs1 ++ b :: vs2 ∧ lastI (b :: vs2) = lastI vs := by
  induction h with
  | one v =>
    intro hb
    obtain rfl := List.mem_singleton.1 hb
    exact ⟨[], [], 0, [], [], 0, .one _, .one _, rfl, rfl, rfl⟩
  | @more js vs s j h1 h2 h3 ih =>
    intro hb
    by_cases hv : b ∈ vs
    · obtain ⟨js1, vs1, s1, js2, vs2, s2, k1, k2, k3, k4, k5⟩ := ih hv
      refine ⟨js1, vs1, s1, js2 ++ [j], vs2 ++ [(rs.getD j default).b], _, k1, k2.more h2 (by rw [k5]; exact h3), by omega, by rw [k4]; simp, ?_⟩
      rw [← List.cons_append, lastI_snoc, lastI_snoc]
    · have : b = (rs.getD j default).b := by
        rcases List.mem_append.1 hb with h | h
        · exact absurd h hv
        · exact List.mem_singleton.1 h
      subst this
      refine ⟨js ++ [j], vs, _, [], [], 0, h1.more h2 h3, .one _, by omega, rfl, ?_⟩
      rw [lastI_snoc]; rfl
theorem Seg.rng {p : Int} {rs : List R3} (hp : okPress p rs = true) {js : List Nat} {vs : List Int} {s : Int} (h : Seg rs js vs s) : (0 ≤ vs.getD 0 0 ∧ vs.getD 0 0 < p) → (∀ v ∈ vs, 0 ≤ v ∧ v < p) ∧ -(1000 * (js.length : Int)) ≤ s ∧ s ≤ 1000 * (js.length : Int) := by
  induction h with
  | one v =>
    intro h
    exact ⟨fun x hx => by rw [List.mem_singleton.1 hx]; exact h, by simp, by simp⟩
  | @more js vs s j h1 h2 h3 ih =>
    intro h
    rw [head_snoc h1.ne] at h
    obtain ⟨i1, i2, i3⟩ := ih h
    have hg := okPress_get hp h2
    refine ⟨fun x hx => ?_, ?_, ?_⟩
    · rcases List.mem_append.1 hx with hx | hx
      · exact i1 x hx
      · rw [List.mem_singleton.1 hx]; omega
    · rw [List.length_append, List.length_singleton]; omega
    · rw [List.length_append, List.length_singleton]; omega
/-- A set of numbers that is bounded has a greatest one. -/
theorem greatest {P : Int → Prop} {m : Int} (hb : ∀ s, P s → s ≤ m) : ∀ (n : Nat) (s0 : Int), P s0 → (m - s0).toNat ≤ n → ∃ s, P s ∧ ∀ t, P t → t ≤ s
  | 0, s0, h, hn => ⟨s0, h, fun t ht => by have := hb t ht; omega⟩
  | n + 1, s0, h, hn => by
    by_cases hx : ∃ t, P t ∧ s0 < t
    · obtain ⟨t, ht, hlt⟩ := hx
      have := hb t ht
      exact greatest hb n t ht (by omega)
    · exact ⟨s0, h, fun t ht => by
        refine Classical.byContradiction fun hn => hx ⟨t, ht, by omega⟩⟩
/-! ### What a ring is -/
def rsum (rs : List R3) (l : List Int) : Nat → Int
  | 0 => 0
  | i + 1 => rsum rs l i + (rs.getD (l.getD i 0).toNat default).c
theorem rsum_app {rs : List R3} {l m : List Int} : ∀ i, i ≤ l.length → rsum rs (l ++ m) i = rsum rs l i
  | 0, _ => rfl
  | i + 1, h => by
    have e : (l ++ m).getD i 0 = l.getD i 0 := by rw [List.getD, List.getElem?_append_left (by omega)]; rfl
    simp only [rsum]
    rw [rsum_app i (by omega), e]
theorem app_lt {l m : List Int} {i : Nat} (h : i < l.length) : (l ++ m).getD i 0 = l.getD i 0 := by
  rw [List.getD, List.getElem?_append_left h]; rfl
theorem app_at (l : List Int) (x : Int) : (l ++ [x]).getD l.length 0 = x := by simp [List.getD]
structure Chn (rs : List R3) (l pa : List Int) (s : Int) : Prop where
  len : pa.length = l.length + 1
  rng : ∀ i, i < l.length → 0 ≤ l.getD i 0 ∧ l.getD i 0 < (rs.length : Int)
  fr : ∀ i, i < l.length → (rs.getD (l.getD i 0).toNat default).a = pa.getD i 0
  to : ∀ i, i < l.length → (rs.getD (l.getD i 0).toNat default).b = pa.getD (i + 1) 0
  sum : s = rsum rs l l.length
theorem Chn.more {rs : List R3} {l pa : List Int} {s : Int} (h : Chn rs l pa s) {i : Nat} (hi : i < rs.length) (ha : (rs.getD i default).a = lastI pa) : Chn rs (l ++ [(i : Int)]) (pa ++ [(rs.getD i default).b]) (s + (rs.getD i default).c) := by
  have hl := h.len
  have hla : lastI pa = pa.getD l.length 0 := by rw [lastI, hl]; rfl
  refine ⟨by simp [hl], fun k hk => ?_, fun k hk => ?_, fun k hk => ?_, ?_⟩
  · rw [List.length_append, List.length_singleton] at hk
    by_cases e : k < l.length
    · rw [app_lt e]; exact h.rng k e
    · obtain rfl : k = l.length := by omega
      rw [app_at]; omega
  · rw [List.length_append, List.length_singleton] at hk
    by_cases e : k < l.length
    · rw [app_lt e, app_lt (by omega)]; exact h.fr k e
    · obtain rfl : k = l.length := by omega
      rw [app_at, app_lt (by omega), Int.toNat_natCast, ha, hla]
  · rw [List.length_append, List.length_singleton] at hk
    by_cases e : k < l.length
    · rw [app_lt e, app_lt (by omega)]; exact h.to k e
    · obtain rfl : k = l.length := by omega
      rw [app_at, ← hl, app_at, Int.toNat_natCast]
  · rw [List.length_append, List.length_singleton, rsum, rsum_app _ (Nat.le_refl _), app_at, Int.toNat_natCast, h.sum]
/-- A rising ring. -/
structure RingP (rs : List R3) (x : List Int) : Prop where
  len : 2 ≤ x.length ∧ x.length ≤ 8
  rng : ∀ i, i < x.length → 0 ≤ x.getD i 0 ∧ x.getD i 0 < (rs.length : Int)
  next : ∀ i, i < x.length → (rs.getD (x.getD i 0).toNat default).b = (rs.getD (x.getD ((i + 1) % x.length) 0).toNat default).a
  pos : 0 < rsum rs x x.length
end Go.Sx.M9
