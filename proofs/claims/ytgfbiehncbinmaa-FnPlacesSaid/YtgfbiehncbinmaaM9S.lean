/-
  Chapter 9, plain: where there are no places there is a rising ring; what a ring is.
-/
import Derived.Test.YtgfbiehncbinmaaM9R
import Derived.Test.YtgfbiehncbinmaaM10
namespace Go.Sx.M9
set_option linter.unusedVariables false
set_option linter.unusedSimpArgs false
open Go Go.Sx

/-- A walk by rules: the rules, the parts, the sum. -/
inductive Seg (rs : List R3) : List Nat → List Int → Int → Prop
  | one (v : Int) : Seg rs [] [v] 0
  | more {js : List Nat} {vs : List Int} {s : Int} {j : Nat} : Seg rs js vs s → j < rs.length → (rs.getD j default).a = lastI vs → Seg rs (js ++ [j]) (vs ++ [(rs.getD j default).b]) (s + (rs.getD j default).c)
theorem Seg.ne {rs : List R3} {js : List Nat} {vs : List Int} {s : Int} (h : Seg rs js vs s) : vs ≠ [] := by
  cases h <;> simp
theorem Seg.len {rs : List R3} {js : List Nat} {vs : List Int} {s : Int} (h : Seg rs js vs s) : vs.length = js.length + 1 := by
  induction h with
  | one v => rfl
  | more _ _ _ ih => simp [ih]
abbrev natI (l : List Nat) : List Int := l.map fun (x : Nat) => (x : Int)
theorem head_snoc {l : List Int} (h : l ≠ []) (x : Int) : (l ++ [x]).getD 0 0 = l.getD 0 0 := by
  cases l with
  | nil => exact absurd rfl h
  | cons a r => rfl
theorem not_cut {l : List Int} (h : l ≠ []) (hd : l.Nodup) : lastI l ∉ l.dropLast := by
  intro hm
  rw [← last_split h, List.nodup_append] at hd
  exact hd.2.2 _ hm _ (List.mem_singleton.2 rfl) rfl
/-- What a walk can be continued to is found from its beginning. -/
theorem Seg.found {rs : List R3} {js : List Nat} {vs : List Int} {s : Int} (h : Seg rs js vs s) : vs.Nodup → ∀ f, (ringF rs f (natI js) vs s).isSome = true → (ringF rs (f + js.length) [] [vs.getD 0 0] 0).isSome = true := by
  induction h with
  | one v => intro _ f hf; exact hf
  | @more js vs s j h1 h2 h3 ih =>
    intro hd f hf
    have hd' : vs.Nodup := (List.nodup_append.1 hd).1
    have hc := not_cut h1.ne hd'
    have := ih hd' (f + 1) (by
      rw [ringF_succ _ _ _ _ _ (fun h => hc h.2)]
      cases hq : (List.range rs.length).findSome? (ringG rs f (natI js) vs s) with
      | some _ => rfl
      | none =>
        have h4 := fs_none.1 hq j h2
        unfold ringG at h4
        rw [if_pos h3] at h4
        simp only [natI, List.map_append, List.map_cons, List.map_nil] at hf h4
        rw [h4] at hf
        cases hf)
    rw [head_snoc h1.ne, List.length_append, List.length_singleton]
    rwa [show f + (js.length + 1) = f + 1 + js.length by omega]
/-- A walk's parts. -/
theorem Seg.split {rs : List R3} {js : List Nat} {vs : List Int} {s : Int} (h : Seg rs js vs s) (b : Int) : b ∈ vs → ∃ js1 vs1 s1 js2 vs2 s2, Seg rs js1 (vs1 ++ [b]) s1 ∧ Seg rs js2 (b :: vs2) s2 ∧ s = s1 + s2 ∧ vs = vs1 ++ b :: vs2 ∧ lastI (b :: vs2) = lastI vs := by
  induction h with
  | one v =>
    intro hb
    obtain rfl := List.mem_singleton.1 hb
    exact ⟨[], [], 0, [], [], 0, .one _, .one _, rfl, rfl, rfl⟩
  | @more js vs s j h1 h2 h3 ih =>
    intro hb
    by_cases hv : b ∈ vs
    · obtain ⟨js1, vs1, s1, js2, vs2, s2, k1, k2, k3, k4, k5⟩ := ih hv
      refine ⟨js1, vs1, s1, js2 ++ [j], vs2 ++ [(rs.getD j default).b], _, k1, k2.more h2 (by rw [k5]; exact h3), by omega, by rw [k4]; simp, ?_⟩
      rw [← List.cons_append, lastI_snoc, lastI_snoc]
    · have : b = (rs.getD j default).b := by
        rcases List.mem_append.1 hb with h | h
        · exact absurd h hv
        · exact List.mem_singleton.1 h
      subst this
      refine ⟨js ++ [j], vs, _, [], [], 0, h1.more h2 h3, .one _, by omega, rfl, ?_⟩
      rw [lastI_snoc]; rfl
theorem Seg.rng {p : Int} {rs : List R3} (hp : okPress p rs = true) {js : List Nat} {vs : List Int} {s : Int} (h : Seg rs js vs s) : (0 ≤ vs.getD 0 0 ∧ vs.getD 0 0 < p) → (∀ v ∈ vs, 0 ≤ v ∧ v < p) ∧ -(1000 * (js.length : Int)) ≤ s ∧ s ≤ 1000 * (js.length : Int) := by
  induction h with
  | one v =>
    intro h
    exact ⟨fun x hx => by rw [List.mem_singleton.1 hx]; exact h, by simp, by simp⟩
  | @more js vs s j h1 h2 h3 ih =>
    intro h
    rw [head_snoc h1.ne] at h
    obtain ⟨i1, i2, i3⟩ := ih h
    have hg := okPress_get hp h2
    refine ⟨fun x hx => ?_, ?_, ?_⟩
    · rcases List.mem_append.1 hx with hx | hx
      · exact i1 x hx
      · rw [List.mem_singleton.1 hx]; omega
    · rw [List.length_append, List.length_singleton]; omega
    · rw [List.length_append, List.length_singleton]; omega
/-- A set of numbers that is bounded has a greatest one. -/
theorem greatest {P : Int → Prop} {m : Int} (hb : ∀ s, P s → s ≤ m) : ∀ (n : Nat) (s0 : Int), P s0 → (m - s0).toNat ≤ n → ∃ s, P s ∧ ∀ t, P t → t ≤ s
  | 0, s0, h, hn => ⟨s0, h, fun t ht => by have := hb t ht; omega⟩
  | n + 1, s0, h, hn => by
    by_cases hx : ∃ t, P t ∧ s0 < t
    · obtain ⟨t, ht, hlt⟩ := hx
      have := hb t ht
      exact greatest hb n t ht (by omega)
    · exact ⟨s0, h, fun t ht => by
        refine Classical.byContradiction fun hn => hx ⟨t, ht, by omega⟩⟩
/-- Without a ring there are places. -/
theorem no_ring {p : Int} {rs : List R3} (hp : okPress p rs = true) (h8 : p ≤ 8) (hr : ringV rs = none) : ∃ F : List Int, F.length = p.toNat ∧ (∀ i, 0 ≤ F.getD i 0) ∧ Feas rs F := by
  obtain ⟨hp1, _, _, hall⟩ := okPress_bd hp
  have sup : ∀ v : Nat, (v : Int) < p → ∃ s, (∃ js vs, Seg rs js vs s ∧ vs.Nodup ∧ (0 ≤ vs.getD 0 0 ∧ vs.getD 0 0 < p) ∧ lastI vs = (v : Int)) ∧ ∀ t, (∃ js vs, Seg rs js vs t ∧ vs.Nodup ∧ (0 ≤ vs.getD 0 0 ∧ vs.getD 0 0 < p) ∧ lastI vs = (v : Int)) → t ≤ s := fun v hv => by
    refine greatest (m := 16000) (fun s ⟨js, vs, h1, h2, h3, _⟩ => ?_) 16000 0 ⟨[], [(v : Int)], .one _, by simp, ⟨by simp, by simpa using hv⟩, rfl⟩ (by omega)
    obtain ⟨k1, k2, k3⟩ := h1.rng hp h3
    have := nodup_small p.toNat h2 fun x hx => by have := k1 x hx; omega
    have := h1.len
    omega
  have hF : ∃ F : Nat → Int, ∀ v : Nat, (v : Int) < p → (∃ js vs, Seg rs js vs (F v) ∧ vs.Nodup ∧ (0 ≤ vs.getD 0 0 ∧ vs.getD 0 0 < p) ∧ lastI vs = (v : Int)) ∧ ∀ t, (∃ js vs, Seg rs js vs t ∧ vs.Nodup ∧ (0 ≤ vs.getD 0 0 ∧ vs.getD 0 0 < p) ∧ lastI vs = (v : Int)) → t ≤ F v := by
    have : ∀ v : Nat, ∃ s, (v : Int) < p → (∃ js vs, Seg rs js vs s ∧ vs.Nodup ∧ (0 ≤ vs.getD 0 0 ∧ vs.getD 0 0 < p) ∧ lastI vs = (v : Int)) ∧ ∀ t, (∃ js vs, Seg rs js vs t ∧ vs.Nodup ∧ (0 ≤ vs.getD 0 0 ∧ vs.getD 0 0 < p) ∧ lastI vs = (v : Int)) → t ≤ s := fun v => by
      by_cases hv : (v : Int) < p
      · obtain ⟨s, h⟩ := sup v hv; exact ⟨s, fun _ => h⟩
      · exact ⟨0, fun h => absurd h hv⟩
    exact ⟨fun v => Classical.choose (this v), fun v => Classical.choose_spec (this v)⟩
  obtain ⟨F, hF⟩ := hF
  have hget : ∀ i, i < p.toNat → ((List.range p.toNat).map F).getD i 0 = F i := fun i hi => by
    simp [List.getD, hi]
  refine ⟨(List.range p.toNat).map F, by simp, fun i => ?_, fun r hm => ?_⟩
  · by_cases hi : i < p.toNat
    · rw [hget i hi]
      exact (hF i (by omega)).2 0 ⟨[], [(i : Int)], .one _, by simp, ⟨by simp, by simp; omega⟩, rfl⟩
    · simp [List.getD, List.getElem?_eq_none, Nat.le_of_not_lt hi]
  · have hb := okRule_bd (hall r hm)
    rw [hget _ (by omega), hget _ (by omega)]
    obtain ⟨j, hj, he⟩ := List.mem_iff_getElem.1 hm
    have hgd : rs.getD j default = r := by rw [List.getD, List.getElem?_eq_getElem hj, Option.getD_some, he]
    obtain ⟨⟨js, vs, h1, h2, h3, h4⟩, _⟩ := hF r.a.toNat (by omega)
    obtain ⟨_, hmax⟩ := hF r.b.toNat (by omega)
    have hja : (rs.getD j default).a = lastI vs := by rw [hgd, h4]; omega
    by_cases hbv : r.b ∈ vs
    · obtain ⟨js1, vs1, s1, js2, vs2, s2, k1, k2, k3, k4, k5⟩ := h1.split r.b hbv
      rw [k4] at h2
      have n1 : (vs1 ++ [r.b]).Nodup := by
        have := List.nodup_append.1 h2
        rw [List.nodup_append]
        refine ⟨this.1, by simp, fun a ha b hb => ?_⟩
        exact this.2.2 a ha b (by simp [List.mem_singleton.1 hb])
      have n2 : (r.b :: vs2).Nodup := (List.nodup_append.1 h2).2.1
      have hd1 : (vs1 ++ [r.b]).getD 0 0 = vs.getD 0 0 := by
        rw [k4]; cases vs1 <;> rfl
      have hs1 := hmax s1 ⟨js1, _, k1, n1, by rw [hd1]; exact h3, by rw [lastI_snoc]; omega⟩
      refine Classical.byContradiction fun hno => ?_
      -- a ring that rises
      have hpos : 0 < s2 + r.c := by omega
      have hfound := k2.found n2 1 (by
        rw [ringF_succ _ _ _ _ _ (fun h => not_cut k2.ne n2 h.2)]
        cases hq : (List.range rs.length).findSome? (ringG rs 0 (natI js2) (r.b :: vs2) s2) with
        | some _ => rfl
        | none =>
          have h5 := fs_none.1 hq j hj
          unfold ringG at h5
          rw [if_pos (by rw [k5]; exact hja), hgd, ringF, lastI_snoc, if_pos ⟨rfl, hpos⟩] at h5
          cases h5)
      have hne : js2 ≠ [] := fun e => by
        have hl := k2.len
        rw [e] at hl
        have : vs2 = [] := List.length_eq_zero_iff.1 (by simpa using hl)
        rw [this] at k5
        have h6 : lastI [r.b] = r.b := rfl
        rw [h6, h4] at k5
        omega
      have hjl := List.length_pos_iff.2 hne
      have hnl := nodup_small p.toNat n2 fun x hx => by
        have := (h1.rng hp h3).1 x (by rw [k4]; exact List.mem_append_right _ hx)
        omega
      rw [k2.len] at hnl
      have e0 : (r.b :: vs2).getD 0 0 = ((r.b.toNat : Nat) : Int) := by simp; omega
      rw [e0, fromP (by omega)] at hfound
      cases hq : ((List.range rs.length).findSome? fun i => if (rs.getD i default).a = ((r.b.toNat : Nat) : Int) then fromR rs (1 + js2.length) i else none) with
      | none => rw [hq] at hfound; cases hfound
      | some x =>
        obtain ⟨i, hi, hix, _⟩ := fs_some hq
        split at hix
        · have h7 := fs_none.1 (by unfold ringV at hr; exact hr) (1 + js2.length) (by omega)
          unfold ringN at h7
          rw [if_neg (by omega)] at h7
          have := fs_none.1 h7 i hi
          rw [this] at hix; cases hix
        · cases hix
    · have := hmax (F r.a.toNat + r.c) ⟨js ++ [j], vs ++ [r.b], by have := h1.more hj hja; rwa [hgd] at this, by
        rw [List.nodup_append]
        refine ⟨h2, by simp, fun a ha b hb => ?_⟩
        rw [List.mem_singleton.1 hb]
        rintro rfl
        exact hbv ha, by rw [head_snoc h1.ne]; exact h3, by rw [lastI_snoc]; omega⟩
      exact this
theorem ring_ex {p : Int} {rs : List R3} (hp : okPress p rs = true) (h8 : p ≤ 8) (hl : leastR p rs = none) : ∃ x, ringV rs = some x := by
  cases h : ringV rs with
  | some x => exact ⟨x, rfl⟩
  | none =>
    obtain ⟨F, h1, h2, h3⟩ := no_ring hp h8 h
    have := least_some hp h1 h2 h3
    rw [hl] at this; cases this
/-! ### What a ring is -/
def rsum (rs : List R3) (l : List Int) : Nat → Int
  | 0 => 0
  | i + 1 => rsum rs l i + (rs.getD (l.getD i 0).toNat default).c
theorem rsum_app {rs : List R3} {l m : List Int} : ∀ i, i ≤ l.length → rsum rs (l ++ m) i = rsum rs l i
  | 0, _ => rfl
  | i + 1, h => by
    have e : (l ++ m).getD i 0 = l.getD i 0 := by rw [List.getD, List.getElem?_append_left (by omega)]; rfl
    simp only [rsum]
    rw [rsum_app i (by omega), e]
theorem app_lt {l m : List Int} {i : Nat} (h : i < l.length) : (l ++ m).getD i 0 = l.getD i 0 := by
  rw [List.getD, List.getElem?_append_left h]; rfl
theorem app_at (l : List Int) (x : Int) : (l ++ [x]).getD l.length 0 = x := by simp [List.getD]
structure Chn (rs : List R3) (l pa : List Int) (s : Int) : Prop where
  len : pa.length = l.length + 1
  rng : ∀ i, i < l.length → 0 ≤ l.getD i 0 ∧ l.getD i 0 < (rs.length : Int)
  fr : ∀ i, i < l.length → (rs.getD (l.getD i 0).toNat default).a = pa.getD i 0
  to : ∀ i, i < l.length → (rs.getD (l.getD i 0).toNat default).b = pa.getD (i + 1) 0
  sum : s = rsum rs l l.length
theorem Chn.more {rs : List R3} {l pa : List Int} {s : Int} (h : Chn rs l pa s) {i : Nat} (hi : i < rs.length) (ha : (rs.getD i default).a = lastI pa) : Chn rs (l ++ [(i : Int)]) (pa ++ [(rs.getD i default).b]) (s + (rs.getD i default).c) := by
  have hl := h.len
  have hla : lastI pa = pa.getD l.length 0 := by rw [lastI, hl]; rfl
  refine ⟨by simp [hl], fun k hk => ?_, fun k hk => ?_, fun k hk => ?_, ?_⟩
  · rw [List.length_append, List.length_singleton] at hk
    by_cases e : k < l.length
    · rw [app_lt e]; exact h.rng k e
    · obtain rfl : k = l.length := by omega
      rw [app_at]; omega
  · rw [List.length_append, List.length_singleton] at hk
    by_cases e : k < l.length
    · rw [app_lt e, app_lt (by omega)]; exact h.fr k e
    · obtain rfl : k = l.length := by omega
      rw [app_at, app_lt (by omega), Int.toNat_natCast, ha, hla]
  · rw [List.length_append, List.length_singleton] at hk
    by_cases e : k < l.length
    · rw [app_lt e, app_lt (by omega)]; exact h.to k e
    · obtain rfl : k = l.length := by omega
      rw [app_at, ← hl, app_at, Int.toNat_natCast]
  · rw [List.length_append, List.length_singleton, rsum, rsum_app _ (Nat.le_refl _), app_at, Int.toNat_natCast, h.sum]
theorem ringF_chn {rs : List R3} : ∀ {f : Nat} {l pa : List Int} {s : Int} {x : List Int}, Chn rs l pa s → ringF rs f l pa s = some x → ∃ qa t, Chn rs x qa t ∧ qa.getD x.length 0 = qa.getD 0 0 ∧ 0 < t
  | 0, l, pa, s, x, hc, h => by
    rw [ringF] at h
    split at h
    · next hh =>
      injection h with h
      subst h
      refine ⟨pa, s, hc, ?_, hh.2⟩
      have := hh.1
      rw [lastI, hc.len] at this
      exact this
    · cases h
  | f + 1, l, pa, s, x, hc, h => by
    by_cases hcut : l ≠ [] ∧ lastI pa ∈ pa.dropLast
    · rw [ringF_cut _ _ _ _ _ hcut] at h; cases h
    · rw [ringF_succ _ _ _ _ _ hcut] at h
      obtain ⟨i, hi0, hi, _⟩ := fs_some h
      unfold ringG at hi
      split at hi
      · next ha => exact ringF_chn (hc.more hi0 ha) hi
      · cases hi
/-- A rising ring. -/
structure RingP (rs : List R3) (x : List Int) : Prop where
  len : 2 ≤ x.length ∧ x.length ≤ 8
  rng : ∀ i, i < x.length → 0 ≤ x.getD i 0 ∧ x.getD i 0 < (rs.length : Int)
  next : ∀ i, i < x.length → (rs.getD (x.getD i 0).toNat default).b = (rs.getD (x.getD ((i + 1) % x.length) 0).toNat default).a
  pos : 0 < rsum rs x x.length
theorem ringV_ring {rs : List R3} {x : List Int} (h : ringV rs = some x) : RingP rs x := by
  have h8 := ringV_len h
  obtain ⟨n, hn, h1, _⟩ := fs_some h
  unfold ringN at h1
  split at h1
  · cases h1
  · obtain ⟨k, hk, h2, _⟩ := fs_some h1
    have h3 := fromR_head h2
    unfold fromR at h2
    have h0 : Chn rs [] [(rs.getD k default).a] 0 := ⟨rfl, fun i hi => absurd hi (by simp), fun i hi => absurd hi (by simp), fun i hi => absurd hi (by simp), rfl⟩
    have h4 := h0.more hk rfl
    simp only [List.nil_append, List.singleton_append, Int.zero_add] at h4
    obtain ⟨qa, t, hc, h5, h6⟩ := ringF_chn h4 h2
    refine ⟨by omega, hc.rng, fun i hi => ?_, by rw [← hc.sum]; exact h6⟩
    rw [hc.to i hi]
    by_cases e : i + 1 < x.length
    · rw [Nat.mod_eq_of_lt e, hc.fr _ e]
    · obtain rfl : i = x.length - 1 := by omega
      rw [show x.length - 1 + 1 = x.length by omega, Nat.mod_self, hc.fr 0 (by omega), h5]
theorem rsum_bd {p : Int} {rs : List R3} (hp : okPress p rs = true) {x : List Int} (hr : ∀ i, i < x.length → 0 ≤ x.getD i 0 ∧ x.getD i 0 < (rs.length : Int)) : ∀ i, i ≤ x.length → -(1000 * (i : Int)) ≤ rsum rs x i ∧ rsum rs x i ≤ 1000 * (i : Int)
  | 0, _ => by simp [rsum]
  | i + 1, h => by
    have ih := rsum_bd hp hr i (by omega)
    have h1 := hr i (by omega)
    have h2 := okPress_get hp (i := (x.getD i 0).toNat) (by omega)
    simp only [rsum]
    omega
end Go.Sx.M9
