/-
  Chapter 9, plain mathematics: when there are least places; the latest places.
-/
import Derived.Test.YtgfbiehncbinmaaM9
namespace Go.Sx.M9
set_option linter.unusedVariables false
set_option linter.unusedSimpArgs false
open Go.Sx

def Feas (rs : List R3) (F : List Int) : Prop := ∀ r ∈ rs, F.getD r.a.toNat 0 + r.c ≤ F.getD r.b.toNat 0
def LeL (x y : List Int) : Prop := ∀ i, x.getD i 0 ≤ y.getD i 0
def inR (n : Nat) (r : R3) : Prop := r.a.toNat < n ∧ r.b.toNat < n
theorem okRule_in {p : Int} {r : R3} (h : okRule p r = true) : inR p.toNat r := by
  have := okRule_bd h
  exact ⟨by omega, by omega⟩

theorem rise_le {F : List Int} {s : List Int × Bool} {r : R3} (hf : F.getD r.a.toNat 0 + r.c ≤ F.getD r.b.toNat 0) (hb : r.b.toNat < s.1.length) (h : LeL s.1 F) : LeL (rise s r).1 F := by
  intro i
  unfold rise
  split
  · rw [getD_set _ _ _ _ hb]
    split
    · rename_i e; subst e
      have := h r.a.toNat
      omega
    · exact h i
  · exact h i
theorem rise_ge {s : List Int × Bool} {r : R3} (hb : r.b.toNat < s.1.length) : LeL s.1 (rise s r).1 := by
  intro i
  unfold rise
  split
  · rw [getD_set _ _ _ _ hb]
    split
    · rename_i e; subst e; omega
    · exact Int.le_refl _
  · exact Int.le_refl _
theorem foldl_le {F : List Int} : ∀ {l : List R3} {s : List Int × Bool}, Feas l F → (∀ r ∈ l, inR s.1.length r) → LeL s.1 F → LeL (l.foldl rise s).1 F
  | [], _, _, _, h => h
  | r :: l, s, hf, hi, h => by
    rw [List.foldl_cons]
    exact foldl_le (fun x hx => hf x (List.mem_cons_of_mem _ hx)) (fun x hx => by rw [rise_length]; exact hi x (List.mem_cons_of_mem _ hx)) (rise_le (hf r List.mem_cons_self) (hi r List.mem_cons_self).2 h)
theorem foldl_ge : ∀ {l : List R3} {s : List Int × Bool}, (∀ r ∈ l, inR s.1.length r) → LeL s.1 (l.foldl rise s).1
  | [], _, _ => fun _ => Int.le_refl _
  | r :: l, s, hi => fun i => by
    rw [List.foldl_cons]
    have h1 := rise_ge (s := s) (r := r) (hi r List.mem_cons_self).2 i
    have h2 := foldl_ge (l := l) (s := rise s r) (fun x hx => by rw [rise_length]; exact hi x (List.mem_cons_of_mem _ hx)) i
    omega
/-- A rule that is tight, from a part that has its place: the part that it leads to has its place behind the round. -/
theorem foldl_settle {F : List Int} {r : R3} : ∀ {l : List R3} {s : List Int × Bool}, Feas l F → (∀ r ∈ l, inR s.1.length r) → LeL s.1 F → r ∈ l → s.1.getD r.a.toNat 0 = F.getD r.a.toNat 0 → F.getD r.a.toNat 0 + r.c = F.getD r.b.toNat 0 →
    (l.foldl rise s).1.getD r.b.toNat 0 = F.getD r.b.toNat 0
  | [], _, _, _, _, h, _, _ => by cases h
  | x :: l, s, hf, hi, h, hr, ha, ht => by
    have hf' : Feas l F := fun y hy => hf y (List.mem_cons_of_mem _ hy)
    have hx := hi x List.mem_cons_self
    have hi' : ∀ y ∈ l, inR (rise s x).1.length y := fun y hy => by rw [rise_length]; exact hi y (List.mem_cons_of_mem _ hy)
    have h' : LeL (rise s x).1 F := rise_le (hf x List.mem_cons_self) hx.2 h
    rw [List.foldl_cons]
    rcases List.mem_cons.1 hr with rfl | hr
    · have h1 := foldl_le hf' hi' h' r.b.toNat
      have h2 := foldl_ge hi' r.b.toNat
      have h3 : (rise s r).1.getD r.b.toNat 0 = F.getD r.b.toNat 0 := by
        have h4 := h r.b.toNat
        unfold rise
        split
        · rw [getD_set _ _ _ _ hx.2, if_pos rfl]; omega
        · omega
      omega
    · refine foldl_settle hf' hi' h' hr ?_ ht
      have h1 := rise_ge (s := s) (r := x) hx.2 r.a.toNat
      have h2 := h' r.a.toNat
      omega

theorem sum_nonneg : ∀ {l : List Int}, (∀ i, 0 ≤ l.getD i 0) → 0 ≤ l.sum
  | [], _ => by simp
  | x :: l, h => by
    have h0 := h 0
    have := sum_nonneg (l := l) (fun i => by simpa [List.getD] using h (i + 1))
    simp [List.getD] at h0
    simp; omega
theorem sum_le_of_le : ∀ {x y : List Int}, x.length = y.length → LeL x y → x.sum ≤ y.sum ∧ ((∃ i, i < x.length ∧ x.getD i 0 < y.getD i 0) → x.sum < y.sum)
  | [], [], _, _ => by simp
  | a :: x, b :: y, hl, h => by
    have h0 := h 0
    obtain ⟨h1, h2⟩ := sum_le_of_le (x := x) (y := y) (by simpa using hl) (fun i => by simpa [List.getD] using h (i + 1))
    simp [List.getD] at h0
    refine ⟨by simp; omega, fun ⟨i, hi, hlt⟩ => ?_⟩
    cases i with
    | zero => simp [List.getD] at hlt; simp; omega
    | succ i =>
      have := h2 ⟨i, by simpa using hi, by simpa [List.getD] using hlt⟩
      simp; omega
  | [], _ :: _, hl, _ => by simp at hl
  | _ :: _, [], hl, _ => by simp at hl

/-- Places that keep all rules, of the least sum. -/
theorem exists_min {rs : List R3} {n : Nat} : ∀ (m : Nat) (F : List Int), F.sum.toNat ≤ m → F.length = n → (∀ i, 0 ≤ F.getD i 0) → Feas rs F → ∃ L : List Int, L.length = n ∧ (∀ i, 0 ≤ L.getD i 0) ∧ Feas rs L ∧ ∀ L' : List Int, L'.length = n → (∀ i, 0 ≤ L'.getD i 0) → Feas rs L' → ¬ L'.sum < L.sum
  | m, F, hm, hl, h0, hf => by
    by_cases h : ∃ F' : List Int, F'.length = n ∧ (∀ i, 0 ≤ F'.getD i 0) ∧ Feas rs F' ∧ F'.sum < F.sum
    · obtain ⟨F', h1, h2, h3, h4⟩ := h
      have := sum_nonneg h2
      cases m with
      | zero => omega
      | succ m => exact exists_min m F' (by omega) h1 h2 h3
    · exact ⟨F, hl, h0, hf, fun L' h1 h2 h3 h4 => h ⟨L', h1, h2, h3, h4⟩⟩

/-- While some part has not its place, a tight rule leads from one that has it to one that has not. -/
theorem exists_tight {rs : List R3} {n : Nat} {L out : List Int} (hin : ∀ r ∈ rs, inR n r) (hl : L.length = n) (hmin : ∀ L' : List Int, L'.length = n → (∀ i, 0 ≤ L'.getD i 0) → Feas rs L' → ¬ L'.sum < L.sum) (hf : Feas rs L) (ho : out.length = n) (h0 : ∀ i, 0 ≤ out.getD i 0) (hle : LeL out L)
    (hu : ∃ i, i < n ∧ out.getD i 0 < L.getD i 0) : ∃ r ∈ rs, out.getD r.a.toNat 0 = L.getD r.a.toNat 0 ∧ L.getD r.a.toNat 0 + r.c = L.getD r.b.toNat 0 ∧ out.getD r.b.toNat 0 < L.getD r.b.toNat 0 := by
  apply Classical.byContradiction
  intro hno
  let L' : List Int := (List.range n).map fun i => if out.getD i 0 < L.getD i 0 then L.getD i 0 - 1 else L.getD i 0
  have hg : ∀ i, i < n → L'.getD i 0 = if out.getD i 0 < L.getD i 0 then L.getD i 0 - 1 else L.getD i 0 := fun i hi => by
    simp only [L', List.getD_eq_getElem?_getD, List.getElem?_map, List.getElem?_range hi, Option.map_some, Option.getD_some]
  have hlen : L'.length = n := by simp [L']
  have hge : ∀ i, n ≤ i → L'.getD i 0 = 0 ∧ L.getD i 0 = 0 := fun i hi => by
    exact ⟨by simp [List.getD, List.getElem?_eq_none (show L'.length ≤ i by omega)], by simp [List.getD, List.getElem?_eq_none (show L.length ≤ i by omega)]⟩
  have hle' : LeL L' L := fun i => by
    by_cases hi : i < n
    · rw [hg i hi]; split <;> omega
    · have := hge i (by omega); omega
  refine hmin L' hlen (fun i => ?_) (fun r hr => ?_) ?_
  · by_cases hi : i < n
    · rw [hg i hi]
      have := h0 i
      have := hle i
      split <;> omega
    · have := hge i (by omega); omega
  · have hr' := hin r hr
    have h1 := hf r hr
    rw [hg _ hr'.1, hg _ hr'.2]
    have h2 := hle r.a.toNat
    split
    · split <;> omega
    · split
      · rename_i ha hb
        have : ¬ L.getD r.a.toNat 0 + r.c = L.getD r.b.toNat 0 := fun e => hno ⟨r, hr, by omega, e, hb⟩
        omega
      · exact h1
  · obtain ⟨i, hi, hlt⟩ := hu
    exact (sum_le_of_le (by rw [hlen, hl]) hle').2 ⟨i, by rw [hlen]; exact hi, by rw [hg i hi, if_pos hlt]; omega⟩

def cnt (n : Nat) (out L : List Int) : Nat := (List.range n).countP fun i => decide (out.getD i 0 = L.getD i 0)
theorem cnt_full {n : Nat} {out L : List Int} (h : n ≤ cnt n out L) : ∀ i, i < n → out.getD i 0 = L.getD i 0 := fun i hi => by
  apply Classical.byContradiction
  intro hne
  have := countP_lt (p := fun i => decide (out.getD i 0 = L.getD i 0)) (q := fun _ => true) (l := List.range n) (fun _ _ _ => rfl) ⟨i, List.mem_range.2 hi, rfl, by simpa using hne⟩
  rw [List.countP_true, List.length_range] at this
  unfold cnt at h
  omega

theorem leastF_none {rs : List R3} : ∀ {n : Nat} {z : List Int}, leastF rs n z = none → ∀ k, k < n → (pass rs (outK rs z k)).2 = true
  | 0, _, _, k, hk => by omega
  | n + 1, z, h, k, hk => by
    unfold leastF at h
    split at h
    · rename_i hp
      have e : ∀ k, outK rs (M9.pass rs z).1 k = outK rs z (k + 1) := by
        intro k
        induction k with
        | zero => rfl
        | succ k ih => rw [outK, ih]; rfl
      cases k with
      | zero => exact hp
      | succ k => rw [← e]; exact leastF_none h k (by omega)
    · cases h
theorem pass_feas {rs : List R3} {out : List Int} (h : Feas rs out) : (pass rs out).2 = false := by
  have : ∀ (l : List R3), Feas l out → l.foldl rise (out, false) = (out, false) := by
    intro l
    induction l with
    | nil => intro _; rfl
    | cons r l ih =>
      intro h
      have h1 := h r List.mem_cons_self
      rw [List.foldl_cons]
      have e : rise (out, false) r = (out, false) := by
        unfold rise
        rw [if_neg (by simp only; omega)]
      rw [e]
      exact ih fun x hx => h x (List.mem_cons_of_mem _ hx)
  unfold M9.pass
  rw [this rs h]
theorem zeros_get (p : Int) (i : Nat) : (zeros p).getD i 0 = 0 := by
  simp only [zeros, List.getD_eq_getElem?_getD, List.getElem?_replicate]; split <;> simp
theorem outK_le {p : Int} {rs : List R3} {F : List Int} (hr : ∀ r ∈ rs, okRule p r = true) (hf : Feas rs F) (h0 : ∀ i, 0 ≤ F.getD i 0) : ∀ k, LeL (outK rs (zeros p) k) F
  | 0 => fun i => by rw [outK, zeros_get]; exact h0 i
  | k + 1 => foldl_le (s := (outK rs (zeros p) k, false)) hf (fun r h => by show inR (outK rs (zeros p) k).length r; rw [outK_length, zeros, List.length_replicate]; exact okRule_in (hr r h)) (outK_le hr hf h0 k)

/-- If some places keep all rules, the rounds end in time. -/
theorem least_some {p : Int} {rs : List R3} (hp : okPress p rs = true) {F : List Int} (hl : F.length = p.toNat) (h0 : ∀ i, 0 ≤ F.getD i 0) (hf : Feas rs F) : (leastR p rs).isSome = true := by
  obtain ⟨hp1, _, _, hr⟩ := okPress_bd hp
  have hin : ∀ r ∈ rs, inR p.toNat r := fun r h => okRule_in (hr r h)
  obtain ⟨L, l1, l2, l3, l4⟩ := exists_min (n := p.toNat) _ F (Nat.le_refl _) hl h0 hf
  have hlen : ∀ k, (outK rs (zeros p) k).length = p.toNat := fun k => by rw [outK_length, zeros, List.length_replicate]
  have hk0 : ∀ k i, 0 ≤ (outK rs (zeros p) k).getD i 0 := fun k i => (Bd.outK hp k i).1
  have hle : ∀ k, LeL (outK rs (zeros p) k) L := outK_le hr l3 l2
  have key : ∀ k : Nat, k ≤ p.toNat → k ≤ cnt p.toNat (outK rs (zeros p) k) L := by
    intro k
    induction k with
    | zero => intro _; exact Nat.zero_le _
    | succ k ih =>
      intro hk
      have ih := ih (by omega)
      have hmono : ∀ i, (outK rs (zeros p) k).getD i 0 = L.getD i 0 → (outK rs (zeros p) (k + 1)).getD i 0 = L.getD i 0 := fun i e => by
        have h1 := hle (k + 1) i
        have h2 := foldl_ge (s := (outK rs (zeros p) k, false)) (l := rs) (fun r h => by show inR (outK rs (zeros p) k).length r; rw [hlen]; exact hin r h) i
        have h3 : (outK rs (zeros p) (k + 1)).getD i 0 = (rs.foldl rise (outK rs (zeros p) k, false)).1.getD i 0 := rfl
        simp only at h2
        omega
      by_cases hu : ∃ i, i < p.toNat ∧ (outK rs (zeros p) k).getD i 0 < L.getD i 0
      · obtain ⟨r, r1, r2, r3, r4⟩ := exists_tight hin l1 l4 l3 (hlen k) (hk0 k) (hle k) hu
        have hs := foldl_settle (s := (outK rs (zeros p) k, false)) l3 (fun r h => by show inR (outK rs (zeros p) k).length r; rw [hlen]; exact hin r h) (hle k) r1 r2 r3
        have := countP_lt (p := fun i => decide ((outK rs (zeros p) k).getD i 0 = L.getD i 0)) (q := fun i => decide ((outK rs (zeros p) (k + 1)).getD i 0 = L.getD i 0)) (l := List.range p.toNat)
          (fun i _ h => by simp only [decide_eq_true_eq] at h ⊢; exact hmono i h) ⟨r.b.toNat, List.mem_range.2 (hin r r1).2, by simp only [decide_eq_true_eq]; exact hs, by simp only [decide_eq_false_iff_not]; omega⟩
        unfold cnt at *
        omega
      · have hall : ∀ i, i < p.toNat → (outK rs (zeros p) k).getD i 0 = L.getD i 0 := fun i hi => by
          have h1 := hle k i
          rcases Int.lt_or_le ((outK rs (zeros p) k).getD i 0) (L.getD i 0) with h | h
          · exact absurd ⟨i, hi, h⟩ hu
          · omega
        have : cnt p.toNat (outK rs (zeros p) (k + 1)) L = p.toNat := by
          unfold cnt
          rw [List.countP_eq_length.2 (fun i hi => by simp only [decide_eq_true_eq]; exact hmono i (hall i (List.mem_range.1 hi))), List.length_range]
        omega
  have hfull := cnt_full (key p.toNat (Nat.le_refl _))
  have e : outK rs (zeros p) p.toNat = L := by
    apply List.ext_getElem (by rw [hlen, l1])
    intro i h1 h2
    have := hfull i (by rw [hlen] at h1; exact h1)
    simpa [List.getD, List.getElem?_eq_getElem h1, List.getElem?_eq_getElem h2] using this
  cases hn : leastR p rs with
  | some _ => rfl
  | none =>
    have := leastF_none hn p.toNat (by omega)
    rw [e, pass_feas l3] at this
    cases this
theorem least_le {p : Int} {rs : List R3} (hp : okPress p rs = true) {L F : List Int} (h : leastR p rs = some L) (h0 : ∀ i, 0 ≤ F.getD i 0) (hf : Feas rs F) : LeL L F := by
  obtain ⟨k, _, hk, _, _⟩ := leastF_fix h
  rw [hk]
  exact outK_le (okPress_bd hp).2.2.2 hf h0 k

/-! ### The latest places: the least ones, seen from the width -/
def flp (r : R3) : R3 := ⟨r.b, r.a, r.c⟩
def flps (rs : List R3) : List R3 := rs.map flp
def comp (w : Int) (l : List Int) : List Int := l.map fun n => w - n
end Go.Sx.M9
