/-
  Chapter 9, plain mathematics: places, rounds, the least places.
-/
import Derived.Test.YtgfbiehncbinmaaSd
namespace Go.Sx.M9
set_option linter.unusedVariables false
set_option linter.unusedSimpArgs false
open Go.Sx

/-- A rule that is right among so many parts. -/
def okRule (p : Int) (r : R3) : Bool := (decide (0 ≤ r.a) && decide (r.a ≤ p - 1)) && (decide (0 ≤ r.b) && decide (r.b ≤ p - 1)) && !decide (r.a = r.b) && (decide (-1000 ≤ r.c) && decide (r.c ≤ 1000))
def okPress (p : Int) (rs : List R3) : Bool := (decide (1 ≤ p) && decide (p ≤ 16)) && decide (rs.length ≤ 40) && rs.all (okRule p)

/-- One rule raises the place that it leads to. -/
def rise (s : List Int × Bool) (r : R3) : List Int × Bool :=
  if s.1.getD r.b.toNat 0 < s.1.getD r.a.toNat 0 + r.c then (s.1.set r.b.toNat (s.1.getD r.a.toNat 0 + r.c), true) else s
def pass (rs : List R3) (out : List Int) : List Int × Bool := rs.foldl rise (out, false)
/-- The places behind so many rounds. -/
def outK (rs : List R3) (z : List Int) : Nat → List Int
  | 0 => z
  | k + 1 => (pass rs (outK rs z k)).1
def leastF (rs : List R3) : Nat → List Int → Option (List Int)
  | 0, _ => none
  | n + 1, out => if (pass rs out).2 = true then leastF rs n (pass rs out).1 else some (pass rs out).1
def zeros (p : Int) : List Int := List.replicate p.toNat 0
def leastR (p : Int) (rs : List R3) : Option (List Int) := leastF rs (p.toNat + 1) (zeros p)

theorem okRule_bd {p : Int} {r : R3} (h : okRule p r = true) : 0 ≤ r.a ∧ r.a ≤ p - 1 ∧ 0 ≤ r.b ∧ r.b ≤ p - 1 ∧ r.a ≠ r.b ∧ -1000 ≤ r.c ∧ r.c ≤ 1000 := by
  simp [okRule] at h; omega
theorem okPress_bd {p : Int} {rs : List R3} (h : okPress p rs = true) : 1 ≤ p ∧ p ≤ 16 ∧ rs.length ≤ 40 ∧ ∀ r ∈ rs, okRule p r = true := by
  simp only [okPress, Bool.and_eq_true, decide_eq_true_eq, List.all_eq_true] at h
  exact ⟨h.1.1.1, h.1.1.2, h.1.2, h.2⟩
theorem okPress_get {p : Int} {rs : List R3} (h : okPress p rs = true) {i : Nat} (hi : i < rs.length) : 1 ≤ p ∧ p ≤ 16 ∧ rs.length ≤ 40 ∧ 0 ≤ (rs.getD i default).a ∧ (rs.getD i default).a ≤ p - 1 ∧ 0 ≤ (rs.getD i default).b ∧ (rs.getD i default).b ≤ p - 1 ∧ (rs.getD i default).a ≠ (rs.getD i default).b ∧ -1000 ≤ (rs.getD i default).c ∧ (rs.getD i default).c ≤ 1000 := by
  obtain ⟨h1, h2, h3, h4⟩ := okPress_bd h
  have := okRule_bd (h4 (rs.getD i default) (by simp [List.getD, List.getElem?_eq_getElem hi]))
  omega

theorem rise_length (s : List Int × Bool) (r : R3) : (rise s r).1.length = s.1.length := by
  unfold rise; split <;> simp
/-- The state of a round behind so many rules. -/
def passT (rs : List R3) (out : List Int) (j : Nat) : List Int × Bool := (rs.take j).foldl rise (out, false)
theorem passT_zero (rs : List R3) (out : List Int) : passT rs out 0 = (out, false) := by simp [passT]
theorem passT_succ {rs : List R3} {out : List Int} {j : Nat} (hj : j < rs.length) : passT rs out (j + 1) = rise (passT rs out j) (rs.getD j default) := by
  unfold passT
  rw [take_snoc default hj, List.foldl_append]; rfl
theorem passT_all {rs : List R3} {out : List Int} {j : Nat} (hj : rs.length ≤ j) : passT rs out j = pass rs out := by
  unfold passT pass; rw [List.take_of_length_le hj]
theorem passT_length (rs : List R3) (out : List Int) (j : Nat) : (passT rs out j).1.length = out.length := by
  unfold passT
  generalize rs.take j = l
  have : ∀ (l : List R3) (s : List Int × Bool), (l.foldl rise s).1.length = s.1.length := by
    intro l
    induction l with
    | nil => intro s; rfl
    | cons a l ih => intro s; rw [List.foldl_cons, ih, rise_length]
  exact this l _
theorem outK_length (rs : List R3) (z : List Int) : ∀ k, (outK rs z k).length = z.length
  | 0 => rfl
  | k + 1 => by
    have := passT_length rs (outK rs z k) rs.length
    rw [passT_all (Nat.le_refl _)] at this
    rw [outK, this, outK_length rs z k]

/-- How great the places are at most. -/
def Bd (m : Int) (l : List Int) : Prop := ∀ i, 0 ≤ l.getD i 0 ∧ l.getD i 0 ≤ m
theorem Bd.rise {p : Int} {m : Int} {s : List Int × Bool} {r : R3} (hr : okRule p r = true) (h : Bd m s.1) : Bd (m + 1000) (rise s r).1 := by
  have hb := okRule_bd hr
  intro i
  have h1 := h i
  have h2 := h r.a.toNat
  have h3 := h r.b.toNat
  unfold M9.rise
  split
  · simp only [List.getD_eq_getElem?_getD, List.getElem?_set] at *
    split
    · split
      · simp only [Option.getD_some]; omega
      · simp; omega
    · omega
  · omega
theorem Bd.passT {p : Int} {m : Int} {rs : List R3} {out : List Int} (hr : ∀ r ∈ rs, okRule p r = true) (h : Bd m out) : ∀ j, j ≤ rs.length → Bd (m + 1000 * j) (passT rs out j).1
  | 0, _ => by rw [passT_zero]; simpa using h
  | j + 1, hj => by
    rw [passT_succ (by omega)]
    have ih := Bd.passT hr h j (by omega)
    have := ih.rise (r := rs.getD j default) (hr _ (by simp [List.getD, List.getElem?_eq_getElem (show j < rs.length by omega)]))
    have e : m + 1000 * ((j + 1 : Nat) : Int) = m + 1000 * j + 1000 := by push_cast; omega
    rw [e]; exact this
theorem Bd.outK {p : Int} {rs : List R3} (hp : okPress p rs = true) : ∀ k : Nat, Bd (40000 * k) (outK rs (zeros p) k)
  | 0 => by
    intro i
    simp only [M9.outK, zeros, List.getD_eq_getElem?_getD, List.getElem?_replicate]
    split <;> simp
  | k + 1 => by
    obtain ⟨_, _, h3, h4⟩ := okPress_bd hp
    have := (Bd.outK hp k).passT h4 rs.length (Nat.le_refl _)
    rw [passT_all (Nat.le_refl _)] at this
    intro i
    have := this i
    rw [M9.outK]
    push_cast at *
    omega
theorem leastF_round {rs : List R3} {z : List Int} {n k : Nat} (h : leastF rs (n + 1) z = leastF rs (n + 1 - k) (outK rs z k)) (hk : k ≤ n) : ((pass rs (outK rs z k)).2 = true → leastF rs (n + 1) z = leastF rs (n + 1 - (k + 1)) (outK rs z (k + 1))) ∧
    ((pass rs (outK rs z k)).2 = false → leastF rs (n + 1) z = some (outK rs z (k + 1))) := by
  rw [show n + 1 - k = (n - k) + 1 by omega] at h
  have e1 : leastF rs ((n - k) + 1) (outK rs z k) = if (pass rs (outK rs z k)).2 = true then leastF rs (n - k) (pass rs (outK rs z k)).1 else some (pass rs (outK rs z k)).1 := rfl
  rw [h, e1]
  refine ⟨fun e => ?_, fun e => ?_⟩
  · rw [if_pos e]
    rw [show n + 1 - (k + 1) = n - k by omega]; rfl
  · rw [if_neg (by rw [e]; simp)]; rfl

/-! ### The greatest of a list -/
def maxT (xs : List Int) (i : Nat) : Int := (xs.take i).foldl max (xs.getD 0 0)
def maxL (xs : List Int) : Int := xs.foldl max (xs.getD 0 0)
theorem maxT_succ {xs : List Int} {i : Nat} (hi : i < xs.length) : maxT xs (i + 1) = max (maxT xs i) (xs.getD i 0) := by
  unfold maxT; rw [take_snoc 0 hi, List.foldl_append]; rfl
theorem maxT_one {xs : List Int} (h : 0 < xs.length) : maxT xs 1 = xs.getD 0 0 := by
  rw [maxT_succ h]; simp [maxT]
theorem foldl_max (l : List Int) : ∀ a : Int, (∀ m, m ∈ l → m ≤ l.foldl max a) ∧ a ≤ l.foldl max a ∧ (l.foldl max a = a ∨ l.foldl max a ∈ l) := by
  induction l with
  | nil => intro a; simp
  | cons x r ih =>
    intro a
    obtain ⟨h1, h2, h3⟩ := ih (max a x)
    rw [List.foldl_cons]
    refine ⟨fun m hm => ?_, by omega, ?_⟩
    · rcases List.mem_cons.1 hm with rfl | hm
      · omega
      · exact h1 m hm
    · rcases h3 with h3 | h3
      · rw [h3]
        rcases Int.le_total a x with h | h
        · right; rw [Int.max_eq_right h]; exact List.mem_cons_self
        · left; exact Int.max_eq_left h
      · exact .inr (List.mem_cons_of_mem _ h3)
theorem maxL_get (xs : List Int) (h : ∀ i, 0 ≤ xs.getD i 0) (i : Nat) : xs.getD i 0 ≤ maxL xs := by
  obtain ⟨h1, h2, _⟩ := foldl_max xs (xs.getD 0 0)
  by_cases hi : i < xs.length
  · exact h1 _ (by simp [List.getD, List.getElem?_eq_getElem hi])
  · have := h 0
    have e : xs.getD i 0 = 0 := by simp [List.getD, hi]
    unfold maxL; omega
theorem maxL_mem {xs : List Int} (h : 0 < xs.length) : ∃ i, i < xs.length ∧ maxL xs = xs.getD i 0 := by
  obtain ⟨_, _, h3⟩ := foldl_max xs (xs.getD 0 0)
  rcases h3 with h3 | h3
  · exact ⟨0, h, h3⟩
  · obtain ⟨i, hi, e⟩ := List.getElem_of_mem h3
    exact ⟨i, hi, by unfold maxL; rw [← e]; simp [List.getD, List.getElem?_eq_getElem hi]⟩

/-! ### The least places are not great -/
theorem foldl_rise_false : ∀ (l : List R3) (s : List Int × Bool), (l.foldl rise s).2 = false → s.2 = false ∧ (l.foldl rise s).1 = s.1 ∧ ∀ r ∈ l, s.1.getD r.a.toNat 0 + r.c ≤ s.1.getD r.b.toNat 0
  | [], s, h => ⟨h, rfl, by simp⟩
  | x :: l, s, h => by
    rw [List.foldl_cons] at h ⊢
    obtain ⟨h1, h2, h3⟩ := foldl_rise_false l _ h
    unfold rise at h1 h2 h3
    split at h1
    · cases h1
    · rename_i hx
      rw [if_neg hx] at h2 h3
      refine ⟨h1, ?_, fun r hr => ?_⟩
      · unfold rise; rw [if_neg hx]; exact h2
      · rcases List.mem_cons.1 hr with rfl | hr
        · omega
        · exact h3 r hr
theorem pass_false {rs : List R3} {out : List Int} (h : (pass rs out).2 = false) : (pass rs out).1 = out ∧ ∀ r ∈ rs, out.getD r.a.toNat 0 + r.c ≤ out.getD r.b.toNat 0 := by
  obtain ⟨_, h1, h2⟩ := foldl_rise_false rs (out, false) h
  exact ⟨h1, h2⟩
/-- What is settled lies without a gap. -/
structure Gap (F out : List Int) : Prop where
  le : ∀ i, out.getD i 0 ≤ F.getD i 0
  gap : ∀ c : Int, 0 ≤ c → ∀ i, out.getD i 0 = F.getD i 0 → c < F.getD i 0 → ∃ j, out.getD j 0 = F.getD j 0 ∧ c < F.getD j 0 ∧ F.getD j 0 ≤ c + 1000
theorem getD_set (xs : List Int) (i j : Nat) (v : Int) (hi : i < xs.length) : (xs.set i v).getD j 0 = if i = j then v else xs.getD j 0 := by
  simp only [List.getD_eq_getElem?_getD, List.getElem?_set]
  split
  · rename_i e; subst e; simp [hi]
  · rfl
theorem Gap.rise {F : List Int} {s : List Int × Bool} {r : R3} (h : Gap F s.1) (hf : F.getD r.a.toNat 0 + r.c ≤ F.getD r.b.toNat 0) (hab : r.a.toNat ≠ r.b.toNat) (hb : r.b.toNat < s.1.length) (hc : r.c ≤ 1000) : Gap F (M9.rise s r).1 := by
  unfold M9.rise
  split
  · rename_i hlt
    have la := h.le r.a.toNat
    refine ⟨fun i => ?_, fun c hc0 i hi hci => ?_⟩
    · rw [getD_set _ _ _ _ hb]
      split
      · rename_i e; subst e; omega
      · exact h.le i
    · rw [getD_set _ _ _ _ hb] at hi
      have key : ∀ i, s.1.getD i 0 = F.getD i 0 → c < F.getD i 0 → ∃ j, (s.1.set r.b.toNat (s.1.getD r.a.toNat 0 + r.c)).getD j 0 = F.getD j 0 ∧ c < F.getD j 0 ∧ F.getD j 0 ≤ c + 1000 := fun i h1 h2 => by
        obtain ⟨j, k1, k2, k3⟩ := h.gap c hc0 i h1 h2
        refine ⟨j, ?_, k2, k3⟩
        rw [getD_set _ _ _ _ hb]
        split
        · rename_i e; subst e; omega
        · exact k1
      split at hi
      · rename_i e
        subst e
        by_cases hle : F.getD r.b.toNat 0 ≤ c + 1000
        · refine ⟨r.b.toNat, ?_, hci, hle⟩
          rw [getD_set _ _ _ _ hb, if_pos rfl]; exact hi
        · exact key r.a.toNat (by omega) (by omega)
      · exact key i hi hci
  · exact h
theorem Gap.pass {p : Int} {F : List Int} {rs : List R3} (hr : ∀ r ∈ rs, okRule p r = true) (hf : ∀ r ∈ rs, F.getD r.a.toNat 0 + r.c ≤ F.getD r.b.toNat 0) {s : List Int × Bool} (h : Gap F s.1) (hl : s.1.length = p.toNat) : Gap F (rs.foldl M9.rise s).1 := by
  induction rs generalizing s with
  | nil => exact h
  | cons r rs ih =>
    have hb := okRule_bd (hr r List.mem_cons_self)
    rw [List.foldl_cons]
    exact ih (fun r h => hr r (List.mem_cons_of_mem _ h)) (fun r h => hf r (List.mem_cons_of_mem _ h)) (h.rise (hf r List.mem_cons_self) (by omega) (by omega) (by omega)) (by rw [rise_length, hl])
theorem leastF_fix {rs : List R3} : ∀ {n : Nat} {z F : List Int}, leastF rs n z = some F → ∃ k, k < n ∧ F = outK rs z k ∧ (∀ j, j < k → (M9.pass rs (outK rs z j)).2 = true) ∧ (M9.pass rs F).2 = false
  | 0, _, _, h => by simp [leastF] at h
  | n + 1, z, F, h => by
    unfold leastF at h
    split at h
    · rename_i hp
      obtain ⟨k, h1, h2, h3, h4⟩ := leastF_fix h
      have e : ∀ k, outK rs (M9.pass rs z).1 k = outK rs z (k + 1) := by
        intro k
        induction k with
        | zero => rfl
        | succ k ih => rw [outK, ih]; rfl
      refine ⟨k + 1, by omega, by rw [h2, e], fun j hj => ?_, h4⟩
      cases j with
      | zero => exact hp
      | succ j => rw [← e]; exact h3 j (by omega)
    · rename_i hp
      injection h with h
      have hp : (M9.pass rs z).2 = false := by simpa using hp
      obtain ⟨e, _⟩ := pass_false hp
      rw [e] at h
      subst h
      exact ⟨0, by omega, rfl, fun j hj => by omega, hp⟩
theorem Gap.outK {p : Int} {F : List Int} {rs : List R3} (hp : okPress p rs = true) (hf : ∀ r ∈ rs, F.getD r.a.toNat 0 + r.c ≤ F.getD r.b.toNat 0) (h0 : ∀ i, 0 ≤ F.getD i 0) : ∀ k, Gap F (M9.outK rs (zeros p) k)
  | 0 => by
    have e : ∀ i, (zeros p).getD i 0 = 0 := fun i => by simp only [zeros, List.getD_eq_getElem?_getD, List.getElem?_replicate]; split <;> simp
    refine ⟨fun i => ?_, fun c hc i hi hci => ?_⟩
    · rw [M9.outK, e]; exact h0 i
    · rw [M9.outK, e] at hi; omega
  | k + 1 => Gap.pass (okPress_bd hp).2.2.2 hf (s := (M9.outK rs (zeros p) k, false)) (Gap.outK hp hf h0 k) (by show (M9.outK rs (zeros p) k).length = _; rw [outK_length, zeros, List.length_replicate])
theorem countP_lt {α : Type} {p q : α → Bool} : ∀ {l : List α}, (∀ x ∈ l, p x = true → q x = true) → (∃ x ∈ l, q x = true ∧ p x = false) → l.countP p < l.countP q
  | [], _, h => by obtain ⟨x, hx, _⟩ := h; cases hx
  | a :: l, hm, h => by
    have hle := List.countP_mono_left (p := p) (q := q) (l := l) (fun x hx => hm x (List.mem_cons_of_mem _ hx))
    obtain ⟨x, hx, hq, hpx⟩ := h
    have ha := hm a List.mem_cons_self
    rcases List.mem_cons.1 hx with rfl | hx
    · rw [List.countP_cons, List.countP_cons, hq, hpx]; simp; omega
    · have := countP_lt (fun x hx => hm x (List.mem_cons_of_mem _ hx)) ⟨x, hx, hq, hpx⟩
      rw [List.countP_cons, List.countP_cons]
      cases h1 : p a <;> cases h2 : q a <;> simp_all <;> omega
theorem no_gap_bound {F : List Int} (h : ∀ c : Int, 0 ≤ c → ∀ i, c < F.getD i 0 → ∃ j, c < F.getD j 0 ∧ F.getD j 0 ≤ c + 1000) (m : Nat) : F.getD m 0 ≤ 1000 * F.length := by
  rcases Int.lt_or_le (1000 * F.length) (F.getD m 0) with hm | hm
  · exfalso
    have hin : ∀ j, 0 < F.getD j 0 → j < F.length := fun j hj => by
      rcases Nat.lt_or_ge j F.length with h | h
      · exact h
      · simp [List.getD, List.getElem?_eq_none h] at hj
    have key : ∀ k : Nat, k ≤ F.length → k ≤ (List.range F.length).countP (fun j => decide (F.getD j 0 ≤ 1000 * (k : Int)) && decide (0 < F.getD j 0)) := by
      intro k
      induction k with
      | zero => intro _; exact Nat.zero_le _
      | succ k ih =>
        intro hk
        have ih := ih (by omega)
        obtain ⟨j, h1, h2⟩ := h (1000 * (k : Int)) (by omega) m (by omega)
        have := countP_lt (p := fun j => decide (F.getD j 0 ≤ 1000 * (k : Int)) && decide (0 < F.getD j 0)) (q := fun j => decide (F.getD j 0 ≤ 1000 * ((k + 1 : Nat) : Int)) && decide (0 < F.getD j 0)) (l := List.range F.length)
          (fun x _ hx => by simp only [Bool.and_eq_true, decide_eq_true_eq] at hx ⊢; push_cast; omega) ⟨j, List.mem_range.2 (hin j (by omega)), by simp only [Bool.and_eq_true, decide_eq_true_eq]; push_cast; omega, by rw [Bool.and_eq_false_iff]; exact .inl (decide_eq_false (by omega))⟩
        omega
    have h1 := key F.length (Nat.le_refl _)
    have h2 := countP_lt (p := fun j => decide (F.getD j 0 ≤ 1000 * (F.length : Int)) && decide (0 < F.getD j 0)) (q := fun _ => true) (l := List.range F.length) (fun _ _ _ => rfl) ⟨m, List.mem_range.2 (hin m (by omega)), rfl, by rw [Bool.and_eq_false_iff]; exact .inl (decide_eq_false (by omega))⟩
    rw [List.countP_true, List.length_range] at h2
    omega
  · exact hm
theorem leastR_spec {p : Int} {rs : List R3} (hp : okPress p rs = true) {F : List Int} (h : leastR p rs = some F) : F.length = p.toNat ∧ (∀ i, 0 ≤ F.getD i 0) ∧ (∀ r ∈ rs, F.getD r.a.toNat 0 + r.c ≤ F.getD r.b.toNat 0) ∧ ∀ i, F.getD i 0 ≤ 16000 := by
  obtain ⟨k, _, hk, _, hF⟩ := leastF_fix h
  obtain ⟨_, hfix⟩ := pass_false hF
  have hl : F.length = p.toNat := by rw [hk, outK_length, zeros, List.length_replicate]
  have h0 : ∀ i, 0 ≤ F.getD i 0 := fun i => by rw [hk]; exact (Bd.outK hp k i).1
  have hg := Gap.outK hp hfix h0 k
  rw [← hk] at hg
  have := no_gap_bound (F := F) (fun c hc i hi => by obtain ⟨j, _, h1, h2⟩ := hg.gap c hc i rfl hi; exact ⟨j, h1, h2⟩)
  have hb := okPress_bd hp
  refine ⟨hl, h0, hfix, fun i => ?_⟩
  have := this i
  omega
theorem leastR_max {p : Int} {rs : List R3} (hp : okPress p rs = true) {F : List Int} (h : leastR p rs = some F) : maxL F ≤ 16000 ∧ 0 ≤ maxL F ∧ 0 < F.length := by
  obtain ⟨h1, h2, _, h4⟩ := leastR_spec hp h
  have hb := okPress_bd hp
  have hl : 0 < F.length := by omega
  obtain ⟨i, _, e⟩ := maxL_mem hl
  exact ⟨by rw [e]; exact h4 i, by rw [e]; exact h2 i, hl⟩
end Go.Sx.M9
