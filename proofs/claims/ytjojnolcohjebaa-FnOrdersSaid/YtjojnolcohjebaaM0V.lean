/-
  Chapter 10, plain: a tree that grows by the least weight: its sum does not depend on the choice among equal weights.
-/
import Derived.Test.YtjojnolcohjebaaM0
namespace Go.Sx.M0
set_option linter.unusedVariables false
set_option linter.unusedSimpArgs false
open Go Go.Sx

/-! ### Lists that must leave something out -/
theorem mem_all_len : ∀ (n : Nat) (R : List Int), (∀ k, k < n → (k : Int) ∈ R) → n ≤ R.length
  | 0, _, _ => Nat.zero_le _
  | n + 1, R, h => by
    have h1 := h n (Nat.lt_succ_self n)
    have h2 := mem_all_len n (R.erase (n : Int)) fun k hk => by
      have := h k (by omega)
      exact (List.mem_erase_of_ne (by omega)).2 this
    have h3 := List.length_erase_of_mem h1
    have h4 := List.length_pos_of_mem h1
    omega
theorem left_out {n : Nat} {R : List Int} (h : R.length < n) : ∃ k, k < n ∧ (k : Int) ∉ R := by
  refine Classical.byContradiction fun hn => ?_
  have := mem_all_len n R fun k hk => Classical.byContradiction fun hk' => hn ⟨k, hk, hk'⟩
  omega

theorem nodup_len : ∀ (n : Nat) {R : List Int}, R.Nodup → (∀ x ∈ R, 0 ≤ x ∧ x < (n : Int)) → R.length ≤ n
  | 0, [], _, _ => Nat.le_refl _
  | 0, x :: _, _, h => by have := h x (by simp); omega
  | n + 1, R, hd, h => by
    by_cases hm : (n : Int) ∈ R
    · have h1 := nodup_len n (R := R.erase (n : Int)) (hd.erase _) fun x hx => by
        obtain ⟨h2, h3⟩ := (List.Nodup.mem_erase_iff hd).1 hx
        have := h x h3; omega
      have h2 := List.length_erase_of_mem hm
      omega
    · have h1 := nodup_len n hd fun x hx => by
        have := h x hx
        have : x ≠ (n : Int) := fun e => hm (e ▸ hx)
        omega
      omega

/-! ### Growing -/
/-- A pair that crosses. -/
structure Cr (n : Nat) (R : List Int) (i k : Nat) : Prop where
  hi : i < n
  hk : k < n
  mem : (i : Int) ∈ R
  out : (k : Int) ∉ R
/-- What has been scanned, and the best pair there. -/
def Sc (W : List (List Int)) (R : List Int) (D : Nat → Nat → Prop) (b a : Int) : Prop :=
  (b = -1 ∧ ∀ i k, D i k → ¬ Cr W.length R i k) ∨ ((∃ i k, Cr W.length R i k ∧ b = wt W i k ∧ a = (k : Int)) ∧ ∀ i k, D i k → Cr W.length R i k → b ≤ wt W i k)
theorem Sc.take {W : List (List Int)} (hW : okW W) {R : List Int} {D D' : Nat → Nat → Prop} {b a : Int} (h : Sc W R D b a) {i k : Nat} (hD : ∀ x y, D' x y → D x y ∨ (x = i ∧ y = k)) (hc : Cr W.length R i k) (hlt : b < 0 ∨ wt W i k < b) : Sc W R D' (wt W i k) k := by
  refine .inr ⟨⟨i, k, hc, rfl, rfl⟩, fun x y hx hxy => ?_⟩
  rcases hD x y hx with hx | ⟨rfl, rfl⟩
  · rcases h with ⟨_, h⟩ | ⟨⟨i', k', hc', rfl, _⟩, h⟩
    · exact absurd hxy (h x y hx)
    · have h1 := h x y hx hxy
      have h2 := (hW.2.2 i' hc'.hi k' hc'.hk).1
      omega
  · exact Int.le_refl _
theorem Sc.pass {W : List (List Int)} {R : List Int} {D D' : Nat → Nat → Prop} {b a : Int} (h : Sc W R D b a) {i k : Nat} (hD : ∀ x y, D' x y → D x y ∨ (x = i ∧ y = k)) (hc : Cr W.length R i k → 0 ≤ b ∧ b ≤ wt W i k) : Sc W R D' b a := by
  rcases h with ⟨rfl, h⟩ | ⟨h1, h⟩
  · refine .inl ⟨rfl, fun x y hx hxy => ?_⟩
    rcases hD x y hx with hx | ⟨rfl, rfl⟩
    · exact h x y hx hxy
    · have := hc hxy; omega
  · refine .inr ⟨h1, fun x y hx hxy => ?_⟩
    rcases hD x y hx with hx | ⟨rfl, rfl⟩
    · exact h x y hx hxy
    · exact (hc hxy).2
theorem Sc.mono {W : List (List Int)} {R : List Int} {D D' : Nat → Nat → Prop} {b a : Int} (h : Sc W R D b a) (hD : ∀ x y, Cr W.length R x y → D' x y → D x y) : Sc W R D' b a := by
  rcases h with ⟨rfl, h⟩ | ⟨h1, h⟩
  · exact .inl ⟨rfl, fun x y hx hc => h x y (hD x y hc hx) hc⟩
  · exact .inr ⟨h1, fun x y hx hc => h x y (hD x y hc hx) hc⟩
theorem Sc.none (W : List (List Int)) (R : List Int) {D : Nat → Nat → Prop} (hD : ∀ x y, ¬ D x y) (a : Int) : Sc W R D (-1) a := .inl ⟨rfl, fun x y h => absurd h (hD x y)⟩
theorem Sc.bd {W : List (List Int)} (hW : okW W) {R : List Int} {D : Nat → Nat → Prop} {b a : Int} (h : Sc W R D b a) : -1 ≤ b ∧ b ≤ 1000 := by
  rcases h with ⟨rfl, _⟩ | ⟨⟨i, k, hc, rfl, _⟩, _⟩
  · omega
  · have := hW.2.2 i hc.hi k hc.hk; omega

inductive PR (W : List (List Int)) : List Int → List Int → Prop
  | base : PR W [0] []
  | step {R ms : List Int} {i k : Nat} : PR W R ms → Cr W.length R i k → (∀ x y, Cr W.length R x y → wt W i k ≤ wt W x y) → PR W (R ++ [(k : Int)]) (ms ++ [wt W i k])

def sumI : List Int → Int
  | [] => 0
  | x :: r => x + sumI r
theorem sumI_app : ∀ (a b : List Int), sumI (a ++ b) = sumI a + sumI b
  | [], b => by simp [sumI]
  | x :: r, b => by simp only [List.cons_append, sumI, sumI_app r b]; omega

theorem PR.len {W : List (List Int)} {R ms : List Int} (h : PR W R ms) : R.length = ms.length + 1 := by
  induction h with
  | base => rfl
  | step _ _ _ ih => simp [ih]
theorem PR.zero {W : List (List Int)} {R ms : List Int} (h : PR W R ms) : (0 : Int) ∈ R := by
  induction h with
  | base => simp
  | step _ _ _ ih => simp [ih]
theorem PR.rng {W : List (List Int)} (hn : 0 < W.length) {R ms : List Int} (h : PR W R ms) : ∀ x ∈ R, 0 ≤ x ∧ x < (W.length : Int) := by
  induction h with
  | base => intro x hx; simp at hx; subst hx; omega
  | step _ hc _ ih =>
    intro x hx
    rcases List.mem_append.1 hx with hx | hx
    · exact ih x hx
    · have := hc.hk
      simp at hx; subst hx; omega
theorem PR.nodup {W : List (List Int)} {R ms : List Int} (h : PR W R ms) : R.Nodup := by
  induction h with
  | base => simp
  | step _ hc _ ih => exact nodup_snoc ih hc.out
theorem PR.ms {W : List (List Int)} (hW : okW W) {R ms : List Int} (h : PR W R ms) : ∀ m ∈ ms, 0 ≤ m ∧ m ≤ 1000 := by
  induction h with
  | base => simp
  | step _ hc _ ih =>
    intro m hm
    rcases List.mem_append.1 hm with hm | hm
    · exact ih m hm
    · rw [List.mem_singleton] at hm; subst hm
      have := hW.2.2 _ hc.hi _ hc.hk; omega
/-- A full scan gives the next part. -/
theorem PR.scan {W : List (List Int)} {R ms : List Int} (h : PR W R ms) (hl : R.length < W.length) {D : Nat → Nat → Prop} (hD : ∀ x y, Cr W.length R x y → D x y) {b a : Int} (hs : Sc W R D b a) :
    PR W (R ++ [a]) (ms ++ [b]) ∧ 0 ≤ a ∧ a < (W.length : Int) ∧ a ∉ R := by
  rcases hs with ⟨_, hs⟩ | ⟨⟨i, k, hc, rfl, rfl⟩, hs⟩
  · obtain ⟨k, hk, hk'⟩ := left_out hl
    have hc : Cr W.length R 0 k := ⟨by omega, hk, h.zero, hk'⟩
    exact absurd hc (hs 0 k (hD 0 k hc))
  · exact ⟨.step h hc fun x y hxy => hs x y (hD x y hxy) hxy, by omega, by have := hc.hk; omega, hc.out⟩
theorem sumI_bd : ∀ {ms : List Int}, (∀ m ∈ ms, 0 ≤ m ∧ m ≤ 1000) → 0 ≤ sumI ms ∧ sumI ms ≤ 1000 * ms.length
  | [], _ => by simp [sumI]
  | m :: r, h => by
    have h1 := h m (by simp)
    have h2 := sumI_bd (ms := r) fun x hx => h x (by simp [hx])
    simp only [sumI, List.length_cons]; omega

/-! ### Parts that hold together -/
inductive Con (W : List (List Int)) (t : Int) (i : Nat) : Nat → Prop
  | refl : Con W t i i
  | step {j k : Nat} : Con W t i j → j < W.length → k < W.length → wt W j k ≤ t → Con W t i k
theorem Con.trans {W : List (List Int)} {t : Int} {i j k : Nat} (h : Con W t i j) (h' : Con W t j k) : Con W t i k := by
  induction h' with
  | refl => exact h
  | step _ h1 h2 h3 ih => exact .step ih h1 h2 h3
theorem Con.symm {W : List (List Int)} (hW : okW W) {t : Int} {i j : Nat} (h : Con W t i j) : Con W t j i := by
  induction h with
  | refl => exact .refl
  | step _ h1 h2 h3 ih =>
    refine Con.trans (.step .refl h2 h1 ?_) ih
    rw [← (hW.2.2 _ h1 _ h2).2.2.1]; exact h3
theorem Con.cross {W : List (List Int)} {t : Int} {R : List Int} (hmin : ∀ x y, Cr W.length R x y → t < wt W x y) {i j : Nat} (h : Con W t i j) (hi : (i : Int) ∈ R) : (j : Int) ∈ R := by
  induction h with
  | refl => exact hi
  | step _ h1 h2 h3 ih =>
    refine Classical.byContradiction fun hn => ?_
    have := hmin _ _ ⟨h1, h2, ih, hn⟩
    omega

/-- As many as are above. -/
def above (t : Int) : List Int → Nat
  | [] => 0
  | x :: r => (if t < x then 1 else 0) + above t r
theorem above_app (t : Int) : ∀ (a b : List Int), above t (a ++ b) = above t a + above t b
  | [], b => by simp [above]
  | x :: r, b => by simp only [List.cons_append, above, above_app t r b]; omega

structure Reps (W : List (List Int)) (t : Int) (R : List Int) (C : List Nat) : Prop where
  sub : ∀ x ∈ C, (x : Int) ∈ R
  apart : C.Pairwise fun x y => ¬ Con W t x y
  all : ∀ v : Nat, (v : Int) ∈ R → ∃ x ∈ C, Con W t v x

theorem PR.reps {W : List (List Int)} (hW : okW W) (t : Int) {R ms : List Int} (h : PR W R ms) : ∃ C, Reps W t R C ∧ C.length = above t ms + 1 := by
  induction h with
  | base =>
    refine ⟨[0], ⟨by simp, by simp, fun v hv => ?_⟩, rfl⟩
    simp at hv; subst hv; exact ⟨0, by simp, .refl⟩
  | step h0 hc hm ih =>
    rename_i R ms i k
    obtain ⟨C, hC, hl⟩ := ih
    by_cases ht : t < wt W i k
    · refine ⟨k :: C, ⟨fun x hx => ?_, ?_, fun v hv => ?_⟩, by rw [above_app]; simp only [above, if_pos ht, hl, List.length_cons]⟩
      · rcases List.mem_cons.1 hx with rfl | hx
        · simp
        · exact List.mem_append_left _ (hC.sub x hx)
      · refine List.pairwise_cons.2 ⟨fun x hx hcon => ?_, hC.apart⟩
        exact hc.out (Con.cross (fun a b hab => Int.lt_of_lt_of_le ht (hm a b hab)) (hcon.symm hW) (hC.sub x hx))
      · rcases List.mem_append.1 hv with hv | hv
        · obtain ⟨x, hx, hcon⟩ := hC.all v hv
          exact ⟨x, List.mem_cons_of_mem _ hx, hcon⟩
        · simp at hv
          have : v = k := by omega
          subst this
          exact ⟨v, by simp, .refl⟩
    · refine ⟨C, ⟨fun x hx => List.mem_append_left _ (hC.sub x hx), hC.apart, fun v hv => ?_⟩, by rw [above_app]; simp only [above, if_neg ht, hl]⟩
      rcases List.mem_append.1 hv with hv | hv
      · exact hC.all v hv
      · simp at hv
        have : v = k := by omega
        subst this
        obtain ⟨x, hx, hcon⟩ := hC.all i hc.mem
        exact ⟨x, hx, Con.trans (Con.symm hW (.step .refl hc.hi hc.hk (by omega))) hcon⟩

theorem reps_le {W : List (List Int)} (hW : okW W) {t : Int} : ∀ {C C' : List Nat}, C.Pairwise (fun x y => ¬ Con W t x y) → (∀ x ∈ C, ∃ y ∈ C', Con W t x y) → C.length ≤ C'.length
  | [], _, _, _ => Nat.zero_le _
  | x :: C, C', hp, ha => by
    obtain ⟨h1, h2⟩ := List.pairwise_cons.1 hp
    obtain ⟨y, hy, hxy⟩ := ha x (by simp)
    have h3 := reps_le hW (C' := C'.erase y) h2 fun z hz => by
      obtain ⟨u, hu, hzu⟩ := ha z (List.mem_cons_of_mem _ hz)
      refine ⟨u, (List.mem_erase_of_ne ?_).2 hu, hzu⟩
      intro e; subst e
      exact h1 z hz (hxy.trans (hzu.symm hW))
    have h4 := List.length_erase_of_mem hy
    have h5 := List.length_pos_of_mem hy
    simp only [List.length_cons]; omega

def capS (B : Int) : List Int → Int
  | [] => 0
  | x :: r => min x B + capS B r
theorem capS_succ (B : Int) : ∀ (ms : List Int), capS (B + 1) ms = capS B ms + above B ms
  | [] => by simp [capS, above]
  | x :: r => by
    simp only [capS, above, capS_succ B r]
    split <;> omega
theorem capS_zero : ∀ {ms : List Int}, (∀ m ∈ ms, 0 ≤ m ∧ m ≤ 1000) → capS 0 ms = 0
  | [], _ => rfl
  | x :: r, h => by
    have h1 := h x (by simp)
    simp only [capS, capS_zero (ms := r) fun m hm => h m (by simp [hm])]; omega
theorem capS_full : ∀ {ms : List Int}, (∀ m ∈ ms, 0 ≤ m ∧ m ≤ 1000) → capS 1000 ms = sumI ms
  | [], _ => rfl
  | x :: r, h => by
    have h1 := h x (by simp)
    simp only [capS, sumI, capS_full (ms := r) fun m hm => h m (by simp [hm])]; omega

theorem sum_of_above {ms ms' : List Int} (h1 : ∀ m ∈ ms, 0 ≤ m ∧ m ≤ 1000) (h2 : ∀ m ∈ ms', 0 ≤ m ∧ m ≤ 1000) (h : ∀ t : Int, above t ms = above t ms') : sumI ms = sumI ms' := by
  have key : ∀ B : Nat, capS B ms = capS B ms' := fun B => by
    induction B with
    | zero => rw [show ((0 : Nat) : Int) = 0 from rfl, capS_zero h1, capS_zero h2]
    | succ B ih => rw [show ((B + 1 : Nat) : Int) = (B : Int) + 1 by omega, capS_succ, capS_succ, ih, h]
  have := key 1000
  rw [show ((1000 : Nat) : Int) = 1000 from rfl, capS_full h1, capS_full h2] at this
  exact this

/-- Two trees that have everything have the same sum. -/
theorem PR.same {W : List (List Int)} (hW : okW W) {R R' ms ms' : List Int} (h : PR W R ms) (h' : PR W R' ms') (hl : R.length = W.length) (hl' : R'.length = W.length) : sumI ms = sumI ms' := by
  have hall : ∀ {R ms : List Int}, PR W R ms → R.length = W.length → ∀ v : Nat, v < W.length → (v : Int) ∈ R := fun {R ms} h hl v hv => by
    refine Classical.byContradiction fun hn => ?_
    have := nodup_len W.length (nodup_snoc h.nodup hn) fun x hx => by
      rcases List.mem_append.1 hx with hx | hx
      · exact h.rng (by omega) x hx
      · simp at hx; subst hx; omega
    simp at this; omega
  refine sum_of_above (h.ms hW) (h'.ms hW) fun t => ?_
  obtain ⟨C, hC, e⟩ := h.reps hW t
  obtain ⟨C', hC', e'⟩ := h'.reps hW t
  have hsub : ∀ {R ms C}, PR W R ms → Reps W t R C → ∀ x ∈ C, x < W.length := fun h hC x hx => by
    have := h.rng (by have := hW.1; omega) _ (hC.sub x hx); omega
  have l1 := reps_le hW hC.apart fun x hx => hC'.all x (hall h' hl' x (hsub h hC x hx))
  have l2 := reps_le hW hC'.apart fun x hx => hC.all x (hall h hl x (hsub h' hC' x hx))
  omega
end Go.Sx.M0
