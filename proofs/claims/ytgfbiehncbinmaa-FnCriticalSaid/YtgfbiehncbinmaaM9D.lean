/-
  Chapter 9, plain: least shortest ways between ends, found by distances.
-/
import Derived.Test.YtgfbiehncbinmaaM9C
namespace Go.Sx.M9
set_option linter.unusedVariables false
set_option linter.unusedSimpArgs false
open Go Go.Sx

/-! ### Distances -/
/-- From there so many steps lead to an end. -/
def BW (E : Int → Int → Bool) (T : Int → Bool) : Nat → Int → Prop
  | 0, k => T k = true
  | d + 1, k => ∃ j, E k j = true ∧ BW E T d j
structure Dist (E : Int → Int → Bool) (T : Int → Bool) (n : Nat) (F : List Int) : Prop where
  len : F.length = n
  at_ : ∀ k : Nat, k < n → (F.getD k 0 = -1 ∧ ∀ d, ¬ BW E T d (k : Int)) ∨ ∃ d : Nat, F.getD k 0 = (d : Int) ∧ BW E T d (k : Int) ∧ ∀ d', BW E T d' (k : Int) → d ≤ d'
theorem Dist.ge {E : Int → Int → Bool} {T : Int → Bool} {n : Nat} {F : List Int} (h : Dist E T n F) {k : Nat} (hk : k < n) : -1 ≤ F.getD k 0 := by
  rcases h.at_ k hk with ⟨h1, _⟩ | ⟨d, h1, _⟩ <;> omega
theorem Dist.le {E : Int → Int → Bool} {T : Int → Bool} {n : Nat} {F : List Int} (h : Dist E T n F) {k : Nat} (hk : k < n) {d : Nat} (hd : BW E T d (k : Int)) : 0 ≤ F.getD k 0 ∧ F.getD k 0 ≤ d := by
  rcases h.at_ k hk with ⟨h1, h2⟩ | ⟨e, h1, _, h2⟩
  · exact absurd hd (h2 d)
  · have := h2 d hd
    omega
theorem BW.or {E : Int → Int → Bool} {T U : Int → Bool} : ∀ {d : Nat} {k : Int}, BW E (fun v => T v || U v) d k ↔ BW E T d k ∨ BW E U d k
  | 0, k => by simp [BW]
  | d + 1, k => by
    simp only [BW, BW.or (d := d)]
    constructor
    · rintro ⟨j, h1, h2 | h2⟩
      · exact .inl ⟨j, h1, h2⟩
      · exact .inr ⟨j, h1, h2⟩
    · rintro (⟨j, h1, h2⟩ | ⟨j, h1, h2⟩)
      · exact ⟨j, h1, .inl h2⟩
      · exact ⟨j, h1, .inr h2⟩
theorem Dist.congr {E : Int → Int → Bool} {T U : Int → Bool} {n : Nat} {F : List Int} (h : Dist E T n F) (e : ∀ v, T v = U v) : Dist E U n F := by
  obtain rfl : T = U := funext e
  exact h
def mrg (f b : Int) : Int := if 0 ≤ b ∧ (f < 0 ∨ b < f) then b else f
theorem Dist.mrg {E : Int → Int → Bool} {T U : Int → Bool} {n : Nat} {F B H : List Int} (h : Dist E T n F) (h' : Dist E U n B) (hl : H.length = n) (hH : ∀ k, k < n → H.getD k 0 = mrg (F.getD k 0) (B.getD k 0)) : Dist E (fun v => T v || U v) n H := by
  refine ⟨hl, fun k hk => ?_⟩
  rw [hH k hk]
  simp only [BW.or]
  unfold M9.mrg
  rcases h.at_ k hk with ⟨h1, h2⟩ | ⟨d, h1, h2, h3⟩ <;> rcases h'.at_ k hk with ⟨g1, g2⟩ | ⟨e, g1, g2, g3⟩
  · left
    rw [if_neg (by omega)]
    exact ⟨h1, fun d hd => hd.elim (h2 d) (g2 d)⟩
  · right
    rw [if_pos (by omega)]
    exact ⟨e, g1, .inr g2, fun d' hd => hd.elim (fun q => absurd q (h2 _)) (g3 _)⟩
  · right
    rw [if_neg (by omega)]
    exact ⟨d, h1, .inl h2, fun d' hd => hd.elim (h3 _) (fun q => absurd q (g2 _))⟩
  · right
    by_cases hc : e < d
    · rw [if_pos (by omega)]
      exact ⟨e, g1, .inr g2, fun d' hd => hd.elim (fun q => by have := h3 _ q; omega) (g3 _)⟩
    · rw [if_neg (by omega)]
      exact ⟨d, h1, .inl h2, fun d' hd => hd.elim (h3 _) (fun q => by have := g3 _ q; omega)⟩
/-- No ends: nothing leads there. -/
theorem Dist.none {E : Int → Int → Bool} {n : Nat} : Dist E (fun _ => false) n (List.replicate n (-1)) := by
  refine ⟨by simp, fun k hk => .inl ⟨by simp [List.getD, hk], fun d => ?_⟩⟩
  have : ∀ (d : Nat) (k : Int), ¬ BW E (fun _ => false) d k := fun d => by
    induction d with
    | zero => intro k h; cases h
    | succ d ih => intro k ⟨j, _, h⟩; exact ih j h
  exact this d _

/-! ### Backwards from one part -/
/-- The edges of a graph of rows. -/
def edgeG (g : List (List Int)) (u v : Int) : Bool := decide (0 ≤ u) && decide (v ∈ g.getD u.toNat [])
theorem edgeG_nat {g : List (List Int)} {i : Nat} {v : Int} : edgeG g (i : Int) v = true ↔ v ∈ g.getD i [] := by
  simp [edgeG]
structure BInv (g : List (List Int)) (to : Nat) (n : Nat) (out Q : List Int) (h : Nat) : Prop where
  glen : g.length = n
  len : out.length = n
  hto : to < n
  hh : h ≤ Q.length
  rng : ∀ x ∈ Q, 0 ≤ x ∧ x < (n : Int)
  nd : Q.Nodup
  mem : ∀ k : Nat, k < n → ((k : Int) ∈ Q ↔ 0 ≤ out.getD k 0)
  neg : ∀ k : Nat, k < n → -1 ≤ out.getD k 0 ∧ out.getD k 0 ≤ n
  snd : ∀ k : Nat, k < n → 0 ≤ out.getD k 0 → BW (edgeG g) (fun v => decide (v = (to : Int))) (out.getD k 0).toNat (k : Int)
  root : out.getD to 0 = 0
  mono : ∀ i j, i < j → j < Q.length → out.getD (Q.getD i 0).toNat 0 ≤ out.getD (Q.getD j 0).toNat 0
  win : h < Q.length → ∀ j, j < Q.length → out.getD (Q.getD j 0).toNat 0 ≤ out.getD (Q.getD h 0).toNat 0 + 1
  done : ∀ j, j < h → ∀ i : Nat, i < n → Q.getD j 0 ∈ g.getD i [] → 0 ≤ out.getD i 0 ∧ out.getD i 0 ≤ out.getD (Q.getD j 0).toNat 0 + 1
  cnt : ∀ j, j < Q.length → out.getD (Q.getD j 0).toNat 0 ≤ j
theorem mem_idx {l : List Int} {j : Nat} (h : j < l.length) : l.getD j 0 ∈ l := by
  rw [List.getD, List.getElem?_eq_getElem h]; exact List.getElem_mem h
theorem BInv.start {g : List (List Int)} {to n : Nat} (hg : g.length = n) (h : to < n) : BInv g to n ((List.replicate n (-1)).set to 0) [(to : Int)] 0 := by
  have hget : ∀ k : Nat, k < n → ((List.replicate n (-1 : Int)).set to 0).getD k 0 = if k = to then 0 else -1 := fun k hk => by
    rw [List.getD, List.getElem?_set]
    by_cases e : to = k
    · subst e; simp [hk]
    · rw [if_neg e, if_neg (fun q => e q.symm)]; simp [hk]
  refine ⟨hg, by simp, h, by simp, fun x hx => ?_, by simp, fun k hk => ?_, fun k hk => ?_, fun k hk h0 => ?_, ?_, fun i j hij hj => ?_, fun h0 j hj => ?_, fun j hj => ?_, fun j hj => ?_⟩
  · rw [List.mem_singleton.1 hx]; omega
  · rw [hget k hk, List.mem_singleton]; split <;> omega
  · rw [hget k hk]; split <;> omega
  · rw [hget k hk] at h0 ⊢
    split at h0
    · next e => rw [if_pos e]; subst e; simp [BW]
    · omega
  · rw [hget to h, if_pos rfl]
  · simp at hj; omega
  · simp at hj; subst hj; simp only [List.getD_cons_zero, Int.toNat_natCast]; omega
  · omega
  · simp at hj; subst hj; simp only [List.getD_cons_zero, Int.toNat_natCast, hget to h, if_pos]; simp
/-- A step: from the head of the line, for the first parts. -/
structure BStep (g : List (List Int)) (to n : Nat) (out Q : List Int) (h i : Nat) : Prop where
  inv : BInv g to n out Q h
  lt : h < Q.length
  part : ∀ k : Nat, k < i → k < n → Q.getD h 0 ∈ g.getD k [] → 0 ≤ out.getD k 0 ∧ out.getD k 0 ≤ out.getD (Q.getD h 0).toNat 0 + 1
theorem BInv.step {g : List (List Int)} {to n : Nat} {out Q : List Int} {h : Nat} (hi : BInv g to n out Q h) (hl : h < Q.length) : BStep g to n out Q h 0 := ⟨hi, hl, fun k h _ _ => by omega⟩
theorem BStep.skip {g : List (List Int)} {to n : Nat} {out Q : List Int} {h i : Nat} (hi : BStep g to n out Q h i) (hn : i < n) (hc : ¬ (out.getD i 0 < 0 ∧ Q.getD h 0 ∈ g.getD i [])) : BStep g to n out Q h (i + 1) := by
  refine ⟨hi.inv, hi.lt, fun k hk hkn hm => ?_⟩
  by_cases e : k = i
  · subst e
    have h0 : 0 ≤ out.getD k 0 := Int.not_lt.1 fun q => hc ⟨q, hm⟩
    refine ⟨h0, ?_⟩
    obtain ⟨j, hj, ej⟩ := mem_getI ((hi.inv.mem k hn).2 h0)
    have := hi.inv.win hi.lt j hj
    rw [ej] at this
    simpa using this
  · exact hi.part k (by omega) hkn hm
theorem BStep.add {g : List (List Int)} {to n : Nat} {out Q : List Int} {h i : Nat} (hi : BStep g to n out Q h i) (hn : i < n) (h0 : out.getD i 0 < 0) (hm : Q.getD h 0 ∈ g.getD i []) : BStep g to n (out.set i (out.getD (Q.getD h 0).toNat 0 + 1)) (Q ++ [(i : Int)]) h (i + 1) := by
  have hv := hi.inv
  have hlt := hi.lt
  have hQh := hv.rng _ (mem_idx hlt)
  have hnot : (i : Int) ∉ Q := fun q => by have := (hv.mem i hn).1 q; omega
  have hget : ∀ k : Nat, (out.set i (out.getD (Q.getD h 0).toNat 0 + 1)).getD k 0 = if k = i then out.getD (Q.getD h 0).toNat 0 + 1 else out.getD k 0 := fun k => by
    rw [List.getD, List.getElem?_set]
    by_cases e : i = k
    · subst e; simp [hv.len, hn]
    · rw [if_neg e, if_neg (fun q => e q.symm)]; rfl
  have hne : ∀ j, j < Q.length → (Q.getD j 0).toNat ≠ i := fun j hj e => hnot (by
    have h1 := mem_idx hj
    have h2 := hv.rng _ h1
    rwa [show Q.getD j 0 = (i : Int) by omega] at h1)
  have hold : ∀ j, j < Q.length → (out.set i (out.getD (Q.getD h 0).toNat 0 + 1)).getD ((Q ++ [(i : Int)]).getD j 0).toNat 0 = out.getD (Q.getD j 0).toNat 0 := fun j hj => by
    rw [getD_snoc_l hj, hget, if_neg (hne j hj)]
  have hnew : (out.set i (out.getD (Q.getD h 0).toNat 0 + 1)).getD ((Q ++ [(i : Int)]).getD Q.length 0).toNat 0 = out.getD (Q.getD h 0).toNat 0 + 1 := by
    rw [getD_snoc_r, Int.toNat_natCast, hget, if_pos rfl]
  have hhe : (Q ++ [(i : Int)]).getD h 0 = Q.getD h 0 := getD_snoc_l hlt
  have hp0 : 0 ≤ out.getD (Q.getD h 0).toNat 0 := (hv.mem (Q.getD h 0).toNat (by omega)).1 (by rw [Int.toNat_of_nonneg hQh.1]; exact mem_idx hlt)
  have hlen : (Q ++ [(i : Int)]).length = Q.length + 1 := by simp
  have hQn : (Q ++ [(i : Int)]).Nodup := by
    rw [List.nodup_append]
    refine ⟨hv.nd, by simp, fun a ha b hb => ?_⟩
    rw [List.mem_singleton] at hb
    subst hb
    exact fun q => hnot (q ▸ ha)
  have hrng : ∀ x ∈ Q ++ [(i : Int)], 0 ≤ x ∧ x < (n : Int) := fun x hx => by
    rcases List.mem_append.1 hx with hx | hx
    · exact hv.rng x hx
    · rw [List.mem_singleton.1 hx]; omega
  have hQc := nodup_bound n hQn hrng
  have hch := hv.cnt h hlt
  refine ⟨⟨hv.glen, by simp [hv.len], hv.hto, by have := hv.hh; omega, hrng, hQn, fun k hk => ?_, fun k hk => ?_, fun k hk hk0 => ?_, ?_, fun a b hab hb => ?_, fun _ j hj => ?_, fun j hj k hk hm' => ?_, fun j hj => ?_⟩, by omega, fun k hk hkn hm' => ?_⟩
  · rw [hget, List.mem_append, hv.mem k hk, List.mem_singleton]
    by_cases e : k = i
    · subst e
      rw [if_pos rfl]
      exact ⟨fun _ => by omega, fun _ => .inr rfl⟩
    · rw [if_neg e]
      constructor
      · rintro (q | q)
        · exact q
        · omega
      · exact .inl
  · rw [hget]
    split
    · omega
    · exact hv.neg k hk
  · rw [hget] at hk0 ⊢
    by_cases e : k = i
    · subst e
      rw [if_pos rfl, show (out.getD (Q.getD h 0).toNat 0 + 1).toNat = (out.getD (Q.getD h 0).toNat 0).toNat + 1 by omega]
      refine ⟨Q.getD h 0, edgeG_nat.2 hm, ?_⟩
      have := hv.snd (Q.getD h 0).toNat (by omega) hp0
      rwa [Int.toNat_of_nonneg hQh.1] at this
    · rw [if_neg e] at hk0 ⊢
      exact hv.snd k hk hk0
  · rw [hget, if_neg (fun e => by have := hv.root; rw [e] at this; omega)]; exact hv.root
  · rw [hlen] at hb
    rw [hold a (by omega)]
    by_cases e : b = Q.length
    · subst e; rw [hnew]; exact hv.win hlt a (by omega)
    · rw [hold b (by omega)]; exact hv.mono a b hab (by omega)
  · rw [hlen] at hj
    rw [hold h hlt]
    by_cases e : j = Q.length
    · subst e; rw [hnew]; omega
    · rw [hold j (by omega)]; exact hv.win hlt j (by omega)
  · rw [getD_snoc_l (by omega)] at hm'
    have := hv.done j hj k hk hm'
    rw [hold j (by omega), hget, if_neg (fun e => by rw [e] at this; omega)]
    exact this
  · rw [hlen] at hj
    by_cases e : j = Q.length
    · subst e; rw [hnew]; omega
    · rw [hold j (by omega)]; exact hv.cnt j (by omega)
  · rw [hhe] at hm'
    rw [hold h hlt, hget]
    by_cases e : k = i
    · rw [if_pos e]; omega
    · rw [if_neg e]; exact hi.part k (by omega) hkn hm'
theorem BStep.next {g : List (List Int)} {to n : Nat} {out Q : List Int} {h : Nat} (hi : BStep g to n out Q h n) : BInv g to n out Q (h + 1) := by
  have hv := hi.inv
  have hlt := hi.lt
  refine ⟨hv.glen, hv.len, hv.hto, hlt, hv.rng, hv.nd, hv.mem, hv.neg, hv.snd, hv.root, hv.mono, fun h1 j hj => ?_, fun j hj i hin hm => ?_, hv.cnt⟩
  · have h2 := hv.win hlt j hj
    have h3 := hv.mono h (h + 1) (by omega) h1
    omega
  · by_cases e : j = h
    · subst e; exact hi.part i hin hin hm
    · exact hv.done j (by omega) i hin hm
theorem BInv.dist {g : List (List Int)} {to n : Nat} {out Q : List Int} {h : Nat} (hv : BInv g to n out Q h) (hh : h = Q.length) : Dist (edgeG g) (fun v => decide (v = (to : Int))) n out := by
  have key : ∀ (d : Nat) (k : Int), BW (edgeG g) (fun v => decide (v = (to : Int))) d k → 0 ≤ k ∧ k < n ∧ 0 ≤ out.getD k.toNat 0 ∧ out.getD k.toNat 0 ≤ d := fun d => by
    induction d with
    | zero =>
      intro k hk
      simp only [BW, decide_eq_true_eq] at hk
      subst hk
      have := hv.hto
      have := hv.root
      rw [Int.toNat_natCast]
      omega
    | succ d ih =>
      intro k ⟨j, he, hj⟩
      obtain ⟨j0, j1, j2, j3⟩ := ih j hj
      simp only [edgeG, Bool.and_eq_true, decide_eq_true_eq] at he
      have hk : k.toNat < n := by
        by_cases hk : k.toNat < g.length
        · rw [← hv.glen]; exact hk
        · rw [List.getD, List.getElem?_eq_none (by omega)] at he; simp at he
      obtain ⟨m, hm, em⟩ := mem_getI ((hv.mem j.toNat (by omega)).2 j2)
      rw [Int.toNat_of_nonneg j0] at em
      have := hv.done m (by omega) k.toNat hk (by rw [em]; exact he.2)
      rw [em] at this
      refine ⟨he.1, by omega, this.1, by omega⟩
  refine ⟨hv.len, fun k hk => ?_⟩
  have h1 := hv.neg k hk
  by_cases h0 : 0 ≤ out.getD k 0
  · right
    refine ⟨(out.getD k 0).toNat, by omega, hv.snd k hk h0, fun d hd => ?_⟩
    have := key d _ hd
    rw [Int.toNat_natCast] at this
    omega
  · left
    refine ⟨by omega, fun d hd => ?_⟩
    have := key d _ hd
    rw [Int.toNat_natCast] at this
    omega

/-! ### Where to begin -/
def begT (S : Int → Bool) (F : List Int) : Nat → Int
  | 0 => -1
  | i + 1 => if S (i : Int) = true ∧ 0 ≤ F.getD i 0 ∧ (begT S F i < 0 ∨ F.getD i 0 < F.getD (begT S F i).toNat 0) then (i : Int) else begT S F i
theorem begT_is (S : Int → Bool) (F : List Int) : ∀ i, (begT S F i = -1 ∧ ∀ k : Nat, k < i → S (k : Int) = true → F.getD k 0 < 0) ∨
    ∃ b : Nat, begT S F i = (b : Int) ∧ b < i ∧ S (b : Int) = true ∧ 0 ≤ F.getD b 0 ∧ ∀ k : Nat, k < i → S (k : Int) = true → 0 ≤ F.getD k 0 → F.getD b 0 ≤ F.getD k 0 ∧ (F.getD k 0 = F.getD b 0 → b ≤ k)
  | 0 => .inl ⟨rfl, fun k h => by omega⟩
  | i + 1 => by
    simp only [begT]
    rcases begT_is S F i with ⟨h1, h2⟩ | ⟨b, h1, h2, h3, h4, h5⟩
    · split
      · next hc =>
        exact .inr ⟨i, rfl, by omega, hc.1, hc.2.1, fun k hk hs h0 => by
          by_cases e : k = i
          · subst e; omega
          · have := h2 k (by omega) hs; omega⟩
      · next hc =>
        refine .inl ⟨h1, fun k hk hs => ?_⟩
        by_cases e : k = i
        · subst e; exact Int.not_le.1 fun q => hc ⟨hs, q, .inl (by omega)⟩
        · exact h2 k (by omega) hs
    · rw [h1, Int.toNat_natCast]
      split
      · next hc =>
        exact .inr ⟨i, rfl, by omega, hc.1, hc.2.1, fun k hk hs h0 => by
          by_cases e : k = i
          · subst e; omega
          · have := h5 k (by omega) hs h0; omega⟩
      · next hc =>
        exact .inr ⟨b, rfl, by omega, h3, h4, fun k hk hs h0 => by
          by_cases e : k = i
          · subst e
            have : ¬ F.getD k 0 < F.getD b 0 := fun q => hc ⟨hs, h0, .inr q⟩
            omega
          · exact h5 k (by omega) hs h0⟩

/-! ### The way down -/
theorem lessL_snoc2 : ∀ {a b : List Int} {x y : Int}, a.length = b.length → lessL a b = false → (a = b → y ≤ x) → lessL (a ++ [x]) (b ++ [y]) = false
  | [], [], x, y, _, _, h => by
    have := h rfl
    simp [lessL]
    omega
  | [], _ :: _, _, _, h, _, _ => by simp at h
  | _ :: _, [], _, _, h, _, _ => by simp at h
  | a :: r, b :: q, x, y, h, hl, he => by
    simp only [List.cons_append, lessL] at hl ⊢
    split at hl
    · next e =>
      rw [if_pos e]
      exact lessL_snoc2 (by simpa using h) hl fun q => he (by rw [e, q])
    · next e =>
      rw [if_neg e]
      exact hl
theorem Way.back {E : Int → Int → Bool} {S T : Int → Bool} {c : List Int} (h : Way E S c) (hT : T (lastI c) = true) : ∀ m, m < c.length → BW E T m (c.getD (c.length - 1 - m) 0)
  | 0, _ => hT
  | m + 1, hm => by
    refine ⟨_, h.step (c.length - 1 - (m + 1)) (by omega), ?_⟩
    rw [show c.length - 1 - (m + 1) + 1 = c.length - 1 - m by omega]
    exact h.back hT m (by omega)
structure Down (E : Int → Int → Bool) (S T : Int → Bool) (n : Nat) (F : List Int) (D : Nat) (l : List Int) : Prop where
  way : Way E S l
  few : l.length ≤ D + 1
  rng : 0 ≤ lastI l ∧ lastI l < n
  far : F.getD (lastI l).toNat 0 = (D : Int) - (l.length - 1)
  short : ∀ c, Way E S c → T (lastI c) = true → D + 1 ≤ c.length
  least : ∀ c, Way E S c → T (lastI c) = true → c.length = D + 1 → lessL (c.take l.length) l = false
theorem Down.start {E : Int → Int → Bool} {S T : Int → Bool} {n : Nat} {F : List Int} (hF : Dist E T n F) (hS : ∀ v, S v = true → 0 ≤ v ∧ v < n) {b : Nat} (hb : b < n) (h3 : S (b : Int) = true) (h4 : 0 ≤ F.getD b 0) (h5 : ∀ k : Nat, k < n → S (k : Int) = true → 0 ≤ F.getD k 0 → F.getD b 0 ≤ F.getD k 0 ∧ (F.getD k 0 = F.getD b 0 → b ≤ k)) : Down E S T n F (F.getD b 0).toNat [(b : Int)] := by
  have hc : ∀ c, Way E S c → T (lastI c) = true → ∃ k : Nat, c.getD 0 0 = (k : Int) ∧ F.getD b 0 ≤ F.getD k 0 ∧ (F.getD k 0 = F.getD b 0 → b ≤ k) ∧ F.getD k 0 + 1 ≤ c.length := fun c hc hT => by
    have hs := hc.src
    have hr := hS _ hs
    obtain ⟨k, hk⟩ : ∃ k : Nat, c.getD 0 0 = (k : Int) := ⟨(c.getD 0 0).toNat, by omega⟩
    have h1 := hc.one
    have hbw := hc.back hT (c.length - 1) (by omega)
    rw [Nat.sub_self, hk] at hbw
    rw [hk] at hs hr
    have := hF.le (k := k) (by omega) hbw
    obtain ⟨p1, p2⟩ := h5 k (by omega) hs this.1
    exact ⟨k, hk, p1, p2, by omega⟩
  refine ⟨⟨by simp, h3, fun i hi => by simp at hi⟩, by simp, by show 0 ≤ (b : Int) ∧ (b : Int) < n; omega, ?_, fun c hw hT => ?_, fun c hw hT hl => ?_⟩
  · show F.getD ((b : Int)).toNat 0 = _
    rw [Int.toNat_natCast, Int.toNat_of_nonneg h4]
    show _ = F.getD b 0 - ((1 : Nat) - 1 : Int)
    omega
  · obtain ⟨k, _, p1, _, p3⟩ := hc c hw hT
    omega
  · obtain ⟨k, e, p1, p2, p3⟩ := hc c hw hT
    match c, hw.one, e with
    | x :: r, _, e =>
      have e' : x = (k : Int) := e
      subst e'
      have := p2 (by omega)
      show lessL [(k : Int)] [(b : Int)] = false
      simp [lessL]
      omega
/-- The next one: the least that is nearer. -/
theorem Down.next {E : Int → Int → Bool} {S T : Int → Bool} {n : Nat} {F : List Int} {D : Nat} {l : List Int} (h : Down E S T n F D l) (hF : Dist E T n F) (hE : ∀ u v, E u v = true → 0 ≤ v ∧ v < n) (hlt : 0 < F.getD (lastI l).toNat 0) {y : Int} (hy : E (lastI l) y = true) (hy2 : F.getD y.toNat 0 = F.getD (lastI l).toNat 0 - 1) (hmin : ∀ z, E (lastI l) z = true → F.getD z.toNat 0 = F.getD (lastI l).toNat 0 - 1 → y ≤ z) : Down E S T n F D (l ++ [y]) := by
  have h1 := h.way.one
  have hf := h.far
  refine ⟨h.way.snoc hy, by simp; omega, by rw [lastI_snoc]; exact hE _ _ hy, ?_, h.short, fun c hw hT hl => ?_⟩
  · rw [lastI_snoc, hy2, hf]; simp; omega
  · have hm : l.length < c.length := by omega
    have e1 : c.take (l ++ [y]).length = c.take l.length ++ [c.getD l.length 0] := by
      rw [List.length_append, List.length_singleton, List.take_add_one, List.getElem?_eq_getElem hm, List.getD, List.getElem?_eq_getElem hm]
      rfl
    rw [e1]
    refine lessL_snoc2 (by simp; omega) (h.least c hw hT hl) fun e => ?_
    -- the way goes on from here
    have hst := hw.step (l.length - 1) (by omega)
    have el : c.getD (l.length - 1) 0 = lastI l := by
      rw [lastI, ← e, List.length_take, Nat.min_eq_left (by omega), List.getD_eq_getElem?_getD, List.getD_eq_getElem?_getD, List.getElem?_take_of_lt (by omega)]
    rw [el, show l.length - 1 + 1 = l.length by omega] at hst
    have hr := hE _ _ hst
    refine hmin _ hst ?_
    have hbw := hw.back hT (c.length - 1 - l.length) (by omega)
    rw [show c.length - 1 - (c.length - 1 - l.length) = l.length by omega] at hbw
    obtain ⟨k, hk⟩ : ∃ k : Nat, c.getD l.length 0 = (k : Int) := ⟨(c.getD l.length 0).toNat, by omega⟩
    rw [hk] at hbw hst hr ⊢
    have a1 := hF.le (k := k) (by omega) hbw
    rw [Int.toNat_natCast]
    -- not nearer than that
    rcases hF.at_ k (by omega) with ⟨q, _⟩ | ⟨d, q1, q2, _⟩
    · omega
    · have hb2 : BW E T (d + 1) (lastI l) := ⟨_, hst, q2⟩
      have hrl := h.rng
      have := hF.le (k := (lastI l).toNat) (by omega) (d := d + 1) (by rw [Int.toNat_of_nonneg hrl.1]; exact hb2)
      omega
/-- There is a next one. -/
theorem Down.more {E : Int → Int → Bool} {S T : Int → Bool} {n : Nat} {F : List Int} {D : Nat} {l : List Int} (h : Down E S T n F D l) (hF : Dist E T n F) (hE : ∀ u v, E u v = true → 0 ≤ v ∧ v < n) (hlt : 0 < F.getD (lastI l).toNat 0) : ∃ y, E (lastI l) y = true ∧ F.getD y.toNat 0 = F.getD (lastI l).toNat 0 - 1 := by
  have hrl := h.rng
  rcases hF.at_ (lastI l).toNat (by omega) with ⟨q, _⟩ | ⟨d, q1, q2, q3⟩
  · omega
  · cases d with
    | zero => omega
    | succ d =>
      obtain ⟨j, he, hj⟩ := q2
      rw [Int.toNat_of_nonneg hrl.1] at he
      have hr := hE _ _ he
      refine ⟨j, he, ?_⟩
      have a1 := hF.le (k := j.toNat) (by omega) (d := d) (by rw [Int.toNat_of_nonneg hr.1]; exact hj)
      rcases hF.at_ j.toNat (by omega) with ⟨q, _⟩ | ⟨d', p1, p2, _⟩
      · omega
      · rw [Int.toNat_of_nonneg hr.1] at p2
        have := q3 (d' + 1) ⟨j, by rw [Int.toNat_of_nonneg hrl.1]; exact he, p2⟩
        omega
theorem Down.fin {E : Int → Int → Bool} {S T : Int → Bool} {n : Nat} {F : List Int} {D : Nat} {l : List Int} (h : Down E S T n F D l) (hF : Dist E T n F) (h0 : ¬ 0 < F.getD (lastI l).toNat 0) : Crit E S T l := by
  have hf := h.far
  have hw := h.few
  have h1 := h.way.one
  have hl : l.length = D + 1 := by omega
  refine ⟨h.way, ?_, fun c hc hT => by rw [hl]; exact h.short c hc hT, fun c hc hT hcl => ?_⟩
  · have hrl := h.rng
    rcases hF.at_ (lastI l).toNat (by omega) with ⟨q, _⟩ | ⟨d, q1, q2, _⟩
    · omega
    · have : d = 0 := by omega
      subst this
      rw [Int.toNat_of_nonneg hrl.1] at q2
      exact q2
  · have := h.least c hc hT (by omega)
    rwa [← hcl, List.take_length] at this
/-- Nowhere to begin. -/
theorem no_begin {E : Int → Int → Bool} {S T : Int → Bool} {n : Nat} {F : List Int} (hF : Dist E T n F) (hS : ∀ v, S v = true → 0 ≤ v ∧ v < n) (h : ∀ k : Nat, k < n → S (k : Int) = true → F.getD k 0 < 0) : CritV E S T [] := by
  refine ⟨fun h => absurd rfl h, fun _ c hc hT => ?_⟩
  have hs := hc.src
  have hr := hS _ hs
  obtain ⟨k, hk⟩ : ∃ k : Nat, c.getD 0 0 = (k : Int) := ⟨(c.getD 0 0).toNat, by omega⟩
  have h1 := hc.one
  have hbw := hc.back hT (c.length - 1) (by omega)
  rw [Nat.sub_self, hk] at hbw
  rw [hk] at hs hr
  have := hF.le (k := k) (by omega) hbw
  have := h k (by omega) hs
  omega
theorem Down.val {E : Int → Int → Bool} {S T : Int → Bool} {n : Nat} {F : List Int} {D : Nat} {l : List Int} (h : Down E S T n F D l) (hF : Dist E T n F) (h0 : ¬ 0 < F.getD (lastI l).toNat 0) : CritV E S T l :=
  ⟨fun _ => h.fin hF h0, fun e => by have := h.way.one; rw [e] at this; simp at this⟩
end Go.Sx.M9
