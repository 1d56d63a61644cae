/-
  Chapter 9, plain: least shortest ways between ends, found by levels.
-/
import Derived.Test.YtgfbiehncbinmaaM9R
namespace Go.Sx.M9
set_option linter.unusedVariables false
set_option linter.unusedSimpArgs false
open Go Go.Sx

/-! ### The order of lists -/
theorem lessL_irr : ∀ a : List Int, lessL a a = false
  | [] => rfl
  | a :: r => by simp [lessL, lessL_irr r]
theorem lessL_trans : ∀ {a b c : List Int}, lessL a b = true → lessL b c = true → lessL a c = true
  | [], [], _, h, _ => by cases h
  | [], _ :: _, [], _, h => by cases h
  | [], _ :: _, _ :: _, _, _ => rfl
  | _ :: _, [], _, h, _ => by cases h
  | _ :: _, _ :: _, [], _, h => by cases h
  | a :: r, b :: q, c :: t, h1, h2 => by
    simp only [lessL] at h1 h2 ⊢
    split at h1 <;> split at h2 <;> split
    · exact lessL_trans h1 h2
    · omega
    · omega
    · simp only [decide_eq_true_eq] at h2 ⊢; omega
    · omega
    · simp only [decide_eq_true_eq] at h1 ⊢; omega
    · simp only [decide_eq_true_eq] at h1 h2; omega
    · simp only [decide_eq_true_eq] at h1 h2 ⊢; omega
theorem lessL_tot : ∀ {a b : List Int}, lessL a b = false → lessL b a = false → a = b
  | [], [], _, _ => rfl
  | [], _ :: _, h, _ => by cases h
  | _ :: _, [], _, h => by cases h
  | a :: r, b :: q, h1, h2 => by
    simp only [lessL] at h1 h2
    split at h1
    · next e =>
      subst e
      rw [if_pos rfl] at h2
      rw [lessL_tot h1 h2]
    · next e =>
      rw [if_neg (fun q => e q.symm)] at h2
      simp only [decide_eq_false_iff_not] at h1 h2
      omega
/-- Not before and not before: not before. -/
theorem lessL_nn {a b c : List Int} (h1 : lessL b a = false) (h2 : lessL c b = false) : lessL c a = false := by
  cases h : lessL c a with
  | false => rfl
  | true =>
    exfalso
    cases h3 : lessL a b with
    | true => rw [lessL_trans h h3] at h2; cases h2
    | false =>
      have := lessL_tot h1 h3
      subst this
      rw [h] at h2
      cases h2
theorem lessL_asym {a b : List Int} (h : lessL a b = true) : lessL b a = false := by
  cases h2 : lessL b a with
  | false => rfl
  | true => have := lessL_trans h h2; rw [lessL_irr] at this; cases this
theorem lessL_snoc : ∀ {a b : List Int} (v : Int), a.length = b.length → lessL (a ++ [v]) (b ++ [v]) = lessL a b
  | [], [], v, _ => by simp [lessL]
  | [], _ :: _, _, h => by simp at h
  | _ :: _, [], _, h => by simp at h
  | a :: r, b :: q, v, h => by
    simp only [List.cons_append, lessL]
    rw [lessL_snoc v (by simpa using h)]

/-! ### Ways -/
structure Way (E : Int → Int → Bool) (S : Int → Bool) (l : List Int) : Prop where
  one : 0 < l.length
  src : S (l.getD 0 0) = true
  step : ∀ i, i + 1 < l.length → E (l.getD i 0) (l.getD (i + 1) 0) = true
theorem getD_snoc_l {l : List Int} {v : Int} {i : Nat} (h : i < l.length) : (l ++ [v]).getD i 0 = l.getD i 0 := by
  rw [List.getD_eq_getElem?_getD, List.getElem?_append_left h, ← List.getD_eq_getElem?_getD]
theorem getD_snoc_r {l : List Int} {v : Int} : (l ++ [v]).getD l.length 0 = v := by simp [List.getD]
theorem Way.snoc {E : Int → Int → Bool} {S : Int → Bool} {l : List Int} (h : Way E S l) {v : Int} (he : E (lastI l) v = true) : Way E S (l ++ [v]) := by
  have h1 := h.one
  refine ⟨by simp, by rw [getD_snoc_l h1]; exact h.src, fun i hi => ?_⟩
  rw [List.length_append, List.length_singleton] at hi
  by_cases hl : i + 1 < l.length
  · rw [getD_snoc_l (by omega), getD_snoc_l hl]; exact h.step i hl
  · have e : i = l.length - 1 := by omega
    rw [getD_snoc_l (by omega), show i + 1 = l.length by omega, getD_snoc_r, e]
    exact he
theorem snoc_split : ∀ {l : List Int}, 0 < l.length → ∃ l' v, l = l' ++ [v]
  | l, h => ⟨l.dropLast, l.getLast (by intro e; subst e; simp at h), (List.dropLast_concat_getLast _).symm⟩
/-- The beginning of a way is one. -/
theorem Way.front {E : Int → Int → Bool} {S : Int → Bool} {l : List Int} {v : Int} (h : Way E S (l ++ [v])) (h1 : 0 < l.length) : Way E S l ∧ E (lastI l) v = true := by
  refine ⟨⟨h1, by have := h.src; rwa [getD_snoc_l h1] at this, fun i hi => ?_⟩, ?_⟩
  · have := h.step i (by simp; omega)
    rwa [getD_snoc_l (by omega), getD_snoc_l hi] at this
  · have := h.step (l.length - 1) (by simp; omega)
    rw [getD_snoc_l (by omega), show l.length - 1 + 1 = l.length by omega, getD_snoc_r] at this
    exact this
theorem Way.take {E : Int → Int → Bool} {S : Int → Bool} {l : List Int} (h : Way E S l) {j : Nat} (hj : j < l.length) : Way E S (l.take (j + 1)) ∧ lastI (l.take (j + 1)) = l.getD j 0 ∧ (l.take (j + 1)).length = j + 1 := by
  have hl : (l.take (j + 1)).length = j + 1 := by simp; omega
  have hg : ∀ i, i < j + 1 → (l.take (j + 1)).getD i 0 = l.getD i 0 := fun i hi => by
    rw [List.getD_eq_getElem?_getD, List.getElem?_take_of_lt hi, ← List.getD_eq_getElem?_getD]
  refine ⟨⟨by omega, by rw [hg 0 (by omega)]; exact h.src, fun i hi => ?_⟩, ?_, hl⟩
  · rw [hg i (by omega), hg (i + 1) (by omega)]; exact h.step i (by omega)
  · rw [lastI, hl, hg _ (by omega)]; congr 1
/-- The least of the shortest ways to an end. -/
structure Crit (E : Int → Int → Bool) (S T : Int → Bool) (l : List Int) : Prop where
  way : Way E S l
  fin : T (lastI l) = true
  short : ∀ c, Way E S c → T (lastI c) = true → l.length ≤ c.length
  least : ∀ c, Way E S c → T (lastI c) = true → c.length = l.length → lessL c l = false
theorem Crit.uniq {E : Int → Int → Bool} {S T : Int → Bool} {l l' : List Int} (h : Crit E S T l) (h' : Crit E S T l') : l = l' := by
  have e : l.length = l'.length := Nat.le_antisymm (h.short _ h'.way h'.fin) (h'.short _ h.way h.fin)
  exact lessL_tot (h'.least _ h.way h.fin e) (h.least _ h'.way h'.fin e.symm)

/-! ### The best of some -/
def addB (b x : List Int) : List Int := if b = [] ∨ lessL x b = true then x else b
/-- 'b' is the best of those of which 'C' speaks; none is the empty one. -/
structure BestOf (C : List Int → Prop) (b : List Int) : Prop where
  mem : b = [] ∨ C b
  all : ∀ c, C c → b ≠ [] ∧ lessL c b = false
theorem BestOf.none : BestOf (fun _ => False) [] := ⟨.inl rfl, fun _ h => h.elim⟩
theorem BestOf.add {C : List Int → Prop} {b x : List Int} (h : BestOf C b) (hx : x ≠ []) : BestOf (fun c => C c ∨ c = x) (addB b x) := by
  unfold addB
  split
  · next hc =>
    refine ⟨.inr (.inr rfl), fun c hcc => ⟨hx, ?_⟩⟩
    rcases hcc with hcc | rfl
    · rcases hc with hc | hc
      · exact absurd hc (h.all c hcc).1
      · exact lessL_nn (lessL_asym hc) (h.all c hcc).2
    · exact lessL_irr _
  · next hc =>
    rw [not_or] at hc
    refine ⟨h.mem.imp id .inl, fun c hcc => ⟨hc.1, ?_⟩⟩
    rcases hcc with hcc | rfl
    · exact (h.all c hcc).2
    · simpa using hc.2
theorem BestOf.iff {C C' : List Int → Prop} {b : List Int} (h : BestOf C b) (e : ∀ c, C c ↔ C' c) : BestOf C' b :=
  ⟨h.mem.imp id (e b).1, fun c hc => h.all c ((e c).2 hc)⟩

/-! ### A level, and the next one -/
/-- The best of the first lists that end so. -/
def finT (T : Int → Bool) (LS : List (List Int)) : Nat → List Int
  | 0 => []
  | i + 1 => if T (lastI (LS.getD i [])) = true then addB (finT T LS i) (LS.getD i []) else finT T LS i
theorem finT_best {T : Int → Bool} {LS : List (List Int)} (h0 : ∀ l ∈ LS, l ≠ []) : ∀ i, i ≤ LS.length → BestOf (fun c => ∃ j, j < i ∧ LS.getD j [] = c ∧ T (lastI c) = true) (finT T LS i)
  | 0, _ => BestOf.none.iff fun c => ⟨fun h => h.elim, fun ⟨j, h, _⟩ => by omega⟩
  | i + 1, hi => by
    have ih := finT_best (T := T) h0 i (by omega)
    have hm : LS.getD i [] ∈ LS := by
      rw [List.getD, List.getElem?_eq_getElem (by omega)]; exact List.getElem_mem _
    simp only [finT]
    split
    · next hT =>
      refine (ih.add (h0 _ hm)).iff fun c => ⟨fun h => ?_, fun ⟨j, h1, h2, h3⟩ => ?_⟩
      · rcases h with ⟨j, h1, h2⟩ | rfl
        · exact ⟨j, by omega, h2⟩
        · exact ⟨i, by omega, rfl, hT⟩
      · by_cases e : j = i
        · subst e; exact .inr h2.symm
        · exact .inl ⟨j, by omega, h2, h3⟩
    · next hT =>
      refine ih.iff fun c => ⟨fun ⟨j, h1, h2⟩ => ⟨j, by omega, h2⟩, fun ⟨j, h1, h2, h3⟩ => ⟨j, ?_, h2, h3⟩⟩
      by_cases e : j = i
      · subst e; subst h2; exact absurd h3 hT
      · omega
/-- The edge that a rule is. -/
def eqB (rs : List R3) (tk : List Int) (k : Nat) (u v : Int) : Prop := (rs.getD (tk.getD k 0).toNat default).a = u ∧ (rs.getD (tk.getD k 0).toNat default).b = v
instance (rs : List R3) (tk : List Int) (k : Nat) (u v : Int) : Decidable (eqB rs tk k u v) := inferInstanceAs (Decidable (_ ∧ _))
def nextK (rs : List R3) (tk : List Int) (l : List Int) (v : Int) (b : List Int) : Nat → List Int
  | 0 => b
  | k + 1 => if eqB rs tk k (lastI l) v ∧ v ∉ l then addB (nextK rs tk l v b k) (l ++ [v]) else nextK rs tk l v b k
def nextL (rs : List R3) (tk : List Int) (LS : List (List Int)) (v : Int) : Nat → List Int
  | 0 => []
  | i + 1 => nextK rs tk (LS.getD i []) v (nextL rs tk LS v i) tk.length
def longT (rs : List R3) (tk : List Int) (LS : List (List Int)) : Nat → List (List Int)
  | 0 => []
  | v + 1 => if nextL rs tk LS (v : Int) LS.length = [] then longT rs tk LS v else longT rs tk LS v ++ [nextL rs tk LS (v : Int) LS.length]
/-- The edges. -/
def edgeK (rs : List R3) (tk : List Int) (u v : Int) : Bool := (List.range tk.length).any fun k => decide (eqB rs tk k u v)
theorem edgeK_iff {rs : List R3} {tk : List Int} {u v : Int} : edgeK rs tk u v = true ↔ ∃ k, k < tk.length ∧ eqB rs tk k u v := by
  simp [edgeK]
theorem nextK_best {rs : List R3} {tk : List Int} {l : List Int} {v : Int} {b : List Int} {C : List Int → Prop} (h : BestOf C b) : ∀ k, BestOf (fun c => C c ∨ ((∃ j, j < k ∧ eqB rs tk j (lastI l) v) ∧ v ∉ l ∧ c = l ++ [v])) (nextK rs tk l v b k)
  | 0 => h.iff fun c => ⟨.inl, fun h => h.elim id fun ⟨⟨j, h, _⟩, _⟩ => by omega⟩
  | k + 1 => by
    have ih := nextK_best (rs := rs) (tk := tk) (l := l) (v := v) h k
    simp only [nextK]
    split
    · next hc =>
      refine (ih.add (by simp)).iff fun c => ⟨fun h => ?_, fun h => ?_⟩
      · rcases h with (h | ⟨⟨j, h1, h2⟩, h3⟩) | rfl
        · exact .inl h
        · exact .inr ⟨⟨j, by omega, h2⟩, h3⟩
        · exact .inr ⟨⟨k, by omega, hc.1⟩, hc.2, rfl⟩
      · rcases h with h | ⟨_, _, h3⟩
        · exact .inl (.inl h)
        · exact .inr h3
    · next hc =>
      refine ih.iff fun c => ⟨fun h => ?_, fun h => ?_⟩
      · rcases h with h | ⟨⟨j, h1, h2⟩, h3⟩
        · exact .inl h
        · exact .inr ⟨⟨j, by omega, h2⟩, h3⟩
      · rcases h with h | ⟨⟨j, h1, h2⟩, h3⟩
        · exact .inl h
        · by_cases e : j = k
          · subst e; exact absurd ⟨h2, h3.1⟩ hc
          · exact .inr ⟨⟨j, by omega, h2⟩, h3⟩
/-- What can follow. -/
def Cand (E : Int → Int → Bool) (LS : List (List Int)) (v : Int) (i : Nat) (c : List Int) : Prop := ∃ j, j < i ∧ E (lastI (LS.getD j [])) v = true ∧ v ∉ LS.getD j [] ∧ c = LS.getD j [] ++ [v]
theorem nextL_best (rs : List R3) (tk : List Int) (LS : List (List Int)) (v : Int) : ∀ i, BestOf (Cand (edgeK rs tk) LS v i) (nextL rs tk LS v i)
  | 0 => BestOf.none.iff fun c => ⟨fun h => h.elim, fun ⟨j, h, _⟩ => by omega⟩
  | i + 1 => by
    refine (nextK_best (nextL_best rs tk LS v i) tk.length).iff fun c => ⟨fun h => ?_, fun ⟨j, h1, h2, h3, h4⟩ => ?_⟩
    · rcases h with ⟨j, h1, h2⟩ | ⟨h1, h2, h3⟩
      · exact ⟨j, by omega, h2⟩
      · exact ⟨i, by omega, edgeK_iff.2 h1, h2, h3⟩
    · by_cases e : j = i
      · subst e; exact .inr ⟨edgeK_iff.1 h2, h3, h4⟩
      · exact .inl ⟨j, by omega, h2, h3, h4⟩
theorem longT_mem {rs : List R3} {tk : List Int} {LS : List (List Int)} {l : List Int} : ∀ {n : Nat}, l ∈ longT rs tk LS n ↔ ∃ v : Nat, v < n ∧ nextL rs tk LS (v : Int) LS.length = l ∧ l ≠ []
  | 0 => by simp [longT]
  | n + 1 => by
    simp only [longT]
    split
    · next h =>
      rw [longT_mem]
      refine ⟨fun ⟨v, h1, h2⟩ => ⟨v, by omega, h2⟩, fun ⟨v, h1, h2, h3⟩ => ⟨v, ?_, h2, h3⟩⟩
      by_cases e : v = n
      · subst e; exact absurd (h2.symm.trans h) h3
      · omega
    · next h =>
      rw [List.mem_append, longT_mem, List.mem_singleton]
      refine ⟨fun hm => ?_, fun ⟨v, h1, h2, h3⟩ => ?_⟩
      · rcases hm with ⟨v, h1, h2⟩ | rfl
        · exact ⟨v, by omega, h2⟩
        · exact ⟨n, by omega, rfl, h⟩
      · by_cases e : v = n
        · subst e; exact .inr h2.symm
        · exact .inl ⟨v, by omega, h2, h3⟩

/-! ### Levels -/
structure Lvl (E : Int → Int → Bool) (S : Int → Bool) (L : Nat) (LS : List (List Int)) : Prop where
  way : ∀ l ∈ LS, Way E S l ∧ l.length = L + 1 ∧ l.Nodup
  best : ∀ c, Way E S c → c.length = L + 1 → (∀ c', Way E S c' → lastI c' = lastI c → L + 1 ≤ c'.length) → ∃ l ∈ LS, lastI l = lastI c ∧ lessL c l = false
theorem getD_mem {LS : List (List Int)} {j : Nat} (h : j < LS.length) : LS.getD j [] ∈ LS := by
  rw [List.getD, List.getElem?_eq_getElem h]; exact List.getElem_mem h
theorem mem_getD {LS : List (List Int)} {l : List Int} (h : l ∈ LS) : ∃ j, j < LS.length ∧ LS.getD j [] = l := by
  obtain ⟨j, hj, e⟩ := List.mem_iff_getElem.1 h
  exact ⟨j, hj, by rw [List.getD, List.getElem?_eq_getElem hj]; exact e⟩
theorem mem_getI {l : List Int} {v : Int} (h : v ∈ l) : ∃ j, j < l.length ∧ l.getD j 0 = v := by
  obtain ⟨j, hj, e⟩ := List.mem_iff_getElem.1 h
  exact ⟨j, hj, by rw [List.getD, List.getElem?_eq_getElem hj]; exact e⟩
theorem Lvl.next {rs : List R3} {tk : List Int} {S : Int → Bool} {L n : Nat} {LS : List (List Int)} (h : Lvl (edgeK rs tk) S L LS) (hn : ∀ u v, edgeK rs tk u v = true → 0 ≤ v ∧ v < n) : Lvl (edgeK rs tk) S (L + 1) (longT rs tk LS n) := by
  refine ⟨fun l hl => ?_, fun c hc hcl hmin => ?_⟩
  · obtain ⟨v, hv, e, h0⟩ := longT_mem.1 hl
    have hb := nextL_best rs tk LS (v : Int) LS.length
    rw [e] at hb
    rcases hb.mem with h1 | ⟨j, hj, h1, h2, rfl⟩
    · exact absurd h1 h0
    · obtain ⟨w1, w2, w3⟩ := h.way _ (getD_mem hj)
      refine ⟨w1.snoc h1, by rw [List.length_append, w2]; rfl, ?_⟩
      rw [List.nodup_append]
      refine ⟨w3, by simp, fun a ha b hb => ?_⟩
      rw [List.mem_singleton] at hb
      subst hb
      exact fun q => h2 (q ▸ ha)
  · obtain ⟨c', v, rfl⟩ := snoc_split (l := c) (by omega)
    rw [List.length_append, List.length_singleton] at hcl
    rw [lastI_snoc] at hmin ⊢
    obtain ⟨hc', he⟩ := hc.front (by omega)
    obtain ⟨l, hl, l1, l2⟩ := h.best c' hc' (by omega) fun d hd hde => by
      have := hmin (d ++ [v]) (hd.snoc (by rw [hde]; exact he)) (lastI_snoc _ _)
      simp at this
      omega
    obtain ⟨w1, w2, w3⟩ := h.way _ hl
    have hnm : v ∉ l := fun hm => by
      obtain ⟨j, hj, e⟩ := mem_getI hm
      obtain ⟨t1, t2, t3⟩ := w1.take hj
      have := hmin _ t1 (t2.trans e)
      omega
    obtain ⟨j, hj, rfl⟩ := mem_getD hl
    have hv := hn _ _ he
    obtain ⟨m, hm⟩ : ∃ m : Nat, v = (m : Int) := ⟨v.toNat, by omega⟩
    subst hm
    have hb := nextL_best rs tk LS (m : Int) LS.length
    have hcand : Cand (edgeK rs tk) LS (m : Int) LS.length (LS.getD j [] ++ [(m : Int)]) := ⟨j, hj, by rw [l1]; exact he, hnm, rfl⟩
    obtain ⟨b1, b2⟩ := hb.all _ hcand
    refine ⟨_, longT_mem.2 ⟨m, by omega, rfl, b1⟩, ?_, ?_⟩
    · rcases hb.mem with h1 | ⟨j', _, _, _, h1⟩
      · exact absurd h1 b1
      · rw [h1, lastI_snoc]
    · refine lessL_nn b2 ?_
      rw [lessL_snoc _ (by omega)]
      exact l2
/-- The level at which an end is first reached tells the least of the shortest ways. -/
theorem Lvl.fin {E : Int → Int → Bool} {S T : Int → Bool} {L : Nat} {LS : List (List Int)} (h : Lvl E S L LS) (hno : ∀ c, Way E S c → T (lastI c) = true → L + 1 ≤ c.length) :
    (finT T LS LS.length ≠ [] → Crit E S T (finT T LS LS.length)) ∧ (finT T LS LS.length = [] → ∀ c, Way E S c → T (lastI c) = true → L + 2 ≤ c.length) := by
  have hb := finT_best (T := T) (LS := LS) (fun l hl e => by have := (h.way l hl).1.one; rw [e] at this; simp at this) LS.length (Nat.le_refl _)
  have hall : ∀ c, Way E S c → T (lastI c) = true → c.length = L + 1 → finT T LS LS.length ≠ [] ∧ lessL c (finT T LS LS.length) = false := fun c hc hT hl => by
    obtain ⟨l, hm, l1, l2⟩ := h.best c hc hl fun c' hc' e => hno c' hc' (by rw [e]; exact hT)
    obtain ⟨j, hj, rfl⟩ := mem_getD hm
    obtain ⟨b1, b2⟩ := hb.all _ ⟨j, hj, rfl, by rw [l1]; exact hT⟩
    exact ⟨b1, lessL_nn b2 l2⟩
  refine ⟨fun h0 => ?_, fun h0 c hc hT => ?_⟩
  · rcases hb.mem with h1 | ⟨j, hj, e, hT⟩
    · exact absurd h1 h0
    · have hm := getD_mem hj
      rw [e] at hm
      obtain ⟨w1, w2, _⟩ := h.way _ hm
      exact ⟨w1, hT, fun c hc hcT => by rw [w2]; exact hno c hc hcT, fun c hc hcT hl => (hall c hc hcT (by omega)).2⟩
  · have h1 := hno c hc hT
    by_cases e : c.length = L + 1
    · exact absurd h0 (hall c hc hT e).1
    · omega
theorem nodup_bound : ∀ (n : Nat) {R : List Int}, R.Nodup → (∀ x ∈ R, 0 ≤ x ∧ x < (n : Int)) → R.length ≤ n
  | 0, [], _, _ => Nat.le_refl _
  | 0, x :: _, _, h => by have := h x (by simp); omega
  | n + 1, R, hd, h => by
    by_cases hm : (n : Int) ∈ R
    · have h1 := nodup_bound n (R := R.erase (n : Int)) (hd.erase _) fun x hx => by
        obtain ⟨h2, h3⟩ := (List.Nodup.mem_erase_iff hd).1 hx
        have := h x h3; omega
      have h2 := List.length_erase_of_mem hm
      omega
    · have h1 := nodup_bound n hd fun x hx => by
        have := h x hx
        have : x ≠ (n : Int) := fun e => hm (e ▸ hx)
        omega
      omega

theorem Lvl.small {rs : List R3} {tk : List Int} {S : Int → Bool} {L n : Nat} {LS : List (List Int)} (h : Lvl (edgeK rs tk) S L LS) (hn : ∀ u v, edgeK rs tk u v = true → 0 ≤ v ∧ v < n) (hS : ∀ v, S v = true → 0 ≤ v ∧ v < n) (h0 : LS ≠ []) : L + 1 ≤ n := by
  cases LS with
  | nil => exact absurd rfl h0
  | cons l r =>
    obtain ⟨w1, w2, w3⟩ := h.way l (by simp)
    rw [← w2]
    refine nodup_bound n w3 fun x hx => ?_
    obtain ⟨j, hj, e⟩ := mem_getI hx
    subst e
    cases j with
    | zero => exact hS _ w1.src
    | succ j => exact hn _ _ (w1.step j hj)
/-- An empty level: whatever can be reached is reached by a shorter way. -/
theorem Lvl.less {E : Int → Int → Bool} {S : Int → Bool} {L : Nat} (h : Lvl E S L []) : ∀ (d : Nat) (c : List Int), c.length = d → Way E S c → ∃ c', Way E S c' ∧ lastI c' = lastI c ∧ c'.length ≤ L := by
  have one : ∀ c, Way E S c → c.length ≤ L + 1 → ∃ c', Way E S c' ∧ lastI c' = lastI c ∧ c'.length ≤ L := fun c hc hl => by
    by_cases e : c.length = L + 1
    · by_cases hm : ∀ c', Way E S c' → lastI c' = lastI c → L + 1 ≤ c'.length
      · obtain ⟨l, hl, _⟩ := h.best c hc e hm
        cases hl
      · obtain ⟨c', hm⟩ := Classical.not_forall.1 hm
        obtain ⟨h1, hm⟩ := Classical.not_imp.1 hm
        obtain ⟨h2, hm⟩ := Classical.not_imp.1 hm
        exact ⟨c', h1, h2, by omega⟩
    · exact ⟨c, hc, rfl, by omega⟩
  intro d
  induction d with
  | zero => intro c hl hc; have := hc.one; omega
  | succ d ih =>
    intro c hl hc
    by_cases hd : c.length ≤ L + 1
    · exact one c hc hd
    · obtain ⟨c1, v, rfl⟩ := snoc_split (l := c) (by omega)
      rw [List.length_append, List.length_singleton] at hl hd
      obtain ⟨hc1, he⟩ := hc.front (by omega)
      obtain ⟨c2, h1, h2, h3⟩ := ih c1 (by omega) hc1
      obtain ⟨c3, h4, h5, h6⟩ := one (c2 ++ [v]) (h1.snoc (by rw [h2]; exact he)) (by simp; omega)
      exact ⟨c3, h4, by rw [h5, lastI_snoc, lastI_snoc], h6⟩
theorem Lvl.stop {E : Int → Int → Bool} {S T : Int → Bool} {L : Nat} (h : Lvl E S L []) (hno : ∀ c, Way E S c → T (lastI c) = true → L + 1 ≤ c.length) (c : List Int) (hc : Way E S c) (hT : T (lastI c) = true) : False := by
  obtain ⟨c', h1, h2, h3⟩ := h.less _ c rfl hc
  have := hno c' h1 (by rw [h2]; exact hT)
  omega
/-- The ends at which ways begin, as lists. -/
def startT (S : Int → Bool) : Nat → List (List Int)
  | 0 => []
  | i + 1 => if S (i : Int) = true then startT S i ++ [[(i : Int)]] else startT S i
theorem startT_mem {S : Int → Bool} {l : List Int} : ∀ {n : Nat}, l ∈ startT S n ↔ ∃ i : Nat, i < n ∧ S (i : Int) = true ∧ l = [(i : Int)]
  | 0 => by simp [startT]
  | n + 1 => by
    simp only [startT]
    split
    · next h =>
      rw [List.mem_append, startT_mem, List.mem_singleton]
      refine ⟨fun hm => ?_, fun ⟨v, h1, h2, h3⟩ => ?_⟩
      · rcases hm with ⟨v, h1, h2⟩ | rfl
        · exact ⟨v, by omega, h2⟩
        · exact ⟨n, by omega, h, rfl⟩
      · by_cases e : v = n
        · subst e; exact .inr h3
        · exact .inl ⟨v, by omega, h2, h3⟩
    · next h =>
      rw [startT_mem]
      refine ⟨fun ⟨v, h1, h2⟩ => ⟨v, by omega, h2⟩, fun ⟨v, h1, h2, h3⟩ => ⟨v, ?_, h2, h3⟩⟩
      by_cases e : v = n
      · subst e; exact absurd h2 h
      · omega
theorem Lvl.start {E : Int → Int → Bool} {S : Int → Bool} {n : Nat} (hS : ∀ v, S v = true → 0 ≤ v ∧ v < n) : Lvl E S 0 (startT S n) := by
  refine ⟨fun l hl => ?_, fun c hc hl _ => ?_⟩
  · obtain ⟨i, h1, h2, rfl⟩ := startT_mem.1 hl
    exact ⟨⟨by simp, h2, fun i hi => by simp at hi⟩, rfl, by simp⟩
  · match c, hl with
    | [v], _ =>
      have hv := hS v hc.src
      obtain ⟨m, rfl⟩ : ∃ m : Nat, v = (m : Int) := ⟨v.toNat, by omega⟩
      exact ⟨_, startT_mem.2 ⟨m, by omega, hc.src, rfl⟩, rfl, lessL_irr _⟩
/-- What the reference tells. -/
def critF (rs : List R3) (tk : List Int) (T : Int → Bool) (n : Nat) : Nat → List (List Int) → List Int
  | 0, _ => []
  | f + 1, LS => if LS = [] then [] else if finT T LS LS.length ≠ [] then finT T LS LS.length else critF rs tk T n f (longT rs tk LS n)
structure CritV (E : Int → Int → Bool) (S T : Int → Bool) (l : List Int) : Prop where
  yes : l ≠ [] → Crit E S T l
  no : l = [] → ∀ c, Way E S c → T (lastI c) = true → False
theorem CritV.uniq {E : Int → Int → Bool} {S T : Int → Bool} {l l' : List Int} (h : CritV E S T l) (h' : CritV E S T l') : l = l' := by
  by_cases e : l = []
  · by_cases e' : l' = []
    · rw [e, e']
    · have := h'.yes e'
      exact (h.no e _ this.way this.fin).elim
  · by_cases e' : l' = []
    · have := h.yes e
      exact (h'.no e' _ this.way this.fin).elim
    · exact (h.yes e).uniq (h'.yes e')
theorem critF_is {rs : List R3} {tk : List Int} {S T : Int → Bool} {n : Nat} (hn : ∀ u v, edgeK rs tk u v = true → 0 ≤ v ∧ v < n) (hS : ∀ v, S v = true → 0 ≤ v ∧ v < n) :
    ∀ (f L : Nat) (LS : List (List Int)), n + 1 ≤ f + L → Lvl (edgeK rs tk) S L LS → (∀ c, Way (edgeK rs tk) S c → T (lastI c) = true → L + 1 ≤ c.length) → CritV (edgeK rs tk) S T (critF rs tk T n f LS)
  | 0, L, LS, hf, h, hno => by
    have e : LS = [] := Classical.byContradiction fun h0 => by have := h.small hn hS h0; omega
    subst e
    exact ⟨fun h0 => absurd rfl h0, fun _ => h.stop hno⟩
  | f + 1, L, LS, hf, h, hno => by
    simp only [critF]
    obtain ⟨h1, h2⟩ := h.fin hno
    split
    · next e => subst e; exact ⟨fun h0 => absurd rfl h0, fun _ => h.stop hno⟩
    · split
      · next h0 => exact ⟨fun _ => h1 h0, fun e => absurd e h0⟩
      · next h0 =>
        exact critF_is hn hS f (L + 1) _ (by omega) (h.next hn) (h2 (Classical.not_not.1 h0))
theorem crit_ref {rs : List R3} {tk : List Int} {S T : Int → Bool} {n : Nat} (hn : ∀ u v, edgeK rs tk u v = true → 0 ≤ v ∧ v < n) (hS : ∀ v, S v = true → 0 ≤ v ∧ v < n) : CritV (edgeK rs tk) S T (critF rs tk T n (n + 1) (startT S n)) :=
  critF_is hn hS (n + 1) 0 _ (by omega) (Lvl.start hS) fun c hc _ => hc.one
end Go.Sx.M9
