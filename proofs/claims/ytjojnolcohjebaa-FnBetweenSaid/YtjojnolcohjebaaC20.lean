/-
  Chapter 10, plain: the program's beginnings, and its states from wire to wire.
-/
import Derived.Test.YtjojnolcohjebaaC19
namespace Go.Sx.U
set_option linter.unusedVariables false
set_option linter.unusedSimpArgs false
set_option maxRecDepth 100000
set_option maxHeartbeats 8000000
open Go Go.Sx Go.Proofs Go.Sx.M0

/-- What the scan of the beginnings has found. -/
def BegP (W : List (List Int)) (e : Int) (cnt : Nat) (bs : List Nat) (j : Nat) (best : Int) (w : Nat) : Prop :=
  (best = -1 ∧ ∀ i, i < j → Lt W e (2 ^ bs.getD i 0) (bs.getD i 0) cnt < 0) ∨
  (0 ≤ best ∧ ∃ i0, i0 < j ∧ w = bs.getD i0 0 ∧ Lt W e (2 ^ w) w cnt = best ∧ (∀ i, i < i0 → Lt W e (2 ^ bs.getD i 0) (bs.getD i 0) cnt < 0 ∨ best < Lt W e (2 ^ bs.getD i 0) (bs.getD i 0) cnt) ∧ ∀ i, i < j → Lt W e (2 ^ bs.getD i 0) (bs.getD i 0) cnt < 0 ∨ best ≤ Lt W e (2 ^ bs.getD i 0) (bs.getD i 0) cnt)
theorem BegP.zero (W : List (List Int)) (e : Int) (cnt : Nat) (bs : List Nat) (w : Nat) : BegP W e cnt bs 0 (-1) w := .inl ⟨rfl, fun i h => by omega⟩
theorem BegP.take {W : List (List Int)} {e : Int} {cnt : Nat} {bs : List Nat} {j w : Nat} {best : Int} (h : BegP W e cnt bs j best w) (h0 : 0 ≤ Lt W e (2 ^ bs.getD j 0) (bs.getD j 0) cnt) (h1 : best < 0 ∨ Lt W e (2 ^ bs.getD j 0) (bs.getD j 0) cnt < best) :
    BegP W e cnt bs (j + 1) (Lt W e (2 ^ bs.getD j 0) (bs.getD j 0) cnt) (bs.getD j 0) := by
  refine .inr ⟨h0, j, by omega, rfl, rfl, fun i hi => ?_, fun i hi => ?_⟩
  · rcases h with ⟨_, h2⟩ | ⟨h3, _, _, _, _, _, h2⟩
    · exact .inl (h2 i hi)
    · rcases h2 i hi with h4 | h4
      · exact .inl h4
      · exact .inr (by omega)
  · by_cases hij : i = j
    · subst hij
      exact .inr (Int.le_refl _)
    · rcases h with ⟨_, h2⟩ | ⟨h3, _, _, _, _, _, h2⟩
      · exact .inl (h2 i (by omega))
      · rcases h2 i (by omega) with h4 | h4
        · exact .inl h4
        · exact .inr (by omega)
theorem BegP.pass {W : List (List Int)} {e : Int} {cnt : Nat} {bs : List Nat} {j w : Nat} {best : Int} (h : BegP W e cnt bs j best w) (h1 : ¬ (0 ≤ Lt W e (2 ^ bs.getD j 0) (bs.getD j 0) cnt ∧ (best < 0 ∨ Lt W e (2 ^ bs.getD j 0) (bs.getD j 0) cnt < best))) : BegP W e cnt bs (j + 1) best w := by
  rcases h with ⟨h3, h2⟩ | ⟨h3, i0, h4, h5, h6, h7, h2⟩
  · refine .inl ⟨h3, fun i hi => ?_⟩
    by_cases hij : i = j
    · subst hij; omega
    · exact h2 i (by omega)
  · refine .inr ⟨h3, i0, by omega, h5, h6, h7, fun i hi => ?_⟩
    by_cases hij : i = j
    · subst hij; omega
    · exact h2 i (by omega)
theorem BegP.fin {W : List (List Int)} {e : Int} {cnt : Nat} {first : Int} {bs : List Nat} {w : Nat} {best : Int} (hmem : ∀ v, (v < W.length ∧ (first < 0 ∨ (v : Int) = first)) ↔ ∃ i, i < bs.length ∧ bs.getD i 0 = v) (hsort : ∀ i j, i < j → j < bs.length → bs.getD i 0 < bs.getD j 0)
    (h : BegP W e cnt bs bs.length best w) : best = begL W e cnt first ∧ (0 ≤ best → w < W.length ∧ begB W e cnt first w = true ∧ ∀ v, v < w → begB W e cnt first v = false) := by
  have hb := begT_is W e cnt first W.length
  change (begL W e cnt first = -1 ∧ _) ∨ (0 ≤ begL W e cnt first ∧ (∃ w, w < W.length ∧ _ ∧ _ = begL W e cnt first) ∧ ∀ w, w < W.length → _ → _ ∨ begL W e cnt first ≤ _) at hb
  rcases h with ⟨h3, h2⟩ | ⟨h3, i0, h4, h5, h6, h7, h2⟩
  · refine ⟨?_, fun h => by omega⟩
    rcases hb with ⟨b1, _⟩ | ⟨b1, ⟨v, b2, b3, b4⟩, _⟩
    · omega
    · obtain ⟨i, hi, rfl⟩ := (hmem v).1 ⟨b2, b3⟩
      have := h2 i hi
      omega
  · have hw := (hmem w).2 ⟨i0, h4, h5.symm⟩
    have hbl : best = begL W e cnt first := by
      rcases hb with ⟨b1, b2⟩ | ⟨b1, ⟨v, b2, b3, b4⟩, b5⟩
      · have := b2 w hw.1 hw.2
        omega
      · obtain ⟨i, hi, rfl⟩ := (hmem v).1 ⟨b2, b3⟩
        have q1 := h2 i hi
        have q2 := b5 w hw.1 hw.2
        omega
    refine ⟨hbl, fun _ => ⟨hw.1, ?_, fun v hv => ?_⟩⟩
    · unfold begB
      rw [decide_eq_true hw.2, decide_eq_true (show _ = _ by rw [h6, hbl])]
      rfl
    · unfold begB
      by_cases hf : first < 0 ∨ (v : Int) = first
      · obtain ⟨i, hi, rfl⟩ := (hmem v).1 ⟨by omega, hf⟩
        have hii : i < i0 := by
          refine Classical.byContradiction fun hn => ?_
          by_cases hie : i = i0
          · subst hie; omega
          · have := hsort i0 i (by omega) hi
            omega
        rw [decide_eq_false (show ¬ _ = begL W e cnt first by have := h7 i hii; omega), Bool.and_false]
      · rw [decide_eq_false hf, Bool.false_and]

/-! ### From wire to wire -/
/-- What the entries that have been shown lead to. -/
abbrev PS (W : List (List Int)) (e : Int) (m l : Nat) (st : List (R3 × Int × Nat)) (seen : List Nat) (a b : Nat) : Prop := ∃ x ∈ st, x.2.2 ∈ seen ∧ ∃ k : Nat, x.1 = ⟨(m : Int), (l : Int), (k : Int)⟩ ∧ a < W.length ∧ m.testBit a = false ∧ nx W e m l a k b = true
/-- The states: one set and last wire, and the numbers of shields that are left. -/
structure StP (W : List (List Int)) (e : Int) (m l : Nat) (st : List (R3 × Int × Nat)) (K : List Nat) : Prop where
  inn : ∀ x ∈ st, ∃ k ∈ K, x.1 = ⟨(m : Int), (l : Int), (k : Int)⟩ ∧ x.2.1 = Lt W e m l k
  all : ∀ k ∈ K, ∃ x ∈ st, x.1 = ⟨(m : Int), (l : Int), (k : Int)⟩
theorem births_inj {st : List (R3 × Int × Nat)} (h : (st.map (·.2.2)).Nodup) : ∀ {x y : R3 × Int × Nat}, x ∈ st → y ∈ st → x.2.2 = y.2.2 → x = y := by
  induction st with
  | nil => intro x y hx; cases hx
  | cons z r ih =>
    rw [List.map_cons, List.nodup_cons] at h
    intro x y hx hy he
    rcases List.mem_cons.1 hx with hx1 | hx1 <;> rcases List.mem_cons.1 hy with hy1 | hy1
    · rw [hx1, hy1]
    · subst hx1; exact absurd (List.mem_map.2 ⟨y, hy1, he.symm⟩) h.1
    · subst hy1; exact absurd (List.mem_map.2 ⟨x, hx1, he⟩) h.1
    · exact ih h.2 hx1 hy1 he
theorem PS_cons {W : List (List Int)} {e : Int} {m l k : Nat} {st : List (R3 × Int × Nat)} {seen : List Nat} (hnd : (st.map (·.2.2)).Nodup) {x : R3 × Int × Nat} (hx : x ∈ st) (hk : x.1 = ⟨(m : Int), (l : Int), (k : Int)⟩) (a b : Nat) : PS W e m l st (x.2.2 :: seen) a b ↔ PJ W e m l k (PS W e m l st seen) W.length a b := by
  constructor
  · rintro ⟨y, h1, h2, k', h3, h4⟩
    rcases List.mem_cons.1 h2 with h2 | h2
    · obtain rfl := births_inj hnd h1 hx h2
      rw [hk] at h3
      injection h3 with _ _ h5
      obtain rfl : k = k' := by omega
      exact .inr h4
    · exact .inl ⟨y, h1, h2, k', h3, h4⟩
  · rintro (⟨y, h1, h2, k', h3, h4⟩ | h4)
    · exact ⟨y, h1, List.mem_cons_of_mem _ h2, k', h3, h4⟩
    · exact ⟨x, hx, List.mem_cons_self, k, hk, h4⟩
theorem NX.fin {W : List (List Int)} (hW : okW W) {e : Int} {cnt : Nat} (hc : cnt ≤ 8) {R o : List Int} {m l wv : Nat} {K : List Nat} {st nk : List (R3 × Int × Nat)} {seen : List Nat} (hF : FolP W e cnt R o m l K) (hl : o.length < W.length) (hS : StP W e m l st K) (hall : ∀ x ∈ st, x.2.2 ∈ seen) (h : NX W e m (PS W e m l st seen) wv nk) :
    FolP W e cnt R (o ++ [(wv : Int)]) (m ||| 2 ^ wv) wv (nxtK W e K m l wv) ∧ StP W e (m ||| 2 ^ wv) wv nk (nxtK W e K m l wv) := by
  have hiff : ∀ a b, PS W e m l st seen a b ↔ a < W.length ∧ m.testBit a = false ∧ b ∈ nxtK W e K m l a := by
    intro a b
    rw [nxtK_mem]
    constructor
    · rintro ⟨x, h1, _, k, h3, h4, h5, h6⟩
      obtain ⟨k', hk', h7, _⟩ := hS.inn x h1
      rw [h3] at h7
      injection h7 with _ _ h8
      obtain rfl : k = k' := by omega
      have := (hF.Kle k hk').1
      obtain ⟨_, h9⟩ := nx_on.1 h6
      exact ⟨h4, h5, by omega, k, hk', h6⟩
    · rintro ⟨h1, h2, _, k, hk, h3⟩
      obtain ⟨x, h4, h5⟩ := hS.all k hk
      exact ⟨x, h4, hall x h4, k, h5, h1, h2, h3⟩
  have hgood : ∀ v, v < W.length → v < wv → goodW W e K m l v = false := by
    intro v hv hvw
    unfold goodW
    cases hb : m.testBit v with
    | true => rfl
    | false =>
      cases hq : nxtK W e K m l v with
      | nil => rfl
      | cons y r =>
        have := h.le v y ((hiff v y).2 ⟨hv, hb, by rw [hq]; exact List.mem_cons_self⟩)
        omega
  have hlt : wv < W.length := by
    refine Classical.byContradiction fun hn => ?_
    have := h.top
    exact hF.next hW hc hl fun v hv => hgood v hv (by omega)
  obtain ⟨k0, hk0⟩ := h.hit hlt
  obtain ⟨_, hbit, hk1⟩ := (hiff wv k0).1 hk0
  refine ⟨hF.step hc hlt hbit (fun _ => Iff.rfl) (List.ne_nil_of_mem hk1) ?_ (fun v hv => hgood v (by omega) hv), ⟨fun x hx => ?_, fun k hk => h.all k ((hiff wv k).2 ⟨hlt, hbit, hk⟩)⟩⟩
  · unfold nxtK
    exact List.Pairwise.filter _ List.nodup_range
  · obtain ⟨k, h1, h2, h3⟩ := h.inn x hx
    exact ⟨k, ((hiff wv k).1 h1).2.2, h2, h3⟩
end Go.Sx.U
