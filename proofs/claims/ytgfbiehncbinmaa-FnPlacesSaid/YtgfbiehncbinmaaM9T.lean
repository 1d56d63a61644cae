/-
  Chapter 9, plain: what FnPlaces asks.
-/
import Derived.Test.YtgfbiehncbinmaaM9S
import Derived.Test.YtgfbiehncbinmaaQ14
namespace Go.Sx.U
set_option linter.unusedVariables false
set_option linter.unusedSimpArgs false
open Go Go.Sx Go.Sx.M9

theorem least_small {p : Int} {rs : List R3} (hp : okPress p rs = true) (h8 : p ≤ 8) {F : List Int} (h : leastR p rs = some F) : maxL F ≤ 8000 := by
  obtain ⟨k, _, hk, _, hF⟩ := leastF_fix h
  obtain ⟨_, hfix⟩ := pass_false hF
  have hl : F.length = p.toNat := by rw [hk, outK_length, zeros, List.length_replicate]
  have h0 : ∀ i, 0 ≤ F.getD i 0 := fun i => by rw [hk]; exact (Bd.outK hp k i).1
  have hg := Gap.outK hp hfix h0 k
  rw [← hk] at hg
  have hb := okPress_bd hp
  obtain ⟨i, _, e⟩ := maxL_mem (show 0 < F.length by omega)
  have := no_gap_bound (F := F) (fun c hc i hi => by obtain ⟨j, _, h1, h2⟩ := hg.gap c hc i rfl hi; exact ⟨j, h1, h2⟩) i
  rw [e]; omega
theorem placed_iff {p : Int} {rs : List R3} {pl : List Int} : placed p rs pl = true ↔ (pl.length : Int) = p ∧ (∀ x ∈ pl, 0 ≤ x ∧ x ≤ 16000) ∧ Feas rs pl := by
  simp only [placed, Bool.and_eq_true, decide_eq_true_eq, List.all_eq_true, inPl, broken, Bool.not_eq_true', decide_eq_false_iff_not, Feas]
  constructor
  · rintro ⟨⟨h1, h2⟩, h3⟩
    exact ⟨h1, h2, fun r hr => by have := h3 r hr; omega⟩
  · rintro ⟨h1, h2, h3⟩
    exact ⟨⟨h1, h2⟩, fun r hr => by have := h3 r hr; omega⟩
theorem getD_bd {l : List Int} {m : Int} (hm : 0 ≤ m) (h : ∀ x ∈ l, 0 ≤ x ∧ x ≤ m) (i : Nat) : 0 ≤ l.getD i 0 ∧ l.getD i 0 ≤ m := by
  by_cases hi : i < l.length
  · rw [List.getD, List.getElem?_eq_getElem hi]; exact h _ (List.getElem_mem hi)
  · rw [List.getD, List.getElem?_eq_none (by omega)]; simp; omega
theorem diffL_at (A B : List Int) {n i : Nat} (h : i < n) : (diffL A B n).getD i 0 = A.getD i 0 - B.getD i 0 := by
  simp [diffL, List.getD, h]
/-- Places. -/
structure PlaceP (p : Int) (rs : List R3) (L : List Int) : Prop where
  len : (L.length : Int) = p
  pl : placed p rs L = true
  nn : ∀ i, 0 ≤ L.getD i 0 ∧ L.getD i 0 ≤ maxL L
  le : ∀ own, placed p rs own = true → ∀ i, L.getD i 0 ≤ own.getD i 0
  wid : 0 ≤ maxL L ∧ maxL L ≤ 8000
  mem : ∃ i, i < L.length ∧ maxL L = L.getD i 0
  less : late? p (maxL L - 1) rs = none
  late : ∀ d : Int, 0 ≤ d → d ≤ 9 → ∃ A, late? p (maxL L + d) rs = some A ∧ placed p rs A = true ∧ A.length = L.length ∧ free? p (maxL L + d) rs = some (diffL A L L.length) ∧ ∀ i, i < L.length → A.getD i 0 ≤ maxL L + d ∧ L.getD i 0 ≤ A.getD i 0
theorem place_ok {p : Int} {rs : List R3} (hp : okPress p rs = true) (h8 : p ≤ 8) {L : List Int} (h : leastR p rs = some L) : PlaceP p rs L := by
  obtain ⟨h1, h2, h3, h4⟩ := leastR_spec hp h
  have hw := least_small hp h8 h
  have hb := okPress_bd hp
  obtain ⟨_, m2, m3⟩ := leastR_max hp h
  have hpl : placed p rs L = true := placed_iff.2 ⟨by omega, fun x hx => by
    obtain ⟨i, hi, rfl⟩ := List.mem_iff_getElem.1 hx
    have a := h2 i; have b := h4 i
    rw [List.getD, List.getElem?_eq_getElem hi] at a b
    exact ⟨a, b⟩, h3⟩
  have hle : ∀ own, placed p rs own = true → ∀ i, L.getD i 0 ≤ own.getD i 0 := fun own ho => by
    obtain ⟨o1, o2, o3⟩ := placed_iff.1 ho
    exact least_le hp h (fun i => (getD_bd (by omega) o2 i).1) o3
  refine ⟨by omega, hpl, fun i => ⟨h2 i, maxL_get L h2 i⟩, hle, ⟨m2, hw⟩, maxL_mem m3, ?_, fun d d0 d9 => ?_⟩
  · refine late?_none fun hc => ?_
    obtain ⟨_, y2, y3⟩ := hc
    obtain ⟨w1, w2⟩ := inPl_bd y2
    rw [← lateI_eq hp w1 w2] at y3
    unfold lateI at y3
    rw [h] at y3
    have := of_decide_eq_true y3
    omega
  · have hin : inPl (maxL L + d) = true := by simp only [inPl, Bool.and_eq_true, decide_eq_true_eq]; omega
    have hok : lateOk p (maxL L + d) rs = true := by
      rw [← lateI_eq hp (by omega) (by omega)]
      unfold lateI
      rw [h]
      exact decide_eq_true (by omega)
    obtain ⟨K, k1, k2⟩ := late?_some hp hin hok
    have hpA : placed p rs (comp (maxL L + d) K) = true := by
      unfold lateOk late1 at hok
      rw [k1] at hok
      exact hok
    obtain ⟨o1, o2, o3⟩ := placed_iff.1 hpA
    obtain ⟨q1, q2, _⟩ := leastR_spec (okPress_flps hp) k1
    have hlen : (comp (maxL L + d) K).length = L.length := by omega
    refine ⟨_, k2, hpA, hlen, ?_, fun i hi => ⟨?_, hle _ hpA i⟩⟩
    · rw [free?_some k2 h, h1]
    · rw [comp_get (by rw [comp_length] at hlen; omega)]
      have := q2 i
      omega
/-- What is found of a press. -/
theorem press_two {p : Int} {rs : List R3} (hp : okPress p rs = true) (h8 : p ≤ 8) : (least? p rs = none ∧ ∃ x, ring? p rs = some x ∧ RingP rs x) ∨ (∃ L, least? p rs = some L ∧ ring? p rs = none ∧ PlaceP p rs L) := by
  cases h : leastR p rs with
  | none =>
    obtain ⟨x, hx⟩ := ring_ex hp h8 h
    refine .inl ⟨by unfold least?; rw [if_pos hp, h], x, ?_, ringV_ring hx⟩
    unfold ring?
    rw [if_pos ⟨hp, h8, by rw [h]; rfl⟩, hx]
  | some L =>
    refine .inr ⟨L, by unfold least?; rw [if_pos hp, h], ?_, place_ok hp h8 h⟩
    unfold ring?
    rw [if_neg (fun hc => by have := hc.2.2; rw [h] at this; cases this)]
end Go.Sx.U
