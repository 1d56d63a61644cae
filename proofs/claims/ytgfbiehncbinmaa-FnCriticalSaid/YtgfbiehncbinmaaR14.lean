/-
  Chapter 9, plain: where there are least places there is a critical path.
-/
import Derived.Test.YtgfbiehncbinmaaR13
set_option linter.unusedSimpArgs false
namespace Go.Sx.U
set_option linter.unusedVariables false
set_option linter.unusedSimpArgs false
set_option maxRecDepth 100000
set_option maxHeartbeats 8000000
open Go Go.Sx Go.Proofs Go.Sx.M9

theorem edge_of_tight {rs : List R3} {pl : List Int} {j : Nat} (hj : j < rs.length) (ht : tightR pl (rs.getD j default) = true) : edgeK rs (tkL rs pl) (rs.getD j default).a (rs.getD j default).b = true := by
  have hm : (j : Int) ∈ tkL rs pl := List.mem_map.2 ⟨j, List.mem_filter.2 ⟨List.mem_range.2 hj, ht⟩, rfl⟩
  obtain ⟨i, hil, hie⟩ := mem_getI hm
  refine edgeK_iff.2 ⟨i, hil, ?_⟩
  rw [eqB, hie, Int.toNat_natCast]
  exact ⟨rfl, rfl⟩
/-- What is settled can be reached from an end. -/
structure Rch (n : Nat) (rs : List R3) (F out : List Int) : Prop where
  len : out.length = n
  le : ∀ i, out.getD i 0 ≤ F.getD i 0
  way : ∀ i : Nat, i < n → out.getD i 0 = F.getD i 0 → ∃ l, M9.Way (edgeK rs (tkL rs F)) (srcB F) l ∧ lastI l = (i : Int)
theorem Rch.rise {n : Nat} {rs : List R3} {F : List Int} (hP : PressOK n rs F) {s : List Int × Bool} {r : R3} (hr : r ∈ rs) (h : Rch n rs F s.1) (hf : F.getD r.a.toNat 0 + r.c ≤ F.getD r.b.toNat 0) : Rch n rs F (M9.rise s r).1 := by
  have hrg := hP.rng r hr
  have hb : r.b.toNat < s.1.length := by rw [h.len]; omega
  have la := h.le r.a.toNat
  unfold M9.rise
  split
  · refine ⟨by simp [h.len], fun i => ?_, fun i hi hei => ?_⟩
    · rw [getD_set _ _ _ _ hb]
      split
      · rename_i e; subst e; omega
      · exact h.le i
    · rw [getD_set _ _ _ _ hb] at hei
      split at hei
      · rename_i e
        subst e
        obtain ⟨l, w1, w2⟩ := h.way r.a.toNat (by omega) (by omega)
        obtain ⟨j, hj, ej⟩ := List.mem_iff_getElem.1 hr
        have ej2 : rs.getD j default = r := by rw [List.getD, List.getElem?_eq_getElem hj]; exact ej
        have ht : tightR F (rs.getD j default) = true := by
          rw [ej2, tightR]
          exact decide_eq_true (by omega)
        have he := edge_of_tight hj ht
        rw [ej2] at he
        refine ⟨l ++ [r.b], w1.snoc (by rw [w2, Int.toNat_of_nonneg hrg.1.1]; exact he), ?_⟩
        rw [lastI_snoc, Int.toNat_of_nonneg hrg.2.1.1]
      · exact h.way i hi hei
  · exact h
theorem Rch.fold {n : Nat} {rs : List R3} {F : List Int} (hP : PressOK n rs F) (hf : ∀ r ∈ rs, F.getD r.a.toNat 0 + r.c ≤ F.getD r.b.toNat 0) : ∀ (l : List R3) (s : List Int × Bool), (∀ r ∈ l, r ∈ rs) → Rch n rs F s.1 → Rch n rs F (l.foldl M9.rise s).1
  | [], _, _, h => h
  | r :: l, s, hl, h => by
    rw [List.foldl_cons]
    exact Rch.fold hP hf l _ (fun x hx => hl x (by simp [hx])) (h.rise hP (hl r (by simp)) (hf r (hl r (by simp))))
theorem Rch.outK {n : Nat} {rs : List R3} {F : List Int} (hP : PressOK n rs F) (hf : ∀ r ∈ rs, F.getD r.a.toNat 0 + r.c ≤ F.getD r.b.toNat 0) : ∀ k, Rch n rs F (M9.outK rs (List.replicate n 0) k)
  | 0 => by
    have hg : ∀ i, (List.replicate n (0 : Int)).getD i 0 = 0 := fun i => by
      rw [List.getD, List.getElem?_replicate]
      split <;> rfl
    refine ⟨by simp [M9.outK], fun i => ?_, fun i hi he => ?_⟩
    · rw [M9.outK, hg]; exact (hP.pls i).1
    · rw [M9.outK, hg] at he
      have hs : srcB F (i : Int) = true := by
        have := hP.len
        simp only [srcB, Bool.and_eq_true, decide_eq_true_eq, Int.toNat_natCast]
        omega
      exact ⟨[(i : Int)], ⟨by simp, hs, fun j hj => by simp at hj⟩, rfl⟩
  | k + 1 => by
    rw [M9.outK]
    exact Rch.fold hP hf rs _ (fun _ h => h) (Rch.outK hP hf k)
theorem crit_some {p : Int} {rs : List R3} {pl : List Int} (hl : least? p rs = some pl) : critV p rs ≠ [] := by
  obtain ⟨hp, hL, hpn, hP⟩ := press_ok hl
  have hcv : critV p rs = critL p.toNat rs pl := by simp only [critV, hl]
  have hcr := crit_is hP
  rw [hcv]
  intro h0
  rw [h0] at hcr
  obtain ⟨k, _, hk, _, hF⟩ := leastF_fix hL
  obtain ⟨_, hfix⟩ := pass_false hF
  have hR := Rch.outK hP hfix k
  have hk2 : pl = M9.outK rs (List.replicate p.toNat 0) k := hk
  rw [← hk2] at hR
  have hlen := hP.len
  have hpar := hP.par
  obtain ⟨i, hi, e⟩ := maxL_mem (show 0 < pl.length by omega)
  obtain ⟨l, w1, w2⟩ := hR.way i (by omega) rfl
  refine hcr.no rfl l w1 ?_
  rw [w2]
  simp only [finB, Bool.and_eq_true, decide_eq_true_eq, Int.toNat_natCast]
  omega
theorem crit_crit {p : Int} {rs : List R3} {pl : List Int} (hl : least? p rs = some pl) : Crit (edgeK rs (tkL rs pl)) (srcB pl) (finB pl) (critV p rs) := by
  obtain ⟨_, _, _, hP⟩ := press_ok hl
  have hcv : critV p rs = critL p.toNat rs pl := by simp only [critV, hl]
  have hn := crit_some hl
  rw [hcv] at hn ⊢
  exact (crit_is hP).yes hn
end Go.Sx.U
