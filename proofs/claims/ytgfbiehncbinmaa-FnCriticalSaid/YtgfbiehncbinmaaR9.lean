/-
  Chapter 9: the reference's critical path (contract).
-/
import Derived.Test.YtgfbiehncbinmaaM9D
import Derived.Test.YtgfbiehncbinmaaQ7
import Derived.Test.YtgfbiehncbinmaaR8
import Derived.Test.YtgfbiehncbinmaaM9T
set_option linter.unusedSimpArgs false
namespace Go.Sx.U
set_option linter.unusedVariables false
set_option linter.unusedSimpArgs false
set_option maxRecDepth 100000
set_option maxHeartbeats 8000000
open Go Go.Sx Go.Proofs Go.Sx.M9

abbrev srcB (pl : List Int) (v : Int) : Bool := decide (0 ≤ v) && decide (v < pl.length) && decide (pl.getD v.toNat 0 = 0)
abbrev finB (pl : List Int) (v : Int) : Bool := decide (0 ≤ v) && decide (v < pl.length) && decide (pl.getD v.toNat 0 = maxL pl)
abbrev tkL (rs : List R3) (pl : List Int) : List Int := tights rs pl rs.length
/-- The reference's answer. -/
def critL (n : Nat) (rs : List R3) (pl : List Int) : List Int := critF rs (tkL rs pl) (finB pl) n (n + 1) (startT (srcB pl) n)
def critV (p : Int) (rs : List R3) : List Int := match least? p rs with
  | none => []
  | some pl => critL p.toNat rs pl
structure PressOK (n : Nat) (rs : List R3) (pl : List Int) : Prop where
  par : 1 ≤ n ∧ n ≤ 16
  rul : rs.length ≤ 40
  len : pl.length = n
  rng : ∀ r ∈ rs, (0 ≤ r.a ∧ r.a < n) ∧ (0 ≤ r.b ∧ r.b < n) ∧ -1000 ≤ r.c ∧ r.c ≤ 1000
  pls : ∀ i, 0 ≤ pl.getD i 0 ∧ pl.getD i 0 ≤ 16000
theorem press_ok {p : Int} {rs : List R3} {pl : List Int} (h : least? p rs = some pl) : okPress p rs = true ∧ leastR p rs = some pl ∧ (p = (p.toNat : Int)) ∧ PressOK p.toNat rs pl := by
  unfold least? at h
  split at h
  case isFalse => cases h
  rename_i hp
  obtain ⟨h1, h2, h3, h4⟩ := leastR_spec hp h
  have hb := okPress_bd hp
  have hall := hp
  simp only [okPress, Bool.and_eq_true, decide_eq_true_eq, List.all_eq_true, okRule] at hall
  refine ⟨hp, h, by omega, ⟨by omega, by omega, by omega, fun r hr => ?_, fun i => ⟨h2 i, h4 i⟩⟩⟩
  have := hall.2 r hr
  omega
theorem tkL_bd (rs : List R3) (pl : List Int) : (tkL rs pl).length ≤ rs.length ∧ ∀ k, k < (tkL rs pl).length → 0 ≤ (tkL rs pl).getD k 0 ∧ (tkL rs pl).getD k 0 < rs.length := by
  refine ⟨tights_len rs pl _, fun k hk => ?_⟩
  have hm : (tkL rs pl).getD k 0 ∈ tkL rs pl := mem_of_getD hk
  obtain ⟨a, ha, e⟩ := List.mem_map.1 hm
  have := List.mem_range.1 (List.mem_filter.1 ha).1
  have e2 : (a : Int) = (tkL rs pl).getD k 0 := e
  omega
theorem edge_rng {n : Nat} {rs : List R3} {pl : List Int} (h : PressOK n rs pl) {u v : Int} (he : edgeK rs (tkL rs pl) u v = true) : (0 ≤ u ∧ u < n) ∧ 0 ≤ v ∧ v < n := by
  obtain ⟨k, hk, h1, h2⟩ := edgeK_iff.1 he
  obtain ⟨_, hb⟩ := tkL_bd rs pl
  have hb := hb k hk
  have := h.rng _ (mem_of_getD (d := default) (show ((tkL rs pl).getD k 0).toNat < rs.length by omega))
  rw [h1, h2] at this
  exact ⟨this.1, this.2.1⟩
theorem src_rng {n : Nat} {rs : List R3} {pl : List Int} (h : PressOK n rs pl) {v : Int} (he : srcB pl v = true) : 0 ≤ v ∧ v < n := by
  simp only [srcB, Bool.and_eq_true, decide_eq_true_eq] at he
  have := h.len
  omega
theorem crit_is {n : Nat} {rs : List R3} {pl : List Int} (h : PressOK n rs pl) : CritV (edgeK rs (tkL rs pl)) (srcB pl) (finB pl) (critL n rs pl) :=
  crit_ref (fun _ _ he => (edge_rng h he).2) (fun _ he => src_rng h he)
theorem placed_some {p : Int} {rs : List R3} {pl : List Int} (hp : okPress p rs = true) (h : leastR p rs = some pl) : placed p rs pl = true := by
  obtain ⟨h1, h2, h3, h4⟩ := leastR_spec hp h
  have hb := okPress_bd hp
  refine placed_iff.2 ⟨by omega, fun x hx => ?_, h3⟩
  obtain ⟨i, hi, e⟩ := mem_getI hx
  rw [← e]
  exact ⟨h2 i, h4 i⟩
theorem and_r {a b : Bool} (h : (a && b) = true) : b = true := by cases a <;> simp_all
end Go.Sx.U
