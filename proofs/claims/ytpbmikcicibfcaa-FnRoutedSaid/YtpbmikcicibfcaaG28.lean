/-
  Chapter 8: the best choice, as the reference finds it (contracts).
-/
import Derived.Test.YtpbmikcicibfcaaM8Z
import Derived.Test.YtpbmikcicibfcaaG24
import Derived.Test.YtpbmikcicibfcaaM8Y
import Derived.Test.YtpbmikcicibfcaaK8
set_option linter.unusedSimpArgs false
namespace Go.Sx.U
set_option linter.unusedVariables false
set_option linter.unusedSimpArgs false
set_option maxRecDepth 100000
set_option maxHeartbeats 8000000
open Go Go.Sx Go.Proofs Go.Sx.M8

/-- Are there few enough choices? -/
def bcOk (A V : List (List Int)) (ns : List R4) : Bool := netsB A V ns && decide (pF (sN ns) ns.length ≤ 20000)
theorem sN_bd {A V : List (List Int)} {ns : List R4} (h : netsB A V ns = true) {i : Nat} (hi : i < ns.length) : 1 ≤ sN ns i ∧ sN ns i ≤ 14 :=
  ⟨shapes_pos, (shapes_small (net_sd h hi).h).1⟩
theorem pF_bd {A V : List (List Int)} {ns : List R4} (h : netsB A V ns = true) : ∀ i, i ≤ ns.length → 1 ≤ pF (sN ns) i ∧ pF (sN ns) i ≤ 14 ^ i
  | 0, _ => by simp [pF]
  | i + 1, hi => by
    obtain ⟨h1, h2⟩ := pF_bd h i (by omega)
    obtain ⟨s1, s2⟩ := sN_bd h (show i < ns.length by omega)
    rw [pF, Nat.pow_succ]
    exact ⟨Nat.mul_pos h1 s1, Nat.mul_le_mul h2 s2⟩
theorem pF_small {A V : List (List Int)} {ns : List R4} (h : netsB A V ns = true) {i : Nat} (hi : i ≤ ns.length) : pF (sN ns) i ≤ 7529536 := by
  obtain ⟨_, hl, _⟩ := netsB_all h
  exact Nat.le_trans (pF_bd h i hi).2 (Nat.le_trans (Nat.pow_le_pow_right (by omega) (show i ≤ 6 by omega)) (by decide))
theorem dL_ok {A V : List (List Int)} {ns : List R4} (h : netsB A V ns = true) (k : Nat) : ChoiceOK (wN A) A.length ns (dL (sN ns) ns.length k) := by
  have h0 := choice_nil h
  refine ⟨by rw [dL_len]; omega, h0.cel, fun i hi => ?_⟩
  rw [dL_len] at hi
  have hp := (sN_bd h hi).1
  rw [dL_get hi]
  have := Nat.mod_lt (qD (sN ns) ns.length k (ns.length - 1 - i)) (show sN ns i > 0 by omega)
  exact ⟨by omega, by unfold sN at *; omega⟩
abbrev bV (A V : List (List Int)) (ns : List R4) (k : Nat) : List Int × Int := bT (ovF A V ns) (sN ns) ns.length k
theorem bV_bd {A V : List (List Int)} {ns : List R4} (h : netsB A V ns = true) (k : Nat) : -1 ≤ (bV A V ns k).2 ∧ (bV A V ns k).2 ≤ 1000000 := by
  obtain ⟨hg, hl, _⟩ := netsB_all h
  refine bT_bd (by omega) k fun j _ => ?_
  have := ovF_bd hg (ns := ns) (ks := dL (sN ns) ns.length j) (by rw [dL_len]; exact hl) (dL_ok h j)
  omega
end Go.Sx.U
