/-
  Chapter 9: latest places and freedom, the functions themselves.
-/
import Derived.Test.YtgfbiehncbinmaaQ11
import Derived.Test.YtgfbiehncbinmaaQ7
namespace Go.Sx.U
set_option linter.unusedVariables false
set_option linter.unusedSimpArgs false
set_option maxRecDepth 100000
set_option maxHeartbeats 8000000
open Go Go.Sx Go.Sx.M9 Go.Proofs
set_option maxHeartbeats 2000000
set_option maxRecDepth 100000

def late? (p w : Int) (rs : List R3) : Option (List Int) := if okPress p rs = true ∧ inPl w = true ∧ lateOk p w rs = true then late1 p w rs else none
/-! ### slices.Repeat -/
theorem and_mask {x : Int} (h0 : 0 ≤ x) (h : x < 65536) : ((x.toNat &&& (4294967295 : Int).toNat : Nat) : Int) = x := by
  have e : (4294967295 : Int).toNat = 2 ^ 32 - 1 := rfl
  rw [e, Nat.and_two_pow_sub_one_eq_mod]
  omega
theorem wrap_u {x : Int} (h0 : 0 ≤ x) (h : x < 18446744073709551616) : IntKind.u64.wrap x = x := by
  unfold IntKind.wrap; simp [IntKind.bits, IntKind.signed]; omega
theorem c139 (x y : Int) (h : Side (0 ≤ x ∧ x < 65536 ∧ 0 ≤ y ∧ y < 65536)) : FnIs Try.prog 107 [.int .u64 x, .int .u64 y] 0 [] (.tuple [.int .u64 0, .int .u64 (x * y)]) 0 [] := by
  obtain ⟨h1, h2, h3, h4⟩ := h.h
  have e1 := and_mask h1 h2
  have e2 := and_mask h3 h4
  have e3 : x / 2 ^ (32 : Int).toNat = 0 := by show x / 4294967296 = 0; omega
  have e4 : y / 2 ^ (32 : Int).toNat = 0 := by show y / 4294967296 = 0; omega
  have m1 : 0 ≤ x * y := Int.mul_nonneg h1 h3
  have m2 : x * y ≤ 65535 * 65535 := Int.mul_le_mul (by omega) (by omega) h3 (by omega)
  have e5 : IntKind.u64.wrap (x * y) = x * y := wrap_u m1 (by omega)
  have e6 : x * y / 2 ^ (32 : Int).toNat = 0 := by show x * y / 4294967296 = 0; omega
  have e7 : IntKind.u64.wrap 0 = 0 := rfl
  have e8 : (0 : Int) / 2 ^ (32 : Int).toNat = 0 := rfl
  have e9 : (((0 : Int).toNat &&& (4294967295 : Int).toNat : Nat) : Int) = 0 := rfl
  have b1 : inB x := by simp [inB]; omega
  have b2 : inB y := by simp [inB]; omega
  have b3 : inB (4294967295 : Int) := by simp [inB]
  have b4 : inB (0 : Int) := by simp [inB]
  have s1 : shrI .u64 x 32 = 0 := by rw [shrI_in (.inr rfl) (by omega)]; exact e3
  have s2 : shrI .u64 y 32 = 0 := by rw [shrI_in (.inr rfl) (by omega)]; exact e4
  have s3 : shrI .u64 (x * y) 32 = 0 := by rw [shrI_in (.inr rfl) (by omega)]; exact e6
  have s4 : shrI .u64 0 32 = 0 := by rw [shrI_in (.inr rfl) (by omega)]; exact e8
  have a1 : andI .u64 x 4294967295 = x := by rw [andI_nat (.inr rfl) b1 b3]; exact e1
  have a2 : andI .u64 y 4294967295 = y := by rw [andI_nat (.inr rfl) b2 b3]; exact e2
  have a3 : andI .u64 0 4294967295 = 0 := by rw [andI_nat (.inr rfl) b4 b3]; exact e9
  refine fn_of_ev tok Try.func107 rfl rfl rfl ?_
  repeat' ((conv => whnf); first | done | refine ev_step ?_ | refine ops_step ?_ | refine scan_step ?_ | refine draw_step ?_ | refine each_step ?_ | refine sl_step ?_ | refine hp_step ?_ | refine guard_no (by decide) ?_ | refine guard_go ?_ | refine guard_old ?_ | apply cut_auto | with_reducible exact CutS.mk (Or.inl ⟨rfl, rfl, rfl⟩) | refine CutS.mk (Or.inr (Or.inl (sub_auto ?_))) | exact trivial | refine And.intro ?_ ?_ | refine cond_split ?_ ?_ | apply guess | exact Or.inl rfl | exact Or.inr rfl | exact Side.mk trivial | exact Side.mk (fun h => h) | exact Side.mk (fun h => ⟨h, h⟩) | with_reducible exact Side.mk rfl | with_reducible exact Side.mk ⟨rfl, rfl⟩ | with_reducible exact Side.mk (by assumption) | with_reducible rfl | intro _)
  all_goals try (conv => whnf)
  all_goals try simp only [s1, s2, s3, s4, a1, a2, a3, e5, e7, Int.zero_mul, Int.mul_zero, Int.add_zero, Int.zero_add]
  all_goals first | done | (refine Side.mk ?_; omega) | (refine Side.mk ?_; simp [inB]; omega) | trace_state
end Go.Sx.U
