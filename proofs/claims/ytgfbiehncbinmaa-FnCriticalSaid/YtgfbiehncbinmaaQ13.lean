/-
  Chapter 9: slices.Repeat; the program's latest places and freedom.
-/
import Derived.Test.YtgfbiehncbinmaaQ12
namespace Go.Sx.U
set_option linter.unusedVariables false
set_option linter.unusedSimpArgs false
set_option maxRecDepth 100000
set_option maxHeartbeats 8000000
open Go Go.Sx Go.Sx.M9 Go.Proofs
set_option maxHeartbeats 2000000
set_option maxRecDepth 100000

theorem c119 (x y : Int) (h : Side (0 ≤ x ∧ x < 65536 ∧ 0 ≤ y ∧ y < 65536)) : FnIs Try.prog 84 [.int .u64 x, .int .u64 y] 0 [] (.tuple [.int .u64 0, .int .u64 (x * y)]) 0 [] := by
  refine fn_of_ev tok Try.func84 rfl rfl rfl ?_
  repeat' ((conv => whnf); first | done | refine ev_step ?_ | refine ops_step ?_ | refine scan_step ?_ | refine draw_step ?_ | refine each_step ?_ | refine sl_step ?_ | refine hp_step ?_ | refine guard_no (by decide) ?_ | refine guard_go ?_ | refine guard_old ?_ | apply cut_auto | with_reducible exact CutS.mk (Or.inl ⟨rfl, rfl, rfl⟩) | refine CutS.mk (Or.inr (Or.inl (sub_auto ?_))) | exact trivial | refine And.intro ?_ ?_ | refine cond_split ?_ ?_ | apply guess | apply FnIs.useF (c139 _ _ h) | exact Or.inl rfl | exact Or.inr rfl | exact Side.mk trivial | exact Side.mk (fun h => h) | exact Side.mk (fun h => ⟨h, h⟩) | with_reducible exact Side.mk rfl | with_reducible exact Side.mk ⟨rfl, rfl⟩ | with_reducible exact Side.mk (by assumption) | with_reducible rfl | intro _)
  all_goals try (conv => whnf)
theorem splice_rep (w : Int) {n p m : Nat} (h : n + m ≤ p) (hm : m ≤ n) : spliceL (List.replicate n w ++ List.replicate (p - n) 0) (List.replicate n w) n m = List.replicate (n + m) w ++ List.replicate (p - (n + m)) 0 := by
  unfold spliceL
  rw [List.take_left' (by simp), List.take_replicate, Nat.min_eq_left hm, List.drop_append, List.drop_replicate, List.drop_replicate]
  rw [show n - (n + m) = 0 by omega]
  simp only [List.length_replicate, List.replicate_zero, List.nil_append, List.replicate_append_replicate]
  congr 2
  omega
theorem wrap_i {x : Int} (h0 : 0 ≤ x) (h : x < 65536) : IntKind.i64.wrap x = x := by
  unfold IntKind.wrap; simp [IntKind.bits, IntKind.signed]; omega
/-! ### The program's latest places -/
end Go.Sx.U
