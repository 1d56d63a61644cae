/-
  Laws of chapter 10: noise (contract).
-/
import Derived.Test.YtjojnolcohjebaaKL1
namespace Go.Sx.U
set_option linter.unusedVariables false
set_option linter.unusedSimpArgs false
set_option maxRecDepth 100000
set_option maxHeartbeats 8000000
open Go Go.Sx Go.Proofs Go.Sx.M0

theorem k_markBundle (W : List (List Int)) (k : Int) (h : Side (totL W ≤ 1048577 ∧ W.length ≤ 1048577 ∧ 0 ≤ k ∧ k ≤ 1000000000)) : FnIs Try.prog 23 [.agg [.sl 1 []], .int .i64 k] 2 [(1, .flat true (.rows 0 0 W.length)), (0, .nestI true .i64 W)] (.int .i64 (k + totL W)) 2 [(1, .flat true (.rows 0 0 W.length)), (0, .nestI true .i64 (marksN k W))] := by
  refine fn_of_ev tok Try.func23 rfl rfl rfl ?_
  repeat' ((conv => whnf); first | done | refine ev_step ?_ | refine ops_step ?_ | refine scan_step ?_ | refine draw_step ?_ | refine each_step ?_ | refine sl_step ?_ | refine hp_step ?_ | refine guard_no (by decide) ?_ | refine guard_go ?_ | refine guard_old ?_ | apply cut_auto | with_reducible exact CutS.mk (Or.inl ⟨rfl, rfl, rfl⟩) | refine CutS.mk (Or.inr (sub_auto ?_)) | exact trivial | refine And.intro ?_ ?_ | refine cond_split ?_ ?_ | apply guess | apply FnIs.useF (k_markInt64SS W k h) | exact Or.inl rfl | exact Or.inr rfl | exact Side.mk trivial | exact Side.mk (fun h => h) | exact Side.mk (fun h => ⟨h, h⟩) | with_reducible exact Side.mk rfl | with_reducible exact Side.mk ⟨rfl, rfl⟩ | with_reducible exact Side.mk (by assumption) | with_reducible rfl | intro _)
  all_goals try (conv => whnf)
  all_goals first | rfl | trace_state
theorem isO_len {W : List (List Int)} {o : List Int} (hx : okB W = true) (hy : isOB W.length o = true) : o.length ≤ 9 := by
  have := (okB_iff.1 hx).1
  have := (isOB_iff.1 hy).1
  omega
theorem noise_len (W : List (List Int)) (o sh : List Int) : (noise W o sh).length = o.length := noiseT_len _ _ _ _
end Go.Sx.U
