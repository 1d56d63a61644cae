/-
  Chapter 10: the quietest order, the program's way (contract).
-/
import Derived.Test.YtjojnolcohjebaaC6
namespace Go.Sx.U
set_option linter.unusedVariables false
set_option linter.unusedSimpArgs false
set_option maxRecDepth 100000
set_option maxHeartbeats 8000000
open Go Go.Sx Go.Proofs Go.Sx.M0

def quietV (W : List (List Int)) : QS := qFold W ([], -1) (allO W.length W.length [])
theorem k_ordersQ (W : List (List Int)) (hW : okW W) : FnIs Try.prog 52 [.ptr 0 [] 0 0, .func 59 [.ptr 3 [] 0 0, .ptr 5 [] 0 0], .func 60 [.ptr 5 [] 0 0, .ptr 4 [] 0 0, .ptr 3 [] 0 0]] 6 [(0, .flat false (.gen 1 [[.sl 2 []]])), (2, .flat false (.rows 1 0 W.length)), (1, .nestI false .i64 W), (3, .flat true (.gen 1 [[.int .i64 (-1)]])), (4, .flat true (.gen 1 [[.nilsl]])), (5, .flat false (.gen 1 [[.func 57 [.ptr 0 [] 0 0]]]))] (.tuple []) 7 [(3, .flat true (.gen 1 [[.int .i64 (quietV W).2]])), (4, .flat true (.gen 1 [[.sl 6 []]])), (6, .flat true (.ints .i64 (quietV W).1))] := by
  have hn := hW.1
  have k1 := k_growQ W hW W.length [] ([], -1) (pre_nil W)
  unfold GrowQ at k1
  rw [seenL_nil] at k1
  unfold quietV
  generalize qFold W ([], -1) (allO W.length W.length []) = q at *
  refine fn_of_ev tok Try.func52 rfl rfl rfl ?_
  repeat' ((conv => whnf); first | done | refine ev_step ?_ | refine ops_step ?_ | refine scan_step ?_ | refine draw_step ?_ | refine each_step ?_ | refine sl_step ?_ | refine hp_step ?_ | refine guard_no (by decide) ?_ | refine guard_go ?_ | with_reducible exact CutS.mk (Or.inl ⟨rfl, rfl, rfl⟩) | refine CutS.mk (Or.inr (sub_auto ?_)) | exact trivial | refine And.intro ?_ ?_ | refine cond_split ?_ ?_ | apply guess | exact Or.inl rfl | exact Or.inr rfl | exact Side.mk trivial | exact Side.mk (fun h => h) | exact Side.mk (fun h => ⟨h, h⟩) | with_reducible exact Side.mk rfl | with_reducible exact Side.mk ⟨rfl, rfl⟩ | with_reducible exact Side.mk (by assumption) | with_reducible rfl | intro _)
  conv => whnf
  refine cut_auto (s' := [(0, .ptr 0 [] 0 0), (3, .ptr 6 [] 0 0), (4, .ptr 7 [] 0 0), (5, .ptr 8 [] 0 0), (6, .ptr 10 [] 0 0), (7, .ptr 12 [] 0 0)]) (N' := 14)
    (G' := [(6, .flat true (.gen 1 [[.ptr 0 [] 0 0]])), (7, .flat true (.gen 1 [[.func 59 [.ptr 3 [] 0 0, .ptr 5 [] 0 0]]])), (8, .flat true (.gen 1 [[.func 60 [.ptr 5 [] 0 0, .ptr 4 [] 0 0, .ptr 3 [] 0 0]]])),
      (0, .flat false (.gen 1 [[.sl 2 []]])), (2, .flat false (.rows 1 0 W.length)), (1, .nestI false .i64 W), (3, .flat true (.gen 1 [[.int .i64 (-1)]])), (4, .flat true (.gen 1 [[.sl 13 []]])), (13, .flat true (.ints .i64 [])), (5, .flat false (.gen 1 [[.func 57 [.ptr 0 [] 0 0]]])),
      (9, .flat true (.ints .i64 [])), (10, .flat true (.gen 1 [[.sl 9 []]])), (11, .flat true (.bools (List.replicate W.length false))), (12, .flat true (.gen 1 [[.sl 11 []]]))]) ?_ ?_
  · repeat' ((conv => whnf); first | done | refine ev_step ?_ | refine ops_step ?_ | refine scan_step ?_ | refine draw_step ?_ | refine each_step ?_ | refine sl_step ?_ | refine hp_step ?_ | refine guard_no (by decide) ?_ | refine guard_go ?_ | apply cut_auto | with_reducible exact CutS.mk (Or.inl ⟨rfl, rfl, rfl⟩) | refine CutS.mk (Or.inr (sub_auto ?_)) | exact trivial | refine And.intro ?_ ?_ | refine cond_split ?_ ?_ | apply guess | exact Or.inl rfl | exact Or.inr rfl | exact Side.mk trivial | exact Side.mk (fun h => h) | exact Side.mk (fun h => ⟨h, h⟩) | with_reducible exact Side.mk rfl | with_reducible exact Side.mk ⟨rfl, rfl⟩ | with_reducible exact Side.mk (by assumption) | with_reducible rfl | intro _)
    all_goals try (conv => whnf)
    all_goals try (refine Side.mk ?_; first | (intros; omega) | (show List.length (_ ++ _) ≤ _; simp only [List.length_append, List.length_cons, List.length_nil, List.length_replicate, List.length_take]; omega) | (simp_all; done) | (simp_all; omega))
    all_goals first | rfl | omega | trace_state
  · repeat' ((conv => whnf); first | done | refine ev_step ?_ | refine ops_step ?_ | refine scan_step ?_ | refine draw_step ?_ | refine each_step ?_ | refine sl_step ?_ | refine hp_step ?_ | refine guard_no (by decide) ?_ | refine guard_go ?_ | apply cut_auto | with_reducible exact CutS.mk (Or.inl ⟨rfl, rfl, rfl⟩) | refine CutS.mk (Or.inr (sub_auto ?_)) | exact trivial | refine And.intro ?_ ?_ | refine cond_split ?_ ?_ | apply guess | apply FnEx.useF2 (k1) | exact Or.inl rfl | exact Or.inr rfl | exact Side.mk trivial | exact Side.mk (fun h => h) | exact Side.mk (fun h => ⟨h, h⟩) | with_reducible exact Side.mk rfl | with_reducible exact Side.mk ⟨rfl, rfl⟩ | with_reducible exact Side.mk (by assumption) | with_reducible rfl | intro _)
    all_goals try (conv => whnf)
    all_goals try (refine Side.mk ?_; first | (intros; omega) | (show List.length (_ ++ _) ≤ _; simp only [List.length_append, List.length_cons, List.length_nil, List.length_replicate, List.length_take]; omega) | (simp_all; done) | (simp_all; omega))
    all_goals first | rfl | omega | trace_state
end Go.Sx.U
