/-
  Chapter 9: tight rules; a rule more.
-/
import Derived.Test.YtgfbiehncbinmaaQ5
namespace Go.Sx.U
set_option linter.unusedVariables false
set_option linter.unusedSimpArgs false
set_option maxRecDepth 100000
set_option maxHeartbeats 8000000
open Go Go.Sx Go.Sx.M9 Go.Proofs
set_option maxHeartbeats 2000000
set_option maxRecDepth 100000

def tightR (pl : List Int) (r : R3) : Bool := decide (pl.getD r.b.toNat 0 = pl.getD r.a.toNat 0 + r.c)
def tights (rs : List R3) (pl : List Int) (i : Nat) : List Int := ((List.range i).filter fun k => tightR pl (rs.getD k default)).map (fun k : Nat => (k : Int))
theorem tights_succ (rs : List R3) (pl : List Int) (i : Nat) : tights rs pl (i + 1) = tights rs pl i ++ (if tightR pl (rs.getD i default) = true then [(i : Int)] else []) := by
  unfold tights
  rw [List.range_succ, List.filter_append, List.map_append]
  congr 1
  simp only [List.filter_cons, List.filter_nil]
  split <;> rfl
theorem tights_yes {rs : List R3} {pl : List Int} {i : Nat} (h : tightR pl (rs.getD i default) = true) : tights rs pl (i + 1) = tights rs pl i ++ [(i : Int)] := by
  rw [tights_succ, if_pos h]
theorem tights_no {rs : List R3} {pl : List Int} {i : Nat} (h : tightR pl (rs.getD i default) = false) : tights rs pl (i + 1) = tights rs pl i := by
  rw [tights_succ, if_neg (by rw [h]; simp), List.append_nil]
theorem tights_len (rs : List R3) (pl : List Int) (i : Nat) : (tights rs pl i).length ≤ i := by
  have h := List.length_filter_le (fun k : Nat => tightR pl (rs.getD k default)) (List.range i)
  rw [List.length_range] at h
  unfold tights
  rw [List.length_map]
  exact h
theorem placed_bd {p : Int} {rs : List R3} {pl : List Int} (h : placed p rs pl = true) : (pl.length : Int) = p ∧ pl.all inPl = true := by
  simp only [placed, Bool.and_eq_true, decide_eq_true_eq] at h
  exact h.1
theorem c88 (pl : List Int) (r : R3) (h : Side (pl.all inPl = true ∧ 0 ≤ r.a ∧ r.a < pl.length ∧ 0 ≤ r.b ∧ r.b < pl.length ∧ -1000 ≤ r.c ∧ r.c ≤ 1000)) : FnIs Try.prog 52 [.agg [.int .i64 r.a, .int .i64 r.b, .int .i64 r.c], .sl 0 []] 1 [(0, .flat false (.ints .i64 pl))] (.bool (tightR pl r)) 1 [] := by
  obtain ⟨hall, h1, h2, h3, h4, h5, h6⟩ := h.h
  have b1 := inPl_get hall r.a.toNat
  have b2 := inPl_get hall r.b.toNat
  refine fn_of_ev tok Try.func52 rfl rfl rfl ?_
  repeat' ((conv => whnf); first | done | refine ev_step ?_ | refine ops_step ?_ | refine scan_step ?_ | refine draw_step ?_ | refine each_step ?_ | refine sl_step ?_ | refine hp_step ?_ | refine guard_no (by decide) ?_ | refine guard_go ?_ | refine guard_old ?_ | apply cut_auto | with_reducible exact CutS.mk (Or.inl ⟨rfl, rfl, rfl⟩) | refine CutS.mk (Or.inr (Or.inl (sub_auto ?_))) | exact trivial | refine And.intro ?_ ?_ | refine cond_split ?_ ?_ | apply guess | exact Or.inl rfl | exact Or.inr rfl | exact Side.mk trivial | exact Side.mk (fun h => h) | exact Side.mk (fun h => ⟨h, h⟩) | with_reducible exact Side.mk rfl | with_reducible exact Side.mk ⟨rfl, rfl⟩ | with_reducible exact Side.mk (by assumption) | with_reducible rfl | intro _)
  all_goals try (conv => whnf)
  all_goals try (refine Side.mk ?_; first | (intros; omega) | (intro h1_ h2_; rw [h1_, h2_]; rfl) | (show List.length (_ ++ _) ≤ _; simp only [List.length_append, List.length_cons, List.length_nil, List.length_replicate, List.length_take]; omega) | (simp_all; done) | (simp_all; omega))
  all_goals rfl
def tight? (p : Int) (rs : List R3) (pl : List Int) : Bool := okPress p rs && placed p rs pl
theorem c42 (p : Int) (rs : List R3) (pl : List Int) (h : Side (inI64 p ∧ rs.length ≤ 1048577 ∧ pl.length ≤ 1048577)) : FnIs Try.prog 30 [.agg [.int .i64 p, .sl 0 []], .sl 1 []] 2 [(0, .flat false (.r3 rs)), (1, .flat false (.ints .i64 pl))] (.tuple [.sl 2 [], .bool (tight? p rs pl)]) 3 [(2, .flat true (.ints .i64 (if tight? p rs pl = true then tights rs pl rs.length else [])))] := by
  obtain ⟨h1, h2, h3⟩ := h.h
  refine fn_of_ev tok Try.func30 rfl rfl rfl ?_
  cases hq : tight? p rs pl with
  | false =>
    unfold tight? at hq
    repeat' ((conv => whnf); first | done | refine ev_step ?_ | refine ops_step ?_ | refine scan_step ?_ | refine draw_step ?_ | refine each_step ?_ | refine sl_step ?_ | refine hp_step ?_ | refine guard_no (by decide) ?_ | refine guard_go ?_ | refine guard_old ?_ | apply cut_auto | with_reducible exact CutS.mk (Or.inl ⟨rfl, rfl, rfl⟩) | refine CutS.mk (Or.inr (Or.inl (sub_auto ?_))) | exact trivial | refine And.intro ?_ ?_ | (refine cond_split ?_ ?_ <;> intro _ <;> first | (exfalso; first | omega | (simp_all; done) | (simp_all; omega)) | skip) | apply guess | apply FnIs.useF (c26 p rs pl h) | exact Or.inl rfl | exact Or.inr rfl | exact Side.mk trivial | exact Side.mk (fun h => h) | exact Side.mk (fun h => ⟨h, h⟩) | with_reducible exact Side.mk rfl | with_reducible exact Side.mk ⟨rfl, rfl⟩ | with_reducible exact Side.mk (by assumption) | with_reducible rfl | intro _)
    all_goals try (conv => whnf)
    all_goals try (refine Side.mk ?_; first | (intros; omega) | (intro h1_ h2_; rw [h1_, h2_]; rfl) | (show List.length (_ ++ _) ≤ _; simp only [List.length_append, List.length_cons, List.length_nil, List.length_replicate, List.length_take]; omega) | (simp_all; done) | (simp_all; omega))
    all_goals first | done | rfl
  | true =>
    have hq' : okPress p rs = true ∧ placed p rs pl = true := by simpa [tight?] using hq
    obtain ⟨hp, hpl⟩ := hq'
    have hb := okPress_bd hp
    obtain ⟨hl, hall⟩ := placed_bd hpl
    repeat' ((conv => whnf); first | done | refine ev_step ?_ | refine ops_step ?_ | refine scan_step ?_ | refine draw_step ?_ | refine each_step ?_ | refine sl_step ?_ | refine hp_step ?_ | refine guard_no (by decide) ?_ | refine guard_go ?_ | refine guard_old ?_ | apply cut_auto | with_reducible exact CutS.mk (Or.inl ⟨rfl, rfl, rfl⟩) | refine CutS.mk (Or.inr (Or.inl (sub_auto ?_))) | exact trivial | refine And.intro ?_ ?_ | (refine cond_split ?_ ?_ <;> intro _ <;> first | (exfalso; first | omega | (simp_all; done) | (simp_all; omega)) | skip) | apply guess | apply FnIs.useF (c26 p rs pl h) | exact Or.inl rfl | exact Or.inr rfl | exact Side.mk trivial | exact Side.mk (fun h => h) | exact Side.mk (fun h => ⟨h, h⟩) | with_reducible exact Side.mk rfl | with_reducible exact Side.mk ⟨rfl, rfl⟩ | with_reducible exact Side.mk (by assumption) | with_reducible rfl | intro _)
    all_goals try (conv => whnf)
    all_goals try (refine Side.mk ?_; first | (intros; omega) | (intro h1_ h2_; rw [h1_, h2_]; rfl) | (show List.length (_ ++ _) ≤ _; simp only [List.length_append, List.length_cons, List.length_nil, List.length_replicate, List.length_take]; omega) | (simp_all; done) | (simp_all; omega))
    refine loop_at (fun i : Nat => i ≤ rs.length) 4 (fun i => [(6, .sl 3 []), (13, .top), (17, .int .i64 i)]) (fun i => [(3, .flat true (.ints .i64 (tights rs pl i)))]) (fun i => rs.length - i) 0 (Nat.zero_le _) ?_ (fun i hi => ?_)
    · repeat' ((conv => whnf); first | done | refine ev_step ?_ | refine ops_step ?_ | refine scan_step ?_ | refine draw_step ?_ | refine each_step ?_ | refine sl_step ?_ | refine hp_step ?_ | refine guard_no (by decide) ?_ | refine guard_go ?_ | refine guard_old ?_ | apply cut_auto | with_reducible exact CutS.mk (Or.inl ⟨rfl, rfl, rfl⟩) | refine CutS.mk (Or.inr (Or.inl (sub_auto ?_))) | exact trivial | refine And.intro ?_ ?_ | refine cond_split ?_ ?_ | apply guess | exact Or.inl rfl | exact Or.inr rfl | exact Side.mk trivial | exact Side.mk (fun h => h) | exact Side.mk (fun h => ⟨h, h⟩) | with_reducible exact Side.mk rfl | with_reducible exact Side.mk ⟨rfl, rfl⟩ | with_reducible exact Side.mk (by assumption) | with_reducible rfl | intro _)
      all_goals try (conv => whnf)
      all_goals first | rfl | simp [tights]
    · by_cases hlt : i < rs.length
      · have bi := okPress_get hp hlt
        have b1 := inPl_get hall (rs.getD i default).a.toNat
        have b2 := inPl_get hall (rs.getD i default).b.toNat
        have ht := tights_len rs pl i
        repeat' ((conv => whnf); first | done | refine ev_step ?_ | refine ops_step ?_ | refine scan_step ?_ | refine draw_step ?_ | refine each_step ?_ | refine sl_step ?_ | refine hp_step ?_ | refine guard_no (by decide) ?_ | refine guard_go ?_ | refine guard_old ?_ | apply cut_auto | with_reducible exact CutS.mk (Or.inl ⟨rfl, rfl, rfl⟩) | refine CutS.mk (Or.inr (Or.inl (sub_auto ?_))) | exact trivial | refine And.intro ?_ ?_ | (refine cond_split ?_ ?_ <;> intro _ <;> first | (exfalso; first | omega | (simp_all; done) | (simp_all; omega)) | skip) | apply guess | apply FnIs.useF (c88 _ _ _) | exact Or.inl rfl | exact Or.inr rfl | exact Side.mk trivial | exact Side.mk (fun h => h) | exact Side.mk (fun h => ⟨h, h⟩) | with_reducible exact Side.mk rfl | with_reducible exact Side.mk ⟨rfl, rfl⟩ | with_reducible exact Side.mk (by assumption) | with_reducible rfl | intro _)
        all_goals try (conv => whnf)
        all_goals first | (refine Side.mk ?_; show (tights rs pl i ++ [(i : Int)]).length ≤ _; simp; omega) | skip
        all_goals try simp only [Int.toNat_natCast] at *
        all_goals try (refine Side.mk ?_; first | (intros; omega) | (intro h1_ h2_; rw [h1_, h2_]; rfl) | (show List.length (_ ++ _) ≤ _; simp only [List.length_append, List.length_cons, List.length_nil, List.length_replicate, List.length_take]; omega) | (simp_all; done) | (simp_all; omega))
        · rename_i hq
          refine ⟨i + 1, by omega, by omega, ?_⟩
          rw [tights_yes hq]
          repeat' ((conv => whnf); first | done | refine ev_step ?_ | refine ops_step ?_ | refine scan_step ?_ | refine draw_step ?_ | refine each_step ?_ | refine sl_step ?_ | refine hp_step ?_ | refine guard_no (by decide) ?_ | refine guard_go ?_ | refine guard_old ?_ | apply cut_auto | with_reducible exact CutS.mk (Or.inl ⟨rfl, rfl, rfl⟩) | refine CutS.mk (Or.inr (Or.inl (sub_auto ?_))) | exact trivial | refine And.intro ?_ ?_ | refine cond_split ?_ ?_ | apply guess | exact Or.inl rfl | exact Or.inr rfl | exact Side.mk trivial | exact Side.mk (fun h => h) | exact Side.mk (fun h => ⟨h, h⟩) | with_reducible exact Side.mk rfl | with_reducible exact Side.mk ⟨rfl, rfl⟩ | with_reducible exact Side.mk (by assumption) | with_reducible rfl | intro _)
          all_goals try (conv => whnf)
          all_goals first | rfl | omega | trace_state
        · rename_i hq
          refine ⟨i + 1, by omega, by omega, ?_⟩
          rw [tights_no hq]
          repeat' ((conv => whnf); first | done | refine ev_step ?_ | refine ops_step ?_ | refine scan_step ?_ | refine draw_step ?_ | refine each_step ?_ | refine sl_step ?_ | refine hp_step ?_ | refine guard_no (by decide) ?_ | refine guard_go ?_ | refine guard_old ?_ | apply cut_auto | with_reducible exact CutS.mk (Or.inl ⟨rfl, rfl, rfl⟩) | refine CutS.mk (Or.inr (Or.inl (sub_auto ?_))) | exact trivial | refine And.intro ?_ ?_ | refine cond_split ?_ ?_ | apply guess | exact Or.inl rfl | exact Or.inr rfl | exact Side.mk trivial | exact Side.mk (fun h => h) | exact Side.mk (fun h => ⟨h, h⟩) | with_reducible exact Side.mk rfl | with_reducible exact Side.mk ⟨rfl, rfl⟩ | with_reducible exact Side.mk (by assumption) | with_reducible rfl | intro _)
          all_goals try (conv => whnf)
          all_goals first | rfl | omega | trace_state
      · repeat' ((conv => whnf); first | done | refine ev_step ?_ | refine ops_step ?_ | refine scan_step ?_ | refine draw_step ?_ | refine each_step ?_ | refine sl_step ?_ | refine hp_step ?_ | refine guard_no (by decide) ?_ | refine guard_go ?_ | refine guard_old ?_ | apply cut_auto | with_reducible exact CutS.mk (Or.inl ⟨rfl, rfl, rfl⟩) | refine CutS.mk (Or.inr (Or.inl (sub_auto ?_))) | exact trivial | refine And.intro ?_ ?_ | (refine cond_split ?_ ?_ <;> intro _ <;> first | (exfalso; first | omega | (simp_all; done) | (simp_all; omega)) | skip) | apply guess | exact Or.inl rfl | exact Or.inr rfl | exact Side.mk trivial | exact Side.mk (fun h => h) | exact Side.mk (fun h => ⟨h, h⟩) | with_reducible exact Side.mk rfl | with_reducible exact Side.mk ⟨rfl, rfl⟩ | with_reducible exact Side.mk (by assumption) | with_reducible rfl | intro _)
        all_goals try (conv => whnf)
        rw [show i = rs.length by omega]; rfl
end Go.Sx.U
