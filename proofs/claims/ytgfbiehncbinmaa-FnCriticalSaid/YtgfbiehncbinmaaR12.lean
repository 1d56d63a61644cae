/-
  Chapter 9: the program's critical path: the walk.
-/
import Derived.Test.YtgfbiehncbinmaaR11
import Derived.Test.YtgfbiehncbinmaaKSI
set_option linter.unusedSimpArgs false
namespace Go.Sx.U
set_option linter.unusedVariables false
set_option linter.unusedSimpArgs false
set_option maxRecDepth 100000
set_option maxHeartbeats 8000000
open Go Go.Sx Go.Proofs Go.Sx.M9

theorem k_CritImpl (p : Int) (rs : List R3) (h : Side (inI64 p ∧ rs.length ≤ 1048577)) : FnEx Try.prog 18 [.agg [.int .i64 p, .sl 0 []]] 1 [(0, .flat false (.r3 rs))] (fun o : Option (List Int) => match o with | none => critV p rs = [] | some a => a = critV p rs ∧ critV p rs ≠ []) (fun o => match o with | none => .tuple [.nilsl, .bool false] | some a => .tuple [.sl 1 [], .bool true]) 2 (fun o => match o with | none => [] | some a => [(1, .flat true (.ints .i64 a))]) := by
  have k1 := c29 p rs h
  cases hl : least? p rs with
  | none =>
    rw [hl] at k1
    refine ex_of_evk [0, 1, 2, 3, 4, 5, 6, 7, 9, 11, 12, 13, 14, 15, 16, 17, 18, 19, 20, 21, 22, 29, 36, 37, 38, 39, 44, 59, 60, 61, 62, 72, 73, 74, 75, 81, 84, 85, 86, 87, 107, 114, 115, 116, 117, 144, 148, 156, 174] tok Try.func18 rfl rfl rfl ?_
    repeat' ((conv => whnf); first | done | refine ev_step ?_ | refine ops_step ?_ | refine scan_step ?_ | refine draw_step ?_ | refine each_step ?_ | refine sl_step ?_ | refine hp_step ?_ | refine guard_no (by decide) ?_ | refine guard_go ?_ | refine guard_old ?_ | apply cut_auto | with_reducible exact CutS.mk (Or.inl ⟨rfl, rfl, rfl⟩) | refine CutS.mk (Or.inr (Or.inl (sub_auto ?_))) | exact trivial | refine And.intro ?_ ?_ | (refine cond_split ?_ ?_ <;> intro _ <;> first | (exfalso; first | omega | (simp only [decide_eq_true_eq, decide_eq_false_iff_not, Bool.not_eq_true', Bool.not_eq_false', ne_eq, Bool.not_true, Bool.not_false, cond_true, cond_false, Bool.true_eq_false, Bool.false_eq_true, Bool.and_eq_true, Bool.and_eq_false_iff] at *; omega)) | skip) | apply guess | apply FnIs.useF (k1) | exact Or.inl rfl | exact Or.inr rfl | exact Side.mk trivial | exact Side.mk (fun h => h) | exact Side.mk (fun h => ⟨h, h⟩) | with_reducible exact Side.mk rfl | with_reducible exact Side.mk ⟨rfl, rfl⟩ | with_reducible exact Side.mk (by assumption) | with_reducible rfl | intro _)
    all_goals try (conv => whnf)
    all_goals try (refine Side.mk ?_; first | (intros; omega) | (intro h1_ h2_; rw [h1_, h2_]; rfl) | (show List.length (_ ++ _) ≤ _; simp only [List.length_append, List.length_cons, List.length_nil, List.length_replicate, List.length_take]; omega) | (simp_all; done) | (simp_all; omega))
    refine ⟨none, by simp [critV, hl], ?_⟩
    repeat' ((conv => whnf); first | done | refine ev_step ?_ | refine ops_step ?_ | refine scan_step ?_ | refine draw_step ?_ | refine each_step ?_ | refine sl_step ?_ | refine hp_step ?_ | refine guard_no (by decide) ?_ | refine guard_go ?_ | refine guard_old ?_ | apply cut_auto | with_reducible exact CutS.mk (Or.inl ⟨rfl, rfl, rfl⟩) | refine CutS.mk (Or.inr (Or.inl (sub_auto ?_))) | exact trivial | refine And.intro ?_ ?_ | refine cond_split ?_ ?_ | apply guess | exact Or.inl rfl | exact Or.inr rfl | exact Side.mk trivial | exact Side.mk (fun h => h) | exact Side.mk (fun h => ⟨h, h⟩) | with_reducible exact Side.mk rfl | with_reducible exact Side.mk ⟨rfl, rfl⟩ | with_reducible exact Side.mk (by assumption) | with_reducible rfl | intro _)
    all_goals try (conv => whnf)
    all_goals first | rfl | trace_state
  | some pl =>
    rw [hl] at k1
    simp only [Option.isSome_some, Option.getD_some] at k1
    obtain ⟨hp, hL, hpn, hP⟩ := press_ok hl
    have hcv : critV p rs = critL p.toNat rs pl := by simp only [critV, hl]
    have hcr := crit_is hP
    rw [← hcv] at hcr
    generalize critV p rs = crit at *
    clear hcv
    generalize p.toNat = n at *
    subst hpn
    have hpl := hP.pls
    have hlen := hP.len
    have hpar := hP.par
    have hrul := hP.rul
    have k2 := c80 pl ⟨by omega, by omega⟩
    refine ex_of_evk [0, 1, 2, 3, 4, 5, 6, 7, 9, 11, 12, 13, 14, 15, 16, 17, 18, 19, 20, 21, 22, 29, 36, 37, 38, 39, 44, 59, 60, 61, 62, 72, 73, 74, 75, 81, 84, 85, 86, 87, 107, 114, 115, 116, 117, 144, 148, 156, 174] tok Try.func18 rfl rfl rfl ?_
    repeat' ((conv => whnf); first | done | refine ev_step ?_ | refine ops_step ?_ | refine scan_step ?_ | refine draw_step ?_ | refine each_step ?_ | refine sl_step ?_ | refine hp_step ?_ | refine guard_no (by decide) ?_ | refine guard_go ?_ | refine guard_old ?_ | apply cut_auto | with_reducible exact CutS.mk (Or.inl ⟨rfl, rfl, rfl⟩) | refine CutS.mk (Or.inr (Or.inl (sub_auto ?_))) | exact trivial | refine And.intro ?_ ?_ | (refine cond_split ?_ ?_ <;> intro _ <;> first | (exfalso; first | omega | (simp only [decide_eq_true_eq, decide_eq_false_iff_not, Bool.not_eq_true', Bool.not_eq_false', ne_eq, Bool.not_true, Bool.not_false, cond_true, cond_false, Bool.true_eq_false, Bool.false_eq_true, Bool.and_eq_true, Bool.and_eq_false_iff] at *; omega)) | skip) | apply guess | apply FnIs.useF (k1) | apply FnIs.useF (k2) | exact Or.inl rfl | exact Or.inr rfl | exact Side.mk trivial | exact Side.mk (fun h => h) | exact Side.mk (fun h => ⟨h, h⟩) | with_reducible exact Side.mk rfl | with_reducible exact Side.mk ⟨rfl, rfl⟩ | with_reducible exact Side.mk (by assumption) | with_reducible rfl | intro _)
    all_goals try (conv => whnf)
    all_goals try (refine Side.mk ?_; first | (intros; omega) | (intro h1_ h2_; rw [h1_, h2_]; rfl) | (show List.length (_ ++ _) ≤ _; simp only [List.length_append, List.length_cons, List.length_nil, List.length_replicate, List.length_take]; omega) | (simp_all; done) | (simp_all; omega))
    simp only [Int.toNat_natCast]
    have hpin : pl.all inPl = true := by
      rw [List.all_eq_true]
      intro x hx
      obtain ⟨i, _, e⟩ := mem_getI hx
      have := hpl i
      simp only [inPl, Bool.and_eq_true, decide_eq_true_eq]
      omega
    refine loop_at (fun a : Nat × List (List Int) => a.1 ≤ rs.length ∧ GInv n rs pl a.2 a.1) 5 (fun a => [(38, .int .i64 a.1), (9, .top), (39, .top), (44, .top)]) (fun a => [(4, .flat true (.rows 3 0 n)), (3, .nestI true .i64 a.2)]) (fun a => rs.length - a.1) (0, List.replicate n []) ⟨Nat.zero_le _, GInv.start n rs pl⟩ ?_ (fun a ha => ?_)
    · repeat' ((conv => whnf); first | done | refine ev_step ?_ | refine ops_step ?_ | refine scan_step ?_ | refine draw_step ?_ | refine each_step ?_ | refine sl_step ?_ | refine hp_step ?_ | refine guard_no (by decide) ?_ | refine guard_go ?_ | refine guard_old ?_ | apply cut_auto | with_reducible exact CutS.mk (Or.inl ⟨rfl, rfl, rfl⟩) | refine CutS.mk (Or.inr (Or.inl (sub_auto ?_))) | exact trivial | refine And.intro ?_ ?_ | refine cond_split ?_ ?_ | apply guess | exact Or.inl rfl | exact Or.inr rfl | exact Side.mk trivial | exact Side.mk (fun h => h) | exact Side.mk (fun h => ⟨h, h⟩) | with_reducible exact Side.mk rfl | with_reducible exact Side.mk ⟨rfl, rfl⟩ | with_reducible exact Side.mk (by assumption) | with_reducible rfl | intro _)
      all_goals try (conv => whnf)
      all_goals first | rfl | trace_state
    · obtain ⟨k, g⟩ := a
      obtain ⟨hk, hg⟩ := ha
      dsimp only at hk hg ⊢
      have hgl := hg.len
      by_cases hkt : k < rs.length
      · have hr := hP.rng _ (mem_of_getD (d := default) hkt)
        have d9 : decide ((k : Int) < (rs.length : Int)) = true := decide_eq_true (by omega)
        have kt := c88 pl (rs.getD k default) ⟨hpin, by omega, by omega, by omega, by omega, by omega, by omega⟩
        cases ht : tightR pl (rs.getD k default)
        · rw [ht] at kt
          repeat' ((conv => whnf); first | done | refine ev_step ?_ | refine ops_step ?_ | refine scan_step ?_ | refine draw_step ?_ | refine each_step ?_ | refine sl_step ?_ | refine hp_step ?_ | refine guard_no (by decide) ?_ | refine guard_go ?_ | refine guard_old ?_ | apply cut_auto | with_reducible exact CutS.mk (Or.inl ⟨rfl, rfl, rfl⟩) | refine CutS.mk (Or.inr (Or.inl (sub_auto ?_))) | exact trivial | refine And.intro ?_ ?_ | (refine cond_split ?_ ?_ <;> intro hq_ <;> first | (exfalso; first | omega | (simp only [d9, cond_true, cond_false, Bool.not_true, Bool.not_false, Bool.and_true, Bool.true_and, Bool.and_false, Bool.false_and, Bool.or_true, Bool.true_or, Bool.or_false, Bool.false_or, Bool.true_eq_false, Bool.false_eq_true, decide_true, decide_false, reduceCtorEq] at hq_; done) | (rw [decide_eq_false_iff_not] at hq_; omega) | (rw [decide_eq_true_eq] at hq_; omega) | (simp only [d9, reduceCtorEq] at hq_; done) | exact Bool.noConfusion (Eq.trans (Eq.symm d9) hq_)) | skip) | apply guess | apply FnIs.useF (kt) | exact Or.inl rfl | exact Or.inr rfl | exact Side.mk trivial | exact Side.mk (fun h => h) | exact Side.mk (fun h => ⟨h, h⟩) | with_reducible exact Side.mk rfl | with_reducible exact Side.mk ⟨rfl, rfl⟩ | with_reducible exact Side.mk (by assumption) | with_reducible rfl | intro _)
          all_goals try (conv => whnf)
          all_goals try simp only [Int.toNat_natCast]
          all_goals try (refine Side.mk ?_; first | (intros; omega) | (intro h1_ h2_; rw [h1_, h2_]; rfl) | (show List.length (_ ++ _) ≤ _; simp only [List.length_append, List.length_cons, List.length_nil, List.length_replicate, List.length_take]; omega) | (simp_all; done) | (simp_all; omega))
          all_goals try omega
          refine ⟨(k + 1, g), ⟨by show k + 1 ≤ _; omega, hg.no ht⟩, by show _ - (k + 1) < _; omega, ?_⟩
          repeat' ((conv => whnf); first | done | refine ev_step ?_ | refine ops_step ?_ | refine scan_step ?_ | refine draw_step ?_ | refine each_step ?_ | refine sl_step ?_ | refine hp_step ?_ | refine guard_no (by decide) ?_ | refine guard_go ?_ | refine guard_old ?_ | apply cut_auto | with_reducible exact CutS.mk (Or.inl ⟨rfl, rfl, rfl⟩) | refine CutS.mk (Or.inr (Or.inl (sub_auto ?_))) | exact trivial | refine And.intro ?_ ?_ | refine cond_split ?_ ?_ | apply guess | exact Or.inl rfl | exact Or.inr rfl | exact Side.mk trivial | exact Side.mk (fun h => h) | exact Side.mk (fun h => ⟨h, h⟩) | with_reducible exact Side.mk rfl | with_reducible exact Side.mk ⟨rfl, rfl⟩ | with_reducible exact Side.mk (by assumption) | with_reducible rfl | intro _)
          all_goals try (conv => whnf)
          all_goals first | rfl | trace_state
        · rw [ht] at kt
          have hyn : (rs.getD k default).a.toNat < n := by omega
          have hgn : n = g.length := by omega
          have e0 : (k : Int).toNat = k := Int.toNat_natCast k
          rw [← e0] at kt
          repeat' ((conv => whnf); first | done | refine ev_step ?_ | refine ops_step ?_ | refine scan_step ?_ | refine draw_step ?_ | refine each_step ?_ | refine sl_step ?_ | refine hp_step ?_ | refine ACall.openRow (H := 4) (M := 3) (y := (rs.getD k default).a.toNat) rfl rfl hgn hyn (FnIs.useF kt ?_) | refine rowsK_mk ?_ | refine avRK_mk ?_ | refine guard_no (by decide) ?_ | refine guard_go ?_ | refine guard_old ?_ | with_reducible exact CutS.mk (Or.inl ⟨rfl, rfl, rfl⟩) | refine CutS.mk (Or.inr (Or.inl (sub_auto ?_))) | exact trivial | refine And.intro ?_ ?_ | (refine cond_split ?_ ?_ <;> intro hq_ <;> first | (exfalso; first | omega | (simp only [d9, cond_true, cond_false, Bool.not_true, Bool.not_false, Bool.and_true, Bool.true_and, Bool.and_false, Bool.false_and, Bool.or_true, Bool.true_or, Bool.or_false, Bool.false_or, Bool.true_eq_false, Bool.false_eq_true, decide_true, decide_false, reduceCtorEq] at hq_; done) | (rw [decide_eq_false_iff_not] at hq_; omega) | (rw [decide_eq_true_eq] at hq_; omega) | (simp only [d9, reduceCtorEq] at hq_; done) | exact Bool.noConfusion (Eq.trans (Eq.symm d9) hq_)) | skip) | apply guess | exact Or.inl rfl | exact Or.inr rfl | exact Side.mk trivial | exact Side.mk (fun h => h) | exact Side.mk (fun h => ⟨h, h⟩) | with_reducible exact Side.mk rfl | with_reducible exact Side.mk ⟨rfl, rfl⟩ | with_reducible exact Side.mk (by assumption) | with_reducible rfl | intro _)
          all_goals try simp only [Int.toNat_natCast]
          all_goals try (refine Side.mk ?_; first | (intros; omega) | (intro h1_ h2_; rw [h1_, h2_]; rfl) | (show List.length (_ ++ _) ≤ _; simp only [List.length_append, List.length_cons, List.length_nil, List.length_replicate, List.length_take]; omega) | (simp_all; done) | (simp_all; omega))
          all_goals try (conv => whnf)
          apply cut_auto
          · repeat' ((conv => whnf); first | done | refine ev_step ?_ | refine ops_step ?_ | refine scan_step ?_ | refine draw_step ?_ | refine each_step ?_ | refine sl_step ?_ | refine hp_step ?_ | refine rowsK_mk ?_ | refine avRK_mk ?_ | refine lrowK_mk (hdR_y hyn) ?_ | refine CutS.mk (Or.inr (Or.inr ⟨rfl, Conv.closeRow (H := 4) (A := 6) (B := 9) (y := (rs.getD k default).a.toNat) (n := n) (k := .i64) (xss := g.set (rs.getD k default).a.toNat []) (r := g.getD (rs.getD k default).a.toNat [] ++ [(rs.getD k default).b]) rfl rfl rfl hdR_set_len (by rw [List.length_set]; exact hgn) hyn (hdR_set_y hyn) (fun i hi hn => hdR_set_o i hi hn) ⟨by decide, by decide, by decide⟩⟩)) | refine guard_no (by decide) ?_ | refine guard_go ?_ | refine guard_old ?_ | with_reducible exact CutS.mk (Or.inl ⟨rfl, rfl, rfl⟩) | refine CutS.mk (Or.inr (Or.inl (sub_auto ?_))) | exact trivial | refine And.intro ?_ ?_ | refine cond_split ?_ ?_ | apply guess | exact Or.inl rfl | exact Or.inr rfl | exact Side.mk trivial | exact Side.mk (fun h => h) | exact Side.mk (fun h => ⟨h, h⟩) | with_reducible exact Side.mk rfl | with_reducible exact Side.mk ⟨rfl, rfl⟩ | with_reducible exact Side.mk (by assumption) | with_reducible rfl | intro _)
            all_goals try (refine Side.mk ?_; rw [hdR_len]; omega)
            all_goals try (refine Side.mk ?_; show List.length (_ ++ [_]) ≤ _; rw [List.length_append]; have hgr := hg.row _ hyn; simp only [List.length_singleton]; omega)
          repeat' ((conv => whnf); first | done | refine ev_step ?_ | refine ops_step ?_ | refine scan_step ?_ | refine draw_step ?_ | refine each_step ?_ | refine sl_step ?_ | refine hp_step ?_ | refine guard_no (by decide) ?_ | refine guard_go ?_ | refine guard_old ?_ | apply cut_auto | with_reducible exact CutS.mk (Or.inl ⟨rfl, rfl, rfl⟩) | refine CutS.mk (Or.inr (Or.inl (sub_auto ?_))) | exact trivial | refine And.intro ?_ ?_ | (refine cond_split ?_ ?_ <;> intro _ <;> first | (exfalso; first | omega | (simp only [decide_eq_true_eq, decide_eq_false_iff_not, Bool.not_eq_true', Bool.not_eq_false', ne_eq, Bool.not_true, Bool.not_false, cond_true, cond_false, Bool.true_eq_false, Bool.false_eq_true, Bool.and_eq_true, Bool.and_eq_false_iff] at *; omega)) | skip) | apply guess | exact Or.inl rfl | exact Or.inr rfl | exact Side.mk trivial | exact Side.mk (fun h => h) | exact Side.mk (fun h => ⟨h, h⟩) | with_reducible exact Side.mk rfl | with_reducible exact Side.mk ⟨rfl, rfl⟩ | with_reducible exact Side.mk (by assumption) | with_reducible rfl | intro _)
          all_goals try (conv => whnf)
          all_goals try (refine Side.mk ?_; unfold inI64; omega)
          all_goals try (refine Side.mk ?_; first | (intros; omega) | (intro h1_ h2_; rw [h1_, h2_]; rfl) | (show List.length (_ ++ _) ≤ _; simp only [List.length_append, List.length_cons, List.length_nil, List.length_replicate, List.length_take]; omega) | (simp_all; done) | (simp_all; omega))
          refine ⟨(k + 1, g.set (rs.getD k default).a.toNat (g.getD (rs.getD k default).a.toNat [] ++ [(rs.getD k default).b])), ⟨by show k + 1 ≤ _; omega, hg.yes ht (by omega) hyn⟩, by show _ - (k + 1) < _; omega, ?_⟩
          repeat' ((conv => whnf); first | done | refine ev_step ?_ | refine ops_step ?_ | refine scan_step ?_ | refine draw_step ?_ | refine each_step ?_ | refine sl_step ?_ | refine hp_step ?_ | refine guard_no (by decide) ?_ | refine guard_go ?_ | refine guard_old ?_ | apply cut_auto | with_reducible exact CutS.mk (Or.inl ⟨rfl, rfl, rfl⟩) | refine CutS.mk (Or.inr (Or.inl (sub_auto ?_))) | exact trivial | refine And.intro ?_ ?_ | refine cond_split ?_ ?_ | apply guess | exact Or.inl rfl | exact Or.inr rfl | exact Side.mk trivial | exact Side.mk (fun h => h) | exact Side.mk (fun h => ⟨h, h⟩) | with_reducible exact Side.mk rfl | with_reducible exact Side.mk ⟨rfl, rfl⟩ | with_reducible exact Side.mk (by assumption) | with_reducible rfl | intro _)
          all_goals try (conv => whnf)
          all_goals first | rfl | (rw [List.set_set]; done) | trace_state
      · have d9 : decide ((k : Int) < (rs.length : Int)) = false := decide_eq_false (by omega)
        have hke : k = rs.length := by omega
        rw [hke] at hg
        repeat' ((conv => whnf); first | done | refine ev_step ?_ | refine ops_step ?_ | refine scan_step ?_ | refine draw_step ?_ | refine each_step ?_ | refine sl_step ?_ | refine hp_step ?_ | refine guard_no (by decide) ?_ | refine guard_go ?_ | refine guard_old ?_ | apply cut_auto | with_reducible exact CutS.mk (Or.inl ⟨rfl, rfl, rfl⟩) | refine CutS.mk (Or.inr (Or.inl (sub_auto ?_))) | exact trivial | refine And.intro ?_ ?_ | (refine cond_split ?_ ?_ <;> intro hq_ <;> first | (exfalso; first | omega | (simp only [d9, cond_true, cond_false, Bool.not_true, Bool.not_false, Bool.and_true, Bool.true_and, Bool.and_false, Bool.false_and, Bool.or_true, Bool.true_or, Bool.or_false, Bool.false_or, Bool.true_eq_false, Bool.false_eq_true, decide_true, decide_false, reduceCtorEq] at hq_; done) | (rw [decide_eq_false_iff_not] at hq_; omega) | (rw [decide_eq_true_eq] at hq_; omega) | (simp only [d9, reduceCtorEq] at hq_; done) | exact Bool.noConfusion (Eq.trans (Eq.symm d9) hq_)) | skip) | apply guess | exact Or.inl rfl | exact Or.inr rfl | exact Side.mk trivial | exact Side.mk (fun h => h) | exact Side.mk (fun h => ⟨h, h⟩) | with_reducible exact Side.mk rfl | with_reducible exact Side.mk ⟨rfl, rfl⟩ | with_reducible exact Side.mk (by assumption) | with_reducible rfl | intro _)
        all_goals try (conv => whnf)
        all_goals try (refine Side.mk ?_; first | (intros; omega) | (intro h1_ h2_; rw [h1_, h2_]; rfl) | (show List.length (_ ++ _) ≤ _; simp only [List.length_append, List.length_cons, List.length_nil, List.length_replicate, List.length_take]; omega) | (simp_all; done) | (simp_all; omega))
        clear hgl
        refine loop_at (fun a : Nat × List (List Int) => a.1 ≤ n ∧ GSort n rs pl a.2 a.1) 5 (fun a => [(61, .int .i64 a.1), (11, .top), (62, .top)]) (fun a => [(4, .flat true (.rows 3 0 n)), (3, .nestI true .i64 a.2)]) (fun a => n - a.1) (0, g) ⟨Nat.zero_le _, hg, fun u h _ => absurd h (Nat.not_lt_zero u)⟩ ?_ (fun a ha => ?_)
        · repeat' ((conv => whnf); first | done | refine ev_step ?_ | refine ops_step ?_ | refine scan_step ?_ | refine draw_step ?_ | refine each_step ?_ | refine sl_step ?_ | refine hp_step ?_ | refine guard_no (by decide) ?_ | refine guard_go ?_ | refine guard_old ?_ | apply cut_auto | with_reducible exact CutS.mk (Or.inl ⟨rfl, rfl, rfl⟩) | refine CutS.mk (Or.inr (Or.inl (sub_auto ?_))) | exact trivial | refine And.intro ?_ ?_ | refine cond_split ?_ ?_ | apply guess | exact Or.inl rfl | exact Or.inr rfl | exact Side.mk trivial | exact Side.mk (fun h => h) | exact Side.mk (fun h => ⟨h, h⟩) | with_reducible exact Side.mk rfl | with_reducible exact Side.mk ⟨rfl, rfl⟩ | with_reducible exact Side.mk (by assumption) | with_reducible rfl | intro _)
          all_goals try (conv => whnf)
          all_goals first | rfl | trace_state
        · obtain ⟨i, g2⟩ := a
          obtain ⟨hi, hs⟩ := ha
          dsimp only at hi hs ⊢
          have hgl := hs.inv.len
          by_cases hit : i < n
          · have hri := hs.inv.row i hit
            have d8 : decide ((i : Int) < (n : Int)) = true := decide_eq_true (by omega)
            repeat' ((conv => whnf); first | done | refine ev_step ?_ | refine ops_step ?_ | refine scan_step ?_ | refine draw_step ?_ | refine each_step ?_ | refine sl_step ?_ | refine hp_step ?_ | refine guard_no (by decide) ?_ | refine guard_go ?_ | refine guard_old ?_ | apply cut_auto | with_reducible exact CutS.mk (Or.inl ⟨rfl, rfl, rfl⟩) | refine CutS.mk (Or.inr (Or.inl (sub_auto ?_))) | exact trivial | refine And.intro ?_ ?_ | (refine cond_split ?_ ?_ <;> intro hq_ <;> first | (exfalso; first | omega | (simp only [d8, cond_true, cond_false, Bool.not_true, Bool.not_false, Bool.and_true, Bool.true_and, Bool.and_false, Bool.false_and, Bool.or_true, Bool.true_or, Bool.or_false, Bool.false_or, Bool.true_eq_false, Bool.false_eq_true, decide_true, decide_false, reduceCtorEq] at hq_; done) | (rw [decide_eq_false_iff_not] at hq_; omega) | (rw [decide_eq_true_eq] at hq_; omega) | (simp only [d8, reduceCtorEq] at hq_; done) | exact Bool.noConfusion (Eq.trans (Eq.symm d8) hq_)) | skip) | apply guess | apply FnEx.useF (k_SortI (g2.getD i []) ⟨by omega⟩) | exact Or.inl rfl | exact Or.inr rfl | exact Side.mk trivial | exact Side.mk (fun h => h) | exact Side.mk (fun h => ⟨h, h⟩) | with_reducible exact Side.mk rfl | with_reducible exact Side.mk ⟨rfl, rfl⟩ | with_reducible exact Side.mk (by assumption) | with_reducible rfl | intro _)
            all_goals try (conv => whnf)
            all_goals try simp only [Int.toNat_natCast]
            all_goals try (refine Side.mk ?_; first | (intros; omega) | (intro h1_ h2_; rw [h1_, h2_]; rfl) | (show List.length (_ ++ _) ≤ _; simp only [List.length_append, List.length_cons, List.length_nil, List.length_replicate, List.length_take]; omega) | (simp_all; done) | (simp_all; omega))
            all_goals try omega
            all_goals try (show (none : Option AObj) = none; rfl)
            rename_i ys hys
            refine ⟨(i + 1, g2.set i ys), ⟨by show i + 1 ≤ n; omega, hs.step hit hys.1 hys.2⟩, by show n - (i + 1) < n - i; omega, ?_⟩
            repeat' ((conv => whnf); first | done | refine ev_step ?_ | refine ops_step ?_ | refine scan_step ?_ | refine draw_step ?_ | refine each_step ?_ | refine sl_step ?_ | refine hp_step ?_ | refine guard_no (by decide) ?_ | refine guard_go ?_ | refine guard_old ?_ | apply cut_auto | with_reducible exact CutS.mk (Or.inl ⟨rfl, rfl, rfl⟩) | refine CutS.mk (Or.inr (Or.inl (sub_auto ?_))) | exact trivial | refine And.intro ?_ ?_ | refine cond_split ?_ ?_ | apply guess | exact Or.inl rfl | exact Or.inr rfl | exact Side.mk trivial | exact Side.mk (fun h => h) | exact Side.mk (fun h => ⟨h, h⟩) | with_reducible exact Side.mk rfl | with_reducible exact Side.mk ⟨rfl, rfl⟩ | with_reducible exact Side.mk (by assumption) | with_reducible rfl | intro _)
            all_goals try (conv => whnf)
            all_goals first | rfl | trace_state
          · have d8 : decide ((i : Int) < (n : Int)) = false := decide_eq_false (by omega)
            have kr := k_RepeatI (-1) n ⟨by omega, by omega⟩
            rw [Int.toNat_natCast] at kr
            obtain rfl : n = i := by omega
            repeat' ((conv => whnf); first | done | refine ev_step ?_ | refine ops_step ?_ | refine scan_step ?_ | refine draw_step ?_ | refine each_step ?_ | refine sl_step ?_ | refine hp_step ?_ | refine guard_no (by decide) ?_ | refine guard_go ?_ | refine guard_old ?_ | apply cut_auto | with_reducible exact CutS.mk (Or.inl ⟨rfl, rfl, rfl⟩) | refine CutS.mk (Or.inr (Or.inl (sub_auto ?_))) | exact trivial | refine And.intro ?_ ?_ | (refine cond_split ?_ ?_ <;> intro hq_ <;> first | (exfalso; first | omega | (simp only [d8, cond_true, cond_false, Bool.not_true, Bool.not_false, Bool.and_true, Bool.true_and, Bool.and_false, Bool.false_and, Bool.or_true, Bool.true_or, Bool.or_false, Bool.false_or, Bool.true_eq_false, Bool.false_eq_true, decide_true, decide_false, reduceCtorEq] at hq_; done) | (rw [decide_eq_false_iff_not] at hq_; omega) | (rw [decide_eq_true_eq] at hq_; omega) | (simp only [d8, reduceCtorEq] at hq_; done) | exact Bool.noConfusion (Eq.trans (Eq.symm d8) hq_)) | skip) | apply guess | apply FnIs.useF (kr) | exact Or.inl rfl | exact Or.inr rfl | exact Side.mk trivial | exact Side.mk (fun h => h) | exact Side.mk (fun h => ⟨h, h⟩) | with_reducible exact Side.mk rfl | with_reducible exact Side.mk ⟨rfl, rfl⟩ | with_reducible exact Side.mk (by assumption) | with_reducible rfl | intro _)
            all_goals try (conv => whnf)
            all_goals try (refine Side.mk ?_; first | (intros; omega) | (intro h1_ h2_; rw [h1_, h2_]; rfl) | (show List.length (_ ++ _) ≤ _; simp only [List.length_append, List.length_cons, List.length_nil, List.length_replicate, List.length_take]; omega) | (simp_all; done) | (simp_all; omega))
            have hedge := hs.edges hP
            have hE : edgeG g2 = edgeK rs (tkL rs pl) := funext fun u => funext fun v => hedge u v
            have hrow : ∀ u, u < n → (g2.getD u []).length ≤ 40 := fun u hu => by have := hs.inv.row u hu; omega
            clear k1 k2 kr hg
            refine loop_at (fun a : Nat × List Int => a.1 ≤ n ∧ Dist (edgeG g2) (fun v => decide (v < (a.1 : Int)) && finB pl v) n a.2 ∧ ∀ k, k < n → a.2.getD k 0 ≤ 16) 8 (fun a => [(74, .int .i64 a.1), (13, .top), (14, .top), (15, .top), (16, .top), (75, .top), (81, .top), (84, .top), (85, .top), (86, .top), (87, .top), (107, .top)]) (fun a => [(6, .flat true (.ints .i64 a.2))]) (fun a => n - a.1) (0, List.replicate n (-1)) ⟨Nat.zero_le _, Dist.none.congr (fun v => (fin_none pl v).symm), fun k hk => by simp [List.getD, hk]⟩ ?_ (fun a ha => ?_)
            · repeat' ((conv => whnf); first | done | refine ev_step ?_ | refine ops_step ?_ | refine scan_step ?_ | refine draw_step ?_ | refine each_step ?_ | refine sl_step ?_ | refine hp_step ?_ | refine guard_no (by decide) ?_ | refine guard_go ?_ | refine guard_old ?_ | apply cut_auto | with_reducible exact CutS.mk (Or.inl ⟨rfl, rfl, rfl⟩) | refine CutS.mk (Or.inr (Or.inl (sub_auto ?_))) | exact trivial | refine And.intro ?_ ?_ | refine cond_split ?_ ?_ | apply guess | exact Or.inl rfl | exact Or.inr rfl | exact Side.mk trivial | exact Side.mk (fun h => h) | exact Side.mk (fun h => ⟨h, h⟩) | with_reducible exact Side.mk rfl | with_reducible exact Side.mk ⟨rfl, rfl⟩ | with_reducible exact Side.mk (by assumption) | with_reducible rfl | intro _)
              all_goals try (conv => whnf)
              all_goals first | rfl | trace_state
            · obtain ⟨i, F⟩ := a
              obtain ⟨hi, hF, hF16⟩ := ha
              dsimp only at hi hF hF16 ⊢
              have hFl := hF.len
              by_cases hit : i < n
              · have hX : finB pl (i : Int) = decide (pl.getD i 0 = maxL pl) := by
                  unfold finB
                  rw [decide_eq_true (show 0 ≤ (i : Int) by omega), decide_eq_true (show (i : Int) < pl.length by omega), Int.toNat_natCast]
                  rfl
                have d7 : decide ((i : Int) < (pl.length : Int)) = true := decide_eq_true (by omega)
                cases hq : decide (pl.getD (i : Int).toNat 0 ≠ maxL pl)
                · have hq2 : pl.getD i 0 = maxL pl := by simpa using hq
                  rw [decide_eq_true hq2] at hX
                  repeat' ((conv => whnf); first | done | refine ev_step ?_ | refine ops_step ?_ | refine scan_step ?_ | refine draw_step ?_ | refine each_step ?_ | refine sl_step ?_ | refine hp_step ?_ | refine guard_no (by decide) ?_ | refine guard_go ?_ | refine guard_old ?_ | apply cut_auto | with_reducible exact CutS.mk (Or.inl ⟨rfl, rfl, rfl⟩) | refine CutS.mk (Or.inr (Or.inl (sub_auto ?_))) | exact trivial | refine And.intro ?_ ?_ | (refine cond_split ?_ ?_ <;> intro hq_ <;> first | (exfalso; first | omega | (simp only [d7, hq, cond_true, cond_false, Bool.not_true, Bool.not_false, Bool.and_true, Bool.true_and, Bool.and_false, Bool.false_and, Bool.or_true, Bool.true_or, Bool.or_false, Bool.false_or, Bool.true_eq_false, Bool.false_eq_true, decide_true, decide_false, reduceCtorEq] at hq_; done) | (rw [decide_eq_false_iff_not] at hq_; omega) | (rw [decide_eq_true_eq] at hq_; omega) | (simp only [d7, hq, reduceCtorEq] at hq_; done) | exact Bool.noConfusion (Eq.trans (Eq.symm d7) hq_) | exact Bool.noConfusion (Eq.trans (Eq.symm hq) hq_)) | skip) | apply guess | apply FnEx.useF (k_back g2 n i ⟨hgl, by omega, hit, hrow⟩) | exact Or.inl rfl | exact Or.inr rfl | exact Side.mk trivial | exact Side.mk (fun h => h) | exact Side.mk (fun h => ⟨h, h⟩) | with_reducible exact Side.mk rfl | with_reducible exact Side.mk ⟨rfl, rfl⟩ | with_reducible exact Side.mk (by assumption) | with_reducible rfl | intro _)
                  all_goals try (conv => whnf)
                  all_goals try simp only [Int.toNat_natCast]
                  all_goals try (refine Side.mk ?_; first | (intros; omega) | (intro h1_ h2_; rw [h1_, h2_]; rfl) | (show List.length (_ ++ _) ≤ _; simp only [List.length_append, List.length_cons, List.length_nil, List.length_replicate, List.length_take]; omega) | (simp_all; done) | (simp_all; omega))
                  all_goals try omega
                  rename_i B hB
                  obtain ⟨hB, hB16⟩ := hB
                  have hBl := hB.len
                  refine loop_at (fun a : Nat × List Int => a.1 ≤ n ∧ a.2.length = n ∧ ∀ j, j < n → a.2.getD j 0 = if j < a.1 then mrg (F.getD j 0) (B.getD j 0) else F.getD j 0) 9 (fun a => [(86, .int .i64 a.1), (15, .top), (16, .top), (87, .top), (107, .top)]) (fun a => [(6, .flat true (.ints .i64 a.2))]) (fun a => n - a.1) (0, F) ⟨Nat.zero_le _, hFl, fun j _ => by rw [if_neg (Nat.not_lt_zero j)]⟩ ?_ (fun a ha => ?_)
                  · repeat' ((conv => whnf); first | done | refine ev_step ?_ | refine ops_step ?_ | refine scan_step ?_ | refine draw_step ?_ | refine each_step ?_ | refine sl_step ?_ | refine hp_step ?_ | refine guard_no (by decide) ?_ | refine guard_go ?_ | refine guard_old ?_ | apply cut_auto | with_reducible exact CutS.mk (Or.inl ⟨rfl, rfl, rfl⟩) | refine CutS.mk (Or.inr (Or.inl (sub_auto ?_))) | exact trivial | refine And.intro ?_ ?_ | refine cond_split ?_ ?_ | apply guess | exact Or.inl rfl | exact Or.inr rfl | exact Side.mk trivial | exact Side.mk (fun h => h) | exact Side.mk (fun h => ⟨h, h⟩) | with_reducible exact Side.mk rfl | with_reducible exact Side.mk ⟨rfl, rfl⟩ | with_reducible exact Side.mk (by assumption) | with_reducible rfl | intro _)
                    all_goals try (conv => whnf)
                    all_goals first | rfl | trace_state
                  · obtain ⟨m, H⟩ := a
                    obtain ⟨hm, hHl, hH⟩ := ha
                    dsimp only at hm hHl hH ⊢
                    by_cases hmt : m < n
                    · have hHm := hH m hmt
                      rw [if_neg (Nat.lt_irrefl m)] at hHm
                      have hFm := hF.ge hmt
                      have hBm := hB.ge hmt
                      have hFm2 := hF16 m hmt
                      have hBm2 := hB16 m hmt
                      have d6 : decide ((m : Int) < (B.length : Int)) = true := decide_eq_true (by omega)
                      have hcond : (bif decide (0 ≤ B.getD (m : Int).toNat 0) then bif decide (H.getD (m : Int).toNat 0 < 0) then true else decide (B.getD (m : Int).toNat 0 < H.getD (m : Int).toNat 0) else false) = decide (0 ≤ B.getD m 0 ∧ (F.getD m 0 < 0 ∨ B.getD m 0 < F.getD m 0)) := by
                        rw [Int.toNat_natCast, hHm]
                        by_cases z1 : 0 ≤ B.getD m 0 <;> by_cases z2 : F.getD m 0 < 0 <;> by_cases z3 : B.getD m 0 < F.getD m 0 <;> simp [z1, z2, z3]
                      by_cases hc : 0 ≤ B.getD m 0 ∧ (F.getD m 0 < 0 ∨ B.getD m 0 < F.getD m 0)
                      · rw [decide_eq_true hc] at hcond
                        repeat' ((conv => whnf); first | done | refine ev_step ?_ | refine ops_step ?_ | refine scan_step ?_ | refine draw_step ?_ | refine each_step ?_ | refine sl_step ?_ | refine hp_step ?_ | refine guard_no (by decide) ?_ | refine guard_go ?_ | refine guard_old ?_ | apply cut_auto | with_reducible exact CutS.mk (Or.inl ⟨rfl, rfl, rfl⟩) | refine CutS.mk (Or.inr (Or.inl (sub_auto ?_))) | exact trivial | refine And.intro ?_ ?_ | (refine cond_split ?_ ?_ <;> intro hq_ <;> first | (exfalso; first | omega | (simp only [d6, hcond, cond_true, cond_false, Bool.not_true, Bool.not_false, Bool.and_true, Bool.true_and, Bool.and_false, Bool.false_and, Bool.or_true, Bool.true_or, Bool.or_false, Bool.false_or, Bool.true_eq_false, Bool.false_eq_true, decide_true, decide_false, reduceCtorEq] at hq_; done) | (rw [decide_eq_false_iff_not] at hq_; omega) | (rw [decide_eq_true_eq] at hq_; omega) | (simp only [d6, hcond, reduceCtorEq] at hq_; done) | exact Bool.noConfusion (Eq.trans (Eq.symm d6) hq_) | exact Bool.noConfusion (Eq.trans (Eq.symm hcond) hq_)) | skip) | apply guess | exact Or.inl rfl | exact Or.inr rfl | exact Side.mk trivial | exact Side.mk (fun h => h) | exact Side.mk (fun h => ⟨h, h⟩) | with_reducible exact Side.mk rfl | with_reducible exact Side.mk ⟨rfl, rfl⟩ | with_reducible exact Side.mk (by assumption) | with_reducible rfl | intro _)
                        all_goals try (conv => whnf)
                        all_goals try simp only [Int.toNat_natCast]
                        all_goals try (refine Side.mk ?_; first | (intros; omega) | (intro h1_ h2_; rw [h1_, h2_]; rfl) | (show List.length (_ ++ _) ≤ _; simp only [List.length_append, List.length_cons, List.length_nil, List.length_replicate, List.length_take]; omega) | (simp_all; done) | (simp_all; omega))
                        all_goals try omega
                        refine ⟨(m + 1, H.set m (B.getD m 0)), ⟨by show m + 1 ≤ n; omega, by simp [hHl], fun j hj => ?_⟩, by show n - (m + 1) < n - m; omega, ?_⟩
                        · show (H.set m (B.getD m 0)).getD j 0 = _
                          rw [List.getD, List.getElem?_set]
                          by_cases e : m = j
                          · subst e
                            rw [if_pos rfl, if_pos (by omega), if_pos (by omega), mrg, if_pos hc]
                            rfl
                          · rw [if_neg e, ← List.getD_eq_getElem?_getD, hH j hj]
                            by_cases e2 : j < m
                            · rw [if_pos e2, if_pos (by omega)]
                            · rw [if_neg e2, if_neg (by omega)]
                        repeat' ((conv => whnf); first | done | refine ev_step ?_ | refine ops_step ?_ | refine scan_step ?_ | refine draw_step ?_ | refine each_step ?_ | refine sl_step ?_ | refine hp_step ?_ | refine guard_no (by decide) ?_ | refine guard_go ?_ | refine guard_old ?_ | apply cut_auto | with_reducible exact CutS.mk (Or.inl ⟨rfl, rfl, rfl⟩) | refine CutS.mk (Or.inr (Or.inl (sub_auto ?_))) | exact trivial | refine And.intro ?_ ?_ | refine cond_split ?_ ?_ | apply guess | exact Or.inl rfl | exact Or.inr rfl | exact Side.mk trivial | exact Side.mk (fun h => h) | exact Side.mk (fun h => ⟨h, h⟩) | with_reducible exact Side.mk rfl | with_reducible exact Side.mk ⟨rfl, rfl⟩ | with_reducible exact Side.mk (by assumption) | with_reducible rfl | intro _)
                        all_goals try (conv => whnf)
                        all_goals first | rfl | trace_state
                      · rw [decide_eq_false hc] at hcond
                        repeat' ((conv => whnf); first | done | refine ev_step ?_ | refine ops_step ?_ | refine scan_step ?_ | refine draw_step ?_ | refine each_step ?_ | refine sl_step ?_ | refine hp_step ?_ | refine guard_no (by decide) ?_ | refine guard_go ?_ | refine guard_old ?_ | apply cut_auto | with_reducible exact CutS.mk (Or.inl ⟨rfl, rfl, rfl⟩) | refine CutS.mk (Or.inr (Or.inl (sub_auto ?_))) | exact trivial | refine And.intro ?_ ?_ | (refine cond_split ?_ ?_ <;> intro hq_ <;> first | (exfalso; first | omega | (simp only [d6, hcond, cond_true, cond_false, Bool.not_true, Bool.not_false, Bool.and_true, Bool.true_and, Bool.and_false, Bool.false_and, Bool.or_true, Bool.true_or, Bool.or_false, Bool.false_or, Bool.true_eq_false, Bool.false_eq_true, decide_true, decide_false, reduceCtorEq] at hq_; done) | (rw [decide_eq_false_iff_not] at hq_; omega) | (rw [decide_eq_true_eq] at hq_; omega) | (simp only [d6, hcond, reduceCtorEq] at hq_; done) | exact Bool.noConfusion (Eq.trans (Eq.symm d6) hq_) | exact Bool.noConfusion (Eq.trans (Eq.symm hcond) hq_)) | skip) | apply guess | exact Or.inl rfl | exact Or.inr rfl | exact Side.mk trivial | exact Side.mk (fun h => h) | exact Side.mk (fun h => ⟨h, h⟩) | with_reducible exact Side.mk rfl | with_reducible exact Side.mk ⟨rfl, rfl⟩ | with_reducible exact Side.mk (by assumption) | with_reducible rfl | intro _)
                        all_goals try (conv => whnf)
                        all_goals try simp only [Int.toNat_natCast]
                        all_goals try (refine Side.mk ?_; first | (intros; omega) | (intro h1_ h2_; rw [h1_, h2_]; rfl) | (show List.length (_ ++ _) ≤ _; simp only [List.length_append, List.length_cons, List.length_nil, List.length_replicate, List.length_take]; omega) | (simp_all; done) | (simp_all; omega))
                        all_goals try omega
                        refine ⟨(m + 1, H), ⟨by show m + 1 ≤ n; omega, hHl, fun j hj => ?_⟩, by show n - (m + 1) < n - m; omega, ?_⟩
                        · show H.getD j 0 = _
                          rw [hH j hj]
                          by_cases e : j = m
                          · subst e
                            rw [if_neg (Nat.lt_irrefl _), if_pos (by omega), mrg, if_neg hc]
                          · by_cases e2 : j < m
                            · rw [if_pos e2, if_pos (by omega)]
                            · rw [if_neg e2, if_neg (by omega)]
                        repeat' ((conv => whnf); first | done | refine ev_step ?_ | refine ops_step ?_ | refine scan_step ?_ | refine draw_step ?_ | refine each_step ?_ | refine sl_step ?_ | refine hp_step ?_ | refine guard_no (by decide) ?_ | refine guard_go ?_ | refine guard_old ?_ | apply cut_auto | with_reducible exact CutS.mk (Or.inl ⟨rfl, rfl, rfl⟩) | refine CutS.mk (Or.inr (Or.inl (sub_auto ?_))) | exact trivial | refine And.intro ?_ ?_ | refine cond_split ?_ ?_ | apply guess | exact Or.inl rfl | exact Or.inr rfl | exact Side.mk trivial | exact Side.mk (fun h => h) | exact Side.mk (fun h => ⟨h, h⟩) | with_reducible exact Side.mk rfl | with_reducible exact Side.mk ⟨rfl, rfl⟩ | with_reducible exact Side.mk (by assumption) | with_reducible rfl | intro _)
                        all_goals try (conv => whnf)
                        all_goals first | rfl | trace_state
                    · have hme : m = n := by omega
                      have hHa : ∀ j, j < n → H.getD j 0 = mrg (F.getD j 0) (B.getD j 0) := fun j hj => by
                        have := hH j hj
                        rwa [if_pos (by omega)] at this
                      have d6 : decide ((m : Int) < (B.length : Int)) = false := decide_eq_false (by omega)
                      have hD := (hF.mrg hB hHl hHa).congr (fun v => fin_step hX v)
                      repeat' ((conv => whnf); first | done | refine ev_step ?_ | refine ops_step ?_ | refine scan_step ?_ | refine draw_step ?_ | refine each_step ?_ | refine sl_step ?_ | refine hp_step ?_ | refine guard_no (by decide) ?_ | refine guard_go ?_ | refine guard_old ?_ | apply cut_auto | with_reducible exact CutS.mk (Or.inl ⟨rfl, rfl, rfl⟩) | refine CutS.mk (Or.inr (Or.inl (sub_auto ?_))) | exact trivial | refine And.intro ?_ ?_ | (refine cond_split ?_ ?_ <;> intro hq_ <;> first | (exfalso; first | omega | (simp only [d6, cond_true, cond_false, Bool.not_true, Bool.not_false, Bool.and_true, Bool.true_and, Bool.and_false, Bool.false_and, Bool.or_true, Bool.true_or, Bool.or_false, Bool.false_or, Bool.true_eq_false, Bool.false_eq_true, decide_true, decide_false, reduceCtorEq] at hq_; done) | (rw [decide_eq_false_iff_not] at hq_; omega) | (rw [decide_eq_true_eq] at hq_; omega) | (simp only [d6, reduceCtorEq] at hq_; done) | exact Bool.noConfusion (Eq.trans (Eq.symm d6) hq_)) | skip) | apply guess | exact Or.inl rfl | exact Or.inr rfl | exact Side.mk trivial | exact Side.mk (fun h => h) | exact Side.mk (fun h => ⟨h, h⟩) | with_reducible exact Side.mk rfl | with_reducible exact Side.mk ⟨rfl, rfl⟩ | with_reducible exact Side.mk (by assumption) | with_reducible rfl | intro _)
                      all_goals try (conv => whnf)
                      all_goals try (refine Side.mk ?_; first | (intros; omega) | (intro h1_ h2_; rw [h1_, h2_]; rfl) | (show List.length (_ ++ _) ≤ _; simp only [List.length_append, List.length_cons, List.length_nil, List.length_replicate, List.length_take]; omega) | (simp_all; done) | (simp_all; omega))
                      refine ⟨(i + 1, H), ⟨by show i + 1 ≤ n; omega, hD, fun j hj => ?_⟩, by show n - (i + 1) < n - i; omega, ?_⟩
                      · show H.getD j 0 ≤ 16
                        rw [hHa j hj, mrg]
                        have := hF16 j hj
                        have := hB16 j hj
                        split <;> assumption
                      repeat' ((conv => whnf); first | done | refine ev_step ?_ | refine ops_step ?_ | refine scan_step ?_ | refine draw_step ?_ | refine each_step ?_ | refine sl_step ?_ | refine hp_step ?_ | refine guard_no (by decide) ?_ | refine guard_go ?_ | refine guard_old ?_ | apply cut_auto | with_reducible exact CutS.mk (Or.inl ⟨rfl, rfl, rfl⟩) | refine CutS.mk (Or.inr (Or.inl (sub_auto ?_))) | exact trivial | refine And.intro ?_ ?_ | refine cond_split ?_ ?_ | apply guess | exact Or.inl rfl | exact Or.inr rfl | exact Side.mk trivial | exact Side.mk (fun h => h) | exact Side.mk (fun h => ⟨h, h⟩) | with_reducible exact Side.mk rfl | with_reducible exact Side.mk ⟨rfl, rfl⟩ | with_reducible exact Side.mk (by assumption) | with_reducible rfl | intro _)
                      all_goals try (conv => whnf)
                      all_goals first | rfl | trace_state
                · have hq2 : ¬ pl.getD i 0 = maxL pl := by simpa using hq
                  rw [decide_eq_false hq2] at hX
                  repeat' ((conv => whnf); first | done | refine ev_step ?_ | refine ops_step ?_ | refine scan_step ?_ | refine draw_step ?_ | refine each_step ?_ | refine sl_step ?_ | refine hp_step ?_ | refine guard_no (by decide) ?_ | refine guard_go ?_ | refine guard_old ?_ | apply cut_auto | with_reducible exact CutS.mk (Or.inl ⟨rfl, rfl, rfl⟩) | refine CutS.mk (Or.inr (Or.inl (sub_auto ?_))) | exact trivial | refine And.intro ?_ ?_ | (refine cond_split ?_ ?_ <;> intro hq_ <;> first | (exfalso; first | omega | (simp only [d7, hq, cond_true, cond_false, Bool.not_true, Bool.not_false, Bool.and_true, Bool.true_and, Bool.and_false, Bool.false_and, Bool.or_true, Bool.true_or, Bool.or_false, Bool.false_or, Bool.true_eq_false, Bool.false_eq_true, decide_true, decide_false, reduceCtorEq] at hq_; done) | (rw [decide_eq_false_iff_not] at hq_; omega) | (rw [decide_eq_true_eq] at hq_; omega) | (simp only [d7, hq, reduceCtorEq] at hq_; done) | exact Bool.noConfusion (Eq.trans (Eq.symm d7) hq_) | exact Bool.noConfusion (Eq.trans (Eq.symm hq) hq_)) | skip) | apply guess | exact Or.inl rfl | exact Or.inr rfl | exact Side.mk trivial | exact Side.mk (fun h => h) | exact Side.mk (fun h => ⟨h, h⟩) | with_reducible exact Side.mk rfl | with_reducible exact Side.mk ⟨rfl, rfl⟩ | with_reducible exact Side.mk (by assumption) | with_reducible rfl | intro _)
                  all_goals try (conv => whnf)
                  all_goals try simp only [Int.toNat_natCast]
                  all_goals try (refine Side.mk ?_; first | (intros; omega) | (intro h1_ h2_; rw [h1_, h2_]; rfl) | (show List.length (_ ++ _) ≤ _; simp only [List.length_append, List.length_cons, List.length_nil, List.length_replicate, List.length_take]; omega) | (simp_all; done) | (simp_all; omega))
                  all_goals try omega
                  refine ⟨(i + 1, F), ⟨by show i + 1 ≤ n; omega, hF.congr (fun v => fin_skip hX v), hF16⟩, by show n - (i + 1) < n - i; omega, ?_⟩
                  repeat' ((conv => whnf); first | done | refine ev_step ?_ | refine ops_step ?_ | refine scan_step ?_ | refine draw_step ?_ | refine each_step ?_ | refine sl_step ?_ | refine hp_step ?_ | refine guard_no (by decide) ?_ | refine guard_go ?_ | refine guard_old ?_ | apply cut_auto | with_reducible exact CutS.mk (Or.inl ⟨rfl, rfl, rfl⟩) | refine CutS.mk (Or.inr (Or.inl (sub_auto ?_))) | exact trivial | refine And.intro ?_ ?_ | refine cond_split ?_ ?_ | apply guess | exact Or.inl rfl | exact Or.inr rfl | exact Side.mk trivial | exact Side.mk (fun h => h) | exact Side.mk (fun h => ⟨h, h⟩) | with_reducible exact Side.mk rfl | with_reducible exact Side.mk ⟨rfl, rfl⟩ | with_reducible exact Side.mk (by assumption) | with_reducible rfl | intro _)
                  all_goals try (conv => whnf)
                  all_goals first | rfl | trace_state
              · have d7 : decide ((i : Int) < (pl.length : Int)) = false := decide_eq_false (by omega)
                have hie : i = n := by omega
                have hT : Dist (edgeG g2) (finB pl) n F := hF.congr (fun v => by rw [hie]; exact fin_all hlen v)
                repeat' ((conv => whnf); first | done | refine ev_step ?_ | refine ops_step ?_ | refine scan_step ?_ | refine draw_step ?_ | refine each_step ?_ | refine sl_step ?_ | refine hp_step ?_ | refine guard_no (by decide) ?_ | refine guard_go ?_ | refine guard_old ?_ | apply cut_auto | with_reducible exact CutS.mk (Or.inl ⟨rfl, rfl, rfl⟩) | refine CutS.mk (Or.inr (Or.inl (sub_auto ?_))) | exact trivial | refine And.intro ?_ ?_ | (refine cond_split ?_ ?_ <;> intro hq_ <;> first | (exfalso; first | omega | (simp only [d7, cond_true, cond_false, Bool.not_true, Bool.not_false, Bool.and_true, Bool.true_and, Bool.and_false, Bool.false_and, Bool.or_true, Bool.true_or, Bool.or_false, Bool.false_or, Bool.true_eq_false, Bool.false_eq_true, decide_true, decide_false, reduceCtorEq] at hq_; done) | (rw [decide_eq_false_iff_not] at hq_; omega) | (rw [decide_eq_true_eq] at hq_; omega) | (simp only [d7, reduceCtorEq] at hq_; done) | exact Bool.noConfusion (Eq.trans (Eq.symm d7) hq_)) | skip) | apply guess | exact Or.inl rfl | exact Or.inr rfl | exact Side.mk trivial | exact Side.mk (fun h => h) | exact Side.mk (fun h => ⟨h, h⟩) | with_reducible exact Side.mk rfl | with_reducible exact Side.mk ⟨rfl, rfl⟩ | with_reducible exact Side.mk (by assumption) | with_reducible rfl | intro _)
                all_goals try (conv => whnf)
                all_goals try (refine Side.mk ?_; first | (intros; omega) | (intro h1_ h2_; rw [h1_, h2_]; rfl) | (show List.length (_ ++ _) ≤ _; simp only [List.length_append, List.length_cons, List.length_nil, List.length_replicate, List.length_take]; omega) | (simp_all; done) | (simp_all; omega))
                have hcr2 : CritV (edgeG g2) (srcB pl) (finB pl) crit := by rw [hE]; exact hcr
                have hEr : ∀ u v, edgeG g2 u v = true → 0 ≤ v ∧ v < n := fun u v he => by rw [hedge] at he; exact (edge_rng hP he).2
                have hSr : ∀ v, srcB pl v = true → 0 ≤ v ∧ v < n := fun v hv => src_rng hP hv
                clear hcr hF hE
                refine loop_at (fun i : Nat => i ≤ n) 8 (fun i => [(116, .int .i64 i), (17, .int .i64 (begT (srcB pl) F i)), (18, .top), (19, .top), (117, .top), (144, .top)]) (fun i => []) (fun i => n - i) 0 (Nat.zero_le _) ?_ (fun i2 hi2 => ?_)
                · repeat' ((conv => whnf); first | done | refine ev_step ?_ | refine ops_step ?_ | refine scan_step ?_ | refine draw_step ?_ | refine each_step ?_ | refine sl_step ?_ | refine hp_step ?_ | refine guard_no (by decide) ?_ | refine guard_go ?_ | refine guard_old ?_ | apply cut_auto | with_reducible exact CutS.mk (Or.inl ⟨rfl, rfl, rfl⟩) | refine CutS.mk (Or.inr (Or.inl (sub_auto ?_))) | exact trivial | refine And.intro ?_ ?_ | refine cond_split ?_ ?_ | apply guess | exact Or.inl rfl | exact Or.inr rfl | exact Side.mk trivial | exact Side.mk (fun h => h) | exact Side.mk (fun h => ⟨h, h⟩) | with_reducible exact Side.mk rfl | with_reducible exact Side.mk ⟨rfl, rfl⟩ | with_reducible exact Side.mk (by assumption) | with_reducible rfl | intro _)
                  all_goals try (conv => whnf)
                  all_goals first | rfl | trace_state
                · have hbt := begT_is (srcB pl) F i2
                  by_cases hi2t : i2 < n
                  · have hF1 := hT.ge hi2t
                    have hF2 := hF16 i2 hi2t
                    have d6 : decide ((i2 : Int) < (pl.length : Int)) = true := decide_eq_true (by omega)
                    have hX : srcB pl (i2 : Int) = decide (pl.getD i2 0 = 0) := by
                      unfold srcB
                      rw [decide_eq_true (show 0 ≤ (i2 : Int) by omega), decide_eq_true (show (i2 : Int) < pl.length by omega), Int.toNat_natCast]
                      rfl
                    have hstep : begT (srcB pl) F (i2 + 1) = if srcB pl (i2 : Int) = true ∧ 0 ≤ F.getD i2 0 ∧ (begT (srcB pl) F i2 < 0 ∨ F.getD i2 0 < F.getD (begT (srcB pl) F i2).toNat 0) then (i2 : Int) else begT (srcB pl) F i2 := rfl
                    rw [hX] at hstep
                    rcases hbt with ⟨e1, _⟩ | ⟨b, e1, e2, e3, e4, _⟩
                    · rw [e1] at hstep ⊢
                      have hcond : (bif bif decide (pl.getD (i2 : Int).toNat 0 = 0) then decide (0 ≤ F.getD (i2 : Int).toNat 0) else false then bif decide ((-1 : Int) < 0) then true else false else false) = decide (decide (pl.getD i2 0 = 0) = true ∧ 0 ≤ F.getD i2 0 ∧ ((-1 : Int) < 0 ∨ F.getD i2 0 < F.getD (-1 : Int).toNat 0)) := by
                        rw [Int.toNat_natCast]
                        by_cases z1 : pl.getD i2 0 = 0 <;> by_cases z2 : 0 ≤ F.getD i2 0 <;> simp [z1, z2]
                      by_cases hc : decide (pl.getD i2 0 = 0) = true ∧ 0 ≤ F.getD i2 0 ∧ ((-1 : Int) < 0 ∨ F.getD i2 0 < F.getD (-1 : Int).toNat 0)
                      all_goals
                        first | rw [if_pos hc] at hstep | rw [if_neg hc] at hstep
                        first | rw [decide_eq_true hc] at hcond | rw [decide_eq_false hc] at hcond
                        repeat' ((conv => whnf); first | done | refine ev_step ?_ | refine ops_step ?_ | refine scan_step ?_ | refine draw_step ?_ | refine each_step ?_ | refine sl_step ?_ | refine hp_step ?_ | refine guard_no (fun q => Bool.noConfusion (and_r q)) ?_ | refine guard_no (by decide) ?_ | refine guard_go ?_ | refine guard_old ?_ | apply cut_auto | with_reducible exact CutS.mk (Or.inl ⟨rfl, rfl, rfl⟩) | refine CutS.mk (Or.inr (Or.inl (sub_auto ?_))) | exact trivial | refine And.intro ?_ ?_ | (refine cond_split ?_ ?_ <;> intro hq_ <;> first | (exfalso; first | omega | (simp only [d6, hcond, cond_true, cond_false, Bool.not_true, Bool.not_false, Bool.and_true, Bool.true_and, Bool.and_false, Bool.false_and, Bool.or_true, Bool.true_or, Bool.or_false, Bool.false_or, Bool.true_eq_false, Bool.false_eq_true, decide_true, decide_false, reduceCtorEq] at hq_; done) | (rw [decide_eq_false_iff_not] at hq_; omega) | (rw [decide_eq_true_eq] at hq_; omega) | (simp only [d6, hcond, reduceCtorEq] at hq_; done) | exact Bool.noConfusion (Eq.trans (Eq.symm d6) hq_) | exact Bool.noConfusion (Eq.trans (Eq.symm hcond) hq_)) | skip) | apply guess | exact Or.inl rfl | exact Or.inr rfl | exact Side.mk trivial | exact Side.mk (fun h => h) | exact Side.mk (fun h => ⟨h, h⟩) | with_reducible exact Side.mk rfl | with_reducible exact Side.mk ⟨rfl, rfl⟩ | with_reducible exact Side.mk (by assumption) | with_reducible rfl | intro _)
                        all_goals try (conv => whnf)
                        all_goals try simp only [Int.toNat_natCast]
                        all_goals try (refine Side.mk ?_; first | (intros; omega) | (intro h1_ h2_; rw [h1_, h2_]; rfl) | (show List.length (_ ++ _) ≤ _; simp only [List.length_append, List.length_cons, List.length_nil, List.length_replicate, List.length_take]; omega) | (simp_all; done) | (simp_all; omega))
                        all_goals try omega
                        refine ⟨i2 + 1, by omega, by omega, ?_⟩
                        repeat' ((conv => whnf); first | done | refine ev_step ?_ | refine ops_step ?_ | refine scan_step ?_ | refine draw_step ?_ | refine each_step ?_ | refine sl_step ?_ | refine hp_step ?_ | refine guard_no (by decide) ?_ | refine guard_go ?_ | refine guard_old ?_ | apply cut_auto | with_reducible exact CutS.mk (Or.inl ⟨rfl, rfl, rfl⟩) | refine CutS.mk (Or.inr (Or.inl (sub_auto ?_))) | exact trivial | refine And.intro ?_ ?_ | refine cond_split ?_ ?_ | apply guess | exact Or.inl rfl | exact Or.inr rfl | exact Side.mk trivial | exact Side.mk (fun h => h) | exact Side.mk (fun h => ⟨h, h⟩) | with_reducible exact Side.mk rfl | with_reducible exact Side.mk ⟨rfl, rfl⟩ | with_reducible exact Side.mk (by assumption) | with_reducible rfl | intro _)
                        all_goals try (conv => whnf)
                        all_goals first | rfl | (rw [hstep]; done) | trace_state
                    · rw [e1] at hstep ⊢
                      have hb1 := hF16 b (by omega)
                      have hb2 := hT.ge (show b < n by omega)
                      rw [Int.toNat_natCast] at hstep
                      have hcond : (bif bif decide (pl.getD (i2 : Int).toNat 0 = 0) then decide (0 ≤ F.getD (i2 : Int).toNat 0) else false then bif decide ((b : Int) < 0) then true else decide (F.getD (i2 : Int).toNat 0 < F.getD (b : Int).toNat 0) else false) = decide (decide (pl.getD i2 0 = 0) = true ∧ 0 ≤ F.getD i2 0 ∧ ((b : Int) < 0 ∨ F.getD i2 0 < F.getD b 0)) := by
                        rw [Int.toNat_natCast, Int.toNat_natCast, decide_eq_false (show ¬ (b : Int) < 0 by omega)]
                        by_cases z1 : pl.getD i2 0 = 0 <;> by_cases z2 : 0 ≤ F.getD i2 0 <;> by_cases z3 : F.getD i2 0 < F.getD b 0 <;> simp only [z1, z2, z3, decide_true, decide_false, cond_true, cond_false, true_and, false_and, and_true, and_false, or_true, or_false] <;> simp
                      by_cases hc : decide (pl.getD i2 0 = 0) = true ∧ 0 ≤ F.getD i2 0 ∧ ((b : Int) < 0 ∨ F.getD i2 0 < F.getD b 0)
                      all_goals
                        first | rw [if_pos hc] at hstep | rw [if_neg hc] at hstep
                        first | rw [decide_eq_true hc] at hcond | rw [decide_eq_false hc] at hcond
                        repeat' ((conv => whnf); first | done | refine ev_step ?_ | refine ops_step ?_ | refine scan_step ?_ | refine draw_step ?_ | refine each_step ?_ | refine sl_step ?_ | refine hp_step ?_ | refine guard_no (by decide) ?_ | refine guard_go ?_ | refine guard_old ?_ | apply cut_auto | with_reducible exact CutS.mk (Or.inl ⟨rfl, rfl, rfl⟩) | refine CutS.mk (Or.inr (Or.inl (sub_auto ?_))) | exact trivial | refine And.intro ?_ ?_ | (refine cond_split ?_ ?_ <;> intro hq_ <;> first | (exfalso; first | omega | (simp only [d6, hcond, cond_true, cond_false, Bool.not_true, Bool.not_false, Bool.and_true, Bool.true_and, Bool.and_false, Bool.false_and, Bool.or_true, Bool.true_or, Bool.or_false, Bool.false_or, Bool.true_eq_false, Bool.false_eq_true, decide_true, decide_false, reduceCtorEq] at hq_; done) | (rw [decide_eq_false_iff_not] at hq_; omega) | (rw [decide_eq_true_eq] at hq_; omega) | (simp only [d6, hcond, reduceCtorEq] at hq_; done) | exact Bool.noConfusion (Eq.trans (Eq.symm d6) hq_) | exact Bool.noConfusion (Eq.trans (Eq.symm hcond) hq_)) | skip) | apply guess | exact Or.inl rfl | exact Or.inr rfl | exact Side.mk trivial | exact Side.mk (fun h => h) | exact Side.mk (fun h => ⟨h, h⟩) | with_reducible exact Side.mk rfl | with_reducible exact Side.mk ⟨rfl, rfl⟩ | with_reducible exact Side.mk (by assumption) | with_reducible rfl | intro _)
                        all_goals try (conv => whnf)
                        all_goals try simp only [Int.toNat_natCast]
                        all_goals try (refine Side.mk ?_; intro _; omega)
                        all_goals try (refine Side.mk ?_; intro _ _; omega)
                        all_goals try (refine Side.mk ?_; first | (intros; omega) | (intro h1_ h2_; rw [h1_, h2_]; rfl) | (show List.length (_ ++ _) ≤ _; simp only [List.length_append, List.length_cons, List.length_nil, List.length_replicate, List.length_take]; omega) | (simp_all; done) | (simp_all; omega))
                        all_goals try omega
                        refine ⟨i2 + 1, by omega, by omega, ?_⟩
                        repeat' ((conv => whnf); first | done | refine ev_step ?_ | refine ops_step ?_ | refine scan_step ?_ | refine draw_step ?_ | refine each_step ?_ | refine sl_step ?_ | refine hp_step ?_ | refine guard_no (by decide) ?_ | refine guard_go ?_ | refine guard_old ?_ | apply cut_auto | with_reducible exact CutS.mk (Or.inl ⟨rfl, rfl, rfl⟩) | refine CutS.mk (Or.inr (Or.inl (sub_auto ?_))) | exact trivial | refine And.intro ?_ ?_ | refine cond_split ?_ ?_ | apply guess | exact Or.inl rfl | exact Or.inr rfl | exact Side.mk trivial | exact Side.mk (fun h => h) | exact Side.mk (fun h => ⟨h, h⟩) | with_reducible exact Side.mk rfl | with_reducible exact Side.mk ⟨rfl, rfl⟩ | with_reducible exact Side.mk (by assumption) | with_reducible rfl | intro _)
                        all_goals try (conv => whnf)
                        all_goals first | rfl | (rw [hstep]; done) | trace_state
                  · have hie2 : i2 = n := by omega
                    rw [hie2] at hbt ⊢
                    have d6 : decide ((n : Int) < (pl.length : Int)) = false := decide_eq_false (by omega)
                    rcases hbt with ⟨e1, e2⟩ | ⟨b, e1, e2, e3, e4, e5⟩
                    · rw [e1]
                      have d5 : decide ((-1 : Int) < 0) = true := rfl
                      have hno := (no_begin hT hSr e2).uniq hcr2
                      repeat' ((conv => whnf); first | done | refine ev_step ?_ | refine ops_step ?_ | refine scan_step ?_ | refine draw_step ?_ | refine each_step ?_ | refine sl_step ?_ | refine hp_step ?_ | refine guard_no (by decide) ?_ | refine guard_go ?_ | refine guard_old ?_ | apply cut_auto | with_reducible exact CutS.mk (Or.inl ⟨rfl, rfl, rfl⟩) | refine CutS.mk (Or.inr (Or.inl (sub_auto ?_))) | exact trivial | refine And.intro ?_ ?_ | (refine cond_split ?_ ?_ <;> intro hq_ <;> first | (exfalso; first | omega | (simp only [d6, d5, cond_true, cond_false, Bool.not_true, Bool.not_false, Bool.and_true, Bool.true_and, Bool.and_false, Bool.false_and, Bool.or_true, Bool.true_or, Bool.or_false, Bool.false_or, Bool.true_eq_false, Bool.false_eq_true, decide_true, decide_false, reduceCtorEq] at hq_; done) | (rw [decide_eq_false_iff_not] at hq_; omega) | (rw [decide_eq_true_eq] at hq_; omega) | (simp only [d6, d5, reduceCtorEq] at hq_; done) | exact Bool.noConfusion (Eq.trans (Eq.symm d6) hq_) | exact Bool.noConfusion (Eq.trans (Eq.symm d5) hq_)) | skip) | apply guess | exact Or.inl rfl | exact Or.inr rfl | exact Side.mk trivial | exact Side.mk (fun h => h) | exact Side.mk (fun h => ⟨h, h⟩) | with_reducible exact Side.mk rfl | with_reducible exact Side.mk ⟨rfl, rfl⟩ | with_reducible exact Side.mk (by assumption) | with_reducible rfl | intro _)
                      all_goals try (conv => whnf)
                      all_goals try (refine Side.mk ?_; first | (intros; omega) | (intro h1_ h2_; rw [h1_, h2_]; rfl) | (show List.length (_ ++ _) ≤ _; simp only [List.length_append, List.length_cons, List.length_nil, List.length_replicate, List.length_take]; omega) | (simp_all; done) | (simp_all; omega))
                      refine ⟨none, hno.symm, ?_⟩
                      repeat' ((conv => whnf); first | done | refine ev_step ?_ | refine ops_step ?_ | refine scan_step ?_ | refine draw_step ?_ | refine each_step ?_ | refine sl_step ?_ | refine hp_step ?_ | refine guard_no (by decide) ?_ | refine guard_go ?_ | refine guard_old ?_ | apply cut_auto | with_reducible exact CutS.mk (Or.inl ⟨rfl, rfl, rfl⟩) | refine CutS.mk (Or.inr (Or.inl (sub_auto ?_))) | exact trivial | refine And.intro ?_ ?_ | refine cond_split ?_ ?_ | apply guess | exact Or.inl rfl | exact Or.inr rfl | exact Side.mk trivial | exact Side.mk (fun h => h) | exact Side.mk (fun h => ⟨h, h⟩) | with_reducible exact Side.mk rfl | with_reducible exact Side.mk ⟨rfl, rfl⟩ | with_reducible exact Side.mk (by assumption) | with_reducible rfl | intro _)
                      all_goals try (conv => whnf)
                      all_goals first | rfl | trace_state
                    · rw [e1]
                      have d5 : decide ((b : Int) < 0) = false := decide_eq_false (by omega)
                      have hD := Down.start hT hSr e2 e3 e4 e5
                      have hD16 : (F.getD b 0).toNat ≤ 16 := by have := hF16 b e2; omega
                      repeat' ((conv => whnf); first | done | refine ev_step ?_ | refine ops_step ?_ | refine scan_step ?_ | refine draw_step ?_ | refine each_step ?_ | refine sl_step ?_ | refine hp_step ?_ | refine guard_no (by decide) ?_ | refine guard_go ?_ | refine guard_old ?_ | apply cut_auto | with_reducible exact CutS.mk (Or.inl ⟨rfl, rfl, rfl⟩) | refine CutS.mk (Or.inr (Or.inl (sub_auto ?_))) | exact trivial | refine And.intro ?_ ?_ | (refine cond_split ?_ ?_ <;> intro hq_ <;> first | (exfalso; first | omega | (simp only [d6, d5, cond_true, cond_false, Bool.not_true, Bool.not_false, Bool.and_true, Bool.true_and, Bool.and_false, Bool.false_and, Bool.or_true, Bool.true_or, Bool.or_false, Bool.false_or, Bool.true_eq_false, Bool.false_eq_true, decide_true, decide_false, reduceCtorEq] at hq_; done) | (rw [decide_eq_false_iff_not] at hq_; omega) | (rw [decide_eq_true_eq] at hq_; omega) | (simp only [d6, d5, reduceCtorEq] at hq_; done) | exact Bool.noConfusion (Eq.trans (Eq.symm d6) hq_) | exact Bool.noConfusion (Eq.trans (Eq.symm d5) hq_)) | skip) | apply guess | exact Or.inl rfl | exact Or.inr rfl | exact Side.mk trivial | exact Side.mk (fun h => h) | exact Side.mk (fun h => ⟨h, h⟩) | with_reducible exact Side.mk rfl | with_reducible exact Side.mk ⟨rfl, rfl⟩ | with_reducible exact Side.mk (by assumption) | with_reducible rfl | intro _)
                      all_goals try (conv => whnf)
                      all_goals try (refine Side.mk ?_; first | (intros; omega) | (intro h1_ h2_; rw [h1_, h2_]; rfl) | (show List.length (_ ++ _) ≤ _; simp only [List.length_append, List.length_cons, List.length_nil, List.length_replicate, List.length_take]; omega) | (simp_all; done) | (simp_all; omega))
                      have hord : ∀ u, u < n → (g2.getD u []).Pairwise (· ≤ ·) := fun u hu => hs.ord u hu hu
                      have hFall : ∀ j, -1 ≤ F.getD j 0 ∧ F.getD j 0 ≤ 16 := fun j => by
                        by_cases hj : j < n
                        · exact ⟨hT.ge hj, hF16 j hj⟩
                        · rw [List.getD, List.getElem?_eq_none (by omega)]; simp
                      generalize (F.getD b 0).toNat = D at *
                      refine loop_at (fun l : List Int => Down (edgeG g2) (srcB pl) (finB pl) n F D l ∧ D ≤ 16) 10 (fun l => [(20, .sl 8 []), (21, .ptr 9 [] 0 0), (22, .top), (156, .top), (174, .top)]) (fun l => [(8, .flat true (.ints .i64 l)), (9, .flat true (.gen 1 [[.int .i64 (lastI l)]]))]) (fun l => D + 1 - l.length) [(b : Int)] ⟨hD, hD16⟩ ?_ (fun l hl2 => ?_)
                      · repeat' ((conv => whnf); first | done | refine ev_step ?_ | refine ops_step ?_ | refine scan_step ?_ | refine draw_step ?_ | refine each_step ?_ | refine sl_step ?_ | refine hp_step ?_ | refine guard_no (by decide) ?_ | refine guard_go ?_ | refine guard_old ?_ | apply cut_auto | with_reducible exact CutS.mk (Or.inl ⟨rfl, rfl, rfl⟩) | refine CutS.mk (Or.inr (Or.inl (sub_auto ?_))) | exact trivial | refine And.intro ?_ ?_ | refine cond_split ?_ ?_ | apply guess | exact Or.inl rfl | exact Or.inr rfl | exact Side.mk trivial | exact Side.mk (fun h => h) | exact Side.mk (fun h => ⟨h, h⟩) | with_reducible exact Side.mk rfl | with_reducible exact Side.mk ⟨rfl, rfl⟩ | with_reducible exact Side.mk (by assumption) | with_reducible rfl | intro _)
                        all_goals try (conv => whnf)
                        all_goals first | rfl | trace_state
                      · obtain ⟨hd, hD16⟩ := hl2
                        have hr := hd.rng
                        have hfew := hd.few
                        have h1l := hd.way.one
                        have hfar := hd.far
                        obtain ⟨a, ha⟩ : ∃ a : Nat, lastI l = (a : Int) := ⟨(lastI l).toNat, by omega⟩
                        have han : a < n := by omega
                        by_cases hgo : 0 < F.getD a 0
                        · have hgo2 : 0 < F.getD (lastI l).toNat 0 := by rw [ha, Int.toNat_natCast]; exact hgo
                          have hxr : ∀ x ∈ g2.getD a [], 0 ≤ x ∧ x < (F.length : Int) := fun x hx => by
                            have := hEr (a : Int) x (edgeG_nat.2 hx)
                            omega
                          have kn := k_IdxNear F (g2.getD a []) a ⟨⟨hrow a han, by omega, hxr⟩, hFall⟩
                          obtain ⟨y0, hy0, hy1⟩ := hd.more hT hEr hgo2
                          rw [ha] at hy0
                          have hany : (g2.getD a []).any (fun x => decide (F.getD x.toNat 0 = F.getD a 0 - 1)) = true := by
                            rw [List.any_eq_true]
                            refine ⟨y0, edgeG_nat.1 hy0, ?_⟩
                            rw [ha, Int.toNat_natCast] at hy1
                            exact decide_eq_true hy1
                          obtain ⟨m, hm1, hm2, hm3, hm4⟩ := idx_spec hany
                          rw [hm2] at kn
                          have hym := mem_idx hm1
                          have hyr := hxr _ hym
                          have hnext := hd.next hT hEr hgo2 (y := (g2.getD a []).getD m 0) (by rw [ha]; exact edgeG_nat.2 hym) (by rw [ha, Int.toNat_natCast]; simpa using hm3) (fun z hz hz2 => by
                            rw [ha] at hz hz2
                            rw [Int.toNat_natCast] at hz2
                            obtain ⟨j, hj, ej⟩ := mem_getI (edgeG_nat.1 hz)
                            rw [← ej]
                            refine sorted_get (hord a han) (Nat.not_lt.1 fun hjm => ?_) hj
                            have := hm4 j hjm
                            rw [ej, decide_eq_false_iff_not] at this
                            exact this hz2)
                          have d4 : decide (0 < F.getD (a : Int).toNat 0) = true := decide_eq_true (by rw [Int.toNat_natCast]; exact hgo)
                          rw [ha]
                          repeat' ((conv => whnf); first | done | refine ev_step ?_ | refine ops_step ?_ | refine scan_step ?_ | refine draw_step ?_ | refine each_step ?_ | refine sl_step ?_ | refine hp_step ?_ | refine guard_no (by decide) ?_ | refine guard_go ?_ | refine guard_old ?_ | apply cut_auto | with_reducible exact CutS.mk (Or.inl ⟨rfl, rfl, rfl⟩) | refine CutS.mk (Or.inr (Or.inl (sub_auto ?_))) | exact trivial | refine And.intro ?_ ?_ | (refine cond_split ?_ ?_ <;> intro hq_ <;> first | (exfalso; first | omega | (simp only [d4, cond_true, cond_false, Bool.not_true, Bool.not_false, Bool.and_true, Bool.true_and, Bool.and_false, Bool.false_and, Bool.or_true, Bool.true_or, Bool.or_false, Bool.false_or, Bool.true_eq_false, Bool.false_eq_true, decide_true, decide_false, reduceCtorEq] at hq_; done) | (rw [decide_eq_false_iff_not] at hq_; omega) | (rw [decide_eq_true_eq] at hq_; omega) | (simp only [d4, reduceCtorEq] at hq_; done) | exact Bool.noConfusion (Eq.trans (Eq.symm d4) hq_)) | skip) | apply guess | apply FnIs.useF (kn) | exact Or.inl rfl | exact Or.inr rfl | exact Side.mk trivial | exact Side.mk (fun h => h) | exact Side.mk (fun h => ⟨h, h⟩) | with_reducible exact Side.mk rfl | with_reducible exact Side.mk ⟨rfl, rfl⟩ | with_reducible exact Side.mk (by assumption) | with_reducible rfl | intro _)
                          all_goals try (conv => whnf)
                          all_goals try simp only [Int.toNat_natCast]
                          all_goals try (refine Side.mk ?_; first | (intros; omega) | (intro h1_ h2_; rw [h1_, h2_]; rfl) | (show List.length (_ ++ _) ≤ _; simp only [List.length_append, List.length_cons, List.length_nil, List.length_replicate, List.length_take]; omega) | (simp_all; done) | (simp_all; omega))
                          all_goals try omega
                          have hfew2 := hnext.few
                          rw [List.length_append, List.length_singleton] at hfew2
                          refine ⟨l ++ [(g2.getD a []).getD m 0], ⟨hnext, hD16⟩, by rw [List.length_append, List.length_singleton]; omega, ?_⟩
                          repeat' ((conv => whnf); first | done | refine ev_step ?_ | refine ops_step ?_ | refine scan_step ?_ | refine draw_step ?_ | refine each_step ?_ | refine sl_step ?_ | refine hp_step ?_ | refine guard_no (by decide) ?_ | refine guard_go ?_ | refine guard_old ?_ | apply cut_auto | with_reducible exact CutS.mk (Or.inl ⟨rfl, rfl, rfl⟩) | refine CutS.mk (Or.inr (Or.inl (sub_auto ?_))) | exact trivial | refine And.intro ?_ ?_ | refine cond_split ?_ ?_ | apply guess | exact Or.inl rfl | exact Or.inr rfl | exact Side.mk trivial | exact Side.mk (fun h => h) | exact Side.mk (fun h => ⟨h, h⟩) | with_reducible exact Side.mk rfl | with_reducible exact Side.mk ⟨rfl, rfl⟩ | with_reducible exact Side.mk (by assumption) | with_reducible rfl | intro _)
                          all_goals try (conv => whnf)
                          all_goals first | rfl | (rw [lastI_snoc]; done) | trace_state
                        · have hgo2 : ¬ 0 < F.getD (lastI l).toNat 0 := by rw [ha, Int.toNat_natCast]; exact hgo
                          have hval := hd.val hT hgo2
                          have hun := hval.uniq hcr2
                          have d4 : decide (0 < F.getD (a : Int).toNat 0) = false := decide_eq_false (by rw [Int.toNat_natCast]; exact hgo)
                          rw [ha]
                          repeat' ((conv => whnf); first | done | refine ev_step ?_ | refine ops_step ?_ | refine scan_step ?_ | refine draw_step ?_ | refine each_step ?_ | refine sl_step ?_ | refine hp_step ?_ | refine guard_no (by decide) ?_ | refine guard_go ?_ | refine guard_old ?_ | apply cut_auto | with_reducible exact CutS.mk (Or.inl ⟨rfl, rfl, rfl⟩) | refine CutS.mk (Or.inr (Or.inl (sub_auto ?_))) | exact trivial | refine And.intro ?_ ?_ | (refine cond_split ?_ ?_ <;> intro hq_ <;> first | (exfalso; first | omega | (simp only [d4, cond_true, cond_false, Bool.not_true, Bool.not_false, Bool.and_true, Bool.true_and, Bool.and_false, Bool.false_and, Bool.or_true, Bool.true_or, Bool.or_false, Bool.false_or, Bool.true_eq_false, Bool.false_eq_true, decide_true, decide_false, reduceCtorEq] at hq_; done) | (rw [decide_eq_false_iff_not] at hq_; omega) | (rw [decide_eq_true_eq] at hq_; omega) | (simp only [d4, reduceCtorEq] at hq_; done) | exact Bool.noConfusion (Eq.trans (Eq.symm d4) hq_)) | skip) | apply guess | exact Or.inl rfl | exact Or.inr rfl | exact Side.mk trivial | exact Side.mk (fun h => h) | exact Side.mk (fun h => ⟨h, h⟩) | with_reducible exact Side.mk rfl | with_reducible exact Side.mk ⟨rfl, rfl⟩ | with_reducible exact Side.mk (by assumption) | with_reducible rfl | intro _)
                          all_goals try (conv => whnf)
                          all_goals try simp only [Int.toNat_natCast]
                          all_goals try (refine Side.mk ?_; first | (intros; omega) | (intro h1_ h2_; rw [h1_, h2_]; rfl) | (show List.length (_ ++ _) ≤ _; simp only [List.length_append, List.length_cons, List.length_nil, List.length_replicate, List.length_take]; omega) | (simp_all; done) | (simp_all; omega))
                          all_goals try omega
                          refine ⟨some l, ⟨hun, by rw [← hun]; exact List.length_pos_iff.1 h1l⟩, ?_⟩
                          repeat' ((conv => whnf); first | done | refine ev_step ?_ | refine ops_step ?_ | refine scan_step ?_ | refine draw_step ?_ | refine each_step ?_ | refine sl_step ?_ | refine hp_step ?_ | refine guard_no (by decide) ?_ | refine guard_go ?_ | refine guard_old ?_ | apply cut_auto | with_reducible exact CutS.mk (Or.inl ⟨rfl, rfl, rfl⟩) | refine CutS.mk (Or.inr (Or.inl (sub_auto ?_))) | exact trivial | refine And.intro ?_ ?_ | refine cond_split ?_ ?_ | apply guess | exact Or.inl rfl | exact Or.inr rfl | exact Side.mk trivial | exact Side.mk (fun h => h) | exact Side.mk (fun h => ⟨h, h⟩) | with_reducible exact Side.mk rfl | with_reducible exact Side.mk ⟨rfl, rfl⟩ | with_reducible exact Side.mk (by assumption) | with_reducible rfl | intro _)
                          all_goals try (conv => whnf)
                          all_goals first | rfl | trace_state
end Go.Sx.U
