/-
  Chapter 8: the reference's paths through corners (contract).
-/
import Derived.Test.YtpbmikcicibfcaaG15
namespace Go.Sx.U
set_option linter.unusedVariables false
set_option linter.unusedSimpArgs false
set_option maxRecDepth 100000
set_option maxHeartbeats 8000000
open Go Go.Sx Go.Proofs Go.Sx.M8

theorem linesT_next (s : List R2) (i : Nat) : linesT s (i + 1) = linesT s i ++ lineL (s.getD i default).a (s.getD i default).b (s.getD (i + 1) default).a (s.getD (i + 1) default).b := rfl
theorem k_l01Through (s : List R2) (h : GoodShape s) : FnIs Try.prog 99 [.sl 0 []] 1 [(0, .flat false (.r2 s))] (.tuple [.sl 1 [], .bool true]) 2 [(1, .flat true (.r2 (pathL s)))] := by
  have h1 := h.one
  have h2 := h.few
  have kp : ∀ i, i < s.length → FnIs Try.prog 123 [ptV (s.getD i default).a (s.getD i default).b] 0 [] (.bool true) 0 [] := fun i hi => k_l01Point _ _ ⟨by have := h.cel i hi; omega⟩
  have kp0 : FnIs Try.prog 123 [ptV (s.getD (Int.toNat 0) default).a (s.getD (Int.toNat 0) default).b] 0 [] (.bool true) 0 [] := kp 0 (by omega)
  have kq := k_l01Path (pathL s) h.ok
  have kc := k_l01Corners (pathL s) ⟨by have := h.ok.few; omega, path_sm h.ok⟩
  rw [h.corn] at kc
  have hlen : (linesT s 0).length = 1 := rfl
  have hce := h.cel
  have hal := h.ali
  have hlb : ∀ i, i < s.length → (linesT s i).length ≤ 576 := fun i hi => lines_bd h hi
  have hpl : pathL s = linesT s (s.length - 1) := rfl
  clear h
  have d0 : decide ((s.length : Int) = 0) = false := decide_eq_false (by omega)
  have d1 : decide (576 < (s.length : Int)) = false := decide_eq_false (by omega)
  refine fn_of_ev tok Try.func99 rfl rfl rfl ?_
  repeat' ((conv => whnf); first | done | refine ev_step ?_ | refine ops_step ?_ | refine scan_step ?_ | refine draw_step ?_ | refine each_step ?_ | refine sl_step ?_ | refine hp_step ?_ | refine guard_no (by decide) ?_ | refine guard_go ?_ | refine guard_old ?_ | apply cut_auto | with_reducible exact CutS.mk (Or.inl ⟨rfl, rfl, rfl⟩) | refine CutS.mk (Or.inr (sub_auto ?_)) | exact trivial | refine And.intro ?_ ?_ | (refine cond_split ?_ ?_ <;> intro _ <;> first | (exfalso; first | omega | (simp_all; done) | (simp_all; omega)) | skip) | apply guess | apply FnIs.useF (kp0) | exact Or.inl rfl | exact Or.inr rfl | exact Side.mk trivial | exact Side.mk (fun h => h) | exact Side.mk (fun h => ⟨h, h⟩) | with_reducible exact Side.mk rfl | with_reducible exact Side.mk ⟨rfl, rfl⟩ | with_reducible exact Side.mk (by assumption) | with_reducible rfl | intro _)
  all_goals try (conv => whnf)
  all_goals try simp only [Int.toNat_natCast] at *
  all_goals try (refine Side.mk ?_; first | (intros; omega) | (intro h1_ h2_; rw [h1_, h2_]; rfl) | (show List.length (_ ++ _) ≤ _; simp only [List.length_append, List.length_cons, List.length_nil, List.length_replicate, List.length_take]; omega) | (simp_all; done) | (simp_all; omega))
  all_goals try omega
  refine loop_at (fun i : Nat => i + 1 ≤ s.length) 2 (fun i => [(4, .sl 1 []), (5, .int .i64 ((i : Int) + 1)), (6, .top), (7, .top), (28, .top), (73, .top), (97, .top), (99, .top), (100, .top)]) (fun i => [(1, .flat true (.r2 (linesT s i)))]) (fun i => s.length - i) 0 (by omega) ?_ (fun i hi => ?_)
  · repeat' ((conv => whnf); first | done | refine ev_step ?_ | refine ops_step ?_ | refine scan_step ?_ | refine draw_step ?_ | refine each_step ?_ | refine sl_step ?_ | refine hp_step ?_ | refine guard_no (by decide) ?_ | refine guard_go ?_ | refine guard_old ?_ | apply cut_auto | with_reducible exact CutS.mk (Or.inl ⟨rfl, rfl, rfl⟩) | refine CutS.mk (Or.inr (sub_auto ?_)) | exact trivial | refine And.intro ?_ ?_ | refine cond_split ?_ ?_ | apply guess | exact Or.inl rfl | exact Or.inr rfl | exact Side.mk trivial | exact Side.mk (fun h => h) | exact Side.mk (fun h => ⟨h, h⟩) | with_reducible exact Side.mk rfl | with_reducible exact Side.mk ⟨rfl, rfl⟩ | with_reducible exact Side.mk (by assumption) | with_reducible rfl | intro _)
    all_goals try (conv => whnf)
    all_goals first | rfl | (simp; done) | trace_state
  · have e1 : ((i : Int) + 1).toNat = i + 1 := by omega
    have e2 : ((i : Int) + 1 - 1).toNat = i := by omega
    have hb := hlb i (by omega)
    by_cases hlt : i + 1 < s.length
    · have hx := hce (i + 1) hlt
      have hw := hce i (by omega)
      have ha := hal i hlt
      have kp1 := kp (i + 1) hlt
      rw [← e1] at kp1
      unfold aligned at ha
      have c0 : decide ((s.getD ((i : Int) + 1).toNat default).a ≠ (s.getD ((i : Int) + 1 - 1).toNat default).a) = false ∨ decide ((s.getD ((i : Int) + 1).toNat default).b ≠ (s.getD ((i : Int) + 1 - 1).toNat default).b) = false := by
        rw [e1, e2]
        rcases ha with e | e
        · exact .inl (decide_eq_false (fun q => q e.symm))
        · exact .inr (decide_eq_false (fun q => q e.symm))
      have hh : Side ((s.getD i default).a = (s.getD (i + 1) default).a ∨ (s.getD i default).b = (s.getD (i + 1) default).b) := ⟨ha⟩
      clear ha hal
      rcases c0 with c0 | c0
      all_goals
        repeat' ((conv => whnf); first | done | refine ev_step ?_ | refine ops_step ?_ | refine scan_step ?_ | refine draw_step ?_ | refine each_step ?_ | refine sl_step ?_ | refine hp_step ?_ | refine guard_no (by decide) ?_ | refine guard_go ?_ | refine guard_old ?_ | apply cut_auto | with_reducible exact CutS.mk (Or.inl ⟨rfl, rfl, rfl⟩) | refine CutS.mk (Or.inr (sub_auto ?_)) | exact trivial | refine And.intro ?_ ?_ | (refine cond_split ?_ ?_ <;> intro _ <;> first | (exfalso; first | omega | (simp_all; done) | (simp_all; omega)) | skip) | apply guess | apply FnIs.useF (kp1) | exact Or.inl rfl | exact Or.inr rfl | exact Side.mk trivial | exact Side.mk (fun h => h) | exact Side.mk (fun h => ⟨h, h⟩) | with_reducible exact Side.mk rfl | with_reducible exact Side.mk ⟨rfl, rfl⟩ | with_reducible exact Side.mk (by assumption) | with_reducible rfl | intro _)
        all_goals try (conv => whnf)
        all_goals try (refine Side.mk ?_; first | (intros; omega) | (intro h1_ h2_; rw [h1_, h2_]; rfl) | (show List.length (_ ++ _) ≤ _; simp only [List.length_append, List.length_cons, List.length_nil, List.length_replicate, List.length_take]; omega) | (simp_all; done) | (simp_all; omega))
        all_goals try omega
        have ha := hh.h
        have ht : ∀ j, (linesT s i ++ lineT (s.getD i default).a (s.getD i default).b (s.getD (i + 1) default).a (s.getD (i + 1) default).b j).length = (linesT s i).length + j := fun j => by simp [lineT]
        have hb1 := hlb (i + 1) hlt
        rw [linesT_next, List.length_append, lineL_len] at hb1
        have hn := linesT_next s i
        have hst : ∀ j, j ≤ lineN (s.getD i default).a (s.getD i default).b (s.getD (i + 1) default).a (s.getD (i + 1) default).b → smI ((s.getD i default).a + sgn ((s.getD (i + 1) default).a - (s.getD i default).a) * (j : Nat)) ∧ smI ((s.getD i default).b + sgn ((s.getD (i + 1) default).b - (s.getD i default).b) * (j : Nat)) := fun j hj => line_sm ha (by omega) (by omega) (by omega) (by omega) hj
        have hsp : ∀ j, j < lineN (s.getD i default).a (s.getD i default).b (s.getD (i + 1) default).a (s.getD (i + 1) default).b → _ := fun j hj => line_step ha (i := j) hj
        have hen := line_end ha
        have hsu := lineT_succ (s.getD i default).a (s.getD i default).b (s.getD (i + 1) default).a (s.getD (i + 1) default).b
        have hll : lineL (s.getD i default).a (s.getD i default).b (s.getD (i + 1) default).a (s.getD (i + 1) default).b = lineT (s.getD i default).a (s.getD i default).b (s.getD (i + 1) default).a (s.getD (i + 1) default).b (lineN (s.getD i default).a (s.getD i default).b (s.getD (i + 1) default).a (s.getD (i + 1) default).b) := rfl
        have hl0 : lineT (s.getD i default).a (s.getD i default).b (s.getD (i + 1) default).a (s.getD (i + 1) default).b 0 = [] := rfl
        rw [hll] at hn
        unfold ptAt at hsu
        simp only [e1, e2]
        generalize lineN (s.getD i default).a (s.getD i default).b (s.getD (i + 1) default).a (s.getD (i + 1) default).b = n at *
        generalize lineT (s.getD i default).a (s.getD i default).b (s.getD (i + 1) default).a (s.getD (i + 1) default).b = LT at *
        refine loop_at (fun j : Nat => j ≤ n) 4 (fun j => [(4, .sl 1 []), (7, .ptr 3 [] 0 0), (28, .top), (73, .top), (97, .top), (99, .top), (100, .top)]) (fun j => [(3, .flat true (.gen 2 [[.int .i64 ((s.getD i default).a + sgn ((s.getD (i + 1) default).a - (s.getD i default).a) * (j : Nat)), .int .i64 ((s.getD i default).b + sgn ((s.getD (i + 1) default).b - (s.getD i default).b) * (j : Nat))]])), (1, .flat true (.r2 (linesT s i ++ LT j)))]) (fun j => n - j) 0 (Nat.zero_le _) ?_ (fun j hj => ?_)
        · repeat' ((conv => whnf); first | done | refine ev_step ?_ | refine ops_step ?_ | refine scan_step ?_ | refine draw_step ?_ | refine each_step ?_ | refine sl_step ?_ | refine hp_step ?_ | refine guard_no (by decide) ?_ | refine guard_go ?_ | refine guard_old ?_ | apply cut_auto | with_reducible exact CutS.mk (Or.inl ⟨rfl, rfl, rfl⟩) | refine CutS.mk (Or.inr (sub_auto ?_)) | exact trivial | refine And.intro ?_ ?_ | refine cond_split ?_ ?_ | apply guess | exact Or.inl rfl | exact Or.inr rfl | exact Side.mk trivial | exact Side.mk (fun h => h) | exact Side.mk (fun h => ⟨h, h⟩) | with_reducible exact Side.mk rfl | with_reducible exact Side.mk ⟨rfl, rfl⟩ | with_reducible exact Side.mk (by assumption) | with_reducible rfl | intro _)
          all_goals try (conv => whnf)
          all_goals first | rfl | (simp [hl0]; done) | trace_state
        · obtain ⟨b1, b2⟩ := hst j hj
          have htj := ht j
          have htl : (LT j).length = j := by rw [List.length_append] at htj; omega
          by_cases hjt : j < n
          · obtain ⟨s0, s1, s2⟩ := hsp j hjt
            obtain ⟨b3, b4⟩ := hst (j + 1) hjt
            have hs := hsu j
            push_cast at b3 b4 hs
            clear hst hsp hsu kp hce hlb
            generalize (s.getD (i + 1) default).a = c at *
            generalize (s.getD (i + 1) default).b = d at *
            generalize (s.getD i default).a = a at *
            generalize (s.getD i default).b = b at *
            generalize a + sgn (c - a) * (j : Int) = x at *
            generalize b + sgn (d - b) * (j : Int) = y at *
            generalize f1 : sgn (c - x) = sx at *
            generalize f2 : sgn (d - y) = sy at *
            have k1 := k_l01Sign (c - x)
            have k2 := k_l01Sign (d - y)
            rw [f1] at k1
            rw [f2] at k2
            generalize hx2 : a + sgn (c - a) * ((j : Int) + 1) = x2 at *
            generalize hy2 : b + sgn (d - b) * ((j : Int) + 1) = y2 at *
            have c1 : (decide (x = c) && decide (y = d)) = false := by simpa using s0
            have c2 : decide (((linesT s i ++ LT j).length : Int) ≤ 576) = true := decide_eq_true (by omega)
            repeat' ((conv => whnf); first | done | refine ev_step ?_ | refine ops_step ?_ | refine scan_step ?_ | refine draw_step ?_ | refine each_step ?_ | refine sl_step ?_ | refine hp_step ?_ | refine guard_no (by decide) ?_ | refine guard_go ?_ | refine guard_old ?_ | apply cut_auto | with_reducible exact CutS.mk (Or.inl ⟨rfl, rfl, rfl⟩) | refine CutS.mk (Or.inr (sub_auto ?_)) | exact trivial | refine And.intro ?_ ?_ | (refine cond_split ?_ ?_ <;> intro hq_ <;> first | (exfalso; first | omega | (simp only [c1, c2, cond_true, cond_false, Bool.not_true, Bool.not_false, Bool.and_true, Bool.true_and, Bool.and_false, Bool.false_and, Bool.or_true, Bool.true_or, Bool.or_false, Bool.false_or, Bool.true_eq_false, Bool.false_eq_true, decide_true, decide_false, reduceCtorEq] at hq_; done) | (rw [decide_eq_false_iff_not] at hq_; omega) | (rw [decide_eq_true_eq] at hq_; omega) | (simp only [c1, c2, reduceCtorEq] at hq_; done) | exact Bool.noConfusion (Eq.trans (Eq.symm c1) hq_) | exact Bool.noConfusion (Eq.trans (Eq.symm c2) hq_)) | skip) | apply guess | refine FnIs.useE (k1) rfl ?_ | refine FnIs.useE (k2) rfl ?_ | exact Or.inl rfl | exact Or.inr rfl | exact Side.mk trivial | exact Side.mk (fun h => h) | exact Side.mk (fun h => ⟨h, h⟩) | with_reducible exact Side.mk rfl | with_reducible exact Side.mk ⟨rfl, rfl⟩ | with_reducible exact Side.mk (by assumption) | with_reducible rfl | intro _)
            all_goals try (conv => whnf)
            all_goals try simp only [Int.toNat_natCast] at *
            all_goals try (refine Side.mk ?_; first | (intros; omega) | (intro h1_ h2_; rw [h1_, h2_]; rfl) | (show List.length (_ ++ _) ≤ _; simp only [List.length_append, List.length_cons, List.length_nil, List.length_replicate, List.length_take]; omega) | (simp_all; done) | (simp_all; omega))
            refine ⟨j + 1, by omega, by omega, ?_⟩
            repeat' ((conv => whnf); first | done | refine ev_step ?_ | refine ops_step ?_ | refine scan_step ?_ | refine draw_step ?_ | refine each_step ?_ | refine sl_step ?_ | refine hp_step ?_ | refine guard_no (by decide) ?_ | refine guard_go ?_ | refine guard_old ?_ | apply cut_auto | with_reducible exact CutS.mk (Or.inl ⟨rfl, rfl, rfl⟩) | refine CutS.mk (Or.inr (sub_auto ?_)) | exact trivial | refine And.intro ?_ ?_ | refine cond_split ?_ ?_ | apply guess | exact Or.inl rfl | exact Or.inr rfl | exact Side.mk trivial | exact Side.mk (fun h => h) | exact Side.mk (fun h => ⟨h, h⟩) | with_reducible exact Side.mk rfl | with_reducible exact Side.mk ⟨rfl, rfl⟩ | with_reducible exact Side.mk (by assumption) | with_reducible rfl | intro _)
            all_goals try (conv => whnf)
            all_goals first | rfl | omega | (push_cast; omega) | (rw [hs, s1, s2, List.append_assoc]; done) | trace_state
          · obtain rfl : j = n := by omega
            obtain ⟨f1, f2⟩ := hen
            rw [f1, f2]
            rw [f1] at b1
            rw [f2] at b2
            have c1 : (decide ((s.getD (i + 1) default).a = (s.getD (i + 1) default).a) && decide ((s.getD (i + 1) default).b = (s.getD (i + 1) default).b)) = true := by simp
            repeat' ((conv => whnf); first | done | refine ev_step ?_ | refine ops_step ?_ | refine scan_step ?_ | refine draw_step ?_ | refine each_step ?_ | refine sl_step ?_ | refine hp_step ?_ | refine guard_no (by decide) ?_ | refine guard_go ?_ | refine guard_old ?_ | apply cut_auto | with_reducible exact CutS.mk (Or.inl ⟨rfl, rfl, rfl⟩) | refine CutS.mk (Or.inr (sub_auto ?_)) | exact trivial | refine And.intro ?_ ?_ | (refine cond_split ?_ ?_ <;> intro hq_ <;> first | (exfalso; first | omega | (simp only [c1, cond_true, cond_false, Bool.not_true, Bool.not_false, Bool.and_true, Bool.true_and, Bool.and_false, Bool.false_and, Bool.or_true, Bool.true_or, Bool.or_false, Bool.false_or, Bool.true_eq_false, Bool.false_eq_true, decide_true, decide_false, reduceCtorEq] at hq_; done) | (rw [decide_eq_false_iff_not] at hq_; omega) | (rw [decide_eq_true_eq] at hq_; omega) | (simp only [c1, reduceCtorEq] at hq_; done) | exact Bool.noConfusion (Eq.trans (Eq.symm c1) hq_)) | skip) | apply guess | exact Or.inl rfl | exact Or.inr rfl | exact Side.mk trivial | exact Side.mk (fun h => h) | exact Side.mk (fun h => ⟨h, h⟩) | with_reducible exact Side.mk rfl | with_reducible exact Side.mk ⟨rfl, rfl⟩ | with_reducible exact Side.mk (by assumption) | with_reducible rfl | intro _)
            all_goals try (conv => whnf)
            all_goals try simp only [Int.toNat_natCast] at *
            all_goals try (refine Side.mk ?_; first | (intros; omega) | (intro h1_ h2_; rw [h1_, h2_]; rfl) | (show List.length (_ ++ _) ≤ _; simp only [List.length_append, List.length_cons, List.length_nil, List.length_replicate, List.length_take]; omega) | (simp_all; done) | (simp_all; omega))

            refine ⟨i + 1, by omega, by omega, ?_⟩
            repeat' ((conv => whnf); first | done | refine ev_step ?_ | refine ops_step ?_ | refine scan_step ?_ | refine draw_step ?_ | refine each_step ?_ | refine sl_step ?_ | refine hp_step ?_ | refine guard_no (by decide) ?_ | refine guard_go ?_ | refine guard_old ?_ | apply cut_auto | with_reducible exact CutS.mk (Or.inl ⟨rfl, rfl, rfl⟩) | refine CutS.mk (Or.inr (sub_auto ?_)) | exact trivial | refine And.intro ?_ ?_ | refine cond_split ?_ ?_ | apply guess | exact Or.inl rfl | exact Or.inr rfl | exact Side.mk trivial | exact Side.mk (fun h => h) | exact Side.mk (fun h => ⟨h, h⟩) | with_reducible exact Side.mk rfl | with_reducible exact Side.mk ⟨rfl, rfl⟩ | with_reducible exact Side.mk (by assumption) | with_reducible rfl | intro _)
            all_goals try (conv => whnf)
            all_goals first | rfl | omega | (push_cast; omega) | (rw [hn]; done) | trace_state
    · have hpi : pathL s = linesT s i := by rw [hpl, show s.length - 1 = i by omega]
      have d2 : decide ((s.length : Int) ≠ s.length) = false := by simp
      rw [hpi] at kq kc ⊢
      repeat' ((conv => whnf); first | done | refine ev_step ?_ | refine ops_step ?_ | refine scan_step ?_ | refine draw_step ?_ | refine each_step ?_ | refine sl_step ?_ | refine hp_step ?_ | refine guard_no (by decide) ?_ | refine guard_go ?_ | refine guard_old ?_ | apply cut_auto | with_reducible exact CutS.mk (Or.inl ⟨rfl, rfl, rfl⟩) | refine CutS.mk (Or.inr (sub_auto ?_)) | exact trivial | refine And.intro ?_ ?_ | (refine cond_split ?_ ?_ <;> intro _ <;> first | (exfalso; first | omega | (simp_all; done) | (simp_all; omega)) | skip) | apply guess | apply FnIs.useF (kq) | apply FnIs.useF (kc) | exact Or.inl rfl | exact Or.inr rfl | exact Side.mk trivial | exact Side.mk (fun h => h) | exact Side.mk (fun h => ⟨h, h⟩) | with_reducible exact Side.mk rfl | with_reducible exact Side.mk ⟨rfl, rfl⟩ | with_reducible exact Side.mk (by assumption) | with_reducible rfl | intro _)
      all_goals try (conv => whnf)
      refine loop_at (fun k : Nat => k ≤ s.length) 3 (fun k => [(9, .int .i64 k)]) (fun k => []) (fun k => s.length - k) 0 (Nat.zero_le _) ?_ (fun k hk => ?_)
      · repeat' ((conv => whnf); first | done | refine ev_step ?_ | refine ops_step ?_ | refine scan_step ?_ | refine draw_step ?_ | refine each_step ?_ | refine sl_step ?_ | refine hp_step ?_ | refine guard_no (by decide) ?_ | refine guard_go ?_ | refine guard_old ?_ | apply cut_auto | with_reducible exact CutS.mk (Or.inl ⟨rfl, rfl, rfl⟩) | refine CutS.mk (Or.inr (sub_auto ?_)) | exact trivial | refine And.intro ?_ ?_ | refine cond_split ?_ ?_ | apply guess | exact Or.inl rfl | exact Or.inr rfl | exact Side.mk trivial | exact Side.mk (fun h => h) | exact Side.mk (fun h => ⟨h, h⟩) | with_reducible exact Side.mk rfl | with_reducible exact Side.mk ⟨rfl, rfl⟩ | with_reducible exact Side.mk (by assumption) | with_reducible rfl | intro _)
        all_goals try (conv => whnf)
        all_goals first | rfl | (simp; done) | trace_state
      · by_cases hkt : k < s.length
        · have hxk := hce k hkt
          repeat' ((conv => whnf); first | done | refine ev_step ?_ | refine ops_step ?_ | refine scan_step ?_ | refine draw_step ?_ | refine each_step ?_ | refine sl_step ?_ | refine hp_step ?_ | refine guard_no (by decide) ?_ | refine guard_go ?_ | refine guard_old ?_ | apply cut_auto | with_reducible exact CutS.mk (Or.inl ⟨rfl, rfl, rfl⟩) | refine CutS.mk (Or.inr (sub_auto ?_)) | exact trivial | refine And.intro ?_ ?_ | (refine cond_split ?_ ?_ <;> intro _ <;> first | (exfalso; first | omega | (simp_all; done) | (simp_all; omega)) | skip) | apply guess | exact Or.inl rfl | exact Or.inr rfl | exact Side.mk trivial | exact Side.mk (fun h => h) | exact Side.mk (fun h => ⟨h, h⟩) | with_reducible exact Side.mk rfl | with_reducible exact Side.mk ⟨rfl, rfl⟩ | with_reducible exact Side.mk (by assumption) | with_reducible rfl | intro _)
          all_goals try (conv => whnf)
          all_goals try simp only [Int.toNat_natCast] at *
          all_goals try (refine Side.mk ?_; first | (intros; omega) | (intro h1_ h2_; rw [h1_, h2_]; rfl) | (show List.length (_ ++ _) ≤ _; simp only [List.length_append, List.length_cons, List.length_nil, List.length_replicate, List.length_take]; omega) | (simp_all; done) | (simp_all; omega))
          all_goals try omega
          refine ⟨k + 1, by omega, by omega, ?_⟩
          repeat' ((conv => whnf); first | done | refine ev_step ?_ | refine ops_step ?_ | refine scan_step ?_ | refine draw_step ?_ | refine each_step ?_ | refine sl_step ?_ | refine hp_step ?_ | refine guard_no (by decide) ?_ | refine guard_go ?_ | refine guard_old ?_ | apply cut_auto | with_reducible exact CutS.mk (Or.inl ⟨rfl, rfl, rfl⟩) | refine CutS.mk (Or.inr (sub_auto ?_)) | exact trivial | refine And.intro ?_ ?_ | refine cond_split ?_ ?_ | apply guess | exact Or.inl rfl | exact Or.inr rfl | exact Side.mk trivial | exact Side.mk (fun h => h) | exact Side.mk (fun h => ⟨h, h⟩) | with_reducible exact Side.mk rfl | with_reducible exact Side.mk ⟨rfl, rfl⟩ | with_reducible exact Side.mk (by assumption) | with_reducible rfl | intro _)
          all_goals try (conv => whnf)
          all_goals first | rfl | omega | trace_state
        · repeat' ((conv => whnf); first | done | refine ev_step ?_ | refine ops_step ?_ | refine scan_step ?_ | refine draw_step ?_ | refine each_step ?_ | refine sl_step ?_ | refine hp_step ?_ | refine guard_no (by decide) ?_ | refine guard_go ?_ | refine guard_old ?_ | apply cut_auto | with_reducible exact CutS.mk (Or.inl ⟨rfl, rfl, rfl⟩) | refine CutS.mk (Or.inr (sub_auto ?_)) | exact trivial | refine And.intro ?_ ?_ | (refine cond_split ?_ ?_ <;> intro _ <;> first | (exfalso; first | omega | (simp only [decide_eq_true_eq, decide_eq_false_iff_not, Bool.not_eq_true', Bool.not_eq_false', ne_eq, Bool.not_true, Bool.not_false, cond_true, cond_false, Bool.true_eq_false, Bool.false_eq_true, Bool.and_eq_true, Bool.and_eq_false_iff] at *; omega)) | skip) | apply guess | exact Or.inl rfl | exact Or.inr rfl | exact Side.mk trivial | exact Side.mk (fun h => h) | exact Side.mk (fun h => ⟨h, h⟩) | with_reducible exact Side.mk rfl | with_reducible exact Side.mk ⟨rfl, rfl⟩ | with_reducible exact Side.mk (by assumption) | with_reducible rfl | intro _)
          all_goals try (conv => whnf)
          all_goals try (refine Side.mk ?_; first | (intros; omega) | (intro h1_ h2_; rw [h1_, h2_]; rfl) | (show List.length (_ ++ _) ≤ _; simp only [List.length_append, List.length_cons, List.length_nil, List.length_replicate, List.length_take]; omega) | (simp_all; done) | (simp_all; omega))
          all_goals first | rfl | omega | trace_state
end Go.Sx.U
