/-
  Chapter 8: uses of edges, the program's way (contracts).
-/
import Derived.Test.YtpbmikcicibfcaaM8W
import Derived.Test.YtpbmikcicibfcaaG15
import Derived.Test.YtpbmikcicibfcaaG13
import Derived.Test.YtpbmikcicibfcaaG10
import Derived.Test.YtpbmikcicibfcaaG4
namespace Go.Sx.U
set_option linter.unusedVariables false
set_option linter.unusedSimpArgs false
set_option maxRecDepth 100000
set_option maxHeartbeats 8000000
open Go Go.Sx Go.Proofs Go.Sx.M8

/-- The objects of a grid of uses. -/
abbrev useH (own : Bool) (h : Nat) (U : UU) : Heap := [(1, .flat false (.rows 0 0 h)), (0, .nestI own .i64 U.1), (3, .flat false (.rows 2 0 (h - 1))), (2, .nestI own .i64 U.2)]
theorem k_edgeA (h : Nat) (U : UU) (p q : R2) (hp : Side (p.b = q.b ∧ 0 ≤ p.a ∧ 0 ≤ p.b ∧ 0 ≤ q.a ∧ U.1.length = h ∧ p.b.toNat < h ∧ (min p.a q.a).toNat < (U.1.getD p.b.toNat []).length)) : FnIs Try.prog 111 [.ptr 4 [] 0 0, ptV p.a p.b, ptV q.a q.b] 5 (boxG :: useH false h U) (.ptr 0 [p.b.toNat] (min p.a q.a).toNat 0) 5 [] := by
  obtain ⟨h0, h1, h2, h3, h4, h5, h6⟩ := hp.h
  refine fn_of_ev tok Try.func111 rfl rfl rfl ?_
  repeat' ((conv => whnf); first | done | refine ev_step ?_ | refine ops_step ?_ | refine scan_step ?_ | refine draw_step ?_ | refine each_step ?_ | refine sl_step ?_ | refine hp_step ?_ | refine guard_no (by decide) ?_ | refine guard_go ?_ | refine guard_old ?_ | apply cut_auto | with_reducible exact CutS.mk (Or.inl ⟨rfl, rfl, rfl⟩) | refine CutS.mk (Or.inr (sub_auto ?_)) | exact trivial | refine And.intro ?_ ?_ | (refine cond_split ?_ ?_ <;> intro _ <;> first | (exfalso; first | omega | (simp_all; done) | (simp_all; omega)) | skip) | apply guess | exact Or.inl rfl | exact Or.inr rfl | exact Side.mk trivial | exact Side.mk (fun h => h) | exact Side.mk (fun h => ⟨h, h⟩) | with_reducible exact Side.mk rfl | with_reducible exact Side.mk ⟨rfl, rfl⟩ | with_reducible exact Side.mk (by assumption) | with_reducible rfl | intro _)
  all_goals try (conv => whnf)
  all_goals try (refine Side.mk ?_; first | (intros; omega) | (intro h1_ h2_; rw [h1_, h2_]; rfl) | (show List.length (_ ++ _) ≤ _; simp only [List.length_append, List.length_cons, List.length_nil, List.length_replicate, List.length_take]; omega) | (simp_all; done) | (simp_all; omega))
  all_goals first | rfl | omega | trace_state
theorem k_edgeU (h : Nat) (U : UU) (p q : R2) (hp : Side (p.b ≠ q.b ∧ 0 ≤ p.a ∧ 0 ≤ p.b ∧ 0 ≤ q.b ∧ U.2.length = h - 1 ∧ (min p.b q.b).toNat < h - 1 ∧ p.a.toNat < (U.2.getD (min p.b q.b).toNat []).length)) : FnIs Try.prog 111 [.ptr 4 [] 0 0, ptV p.a p.b, ptV q.a q.b] 5 (boxG :: useH false h U) (.ptr 2 [(min p.b q.b).toNat] p.a.toNat 0) 5 [] := by
  obtain ⟨h0, h1, h2, h3, h4, h5, h6⟩ := hp.h
  refine fn_of_ev tok Try.func111 rfl rfl rfl ?_
  repeat' ((conv => whnf); first | done | refine ev_step ?_ | refine ops_step ?_ | refine scan_step ?_ | refine draw_step ?_ | refine each_step ?_ | refine sl_step ?_ | refine hp_step ?_ | refine guard_no (by decide) ?_ | refine guard_go ?_ | refine guard_old ?_ | apply cut_auto | with_reducible exact CutS.mk (Or.inl ⟨rfl, rfl, rfl⟩) | refine CutS.mk (Or.inr (sub_auto ?_)) | exact trivial | refine And.intro ?_ ?_ | (refine cond_split ?_ ?_ <;> intro _ <;> first | (exfalso; first | omega | (simp_all; done) | (simp_all; omega)) | skip) | apply guess | exact Or.inl rfl | exact Or.inr rfl | exact Side.mk trivial | exact Side.mk (fun h => h) | exact Side.mk (fun h => ⟨h, h⟩) | with_reducible exact Side.mk rfl | with_reducible exact Side.mk ⟨rfl, rfl⟩ | with_reducible exact Side.mk (by assumption) | with_reducible rfl | intro _)
  all_goals try (conv => whnf)
  all_goals try (refine Side.mk ?_; first | (intros; omega) | (intro h1_ h2_; rw [h1_, h2_]; rfl) | (show List.length (_ ++ _) ≤ _; simp only [List.length_append, List.length_cons, List.length_nil, List.length_replicate, List.length_take]; omega) | (simp_all; done) | (simp_all; omega))
  all_goals first | rfl | omega | trace_state
theorem k_useShape (w h : Nat) (m : Int) (U : UU) (s : List R2) (k : Int) (hd : Dims w h m U) (hg : GoodShape s) (hw : M8.Way w h (pathL s)) (hk : k = 1 ∨ k = -1) (hm : Side (0 ≤ m ∧ m ≤ 1000000)) : FnIs Try.prog 72 [.ptr 4 [] 0 0, .sl 5 [], .int .i64 k] 6 (boxG :: (5, .flat false (.r2 s)) :: useH true h U) (.tuple []) 6 [(0, .nestI true .i64 (useE k U s).1), (2, .nestI true .i64 (useE k U s).2)] := by
  obtain ⟨hm1, hm2⟩ := hm.h
  have h1 := hg.one
  have h2 := hg.few
  have hce := hg.cel
  have hal := hg.ali
  refine fn_of_ev tok Try.func72 rfl rfl rfl ?_
  repeat' ((conv => whnf); first | done | refine ev_step ?_ | refine ops_step ?_ | refine scan_step ?_ | refine draw_step ?_ | refine each_step ?_ | refine sl_step ?_ | refine hp_step ?_ | refine guard_no (by decide) ?_ | refine guard_go ?_ | refine guard_old ?_ | apply cut_auto | with_reducible exact CutS.mk (Or.inl ⟨rfl, rfl, rfl⟩) | refine CutS.mk (Or.inr (sub_auto ?_)) | exact trivial | refine And.intro ?_ ?_ | refine cond_split ?_ ?_ | apply guess | exact Or.inl rfl | exact Or.inr rfl | exact Side.mk trivial | exact Side.mk (fun h => h) | exact Side.mk (fun h => ⟨h, h⟩) | with_reducible exact Side.mk rfl | with_reducible exact Side.mk ⟨rfl, rfl⟩ | with_reducible exact Side.mk (by assumption) | with_reducible rfl | intro _)
  all_goals try (conv => whnf)
  refine loop_at (fun i : Nat => i + 1 ≤ s.length) 6 (fun i => [(6, .int .i64 ((i : Int) + 1))]) (fun i => [(0, .nestI true .i64 (walkE k U (pathL s) ((linesT s i).length - 1)).1), (2, .nestI true .i64 (walkE k U (pathL s) ((linesT s i).length - 1)).2)]) (fun i => s.length - i) 0 (by omega) ?_ (fun i hi => ?_)
  · repeat' ((conv => whnf); first | done | refine ev_step ?_ | refine ops_step ?_ | refine scan_step ?_ | refine draw_step ?_ | refine each_step ?_ | refine sl_step ?_ | refine hp_step ?_ | refine guard_no (by decide) ?_ | refine guard_go ?_ | refine guard_old ?_ | apply cut_auto | with_reducible exact CutS.mk (Or.inl ⟨rfl, rfl, rfl⟩) | refine CutS.mk (Or.inr (sub_auto ?_)) | exact trivial | refine And.intro ?_ ?_ | refine cond_split ?_ ?_ | apply guess | exact Or.inl rfl | exact Or.inr rfl | exact Side.mk trivial | exact Side.mk (fun h => h) | exact Side.mk (fun h => ⟨h, h⟩) | with_reducible exact Side.mk rfl | with_reducible exact Side.mk ⟨rfl, rfl⟩ | with_reducible exact Side.mk (by assumption) | with_reducible rfl | intro _)
    all_goals try (conv => whnf)
    all_goals first | rfl | (simp; done) | trace_state
  · have e1 : ((i : Int) + 1).toNat = i + 1 := by omega
    have e2 : ((i : Int) + 1 - 1).toNat = i := by omega
    by_cases hlt : i + 1 < s.length
    · have hx := hce (i + 1) hlt
      have hv := hce i (by omega)
      have ha := hal i hlt
      have kl := k_line (s.getD i default).a (s.getD i default).b (s.getD (i + 1) default).a (s.getD (i + 1) default).b ⟨by unfold aligned at ha; omega⟩
      have kl2 : FnIs Try.prog 110 [ptV (s.getD ((i : Int) + 1 - 1).toNat default).a (s.getD ((i : Int) + 1 - 1).toNat default).b, ptV (s.getD ((i : Int) + 1).toNat default).a (s.getD ((i : Int) + 1).toNat default).b] 0 [] (.sl 0 []) 1 [(0, .flat true (.r2 (lineL (s.getD i default).a (s.getD i default).b (s.getD (i + 1) default).a (s.getD (i + 1) default).b)))] := by
        simp only [e1, e2]; exact kl
      repeat' ((conv => whnf); first | done | refine ev_step ?_ | refine ops_step ?_ | refine scan_step ?_ | refine draw_step ?_ | refine each_step ?_ | refine sl_step ?_ | refine hp_step ?_ | refine guard_no (by decide) ?_ | refine guard_go ?_ | refine guard_old ?_ | apply cut_auto | with_reducible exact CutS.mk (Or.inl ⟨rfl, rfl, rfl⟩) | refine CutS.mk (Or.inr (sub_auto ?_)) | exact trivial | refine And.intro ?_ ?_ | (refine cond_split ?_ ?_ <;> intro _ <;> first | (exfalso; first | omega | (simp only [decide_eq_true_eq, decide_eq_false_iff_not, Bool.not_eq_true', Bool.not_eq_false', ne_eq, Bool.not_true, Bool.not_false, cond_true, cond_false, Bool.true_eq_false, Bool.false_eq_true, Bool.and_eq_true, Bool.and_eq_false_iff] at *; omega)) | skip) | apply guess | apply FnIs.useF (kl2) | exact Or.inl rfl | exact Or.inr rfl | exact Side.mk trivial | exact Side.mk (fun h => h) | exact Side.mk (fun h => ⟨h, h⟩) | with_reducible exact Side.mk rfl | with_reducible exact Side.mk ⟨rfl, rfl⟩ | with_reducible exact Side.mk (by assumption) | with_reducible rfl | intro _)
      all_goals try (conv => whnf)
      all_goals try rw [e1]
      all_goals try rw [e2]
      all_goals try (refine Side.mk ?_; first | (intros; omega) | (intro h1_ h2_; rw [h1_, h2_]; rfl) | (show List.length (_ ++ _) ≤ _; simp only [List.length_append, List.length_cons, List.length_nil, List.length_replicate, List.length_take]; omega) | (simp_all; done) | (simp_all; omega))
      all_goals try omega
      have hN := lineL_len (s.getD i default).a (s.getD i default).b (s.getD (i + 1) default).a (s.getD (i + 1) default).b
      have hL : ∀ j, j < lineN (s.getD i default).a (s.getD i default).b (s.getD (i + 1) default).a (s.getD (i + 1) default).b → _ := fun j hj => (path_mid hal hlt hj).symm
      have hP := path_at hal (show i < s.length by omega)
      have hlen : (linesT s i).length - 1 + lineN (s.getD i default).a (s.getD i default).b (s.getD (i + 1) default).a (s.getD (i + 1) default).b + 1 ≤ (pathL s).length := by
        obtain ⟨t, ht⟩ := linesT_pre s (i + 1) (s.length - 1) (by omega)
        have := linesT_pos s i
        unfold pathL
        rw [ht, List.length_append, linesT, List.length_append, lineL_len]
        omega
      have hend : (linesT s (i + 1)).length - 1 = (linesT s i).length - 1 + lineN (s.getD i default).a (s.getD i default).b (s.getD (i + 1) default).a (s.getD (i + 1) default).b := by
        have := linesT_pos s i
        rw [linesT, List.length_append, lineL_len]; omega
      simp only [e1, e2]
      generalize lineN (s.getD i default).a (s.getD i default).b (s.getD (i + 1) default).a (s.getD (i + 1) default).b = n at *
      generalize lineL (s.getD i default).a (s.getD i default).b (s.getD (i + 1) default).a (s.getD (i + 1) default).b = L at *
      generalize (linesT s i).length - 1 = M at *
      simp only [← hP]
      have hfew := hg.ok.few
      have hdd : ∀ j, j ≤ n → Dims w h (m + (M + j : Nat)) (walkE k U (pathL s) (M + j)) := fun j hj => walk_dims hd hw hk (M + j) (by omega)
      have hst : ∀ j, walkE k U (pathL s) (M + j + 1) = stepE k (walkE k U (pathL s) (M + j)) ((pathL s).getD (M + j) default) ((pathL s).getD (M + j + 1) default) := fun j => rfl
      refine loop_at (fun j : Nat => j ≤ n) 8 (fun j => [(28, .int .i64 j)]) (fun j => [(6, .flat true (.gen 2 [[.int .i64 ((pathL s).getD (M + j) default).a, .int .i64 ((pathL s).getD (M + j) default).b]])), (0, .nestI true .i64 (walkE k U (pathL s) (M + j)).1), (2, .nestI true .i64 (walkE k U (pathL s) (M + j)).2)]) (fun j => n - j) 0 (Nat.zero_le _) ?_ (fun j hj => ?_)
      · repeat' ((conv => whnf); first | done | refine ev_step ?_ | refine ops_step ?_ | refine scan_step ?_ | refine draw_step ?_ | refine each_step ?_ | refine sl_step ?_ | refine hp_step ?_ | refine guard_no (by decide) ?_ | refine guard_go ?_ | refine guard_old ?_ | apply cut_auto | with_reducible exact CutS.mk (Or.inl ⟨rfl, rfl, rfl⟩) | refine CutS.mk (Or.inr (sub_auto ?_)) | exact trivial | refine And.intro ?_ ?_ | refine cond_split ?_ ?_ | apply guess | exact Or.inl rfl | exact Or.inr rfl | exact Side.mk trivial | exact Side.mk (fun h => h) | exact Side.mk (fun h => ⟨h, h⟩) | with_reducible exact Side.mk rfl | with_reducible exact Side.mk ⟨rfl, rfl⟩ | with_reducible exact Side.mk (by assumption) | with_reducible rfl | intro _)
        all_goals try (conv => whnf)
        all_goals first | rfl | (simp; done) | trace_state
      · have hdj := hdd j hj
        have hsj := hst j
        by_cases hjt : j < n
        · have hLj := hL j hjt
          have hp := hw.1 (M + j) (by omega)
          have hq := hw.1 (M + j + 1) (by omega)
          have hc := step_at hp hq (hw.2 (M + j) (by omega))
          clear hst hdd hL
          generalize walkE k U (pathL s) (M + j) = W at *
          generalize hW2 : walkE k U (pathL s) (M + j + 1) = W2 at *
          generalize (pathL s).getD (M + j) default = p at *
          generalize hqe : (pathL s).getD (M + j + 1) default = q at *
          unfold inG at hp hq
          rcases hc with ⟨q1, q2, q3, _⟩ | ⟨q1, q0, q2, q3⟩
          · have hb := hdj.a.bd _ q2 _ q3
            have hr := hdj.a.each _ q2
            have ke := k_edgeA h W p q ⟨q1, by omega, by omega, by omega, hdj.a.len, q2, by omega⟩
            rw [stepE, if_pos q1] at hsj
            have hin : inI64 ((W.1.getD p.b.toNat []).getD (min p.a q.a).toNat 0 + k) := by omega
            have hal2 := hdj.a.len
            repeat' ((conv => whnf); first | done | refine ev_step ?_ | refine ops_step ?_ | refine scan_step ?_ | refine draw_step ?_ | refine each_step ?_ | refine sl_step ?_ | refine hp_step ?_ | refine guard_no (by decide) ?_ | refine guard_go ?_ | refine guard_old ?_ | apply cut_auto | with_reducible exact CutS.mk (Or.inl ⟨rfl, rfl, rfl⟩) | refine CutS.mk (Or.inr (sub_auto ?_)) | exact trivial | refine And.intro ?_ ?_ | (refine cond_split ?_ ?_ <;> intro _ <;> first | (exfalso; first | omega | (simp_all; done) | (simp_all; omega)) | skip) | apply guess | refine FnIs.useE (ke) rfl ?_ | exact Or.inl rfl | exact Or.inr rfl | exact Side.mk trivial | exact Side.mk (fun h => h) | exact Side.mk (fun h => ⟨h, h⟩) | with_reducible exact Side.mk rfl | with_reducible exact Side.mk ⟨rfl, rfl⟩ | with_reducible exact Side.mk (by assumption) | with_reducible rfl | intro _)
            all_goals try (conv => whnf)
            all_goals try simp only [Int.toNat_natCast, hLj] at *
            all_goals try (refine Side.mk ?_; first | (intros; omega) | (intro h1_ h2_; rw [h1_, h2_]; rfl) | (show List.length (_ ++ _) ≤ _; simp only [List.length_append, List.length_cons, List.length_nil, List.length_replicate, List.length_take]; omega) | (simp_all; done) | (simp_all; omega))
            all_goals try omega
            refine ⟨j + 1, by omega, by omega, ?_⟩
            repeat' ((conv => whnf); first | done | refine ev_step ?_ | refine ops_step ?_ | refine scan_step ?_ | refine draw_step ?_ | refine each_step ?_ | refine sl_step ?_ | refine hp_step ?_ | refine guard_no (by decide) ?_ | refine guard_go ?_ | refine guard_old ?_ | apply cut_auto | with_reducible exact CutS.mk (Or.inl ⟨rfl, rfl, rfl⟩) | refine CutS.mk (Or.inr (sub_auto ?_)) | exact trivial | refine And.intro ?_ ?_ | refine cond_split ?_ ?_ | apply guess | exact Or.inl rfl | exact Or.inr rfl | exact Side.mk trivial | exact Side.mk (fun h => h) | exact Side.mk (fun h => ⟨h, h⟩) | with_reducible exact Side.mk rfl | with_reducible exact Side.mk ⟨rfl, rfl⟩ | with_reducible exact Side.mk (by assumption) | with_reducible rfl | intro _)
            all_goals try (conv => whnf)
            all_goals first | rfl | omega | (rw [show M + (j + 1) = M + j + 1 from rfl, hqe]; done) | (rw [show M + (j + 1) = M + j + 1 from rfl, hW2, hsj]; rfl) | (rw [show M + (j + 1) = M + j + 1 from rfl, hW2, hsj]; done) | trace_state
          · have hb := hdj.u.bd _ q2 _ q3
            have hr := hdj.u.each _ q2
            have ke := k_edgeU h W p q ⟨q1, by omega, by omega, by omega, hdj.u.len, q2, by omega⟩
            rw [stepE, if_neg q1] at hsj
            have hin : inI64 ((W.2.getD (min p.b q.b).toNat []).getD p.a.toNat 0 + k) := by omega
            have hal2 := hdj.u.len
            repeat' ((conv => whnf); first | done | refine ev_step ?_ | refine ops_step ?_ | refine scan_step ?_ | refine draw_step ?_ | refine each_step ?_ | refine sl_step ?_ | refine hp_step ?_ | refine guard_no (by decide) ?_ | refine guard_go ?_ | refine guard_old ?_ | apply cut_auto | with_reducible exact CutS.mk (Or.inl ⟨rfl, rfl, rfl⟩) | refine CutS.mk (Or.inr (sub_auto ?_)) | exact trivial | refine And.intro ?_ ?_ | (refine cond_split ?_ ?_ <;> intro _ <;> first | (exfalso; first | omega | (simp_all; done) | (simp_all; omega)) | skip) | apply guess | refine FnIs.useE (ke) rfl ?_ | exact Or.inl rfl | exact Or.inr rfl | exact Side.mk trivial | exact Side.mk (fun h => h) | exact Side.mk (fun h => ⟨h, h⟩) | with_reducible exact Side.mk rfl | with_reducible exact Side.mk ⟨rfl, rfl⟩ | with_reducible exact Side.mk (by assumption) | with_reducible rfl | intro _)
            all_goals try (conv => whnf)
            all_goals try simp only [Int.toNat_natCast, hLj] at *
            all_goals try (refine Side.mk ?_; first | (intros; omega) | (intro h1_ h2_; rw [h1_, h2_]; rfl) | (show List.length (_ ++ _) ≤ _; simp only [List.length_append, List.length_cons, List.length_nil, List.length_replicate, List.length_take]; omega) | (simp_all; done) | (simp_all; omega))
            all_goals try omega
            refine ⟨j + 1, by omega, by omega, ?_⟩
            repeat' ((conv => whnf); first | done | refine ev_step ?_ | refine ops_step ?_ | refine scan_step ?_ | refine draw_step ?_ | refine each_step ?_ | refine sl_step ?_ | refine hp_step ?_ | refine guard_no (by decide) ?_ | refine guard_go ?_ | refine guard_old ?_ | apply cut_auto | with_reducible exact CutS.mk (Or.inl ⟨rfl, rfl, rfl⟩) | refine CutS.mk (Or.inr (sub_auto ?_)) | exact trivial | refine And.intro ?_ ?_ | refine cond_split ?_ ?_ | apply guess | exact Or.inl rfl | exact Or.inr rfl | exact Side.mk trivial | exact Side.mk (fun h => h) | exact Side.mk (fun h => ⟨h, h⟩) | with_reducible exact Side.mk rfl | with_reducible exact Side.mk ⟨rfl, rfl⟩ | with_reducible exact Side.mk (by assumption) | with_reducible rfl | intro _)
            all_goals try (conv => whnf)
            all_goals first | rfl | omega | (rw [show M + (j + 1) = M + j + 1 from rfl, hqe]; done) | (rw [show M + (j + 1) = M + j + 1 from rfl, hW2, hsj]; rfl) | (rw [show M + (j + 1) = M + j + 1 from rfl, hW2, hsj]; done) | trace_state
        · obtain rfl : j = n := by omega
          repeat' ((conv => whnf); first | done | refine ev_step ?_ | refine ops_step ?_ | refine scan_step ?_ | refine draw_step ?_ | refine each_step ?_ | refine sl_step ?_ | refine hp_step ?_ | refine guard_no (by decide) ?_ | refine guard_go ?_ | refine guard_old ?_ | apply cut_auto | with_reducible exact CutS.mk (Or.inl ⟨rfl, rfl, rfl⟩) | refine CutS.mk (Or.inr (sub_auto ?_)) | exact trivial | refine And.intro ?_ ?_ | (refine cond_split ?_ ?_ <;> intro _ <;> first | (exfalso; first | omega | (simp only [decide_eq_true_eq, decide_eq_false_iff_not, Bool.not_eq_true', Bool.not_eq_false', ne_eq, Bool.not_true, Bool.not_false, cond_true, cond_false, Bool.true_eq_false, Bool.false_eq_true, Bool.and_eq_true, Bool.and_eq_false_iff] at *; omega)) | skip) | apply guess | exact Or.inl rfl | exact Or.inr rfl | exact Side.mk trivial | exact Side.mk (fun h => h) | exact Side.mk (fun h => ⟨h, h⟩) | with_reducible exact Side.mk rfl | with_reducible exact Side.mk ⟨rfl, rfl⟩ | with_reducible exact Side.mk (by assumption) | with_reducible rfl | intro _)
          all_goals try (conv => whnf)
          all_goals try (refine Side.mk ?_; first | (intros; omega) | (intro h1_ h2_; rw [h1_, h2_]; rfl) | (show List.length (_ ++ _) ≤ _; simp only [List.length_append, List.length_cons, List.length_nil, List.length_replicate, List.length_take]; omega) | (simp_all; done) | (simp_all; omega))
          all_goals try omega
          refine ⟨i + 1, by omega, by omega, ?_⟩
          repeat' ((conv => whnf); first | done | refine ev_step ?_ | refine ops_step ?_ | refine scan_step ?_ | refine draw_step ?_ | refine each_step ?_ | refine sl_step ?_ | refine hp_step ?_ | refine guard_no (by decide) ?_ | refine guard_go ?_ | refine guard_old ?_ | apply cut_auto | with_reducible exact CutS.mk (Or.inl ⟨rfl, rfl, rfl⟩) | refine CutS.mk (Or.inr (sub_auto ?_)) | exact trivial | refine And.intro ?_ ?_ | refine cond_split ?_ ?_ | apply guess | exact Or.inl rfl | exact Or.inr rfl | exact Side.mk trivial | exact Side.mk (fun h => h) | exact Side.mk (fun h => ⟨h, h⟩) | with_reducible exact Side.mk rfl | with_reducible exact Side.mk ⟨rfl, rfl⟩ | with_reducible exact Side.mk (by assumption) | with_reducible rfl | intro _)
          all_goals try (conv => whnf)
          all_goals first | rfl | omega | (rw [hend]; done) | trace_state
    · have hpe : (pathL s).length - 1 = (linesT s i).length - 1 := by unfold pathL; rw [show s.length - 1 = i by omega]
      have hue : useE k U s = walkE k U (pathL s) ((linesT s i).length - 1) := by unfold useE; rw [hpe]
      rw [hue]
      repeat' ((conv => whnf); first | done | refine ev_step ?_ | refine ops_step ?_ | refine scan_step ?_ | refine draw_step ?_ | refine each_step ?_ | refine sl_step ?_ | refine hp_step ?_ | refine guard_no (by decide) ?_ | refine guard_go ?_ | refine guard_old ?_ | apply cut_auto | with_reducible exact CutS.mk (Or.inl ⟨rfl, rfl, rfl⟩) | refine CutS.mk (Or.inr (sub_auto ?_)) | exact trivial | refine And.intro ?_ ?_ | (refine cond_split ?_ ?_ <;> intro _ <;> first | (exfalso; first | omega | (simp only [decide_eq_true_eq, decide_eq_false_iff_not, Bool.not_eq_true', Bool.not_eq_false', ne_eq, Bool.not_true, Bool.not_false, cond_true, cond_false, Bool.true_eq_false, Bool.false_eq_true, Bool.and_eq_true, Bool.and_eq_false_iff] at *; omega)) | skip) | apply guess | exact Or.inl rfl | exact Or.inr rfl | exact Side.mk trivial | exact Side.mk (fun h => h) | exact Side.mk (fun h => ⟨h, h⟩) | with_reducible exact Side.mk rfl | with_reducible exact Side.mk ⟨rfl, rfl⟩ | with_reducible exact Side.mk (by assumption) | with_reducible rfl | intro _)
      all_goals try (conv => whnf)
      all_goals try (refine Side.mk ?_; first | (intros; omega) | (intro h1_ h2_; rw [h1_, h2_]; rfl) | (show List.length (_ ++ _) ≤ _; simp only [List.length_append, List.length_cons, List.length_nil, List.length_replicate, List.length_take]; omega) | (simp_all; done) | (simp_all; omega))
      all_goals first | omega | rfl | trace_state
end Go.Sx.U
