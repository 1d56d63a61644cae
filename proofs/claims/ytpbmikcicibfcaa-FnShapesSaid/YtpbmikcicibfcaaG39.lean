/-
  Chapter 8: the program's paths through corners (contracts).
-/
import Derived.Test.YtpbmikcicibfcaaG38
import Derived.Test.YtpbmikcicibfcaaG16
import Derived.Test.YtpbmikcicibfcaaKSB
set_option linter.unusedSimpArgs false
namespace Go.Sx.U
set_option linter.unusedVariables false
set_option linter.unusedSimpArgs false
set_option maxRecDepth 100000
set_option maxHeartbeats 8000000
open Go Go.Sx Go.Proofs Go.Sx.M8

theorem k_through1 (s : List R2) (h : GoodShape s) (h1 : s.length = 1) : FnIs Try.prog 89 [.sl 0 []] 1 [(0, .flat false (.r2 s))] (.tuple [.sub 0 [] 0 1 (some 1), .bool true]) 2 [(1, .flat true (.r2 s))] := by
  have hp : pathL s = s := by
    match s, h1 with
    | [p], _ => rfl
  have hok := h.ok
  have hcn := h.corn
  rw [hp] at hok hcn
  have kq := k_IsPathP s hok
  have kc := k_cornersP s ⟨⟨by omega, path_sm hok⟩⟩
  rw [hcn] at kc
  have ka := k_AllPoint8 s ⟨⟨by omega, hok.pt⟩⟩
  have ke := k_EqualP s ⟨by omega, path_sm hok⟩
  refine fn_of_evk [0, 2, 3, 4, 5, 6, 7, 19, 25, 58] tok Try.func89 rfl rfl rfl ?_
  have a1 : decide ((s.length : Int) = 0) = false := decide_eq_false (by omega)
  have a2 : decide ((576 : Int) < (s.length : Int)) = false := decide_eq_false (by omega)
  repeat' ((conv => whnf); first | done | refine ev_step ?_ | refine ops_step ?_ | refine scan_step ?_ | refine draw_step ?_ | refine each_step ?_ | refine sl_step ?_ | refine hp_step ?_ | refine guard_no (by decide) ?_ | refine guard_go ?_ | refine guard_old ?_ | apply cut_auto | with_reducible exact CutS.mk (Or.inl ⟨rfl, rfl, rfl⟩) | refine CutS.mk (Or.inr (sub_auto ?_)) | exact trivial | refine And.intro ?_ ?_ | (refine cond_split ?_ ?_ <;> intro hq_ <;> first | (exfalso; first | omega | (simp only [a1, a2, cond_true, cond_false, Bool.not_true, Bool.not_false, Bool.and_true, Bool.true_and, Bool.and_false, Bool.false_and, Bool.or_true, Bool.true_or, Bool.or_false, Bool.false_or, Bool.true_eq_false, Bool.false_eq_true, decide_true, decide_false, reduceCtorEq] at hq_; done) | (rw [decide_eq_false_iff_not] at hq_; omega) | (rw [decide_eq_true_eq] at hq_; omega) | (simp only [a1, a2, reduceCtorEq] at hq_; done) | exact Bool.noConfusion (Eq.trans (Eq.symm a1) hq_) | exact Bool.noConfusion (Eq.trans (Eq.symm a2) hq_)) | skip) | apply guess | apply FnIs.useS (ka) | exact Or.inl rfl | exact Or.inr rfl | exact Side.mk trivial | exact Side.mk (fun h => h) | exact Side.mk (fun h => ⟨h, h⟩) | with_reducible exact Side.mk rfl | with_reducible exact Side.mk ⟨rfl, rfl⟩ | with_reducible exact Side.mk (by assumption) | with_reducible rfl | intro _)
  all_goals try (conv => whnf)
  all_goals try (refine Side.mk ?_; first | (intros; omega) | (intro h1_ h2_; rw [h1_, h2_]; rfl) | (show List.length (_ ++ _) ≤ _; simp only [List.length_append, List.length_cons, List.length_nil, List.length_replicate, List.length_take]; omega) | (simp_all; done) | (simp_all; omega))
  have d1 : decide ((1 : Int) < (s.length : Int)) = false := decide_eq_false (by omega)
  refine loop_at (fun _ : Nat => True) 1 (fun _ => [(5, .int .i64 1), (4, .sub 0 [] 0 1 (some 1)), (6, .top), (7, .top), (25, .top), (58, .top)]) (fun _ => []) (fun i => 0) 1 trivial ?_ (fun i hi => ?_)
  · repeat' ((conv => whnf); first | done | refine ev_step ?_ | refine ops_step ?_ | refine scan_step ?_ | refine draw_step ?_ | refine each_step ?_ | refine sl_step ?_ | refine hp_step ?_ | refine guard_no (by decide) ?_ | refine guard_go ?_ | refine guard_old ?_ | apply cut_auto | with_reducible exact CutS.mk (Or.inl ⟨rfl, rfl, rfl⟩) | refine CutS.mk (Or.inr (sub_auto ?_)) | exact trivial | refine And.intro ?_ ?_ | refine cond_split ?_ ?_ | apply guess | exact Or.inl rfl | exact Or.inr rfl | exact Side.mk trivial | exact Side.mk (fun h => h) | exact Side.mk (fun h => ⟨h, h⟩) | with_reducible exact Side.mk rfl | with_reducible exact Side.mk ⟨rfl, rfl⟩ | with_reducible exact Side.mk (by assumption) | with_reducible rfl | intro _)
    all_goals try (conv => whnf)
    all_goals first | rfl | trace_state
  · repeat' ((conv => whnf); first | done | refine ev_step ?_ | refine ops_step ?_ | refine scan_step ?_ | refine draw_step ?_ | refine each_step ?_ | refine sl_step ?_ | refine hp_step ?_ | refine guard_yes rfl ?_ | refine ACall.sub1 rfl h1 (FnIs.useF kq ?_) | refine ACall.sub1 rfl h1 (FnIs.useF kc ?_) | refine guard_no (by decide) ?_ | refine guard_go ?_ | refine guard_old ?_ | apply cut_auto | with_reducible exact CutS.mk (Or.inl ⟨rfl, rfl, rfl⟩) | refine CutS.mk (Or.inr (sub_auto ?_)) | exact trivial | refine And.intro ?_ ?_ | (refine cond_split ?_ ?_ <;> intro hq_ <;> first | (exfalso; first | omega | (simp only [d1, cond_true, cond_false, Bool.not_true, Bool.not_false, Bool.and_true, Bool.true_and, Bool.and_false, Bool.false_and, Bool.or_true, Bool.true_or, Bool.or_false, Bool.false_or, Bool.true_eq_false, Bool.false_eq_true, decide_true, decide_false, reduceCtorEq] at hq_; done) | (rw [decide_eq_false_iff_not] at hq_; omega) | (rw [decide_eq_true_eq] at hq_; omega) | (simp only [d1, reduceCtorEq] at hq_; done) | exact Bool.noConfusion (Eq.trans (Eq.symm d1) hq_)) | skip) | apply guess | apply FnIs.useF (ke) | exact Or.inl rfl | exact Or.inr rfl | exact Side.mk trivial | exact Side.mk (fun h => h) | exact Side.mk (fun h => ⟨h, h⟩) | with_reducible exact Side.mk rfl | with_reducible exact Side.mk ⟨rfl, rfl⟩ | with_reducible exact Side.mk (by assumption) | with_reducible rfl | intro _)
    all_goals try (conv => whnf)
    all_goals try (refine Side.mk ?_; first | (intros; omega) | (intro h1_ h2_; rw [h1_, h2_]; rfl) | (show List.length (_ ++ _) ≤ _; simp only [List.length_append, List.length_cons, List.length_nil, List.length_replicate, List.length_take]; omega) | (simp_all; done) | (simp_all; omega))
    all_goals first | rfl | omega | trace_state
theorem cornT_sub (xs : List R2) : ∀ i, i ≤ xs.length → (cornT xs i).Sublist (xs.take i)
  | 0, _ => by simp [cornT]
  | i + 1, h => by
    have e : xs.take (i + 1) = xs.take i ++ [xs.getD i default] := by
      rw [List.take_add_one, List.getElem?_eq_getElem (by omega), List.getD, List.getElem?_eq_getElem (by omega)]
      rfl
    rw [e]
    have ih := cornT_sub xs i (by omega)
    simp only [cornT]
    split
    · exact ih.append (List.Sublist.refl _)
    · exact ih.trans (List.sublist_append_left _ _)
theorem good_nodup {s : List R2} (h : GoodShape s) : s.Nodup := by
  have e := cornT_sub (pathL s) (pathL s).length (Nat.le_refl _)
  rw [List.take_length] at e
  have hc : cornT (pathL s) (pathL s).length = s := h.corn
  rw [hc] at e
  exact e.nodup (path_nodup h.ok)
theorem nodup_ne {s : List R2} (h : s.Nodup) {i j : Nat} (hij : i < j) (hj : j < s.length) : s.getD i default ≠ s.getD j default := by
  rw [List.nodup_iff_pairwise_ne, List.pairwise_iff_getElem] at h
  have := h i j (by omega) hj hij
  rw [List.getD, List.getD, List.getElem?_eq_getElem (by omega), List.getElem?_eq_getElem hj]
  exact this
theorem take_one {s : List R2} (h : 1 ≤ s.length) : (s.drop 0).take 1 = linesT s 0 := by
  cases s with
  | nil => simp at h
  | cons p r => rfl
theorem k_through2 (s : List R2) (h : GoodShape s) (h2 : 2 ≤ s.length) : FnIs Try.prog 89 [.sl 0 []] 1 [(0, .flat false (.r2 s))] (.tuple [.sl 1 [], .bool true]) 2 [(1, .flat true (.r2 (pathL s)))] := by
  have h3 := h.few
  have hnd := good_nodup h
  have kq := k_IsPathP (pathL s) h.ok
  have kc := k_cornersP (pathL s) ⟨⟨by have := h.ok.one; have := h.ok.few; omega, path_sm h.ok⟩⟩
  rw [h.corn] at kc
  have hce := h.cel
  have hal := h.ali
  have ka := k_AllPoint8 s ⟨⟨by omega, fun i hi => by have := hce i hi; unfold ptOk; omega⟩⟩
  have ke := k_EqualP s ⟨by omega, fun i hi => by have := hce i hi; unfold smI; omega⟩
  have hlb : ∀ i, i < s.length → (linesT s i).length ≤ 576 := fun i hi => lines_bd h hi
  have hpl : pathL s = linesT s (s.length - 1) := rfl
  have kl : ∀ i, i + 1 < s.length → FnIs Try.prog 110 [ptV (s.getD i default).a (s.getD i default).b, ptV (s.getD (i + 1) default).a (s.getD (i + 1) default).b] 0 [] (.sl 0 []) 1 [(0, .flat true (.r2 (lineL (s.getD i default).a (s.getD i default).b (s.getD (i + 1) default).a (s.getD (i + 1) default).b)))] := fun i hi => k_line _ _ _ _ ⟨by have := hal i hi; unfold aligned at this; exact this, by have := hce i (by omega); have := hce (i + 1) hi; unfold smI; omega⟩
  have hne : ∀ i, i + 1 < s.length → (decide ((s.getD i default).a = (s.getD (i + 1) default).a) && decide ((s.getD i default).b = (s.getD (i + 1) default).b)) = false := fun i hi => by
    rw [r2_eq]
    exact decide_eq_false (nodup_ne hnd (by omega) hi)
  have hax : ∀ i, i + 1 < s.length → decide ((s.getD i default).a ≠ (s.getD (i + 1) default).a) = false ∨ decide ((s.getD i default).b ≠ (s.getD (i + 1) default).b) = false := fun i hi => by
    have := hal i hi
    unfold aligned at this
    rcases this with e | e
    · exact .inl (decide_eq_false (fun q => q e))
    · exact .inr (decide_eq_false (fun q => q e))
  have hlpos : ∀ i, i + 1 < s.length → 0 < (lineL (s.getD i default).a (s.getD i default).b (s.getD (i + 1) default).a (s.getD (i + 1) default).b).length := fun i hi => by
    rw [lineL_len]
    unfold lineN
    have h1 := nodup_ne hnd (show i < i + 1 by omega) hi
    have : (s.getD i default).a ≠ (s.getD (i + 1) default).a ∨ (s.getD i default).b ≠ (s.getD (i + 1) default).b := by
      refine Classical.byContradiction fun q => h1 ?_
      rw [not_or, Classical.not_not, Classical.not_not] at q
      cases hx : s.getD i default; cases hy : s.getD (i + 1) default
      rw [hx, hy] at q
      simp only at q
      rw [q.1, q.2]
    omega
  clear h hal hnd
  refine fn_of_evk [0, 2, 3, 4, 5, 6, 7, 19, 25, 58] tok Try.func89 rfl rfl rfl ?_
  have a1 : decide ((s.length : Int) = 0) = false := decide_eq_false (by omega)
  have a2 : decide ((576 : Int) < (s.length : Int)) = false := decide_eq_false (by omega)
  repeat' ((conv => whnf); first | done | refine ev_step ?_ | refine ops_step ?_ | refine scan_step ?_ | refine draw_step ?_ | refine each_step ?_ | refine sl_step ?_ | refine hp_step ?_ | refine guard_no (by decide) ?_ | refine guard_go ?_ | refine guard_old ?_ | apply cut_auto | with_reducible exact CutS.mk (Or.inl ⟨rfl, rfl, rfl⟩) | refine CutS.mk (Or.inr (sub_auto ?_)) | exact trivial | refine And.intro ?_ ?_ | (refine cond_split ?_ ?_ <;> intro hq_ <;> first | (exfalso; first | omega | (simp only [a1, a2, cond_true, cond_false, Bool.not_true, Bool.not_false, Bool.and_true, Bool.true_and, Bool.and_false, Bool.false_and, Bool.or_true, Bool.true_or, Bool.or_false, Bool.false_or, Bool.true_eq_false, Bool.false_eq_true, decide_true, decide_false, reduceCtorEq] at hq_; done) | (rw [decide_eq_false_iff_not] at hq_; omega) | (rw [decide_eq_true_eq] at hq_; omega) | (simp only [a1, a2, reduceCtorEq] at hq_; done) | exact Bool.noConfusion (Eq.trans (Eq.symm a1) hq_) | exact Bool.noConfusion (Eq.trans (Eq.symm a2) hq_)) | skip) | apply guess | apply FnIs.useS (ka) | exact Or.inl rfl | exact Or.inr rfl | exact Side.mk trivial | exact Side.mk (fun h => h) | exact Side.mk (fun h => ⟨h, h⟩) | with_reducible exact Side.mk rfl | with_reducible exact Side.mk ⟨rfl, rfl⟩ | with_reducible exact Side.mk (by assumption) | with_reducible rfl | intro _)
  all_goals try (conv => whnf)
  all_goals try (refine Side.mk ?_; first | (intros; omega) | (intro h1_ h2_; rw [h1_, h2_]; rfl) | (show List.length (_ ++ _) ≤ _; simp only [List.length_append, List.length_cons, List.length_nil, List.length_replicate, List.length_take]; omega) | (simp_all; done) | (simp_all; omega))
  refine loop_at (fun o : Option Nat => match o with | none => True | some i => 1 ≤ i ∧ i + 1 ≤ s.length) 2 (fun o => match o with | none => [(5, .int .i64 1), (4, .sub 0 [] 0 1 (some 1)), (6, .top), (7, .top), (25, .top), (58, .top)] | some i => [(5, .int .i64 ((i : Int) + 1)), (4, .sl 1 []), (6, .top), (7, .top), (25, .top), (58, .top)]) (fun o => match o with | none => [] | some i => [(1, .flat true (.r2 (linesT s i)))]) (fun o => match o with | none => s.length | some i => s.length - i) none trivial ?_ (fun o ho => ?_)
  · repeat' ((conv => whnf); first | done | refine ev_step ?_ | refine ops_step ?_ | refine scan_step ?_ | refine draw_step ?_ | refine each_step ?_ | refine sl_step ?_ | refine hp_step ?_ | refine guard_no (by decide) ?_ | refine guard_go ?_ | refine guard_old ?_ | apply cut_auto | with_reducible exact CutS.mk (Or.inl ⟨rfl, rfl, rfl⟩) | refine CutS.mk (Or.inr (sub_auto ?_)) | exact trivial | refine And.intro ?_ ?_ | refine cond_split ?_ ?_ | apply guess | exact Or.inl rfl | exact Or.inr rfl | exact Side.mk trivial | exact Side.mk (fun h => h) | exact Side.mk (fun h => ⟨h, h⟩) | with_reducible exact Side.mk rfl | with_reducible exact Side.mk ⟨rfl, rfl⟩ | with_reducible exact Side.mk (by assumption) | with_reducible rfl | intro _)
    all_goals try (conv => whnf)
    all_goals first | rfl | trace_state
  · rcases o with _ | i
    · have hn := linesT_next s 0
      have e1 := take_one (s := s) (by omega)
      have kl0 := kl 0 (by omega)
      have hlp := hlpos 0 (by omega)
      have hlb1 := hlb (0 + 1) (by omega)
      have hcond : (bif bif (decide ((s.getD ((1 : Int) - 1).toNat default).a = (s.getD (Int.toNat 1) default).a) && decide ((s.getD ((1 : Int) - 1).toNat default).b = (s.getD (Int.toNat 1) default).b)) then true else bif decide ((s.getD ((1 : Int) - 1).toNat default).a ≠ (s.getD (Int.toNat 1) default).a) then decide ((s.getD ((1 : Int) - 1).toNat default).b ≠ (s.getD (Int.toNat 1) default).b) else false then true else decide ((576 : Int) < ((1 : Nat) : Int))) = false := by
        rw [show ((1 : Int) - 1).toNat = 0 from rfl, show Int.toNat 1 = 0 + 1 from rfl, hne 0 (by omega)]
        rcases hax 0 (by omega) with d1 | d1 <;> rw [d1] <;> simp
      have b0 := hce 0 (by omega)
      have b1 := hce 1 (by omega)
      have d9 : decide ((1 : Int) < (s.length : Int)) = true := decide_eq_true (by omega)
      rw [e1.symm] at hn
      clear hce hne hax kl hlb
      repeat' ((conv => whnf); first | done | refine ev_step ?_ | refine ops_step ?_ | refine scan_step ?_ | refine draw_step ?_ | refine each_step ?_ | refine sl_step ?_ | refine hp_step ?_ | refine guard_no (by decide) ?_ | refine guard_go ?_ | refine guard_old ?_ | apply cut_auto | with_reducible exact CutS.mk (Or.inl ⟨rfl, rfl, rfl⟩) | refine CutS.mk (Or.inr (sub_auto ?_)) | exact trivial | refine And.intro ?_ ?_ | (refine cond_split ?_ ?_ <;> intro hq_ <;> first | (exfalso; first | omega | (simp only [hcond, d9, cond_true, cond_false, Bool.not_true, Bool.not_false, Bool.and_true, Bool.true_and, Bool.and_false, Bool.false_and, Bool.or_true, Bool.true_or, Bool.or_false, Bool.false_or, Bool.true_eq_false, Bool.false_eq_true, decide_true, decide_false, reduceCtorEq] at hq_; done) | (rw [decide_eq_false_iff_not] at hq_; omega) | (rw [decide_eq_true_eq] at hq_; omega) | (simp only [hcond, d9, reduceCtorEq] at hq_; done) | exact Bool.noConfusion (Eq.trans (Eq.symm hcond) hq_) | exact Bool.noConfusion (Eq.trans (Eq.symm d9) hq_)) | skip) | apply guess | apply FnIs.useF (kl0) | exact Or.inl rfl | exact Or.inr rfl | exact Side.mk trivial | exact Side.mk (fun h => h) | exact Side.mk (fun h => ⟨h, h⟩) | with_reducible exact Side.mk rfl | with_reducible exact Side.mk ⟨rfl, rfl⟩ | with_reducible exact Side.mk (by assumption) | with_reducible rfl | intro _)
      all_goals try (conv => whnf)
      all_goals try exact show s.getD 0 default = s.getD ((1 : Int) - 1).toNat default from rfl
      all_goals try rfl
      all_goals try (refine Side.mk ?_; show (inI64 (s.getD 0 default).a ∧ inI64 (s.getD 0 default).b) ∧ inI64 (s.getD 1 default).a ∧ inI64 (s.getD 1 default).b; unfold inI64; omega)
      all_goals try (refine Side.mk ?_; show 0 + 1 ≤ s.length; omega)
      all_goals try (refine Side.mk ?_; show _ + List.length _ ≤ _ → _; intro h; omega)
      all_goals try (refine Side.mk ?_; show List.length (_ ++ _) ≤ _; rw [← hn]; omega)
      all_goals try (refine Side.mk ?_; first | (intros; omega) | (intro h1_ h2_; rw [h1_, h2_]; rfl) | (show List.length (_ ++ _) ≤ _; simp only [List.length_append, List.length_cons, List.length_nil, List.length_replicate, List.length_take]; omega) | (simp_all; done) | (simp_all; omega))
      refine ⟨some 1, ⟨by omega, by omega⟩, by show s.length - 1 < s.length; omega, ?_⟩
      repeat' ((conv => whnf); first | done | refine ev_step ?_ | refine ops_step ?_ | refine scan_step ?_ | refine draw_step ?_ | refine each_step ?_ | refine sl_step ?_ | refine hp_step ?_ | refine guard_no (by decide) ?_ | refine guard_go ?_ | refine guard_old ?_ | apply cut_auto | with_reducible exact CutS.mk (Or.inl ⟨rfl, rfl, rfl⟩) | refine CutS.mk (Or.inr (sub_auto ?_)) | exact trivial | refine And.intro ?_ ?_ | refine cond_split ?_ ?_ | apply guess | exact Or.inl rfl | exact Or.inr rfl | exact Side.mk trivial | exact Side.mk (fun h => h) | exact Side.mk (fun h => ⟨h, h⟩) | with_reducible exact Side.mk rfl | with_reducible exact Side.mk ⟨rfl, rfl⟩ | with_reducible exact Side.mk (by assumption) | with_reducible rfl | intro _)
      all_goals try (conv => whnf)
      all_goals first | rfl | omega | (rw [hn]; done) | trace_state
    · obtain ⟨i1, i2⟩ := ho
      by_cases hlt : i + 1 < s.length
      · have hn := linesT_next s i
        have hlp := hlpos i hlt
        have hlb1 := hlb (i + 1) hlt
        have hlb0 := hlb i (by omega)
        have q1 : ((i : Int) + 1 - 1).toNat = i := by omega
        have q2 : ((i : Int) + 1).toNat = i + 1 := by omega
        have kl0 : FnIs Try.prog 110 [ptV (s.getD ((i : Int) + 1 - 1).toNat default).a (s.getD ((i : Int) + 1 - 1).toNat default).b, ptV (s.getD ((i : Int) + 1).toNat default).a (s.getD ((i : Int) + 1).toNat default).b] 0 [] (.sl 0 []) 1 [(0, .flat true (.r2 (lineL (s.getD i default).a (s.getD i default).b (s.getD (i + 1) default).a (s.getD (i + 1) default).b)))] := by
          rw [q1, q2]
          exact kl i hlt
        have hcond : (bif bif (decide ((s.getD ((i : Int) + 1 - 1).toNat default).a = (s.getD ((i : Int) + 1).toNat default).a) && decide ((s.getD ((i : Int) + 1 - 1).toNat default).b = (s.getD ((i : Int) + 1).toNat default).b)) then true else bif decide ((s.getD ((i : Int) + 1 - 1).toNat default).a ≠ (s.getD ((i : Int) + 1).toNat default).a) then decide ((s.getD ((i : Int) + 1 - 1).toNat default).b ≠ (s.getD ((i : Int) + 1).toNat default).b) else false then true else decide ((576 : Int) < ((linesT s i).length : Int))) = false := by
          rw [q1, q2, hne i hlt, decide_eq_false (show ¬ (576 : Int) < ((linesT s i).length : Int) by omega)]
          rcases hax i hlt with d1 | d1 <;> rw [d1] <;> simp
        have b0 := hce i (by omega)
        have b1 := hce (i + 1) hlt
        have d9 : decide ((i : Int) + 1 < (s.length : Int)) = true := decide_eq_true (by omega)
        clear hce hne hax kl hlb
        repeat' ((conv => whnf); first | done | refine ev_step ?_ | refine ops_step ?_ | refine scan_step ?_ | refine draw_step ?_ | refine each_step ?_ | refine sl_step ?_ | refine hp_step ?_ | refine guard_no (by decide) ?_ | refine guard_go ?_ | refine guard_old ?_ | apply cut_auto | with_reducible exact CutS.mk (Or.inl ⟨rfl, rfl, rfl⟩) | refine CutS.mk (Or.inr (sub_auto ?_)) | exact trivial | refine And.intro ?_ ?_ | (refine cond_split ?_ ?_ <;> intro hq_ <;> first | (exfalso; first | omega | (simp only [hcond, d9, cond_true, cond_false, Bool.not_true, Bool.not_false, Bool.and_true, Bool.true_and, Bool.and_false, Bool.false_and, Bool.or_true, Bool.true_or, Bool.or_false, Bool.false_or, Bool.true_eq_false, Bool.false_eq_true, decide_true, decide_false, reduceCtorEq] at hq_; done) | (rw [decide_eq_false_iff_not] at hq_; omega) | (rw [decide_eq_true_eq] at hq_; omega) | (simp only [hcond, d9, reduceCtorEq] at hq_; done) | exact Bool.noConfusion (Eq.trans (Eq.symm hcond) hq_) | exact Bool.noConfusion (Eq.trans (Eq.symm d9) hq_)) | skip) | apply guess | apply FnIs.useF (kl0) | exact Or.inl rfl | exact Or.inr rfl | exact Side.mk trivial | exact Side.mk (fun h => h) | exact Side.mk (fun h => ⟨h, h⟩) | with_reducible exact Side.mk rfl | with_reducible exact Side.mk ⟨rfl, rfl⟩ | with_reducible exact Side.mk (by assumption) | with_reducible rfl | intro _)
        all_goals try (conv => whnf)
        all_goals try (refine Side.mk ?_; rw [q1, q2]; unfold inI64; omega)
        all_goals try (refine Side.mk ?_; show List.length (_ ++ _) ≤ _; rw [← hn]; omega)
        all_goals try (refine Side.mk ?_; first | (intros; omega) | (intro h1_ h2_; rw [h1_, h2_]; rfl) | (show List.length (_ ++ _) ≤ _; simp only [List.length_append, List.length_cons, List.length_nil, List.length_replicate, List.length_take]; omega) | (simp_all; done) | (simp_all; omega))
        refine ⟨some (i + 1), ⟨by omega, by omega⟩, by show s.length - (i + 1) < s.length - i; omega, ?_⟩
        repeat' ((conv => whnf); first | done | refine ev_step ?_ | refine ops_step ?_ | refine scan_step ?_ | refine draw_step ?_ | refine each_step ?_ | refine sl_step ?_ | refine hp_step ?_ | refine guard_no (by decide) ?_ | refine guard_go ?_ | refine guard_old ?_ | apply cut_auto | with_reducible exact CutS.mk (Or.inl ⟨rfl, rfl, rfl⟩) | refine CutS.mk (Or.inr (sub_auto ?_)) | exact trivial | refine And.intro ?_ ?_ | refine cond_split ?_ ?_ | apply guess | exact Or.inl rfl | exact Or.inr rfl | exact Side.mk trivial | exact Side.mk (fun h => h) | exact Side.mk (fun h => ⟨h, h⟩) | with_reducible exact Side.mk rfl | with_reducible exact Side.mk ⟨rfl, rfl⟩ | with_reducible exact Side.mk (by assumption) | with_reducible rfl | intro _)
        all_goals try (conv => whnf)
        all_goals first | rfl | omega | (rw [hn]; done) | (push_cast; rfl) | trace_state
      · have hpi : pathL s = linesT s i := by rw [hpl, show s.length - 1 = i by omega]
        have d9 : decide ((i : Int) + 1 < (s.length : Int)) = false := decide_eq_false (by omega)
        rw [hpi] at kq kc ⊢
        clear hce hne hax kl hlb
        repeat' ((conv => whnf); first | done | refine ev_step ?_ | refine ops_step ?_ | refine scan_step ?_ | refine draw_step ?_ | refine each_step ?_ | refine sl_step ?_ | refine hp_step ?_ | refine guard_yes rfl ?_ | refine guard_no (by decide) ?_ | refine guard_go ?_ | refine guard_old ?_ | apply cut_auto | with_reducible exact CutS.mk (Or.inl ⟨rfl, rfl, rfl⟩) | refine CutS.mk (Or.inr (sub_auto ?_)) | exact trivial | refine And.intro ?_ ?_ | (refine cond_split ?_ ?_ <;> intro hq_ <;> first | (exfalso; first | omega | (simp only [d9, cond_true, cond_false, Bool.not_true, Bool.not_false, Bool.and_true, Bool.true_and, Bool.and_false, Bool.false_and, Bool.or_true, Bool.true_or, Bool.or_false, Bool.false_or, Bool.true_eq_false, Bool.false_eq_true, decide_true, decide_false, reduceCtorEq] at hq_; done) | (rw [decide_eq_false_iff_not] at hq_; omega) | (rw [decide_eq_true_eq] at hq_; omega) | (simp only [d9, reduceCtorEq] at hq_; done) | exact Bool.noConfusion (Eq.trans (Eq.symm d9) hq_)) | skip) | apply guess | apply FnIs.useF (kq) | apply FnIs.useF (kc) | apply FnIs.useF (ke) | exact Or.inl rfl | exact Or.inr rfl | exact Side.mk trivial | exact Side.mk (fun h => h) | exact Side.mk (fun h => ⟨h, h⟩) | with_reducible exact Side.mk rfl | with_reducible exact Side.mk ⟨rfl, rfl⟩ | with_reducible exact Side.mk (by assumption) | with_reducible rfl | intro _)
        all_goals try (conv => whnf)
        all_goals try (refine Side.mk ?_; first | (intros; omega) | (intro h1_ h2_; rw [h1_, h2_]; rfl) | (show List.length (_ ++ _) ≤ _; simp only [List.length_append, List.length_cons, List.length_nil, List.length_replicate, List.length_take]; omega) | (simp_all; done) | (simp_all; omega))
        all_goals first | rfl | omega | trace_state
end Go.Sx.U
