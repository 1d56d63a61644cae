/-
  Chapter 8: the best choice: the function that calls itself (contract).
-/
import Derived.Test.YtpbmikcicibfcaaG28
import Derived.Test.YtpbmikcicibfcaaG26
import Derived.Test.YtpbmikcicibfcaaC0
set_option linter.unusedSimpArgs false
namespace Go.Sx.U
set_option linter.unusedVariables false
set_option linter.unusedSimpArgs false
set_option maxRecDepth 100000
set_option maxHeartbeats 8000000
open Go Go.Sx Go.Proofs Go.Sx.M8

/-- All shapes of all nets in one list, and where each net's shapes begin. -/
structure SegsOK (ns : List R4) (segs : List (Nat × Nat)) (xss : List (List R2)) : Prop where
  len : segs.length = ns.length
  at' : ∀ i, i < ns.length → (segs.getD i (0, 0)).2 = sN ns i ∧ ∀ k, k < sN ns i → (segs.getD i (0, 0)).1 + k < xss.length ∧ xss.getD ((segs.getD i (0, 0)).1 + k) [] = shapeOf (ns.getD i default) (k : Int)
abbrev ordB8 (o : List Int) (a : Bool × List Int) : Prop := o.length ≤ a.2.length ∧ a.2.take o.length = o ∧ (a.1 = false → a.2 = o)
abbrev chR (A V : List (List Int)) (ns : List R4) (segs : List (Nat × Nat)) (xss : List (List R2)) : Heap :=
  boxG :: (gridH false A V ++ [(6, .flat false (.rows 5 0 A.length)), (8, .flat false (.rows 7 0 (A.length - 1))), (9, .flat false (.gen 2 [[.sl 6 [], .sl 8 []]])), (10, .flat false (.r4 ns)), (11, .flat false (.gen 1 [[.sl 10 []]])),
    (15, .flat false (.gen 1 [[.sl 16 []]])), (16, .flat false (.rows 17 0 ns.length)), (17, .nestH false 18 segs), (18, .nestR2 false xss),
    (19, .flat false (.gen 1 [[.func 73 [.ptr 20 [] 0 0, .ptr 11 [] 0 0, .ptr 4 [] 0 0, .ptr 9 [] 0 0, .ptr 12 [] 0 0, .ptr 13 [] 0 0, .ptr 15 [] 0 0, .ptr 19 [] 0 0]]]))])
abbrev ordC (o : List Int) (a : Bool × List Int) : Heap := [(20, .flat true (.gen 1 [[bif a.1 then .sub 22 [] 0 o.length none else .sl 22 []]])), (22, .flat true (.ints .i64 a.2))]
abbrev chU (U : UU) : Heap := [(5, .nestI true .i64 U.1), (7, .nestI true .i64 U.2)]
abbrev chB2 (id : Nat) (b : List Int × Int) : Heap := [(12, .flat true (.gen 1 [[.int .i64 b.2]])), (13, .flat true (.gen 1 [[.sl id []]])), (id, .flat true (.ints .i64 b.1))]
abbrev GrowC (A V : List (List Int)) (ns : List R4) (segs : List (Nat × Nat)) (xss : List (List R2)) (f : Nat) (ks : List Int) : Prop :=
    FnEx Try.prog 73 [.ptr 20 [] 0 0, .ptr 11 [] 0 0, .ptr 4 [] 0 0, .ptr 9 [] 0 0, .ptr 12 [] 0 0, .ptr 13 [] 0 0, .ptr 15 [] 0 0, .ptr 19 [] 0 0] 22
      (chR A V ns segs xss ++ chU (usedT (wN A) A.length ns ks ks.length) ++ chB2 14 (bV A V ns (vH (sN ns) ks ks.length * pT (sN ns) f ks.length)) ++ [(20, .flat true (.gen 1 [[.sl 21 []]])), (21, .flat true (.ints .i64 ks))])
      (ordB8 ks) (fun _ => .tuple []) 24 (fun a => chU (usedT (wN A) A.length ns ks ks.length) ++ chB2 23 (bV A V ns ((vH (sN ns) ks ks.length + 1) * pT (sN ns) f ks.length)) ++ ordC ks a)
theorem ord_down8 {o : List Int} {x : Int} {a : Bool × List Int} (h : ordB8 (o ++ [x]) a) : ordB8 o (true, a.2) := by
  obtain ⟨h1, h2, _⟩ := h
  rw [List.length_append, List.length_singleton] at h1 h2
  refine ⟨by simp only; omega, ?_, fun e => by cases e⟩
  have := congrArg (List.take o.length) h2
  rw [List.take_take, show min o.length (o.length + 1) = o.length by omega] at this
  simp only
  rw [this]; simp
theorem vH_ok {ns : List R4} {w h : Nat} {ks : List Int} (hc : ChoiceOK w h ns ks) (hl : ks.length = ns.length) : dL (sN ns) ns.length (vH (sN ns) ks ks.length) = ks := by
  rw [hl]
  refine dL_vH hl fun i hi => ?_
  have := hc.ch i (by omega)
  exact ⟨this.1, by unfold sN; omega⟩
theorem k_growC1 (A V : List (List Int)) (ns : List R4) (segs : List (Nat × Nat)) (xss : List (List R2)) (hx : netsB A V ns = true) (hA : natSS A) (hs : SegsOK ns segs xss) (f : Nat) (ks : List Int) (hc : ChoiceOK (wN A) A.length ns ks) (hl : ks.length + f = ns.length)
    (IH : ∀ f', f = f' + 1 → ∀ (k : Nat), k < sN ns ks.length → GrowC A V ns segs xss f' (ks ++ [(k : Int)])) : GrowC A V ns segs xss f ks := by
  obtain ⟨hg, hl6, hnet⟩ := netsB_all hx
  have hsl := hs.len
  have hdm := used_dims hc ks.length (Nat.le_refl _)
  have hlb := bV_bd hx (vH (sN ns) ks ks.length * pT (sN ns) f ks.length)
  unfold GrowC
  refine ex_of_evk [0, 1, 2, 3, 4, 5, 6, 7, 8, 9, 10, 11, 17, 25, 32, 33, 34, 35] tok Try.func73 rfl rfl rfl ?_
  cases f with
  | zero =>
    have hkl : ks.length = ns.length := by omega
    have ho : overV A V (usedT (wN A) A.length ns ks ks.length) = ovF A V ns ks := rfl
    have hob := ovF_bd hg (ns := ns) (ks := ks) (by omega) hc
    have ko := k_overflowW A V _ _ (each_ok hg (by omega) hdm) ho
    have kc := k_Clone ks ⟨by omega⟩
    have hT : bV A V ns ((vH (sN ns) ks ks.length + 1) * pT (sN ns) 0 ks.length) = bStep (ovF A V ns) (bV A V ns (vH (sN ns) ks ks.length * pT (sN ns) 0 ks.length)) ks := by
      show bT _ _ _ (_ * 1) = bStep _ (bT _ _ _ (_ * 1)) ks
      rw [Nat.mul_one, Nat.mul_one, bT, vH_ok hc hkl]
    simp only [bStep] at hT
    rw [hT]
    generalize bV A V ns (vH (sN ns) ks ks.length * pT (sN ns) 0 ks.length) = b at *
    generalize usedT (wN A) A.length ns ks ks.length = U at *
    generalize ovF A V ns ks = o at *
    obtain ⟨bl, l⟩ := b
    dsimp only at hlb ⊢
    cases hb : (decide (l < 0) || decide (o < l)) with
    | false =>
      have hb2 : (bif decide (l < 0) then true else decide (o < l)) = false := by rw [Bool.cond_true_left]; exact hb
      rw [if_neg (by simp [hb])]
      repeat' ((conv => whnf); first | done | refine ev_step ?_ | refine ops_step ?_ | refine scan_step ?_ | refine draw_step ?_ | refine each_step ?_ | refine sl_step ?_ | refine hp_step ?_ | refine guard_no (by decide) ?_ | refine guard_go ?_ | refine guard_old ?_ | apply cut_auto | with_reducible exact CutS.mk (Or.inl ⟨rfl, rfl, rfl⟩) | refine CutS.mk (Or.inr (sub_auto ?_)) | exact trivial | refine And.intro ?_ ?_ | (refine cond_split ?_ ?_ <;> intro hq_ <;> first | (exfalso; first | omega | (simp only [hb2, cond_true, cond_false, Bool.not_true, Bool.not_false, Bool.and_true, Bool.true_and, Bool.and_false, Bool.false_and, Bool.or_true, Bool.true_or, Bool.or_false, Bool.false_or, Bool.true_eq_false, Bool.false_eq_true, decide_true, decide_false, reduceCtorEq] at hq_; done) | (rw [decide_eq_false_iff_not] at hq_; omega) | (rw [decide_eq_true_eq] at hq_; omega) | (simp only [hb2, reduceCtorEq] at hq_; done) | exact Bool.noConfusion (Eq.trans (Eq.symm hb2) hq_)) | skip) | apply guess | apply FnIs.useF (ko) | apply FnIs.useF (kc) | exact Or.inl rfl | exact Or.inr rfl | exact Side.mk trivial | exact Side.mk (fun h => h) | exact Side.mk (fun h => ⟨h, h⟩) | with_reducible exact Side.mk rfl | with_reducible exact Side.mk ⟨rfl, rfl⟩ | with_reducible exact Side.mk (by assumption) | with_reducible rfl | intro _)
      all_goals try (conv => whnf)
      all_goals try (refine Side.mk ?_; first | (intros; omega) | (intro h1_ h2_; rw [h1_, h2_]; rfl) | (show List.length (_ ++ _) ≤ _; simp only [List.length_append, List.length_cons, List.length_nil, List.length_replicate, List.length_take]; omega) | (simp_all; done) | (simp_all; omega))
      refine ⟨(false, ks), ⟨Nat.le_refl _, List.take_length, fun _ => rfl⟩, ?_⟩
      repeat' ((conv => whnf); first | done | refine ev_step ?_ | refine ops_step ?_ | refine scan_step ?_ | refine draw_step ?_ | refine each_step ?_ | refine sl_step ?_ | refine hp_step ?_ | refine guard_no (by decide) ?_ | refine guard_go ?_ | refine guard_old ?_ | apply cut_auto | with_reducible exact CutS.mk (Or.inl ⟨rfl, rfl, rfl⟩) | refine CutS.mk (Or.inr (sub_auto ?_)) | exact trivial | refine And.intro ?_ ?_ | refine cond_split ?_ ?_ | apply guess | exact Or.inl rfl | exact Or.inr rfl | exact Side.mk trivial | exact Side.mk (fun h => h) | exact Side.mk (fun h => ⟨h, h⟩) | with_reducible exact Side.mk rfl | with_reducible exact Side.mk ⟨rfl, rfl⟩ | with_reducible exact Side.mk (by assumption) | with_reducible rfl | intro _)
      all_goals try (conv => whnf)
      all_goals first | rfl | omega | trace_state
    | true =>
      have hb2 : (bif decide (l < 0) then true else decide (o < l)) = true := by rw [Bool.cond_true_left]; exact hb
      rw [if_pos (by simp [hb])]
      repeat' ((conv => whnf); first | done | refine ev_step ?_ | refine ops_step ?_ | refine scan_step ?_ | refine draw_step ?_ | refine each_step ?_ | refine sl_step ?_ | refine hp_step ?_ | refine guard_no (by decide) ?_ | refine guard_go ?_ | refine guard_old ?_ | apply cut_auto | with_reducible exact CutS.mk (Or.inl ⟨rfl, rfl, rfl⟩) | refine CutS.mk (Or.inr (sub_auto ?_)) | exact trivial | refine And.intro ?_ ?_ | (refine cond_split ?_ ?_ <;> intro hq_ <;> first | (exfalso; first | omega | (simp only [hb2, cond_true, cond_false, Bool.not_true, Bool.not_false, Bool.and_true, Bool.true_and, Bool.and_false, Bool.false_and, Bool.or_true, Bool.true_or, Bool.or_false, Bool.false_or, Bool.true_eq_false, Bool.false_eq_true, decide_true, decide_false, reduceCtorEq] at hq_; done) | (rw [decide_eq_false_iff_not] at hq_; omega) | (rw [decide_eq_true_eq] at hq_; omega) | (simp only [hb2, reduceCtorEq] at hq_; done) | exact Bool.noConfusion (Eq.trans (Eq.symm hb2) hq_)) | skip) | apply guess | apply FnIs.useF (ko) | apply FnIs.useF (kc) | exact Or.inl rfl | exact Or.inr rfl | exact Side.mk trivial | exact Side.mk (fun h => h) | exact Side.mk (fun h => ⟨h, h⟩) | with_reducible exact Side.mk rfl | with_reducible exact Side.mk ⟨rfl, rfl⟩ | with_reducible exact Side.mk (by assumption) | with_reducible rfl | intro _)
      all_goals try (conv => whnf)
      all_goals try (refine Side.mk ?_; first | (intros; omega) | (intro h1_ h2_; rw [h1_, h2_]; rfl) | (show List.length (_ ++ _) ≤ _; simp only [List.length_append, List.length_cons, List.length_nil, List.length_replicate, List.length_take]; omega) | (simp_all; done) | (simp_all; omega))
      refine ⟨(false, ks), ⟨Nat.le_refl _, List.take_length, fun _ => rfl⟩, ?_⟩
      repeat' ((conv => whnf); first | done | refine ev_step ?_ | refine ops_step ?_ | refine scan_step ?_ | refine draw_step ?_ | refine each_step ?_ | refine sl_step ?_ | refine hp_step ?_ | refine guard_no (by decide) ?_ | refine guard_go ?_ | refine guard_old ?_ | apply cut_auto | with_reducible exact CutS.mk (Or.inl ⟨rfl, rfl, rfl⟩) | refine CutS.mk (Or.inr (sub_auto ?_)) | exact trivial | refine And.intro ?_ ?_ | refine cond_split ?_ ?_ | apply guess | exact Or.inl rfl | exact Or.inr rfl | exact Side.mk trivial | exact Side.mk (fun h => h) | exact Side.mk (fun h => ⟨h, h⟩) | with_reducible exact Side.mk rfl | with_reducible exact Side.mk ⟨rfl, rfl⟩ | with_reducible exact Side.mk (by assumption) | with_reducible rfl | intro _)
      all_goals try (conv => whnf)
      all_goals first | rfl | omega | trace_state
  | succ f =>
    have hin : ks.length < ns.length := by omega
    obtain ⟨hs2, hs3⟩ := hs.at' ks.length hin
    have hsb := sN_bd hx hin
    have hci := netR_cel hg (hnet ks.length hin)
    have hT0 : bV A V ns (vH (sN ns) ks ks.length * pT (sN ns) (f + 1) ks.length) = bV A V ns ((vH (sN ns) ks ks.length * sN ns ks.length + 0) * pT (sN ns) f (ks.length + 1)) := by
      congr 1
      rw [pT, Nat.add_zero]
      exact (Nat.mul_assoc _ _ _).symm
    have hTn : bV A V ns ((vH (sN ns) ks ks.length + 1) * pT (sN ns) (f + 1) ks.length) = bV A V ns ((vH (sN ns) ks ks.length * sN ns ks.length + sN ns ks.length) * pT (sN ns) f (ks.length + 1)) := by
      rw [pT, ← Nat.mul_assoc, Nat.add_mul, Nat.one_mul]
    have ihs : ∀ k : Nat, k < sN ns ks.length → _ := fun k hk => IH f rfl k hk
    simp only [GrowC, List.length_append, List.length_singleton, usedT_snoc, vH_snoc] at ihs
    have hTb : ∀ k, -1 ≤ (bV A V ns ((vH (sN ns) ks ks.length * sN ns ks.length + k) * pT (sN ns) f (ks.length + 1))).2 ∧ (bV A V ns ((vH (sN ns) ks ks.length * sN ns ks.length + k) * pT (sN ns) f (ks.length + 1))).2 ≤ 1000000 := fun k => bV_bd hx _
    rw [hT0, hTn]
    rw [hT0] at hlb
    clear hT0 hTn
    generalize hT : (fun k => bV A V ns ((vH (sN ns) ks ks.length * sN ns ks.length + k) * pT (sN ns) f (ks.length + 1))) = T at *
    have hTi : ∀ k, bV A V ns ((vH (sN ns) ks ks.length * sN ns ks.length + k) * pT (sN ns) f (ks.length + 1)) = T k := fun k => by rw [← hT]
    simp only [Nat.add_assoc] at ihs
    simp only [hTi] at ihs hTb hlb ⊢
    clear hT hTi
    have hgood : ∀ k : Nat, k < sN ns ks.length → GoodShape (shapeOf (ns.getD ks.length default) k) ∧ M8.Way (wN A) A.length (pathL (shapeOf (ns.getD ks.length default) k)) := fun k hk => shape_good hci ⟨by omega, by unfold sN at hk; omega⟩
    generalize usedT (wN A) A.length ns ks ks.length = U at *
    generalize hoff : (segs.getD ks.length (0, 0)).1 = off at *
    generalize hSn : sN ns ks.length = S at *
    have hn2 : (segs.getD ((ks.length : Nat) : Int).toNat (0, 0)).2 = S := by rw [Int.toNat_natCast]; exact hs2
    repeat' ((conv => whnf); first | done | refine ev_step ?_ | refine ops_step ?_ | refine scan_step ?_ | refine draw_step ?_ | refine each_step ?_ | refine sl_step ?_ | refine hp_step ?_ | refine guard_no (by decide) ?_ | refine guard_go ?_ | refine guard_old ?_ | apply cut_auto | with_reducible exact CutS.mk (Or.inl ⟨rfl, rfl, rfl⟩) | refine CutS.mk (Or.inr (sub_auto ?_)) | exact trivial | refine And.intro ?_ ?_ | (refine cond_split ?_ ?_ <;> intro _ <;> first | (exfalso; first | omega | (simp only [decide_eq_true_eq, decide_eq_false_iff_not, Bool.not_eq_true', Bool.not_eq_false', ne_eq, Bool.not_true, Bool.not_false, cond_true, cond_false, Bool.true_eq_false, Bool.false_eq_true, Bool.and_eq_true, Bool.and_eq_false_iff] at *; omega)) | skip) | apply guess | exact Or.inl rfl | exact Or.inr rfl | exact Side.mk trivial | exact Side.mk (fun h => h) | exact Side.mk (fun h => ⟨h, h⟩) | with_reducible exact Side.mk rfl | with_reducible exact Side.mk ⟨rfl, rfl⟩ | with_reducible exact Side.mk (by assumption) | with_reducible rfl | intro _)
    all_goals try (conv => whnf)
    all_goals try (refine Side.mk ?_; first | (intros; omega) | (intro h1_ h2_; rw [h1_, h2_]; rfl) | (show List.length (_ ++ _) ≤ _; simp only [List.length_append, List.length_cons, List.length_nil, List.length_replicate, List.length_take]; omega) | (simp_all; done) | (simp_all; omega))
    refine loop_del [14, 21] (fun x : Nat × (Bool × List Int) => x.1 ≤ S ∧ ordB8 ks x.2) 24 (fun x => [(34, .int .i64 x.1), (10, .top), (11, .top), (35, .top)]) (fun x => chU U ++ chB2 23 (T x.1) ++ ordC ks x.2) (fun x => S - x.1) (0, (false, ks)) ⟨Nat.zero_le _, Nat.le_refl _, List.take_length, fun _ => rfl⟩ ?_ (fun x hx => ?_)
    · repeat' ((conv => whnf); first | done | refine ev_step ?_ | refine ops_step ?_ | refine scan_step ?_ | refine draw_step ?_ | refine each_step ?_ | refine sl_step ?_ | refine hp_step ?_ | refine guard_no (by decide) ?_ | refine guard_go ?_ | refine guard_old ?_ | apply cut_auto | with_reducible exact CutS.mk (Or.inl ⟨rfl, rfl, rfl⟩) | refine CutS.mk (Or.inr (sub_auto ?_)) | exact trivial | refine And.intro ?_ ?_ | refine cond_split ?_ ?_ | apply guess | exact Or.inl rfl | exact Or.inr rfl | exact Side.mk trivial | exact Side.mk (fun h => h) | exact Side.mk (fun h => ⟨h, h⟩) | with_reducible exact Side.mk rfl | with_reducible exact Side.mk ⟨rfl, rfl⟩ | with_reducible exact Side.mk (by assumption) | with_reducible rfl | intro _)
      all_goals try (conv => whnf)
      all_goals first | rfl | trace_state
    · obtain ⟨k, fl, zs⟩ := x
      obtain ⟨hi, hz1, hz2, hz3⟩ := hx
      simp only at hi hz1 hz2 hz3
      have hTk := hTb k
      by_cases hlt : k < S
      · obtain ⟨gs, ws⟩ := hgood k hlt
        obtain ⟨hr1, hr2⟩ := hs3 k hlt
        have ka := k_useShape _ _ _ _ _ 1 hdm gs ws (.inl rfl) ⟨by omega⟩
        have kb := k_useBack _ _ _ _ _ hdm gs ws ⟨by omega⟩
        have ih := ihs k hlt
        generalize shapeOf (ns.getD ks.length default) (k : Int) = s at *
        have hcs : off = 0 ∨ ∃ o, off = o + 1 := by
          cases off with
          | zero => exact .inl rfl
          | succ o => exact .inr ⟨o, rfl⟩
        cases fl
        · have hz : ks = zs := (hz3 rfl).symm
          subst hz
          repeat' ((conv => whnf); first | done | refine ev_step ?_ | refine ops_step ?_ | refine scan_step ?_ | refine draw_step ?_ | refine each_step ?_ | refine sl_step ?_ | refine hp_step ?_ | refine guard_no (by decide) ?_ | refine guard_go ?_ | refine guard_old ?_ | apply cut_auto | with_reducible exact CutS.mk (Or.inl ⟨rfl, rfl, rfl⟩) | refine CutS.mk (Or.inr (sub_auto ?_)) | exact trivial | refine And.intro ?_ ?_ | (refine cond_split ?_ ?_ <;> intro _ <;> first | (exfalso; first | omega | (simp only [decide_eq_true_eq, decide_eq_false_iff_not, Bool.not_eq_true', Bool.not_eq_false', ne_eq, Bool.not_true, Bool.not_false, cond_true, cond_false, Bool.true_eq_false, Bool.false_eq_true, Bool.and_eq_true, Bool.and_eq_false_iff] at *; omega)) | skip) | apply guess | refine FnIs.useE (ka) rfl ?_ | refine FnIs.useE (kb) rfl ?_ | apply FnEx.useF2 (ih) | exact Or.inl rfl | exact Or.inr rfl | exact Side.mk trivial | exact Side.mk (fun h => h) | exact Side.mk (fun h => ⟨h, h⟩) | with_reducible exact Side.mk rfl | with_reducible exact Side.mk ⟨rfl, rfl⟩ | with_reducible exact Side.mk (by assumption) | with_reducible rfl | intro _)
          all_goals try (conv => whnf)
          all_goals try (refine Side.mk ?_; first | (intros; omega) | (intro h1_ h2_; rw [h1_, h2_]; rfl) | (show List.length (_ ++ _) ≤ _; simp only [List.length_append, List.length_cons, List.length_nil, List.length_replicate, List.length_take]; omega) | (simp_all; done) | (simp_all; omega))
          rcases hcs with h0 | ⟨o, h0⟩
          · rw [h0] at hr1 hr2
            have hoe : (segs.getD ((ks.length : Nat) : Int).toNat (0, 0)).1 = 0 := by rw [Int.toNat_natCast, hoff]; exact h0
            have hrow : xss.getD ((k : Nat) : Int).toNat [] = s := by rw [Int.toNat_natCast, ← hr2, Nat.zero_add]
            rw [hoe]
            repeat' ((conv => whnf); first | done | refine ev_step ?_ | refine ops_step ?_ | refine scan_step ?_ | refine draw_step ?_ | refine each_step ?_ | refine sl_step ?_ | refine hp_step ?_ | refine guard_no (by decide) ?_ | refine guard_go ?_ | refine guard_old ?_ | apply cut_auto | with_reducible exact CutS.mk (Or.inl ⟨rfl, rfl, rfl⟩) | refine CutS.mk (Or.inr (sub_auto ?_)) | exact trivial | refine And.intro ?_ ?_ | (refine cond_split ?_ ?_ <;> intro _ <;> first | (exfalso; first | omega | (simp only [decide_eq_true_eq, decide_eq_false_iff_not, Bool.not_eq_true', Bool.not_eq_false', ne_eq, Bool.not_true, Bool.not_false, cond_true, cond_false, Bool.true_eq_false, Bool.false_eq_true, Bool.and_eq_true, Bool.and_eq_false_iff] at *; omega)) | skip) | apply guess | refine FnIs.useE (ka) rfl ?_ | refine FnIs.useE (kb) rfl ?_ | apply FnEx.useF2 (ih) | exact Or.inl rfl | exact Or.inr rfl | exact Side.mk trivial | exact Side.mk (fun h => h) | exact Side.mk (fun h => ⟨h, h⟩) | with_reducible exact Side.mk rfl | with_reducible exact Side.mk ⟨rfl, rfl⟩ | with_reducible exact Side.mk (by assumption) | with_reducible rfl | intro _)
            all_goals try (conv => whnf)
            all_goals try (refine Side.mk ?_; first | (intros; omega) | (intro h1_ h2_; rw [h1_, h2_]; rfl) | (show List.length (_ ++ _) ≤ _; simp only [List.length_append, List.length_cons, List.length_nil, List.length_replicate, List.length_take]; omega) | (simp_all; done) | (simp_all; omega))
            all_goals try omega
            all_goals try exact hrow
            all_goals try exact hrow.symm
            all_goals try (simp only [List.drop_zero]; rw [hz2]; done)
            all_goals try exact Side.mk (by show 0 + ks.length ≤ zs.length; omega)
            all_goals try (rename_i ys ha; have hy := ha.2.2 rfl; simp only at hy; subst hy; refine Side.mk ?_; simp only [List.length_append, List.length_singleton]; omega)
            all_goals try (rename_i ys ha; refine Side.mk ?_; have := ha.1; simp only [List.length_append, List.length_singleton] at this ⊢; omega)
            · rename_i ys ha
              have hd := ord_down8 ha
              refine ⟨(k + 1, (true, ys)), ⟨by simp only; omega, hd⟩, by simp only; omega, ?_⟩
              have hy := ha.2.2 rfl
              simp only at hy
              subst hy
              repeat' ((conv => whnf); first | done | refine ev_step ?_ | refine ops_step ?_ | refine scan_step ?_ | refine draw_step ?_ | refine each_step ?_ | refine sl_step ?_ | refine hp_step ?_ | refine guard_no (by decide) ?_ | refine guard_go ?_ | refine guard_old ?_ | apply cut_auto | with_reducible exact CutS.mk (Or.inl ⟨rfl, rfl, rfl⟩) | refine CutS.mk (Or.inr (sub_auto ?_)) | exact trivial | refine And.intro ?_ ?_ | refine cond_split ?_ ?_ | apply guess | exact Or.inl rfl | exact Or.inr rfl | exact Side.mk trivial | exact Side.mk (fun h => h) | exact Side.mk (fun h => ⟨h, h⟩) | with_reducible exact Side.mk rfl | with_reducible exact Side.mk ⟨rfl, rfl⟩ | with_reducible exact Side.mk (by assumption) | with_reducible rfl | intro _)
              all_goals try (conv => whnf)
              all_goals first | rfl | omega | (change _ = _ - 0; simp only [List.length_append, List.length_singleton]; omega) | trace_state
            · rename_i ys ha
              have hd := ord_down8 ha
              refine ⟨(k + 1, (true, ys)), ⟨by simp only; omega, hd⟩, by simp only; omega, ?_⟩
              repeat' ((conv => whnf); first | done | refine ev_step ?_ | refine ops_step ?_ | refine scan_step ?_ | refine draw_step ?_ | refine each_step ?_ | refine sl_step ?_ | refine hp_step ?_ | refine guard_no (by decide) ?_ | refine guard_go ?_ | refine guard_old ?_ | apply cut_auto | with_reducible exact CutS.mk (Or.inl ⟨rfl, rfl, rfl⟩) | refine CutS.mk (Or.inr (sub_auto ?_)) | exact trivial | refine And.intro ?_ ?_ | refine cond_split ?_ ?_ | apply guess | exact Or.inl rfl | exact Or.inr rfl | exact Side.mk trivial | exact Side.mk (fun h => h) | exact Side.mk (fun h => ⟨h, h⟩) | with_reducible exact Side.mk rfl | with_reducible exact Side.mk ⟨rfl, rfl⟩ | with_reducible exact Side.mk (by assumption) | with_reducible rfl | intro _)
              all_goals try (conv => whnf)
              all_goals first | rfl | omega | (change _ = _ - 0; simp only [List.length_append, List.length_singleton]; omega) | trace_state
          · rw [h0] at hr1 hr2
            have hoe : (segs.getD ((ks.length : Nat) : Int).toNat (0, 0)).1 = o + 1 := by rw [Int.toNat_natCast, hoff]; exact h0
            have hrow : xss.getD (o + 1 + ((k : Nat) : Int).toNat) [] = s := by rw [Int.toNat_natCast, ← hr2]
            rw [hoe]
            repeat' ((conv => whnf); first | done | refine ev_step ?_ | refine ops_step ?_ | refine scan_step ?_ | refine draw_step ?_ | refine each_step ?_ | refine sl_step ?_ | refine hp_step ?_ | refine guard_no (by decide) ?_ | refine guard_go ?_ | refine guard_old ?_ | apply cut_auto | with_reducible exact CutS.mk (Or.inl ⟨rfl, rfl, rfl⟩) | refine CutS.mk (Or.inr (sub_auto ?_)) | exact trivial | refine And.intro ?_ ?_ | (refine cond_split ?_ ?_ <;> intro _ <;> first | (exfalso; first | omega | (simp only [decide_eq_true_eq, decide_eq_false_iff_not, Bool.not_eq_true', Bool.not_eq_false', ne_eq, Bool.not_true, Bool.not_false, cond_true, cond_false, Bool.true_eq_false, Bool.false_eq_true, Bool.and_eq_true, Bool.and_eq_false_iff] at *; omega)) | skip) | apply guess | refine FnIs.useE (ka) rfl ?_ | refine FnIs.useE (kb) rfl ?_ | apply FnEx.useF2 (ih) | exact Or.inl rfl | exact Or.inr rfl | exact Side.mk trivial | exact Side.mk (fun h => h) | exact Side.mk (fun h => ⟨h, h⟩) | with_reducible exact Side.mk rfl | with_reducible exact Side.mk ⟨rfl, rfl⟩ | with_reducible exact Side.mk (by assumption) | with_reducible rfl | intro _)
            all_goals try (conv => whnf)
            all_goals try (refine Side.mk ?_; first | (intros; omega) | (intro h1_ h2_; rw [h1_, h2_]; rfl) | (show List.length (_ ++ _) ≤ _; simp only [List.length_append, List.length_cons, List.length_nil, List.length_replicate, List.length_take]; omega) | (simp_all; done) | (simp_all; omega))
            all_goals try omega
            all_goals try exact hrow
            all_goals try exact hrow.symm
            all_goals try (simp only [List.drop_zero]; rw [hz2]; done)
            all_goals try exact Side.mk (by show 0 + ks.length ≤ zs.length; omega)
            all_goals try (rename_i ys ha; have hy := ha.2.2 rfl; simp only at hy; subst hy; refine Side.mk ?_; simp only [List.length_append, List.length_singleton]; omega)
            all_goals try (rename_i ys ha; refine Side.mk ?_; have := ha.1; simp only [List.length_append, List.length_singleton] at this ⊢; omega)
            · rename_i ys ha
              have hd := ord_down8 ha
              refine ⟨(k + 1, (true, ys)), ⟨by simp only; omega, hd⟩, by simp only; omega, ?_⟩
              have hy := ha.2.2 rfl
              simp only at hy
              subst hy
              repeat' ((conv => whnf); first | done | refine ev_step ?_ | refine ops_step ?_ | refine scan_step ?_ | refine draw_step ?_ | refine each_step ?_ | refine sl_step ?_ | refine hp_step ?_ | refine guard_no (by decide) ?_ | refine guard_go ?_ | refine guard_old ?_ | apply cut_auto | with_reducible exact CutS.mk (Or.inl ⟨rfl, rfl, rfl⟩) | refine CutS.mk (Or.inr (sub_auto ?_)) | exact trivial | refine And.intro ?_ ?_ | refine cond_split ?_ ?_ | apply guess | exact Or.inl rfl | exact Or.inr rfl | exact Side.mk trivial | exact Side.mk (fun h => h) | exact Side.mk (fun h => ⟨h, h⟩) | with_reducible exact Side.mk rfl | with_reducible exact Side.mk ⟨rfl, rfl⟩ | with_reducible exact Side.mk (by assumption) | with_reducible rfl | intro _)
              all_goals try (conv => whnf)
              all_goals first | rfl | omega | (change _ = _ - 0; simp only [List.length_append, List.length_singleton]; omega) | trace_state
            · rename_i ys ha
              have hd := ord_down8 ha
              refine ⟨(k + 1, (true, ys)), ⟨by simp only; omega, hd⟩, by simp only; omega, ?_⟩
              repeat' ((conv => whnf); first | done | refine ev_step ?_ | refine ops_step ?_ | refine scan_step ?_ | refine draw_step ?_ | refine each_step ?_ | refine sl_step ?_ | refine hp_step ?_ | refine guard_no (by decide) ?_ | refine guard_go ?_ | refine guard_old ?_ | apply cut_auto | with_reducible exact CutS.mk (Or.inl ⟨rfl, rfl, rfl⟩) | refine CutS.mk (Or.inr (sub_auto ?_)) | exact trivial | refine And.intro ?_ ?_ | refine cond_split ?_ ?_ | apply guess | exact Or.inl rfl | exact Or.inr rfl | exact Side.mk trivial | exact Side.mk (fun h => h) | exact Side.mk (fun h => ⟨h, h⟩) | with_reducible exact Side.mk rfl | with_reducible exact Side.mk ⟨rfl, rfl⟩ | with_reducible exact Side.mk (by assumption) | with_reducible rfl | intro _)
              all_goals try (conv => whnf)
              all_goals first | rfl | omega | (change _ = _ - 0; simp only [List.length_append, List.length_singleton]; omega) | trace_state
        · skip
          repeat' ((conv => whnf); first | done | refine ev_step ?_ | refine ops_step ?_ | refine scan_step ?_ | refine draw_step ?_ | refine each_step ?_ | refine sl_step ?_ | refine hp_step ?_ | refine guard_no (by decide) ?_ | refine guard_go ?_ | refine guard_old ?_ | apply cut_auto | with_reducible exact CutS.mk (Or.inl ⟨rfl, rfl, rfl⟩) | refine CutS.mk (Or.inr (sub_auto ?_)) | exact trivial | refine And.intro ?_ ?_ | (refine cond_split ?_ ?_ <;> intro _ <;> first | (exfalso; first | omega | (simp only [decide_eq_true_eq, decide_eq_false_iff_not, Bool.not_eq_true', Bool.not_eq_false', ne_eq, Bool.not_true, Bool.not_false, cond_true, cond_false, Bool.true_eq_false, Bool.false_eq_true, Bool.and_eq_true, Bool.and_eq_false_iff] at *; omega)) | skip) | apply guess | refine FnIs.useE (ka) rfl ?_ | refine FnIs.useE (kb) rfl ?_ | apply FnEx.useF2 (ih) | exact Or.inl rfl | exact Or.inr rfl | exact Side.mk trivial | exact Side.mk (fun h => h) | exact Side.mk (fun h => ⟨h, h⟩) | with_reducible exact Side.mk rfl | with_reducible exact Side.mk ⟨rfl, rfl⟩ | with_reducible exact Side.mk (by assumption) | with_reducible rfl | intro _)
          all_goals try (conv => whnf)
          all_goals try (refine Side.mk ?_; first | (intros; omega) | (intro h1_ h2_; rw [h1_, h2_]; rfl) | (show List.length (_ ++ _) ≤ _; simp only [List.length_append, List.length_cons, List.length_nil, List.length_replicate, List.length_take]; omega) | (simp_all; done) | (simp_all; omega))
          rcases hcs with h0 | ⟨o, h0⟩
          · rw [h0] at hr1 hr2
            have hoe : (segs.getD ((ks.length : Nat) : Int).toNat (0, 0)).1 = 0 := by rw [Int.toNat_natCast, hoff]; exact h0
            have hrow : xss.getD ((k : Nat) : Int).toNat [] = s := by rw [Int.toNat_natCast, ← hr2, Nat.zero_add]
            rw [hoe]
            repeat' ((conv => whnf); first | done | refine ev_step ?_ | refine ops_step ?_ | refine scan_step ?_ | refine draw_step ?_ | refine each_step ?_ | refine sl_step ?_ | refine hp_step ?_ | refine guard_no (by decide) ?_ | refine guard_go ?_ | refine guard_old ?_ | apply cut_auto | with_reducible exact CutS.mk (Or.inl ⟨rfl, rfl, rfl⟩) | refine CutS.mk (Or.inr (sub_auto ?_)) | exact trivial | refine And.intro ?_ ?_ | (refine cond_split ?_ ?_ <;> intro _ <;> first | (exfalso; first | omega | (simp only [decide_eq_true_eq, decide_eq_false_iff_not, Bool.not_eq_true', Bool.not_eq_false', ne_eq, Bool.not_true, Bool.not_false, cond_true, cond_false, Bool.true_eq_false, Bool.false_eq_true, Bool.and_eq_true, Bool.and_eq_false_iff] at *; omega)) | skip) | apply guess | refine FnIs.useE (ka) rfl ?_ | refine FnIs.useE (kb) rfl ?_ | apply FnEx.useF2 (ih) | exact Or.inl rfl | exact Or.inr rfl | exact Side.mk trivial | exact Side.mk (fun h => h) | exact Side.mk (fun h => ⟨h, h⟩) | with_reducible exact Side.mk rfl | with_reducible exact Side.mk ⟨rfl, rfl⟩ | with_reducible exact Side.mk (by assumption) | with_reducible rfl | intro _)
            all_goals try (conv => whnf)
            all_goals try (refine Side.mk ?_; first | (intros; omega) | (intro h1_ h2_; rw [h1_, h2_]; rfl) | (show List.length (_ ++ _) ≤ _; simp only [List.length_append, List.length_cons, List.length_nil, List.length_replicate, List.length_take]; omega) | (simp_all; done) | (simp_all; omega))
            all_goals try omega
            all_goals try exact hrow
            all_goals try exact hrow.symm
            all_goals try (simp only [List.drop_zero]; rw [hz2]; done)
            all_goals try exact Side.mk (by show 0 + ks.length ≤ zs.length; omega)
            all_goals try (rename_i ys ha; have hy := ha.2.2 rfl; simp only at hy; subst hy; refine Side.mk ?_; simp only [List.length_append, List.length_singleton]; omega)
            all_goals try (rename_i ys ha; refine Side.mk ?_; have := ha.1; simp only [List.length_append, List.length_singleton] at this ⊢; omega)
            · rename_i ys ha
              have hd := ord_down8 ha
              refine ⟨(k + 1, (true, ys)), ⟨by simp only; omega, hd⟩, by simp only; omega, ?_⟩
              have hy := ha.2.2 rfl
              simp only at hy
              subst hy
              repeat' ((conv => whnf); first | done | refine ev_step ?_ | refine ops_step ?_ | refine scan_step ?_ | refine draw_step ?_ | refine each_step ?_ | refine sl_step ?_ | refine hp_step ?_ | refine guard_no (by decide) ?_ | refine guard_go ?_ | refine guard_old ?_ | apply cut_auto | with_reducible exact CutS.mk (Or.inl ⟨rfl, rfl, rfl⟩) | refine CutS.mk (Or.inr (sub_auto ?_)) | exact trivial | refine And.intro ?_ ?_ | refine cond_split ?_ ?_ | apply guess | exact Or.inl rfl | exact Or.inr rfl | exact Side.mk trivial | exact Side.mk (fun h => h) | exact Side.mk (fun h => ⟨h, h⟩) | with_reducible exact Side.mk rfl | with_reducible exact Side.mk ⟨rfl, rfl⟩ | with_reducible exact Side.mk (by assumption) | with_reducible rfl | intro _)
              all_goals try (conv => whnf)
              all_goals first | rfl | omega | (change _ = _ - 0; simp only [List.length_append, List.length_singleton]; omega) | trace_state
            · rename_i ys ha
              have hd := ord_down8 ha
              refine ⟨(k + 1, (true, ys)), ⟨by simp only; omega, hd⟩, by simp only; omega, ?_⟩
              repeat' ((conv => whnf); first | done | refine ev_step ?_ | refine ops_step ?_ | refine scan_step ?_ | refine draw_step ?_ | refine each_step ?_ | refine sl_step ?_ | refine hp_step ?_ | refine guard_no (by decide) ?_ | refine guard_go ?_ | refine guard_old ?_ | apply cut_auto | with_reducible exact CutS.mk (Or.inl ⟨rfl, rfl, rfl⟩) | refine CutS.mk (Or.inr (sub_auto ?_)) | exact trivial | refine And.intro ?_ ?_ | refine cond_split ?_ ?_ | apply guess | exact Or.inl rfl | exact Or.inr rfl | exact Side.mk trivial | exact Side.mk (fun h => h) | exact Side.mk (fun h => ⟨h, h⟩) | with_reducible exact Side.mk rfl | with_reducible exact Side.mk ⟨rfl, rfl⟩ | with_reducible exact Side.mk (by assumption) | with_reducible rfl | intro _)
              all_goals try (conv => whnf)
              all_goals first | rfl | omega | (change _ = _ - 0; simp only [List.length_append, List.length_singleton]; omega) | trace_state
          · rw [h0] at hr1 hr2
            have hoe : (segs.getD ((ks.length : Nat) : Int).toNat (0, 0)).1 = o + 1 := by rw [Int.toNat_natCast, hoff]; exact h0
            have hrow : xss.getD (o + 1 + ((k : Nat) : Int).toNat) [] = s := by rw [Int.toNat_natCast, ← hr2]
            rw [hoe]
            repeat' ((conv => whnf); first | done | refine ev_step ?_ | refine ops_step ?_ | refine scan_step ?_ | refine draw_step ?_ | refine each_step ?_ | refine sl_step ?_ | refine hp_step ?_ | refine guard_no (by decide) ?_ | refine guard_go ?_ | refine guard_old ?_ | apply cut_auto | with_reducible exact CutS.mk (Or.inl ⟨rfl, rfl, rfl⟩) | refine CutS.mk (Or.inr (sub_auto ?_)) | exact trivial | refine And.intro ?_ ?_ | (refine cond_split ?_ ?_ <;> intro _ <;> first | (exfalso; first | omega | (simp only [decide_eq_true_eq, decide_eq_false_iff_not, Bool.not_eq_true', Bool.not_eq_false', ne_eq, Bool.not_true, Bool.not_false, cond_true, cond_false, Bool.true_eq_false, Bool.false_eq_true, Bool.and_eq_true, Bool.and_eq_false_iff] at *; omega)) | skip) | apply guess | refine FnIs.useE (ka) rfl ?_ | refine FnIs.useE (kb) rfl ?_ | apply FnEx.useF2 (ih) | exact Or.inl rfl | exact Or.inr rfl | exact Side.mk trivial | exact Side.mk (fun h => h) | exact Side.mk (fun h => ⟨h, h⟩) | with_reducible exact Side.mk rfl | with_reducible exact Side.mk ⟨rfl, rfl⟩ | with_reducible exact Side.mk (by assumption) | with_reducible rfl | intro _)
            all_goals try (conv => whnf)
            all_goals try (refine Side.mk ?_; first | (intros; omega) | (intro h1_ h2_; rw [h1_, h2_]; rfl) | (show List.length (_ ++ _) ≤ _; simp only [List.length_append, List.length_cons, List.length_nil, List.length_replicate, List.length_take]; omega) | (simp_all; done) | (simp_all; omega))
            all_goals try omega
            all_goals try exact hrow
            all_goals try exact hrow.symm
            all_goals try (simp only [List.drop_zero]; rw [hz2]; done)
            all_goals try exact Side.mk (by show 0 + ks.length ≤ zs.length; omega)
            all_goals try (rename_i ys ha; have hy := ha.2.2 rfl; simp only at hy; subst hy; refine Side.mk ?_; simp only [List.length_append, List.length_singleton]; omega)
            all_goals try (rename_i ys ha; refine Side.mk ?_; have := ha.1; simp only [List.length_append, List.length_singleton] at this ⊢; omega)
            · rename_i ys ha
              have hd := ord_down8 ha
              refine ⟨(k + 1, (true, ys)), ⟨by simp only; omega, hd⟩, by simp only; omega, ?_⟩
              have hy := ha.2.2 rfl
              simp only at hy
              subst hy
              repeat' ((conv => whnf); first | done | refine ev_step ?_ | refine ops_step ?_ | refine scan_step ?_ | refine draw_step ?_ | refine each_step ?_ | refine sl_step ?_ | refine hp_step ?_ | refine guard_no (by decide) ?_ | refine guard_go ?_ | refine guard_old ?_ | apply cut_auto | with_reducible exact CutS.mk (Or.inl ⟨rfl, rfl, rfl⟩) | refine CutS.mk (Or.inr (sub_auto ?_)) | exact trivial | refine And.intro ?_ ?_ | refine cond_split ?_ ?_ | apply guess | exact Or.inl rfl | exact Or.inr rfl | exact Side.mk trivial | exact Side.mk (fun h => h) | exact Side.mk (fun h => ⟨h, h⟩) | with_reducible exact Side.mk rfl | with_reducible exact Side.mk ⟨rfl, rfl⟩ | with_reducible exact Side.mk (by assumption) | with_reducible rfl | intro _)
              all_goals try (conv => whnf)
              all_goals first | rfl | omega | (change _ = _ - 0; simp only [List.length_append, List.length_singleton]; omega) | trace_state
            · rename_i ys ha
              have hd := ord_down8 ha
              refine ⟨(k + 1, (true, ys)), ⟨by simp only; omega, hd⟩, by simp only; omega, ?_⟩
              repeat' ((conv => whnf); first | done | refine ev_step ?_ | refine ops_step ?_ | refine scan_step ?_ | refine draw_step ?_ | refine each_step ?_ | refine sl_step ?_ | refine hp_step ?_ | refine guard_no (by decide) ?_ | refine guard_go ?_ | refine guard_old ?_ | apply cut_auto | with_reducible exact CutS.mk (Or.inl ⟨rfl, rfl, rfl⟩) | refine CutS.mk (Or.inr (sub_auto ?_)) | exact trivial | refine And.intro ?_ ?_ | refine cond_split ?_ ?_ | apply guess | exact Or.inl rfl | exact Or.inr rfl | exact Side.mk trivial | exact Side.mk (fun h => h) | exact Side.mk (fun h => ⟨h, h⟩) | with_reducible exact Side.mk rfl | with_reducible exact Side.mk ⟨rfl, rfl⟩ | with_reducible exact Side.mk (by assumption) | with_reducible rfl | intro _)
              all_goals try (conv => whnf)
              all_goals first | rfl | omega | (change _ = _ - 0; simp only [List.length_append, List.length_singleton]; omega) | trace_state
      · obtain rfl : k = S := by omega
        cases fl
        · repeat' ((conv => whnf); first | done | refine ev_step ?_ | refine ops_step ?_ | refine scan_step ?_ | refine draw_step ?_ | refine each_step ?_ | refine sl_step ?_ | refine hp_step ?_ | refine guard_no (by decide) ?_ | refine guard_go ?_ | refine guard_old ?_ | apply cut_auto | with_reducible exact CutS.mk (Or.inl ⟨rfl, rfl, rfl⟩) | refine CutS.mk (Or.inr (sub_auto ?_)) | exact trivial | refine And.intro ?_ ?_ | (refine cond_split ?_ ?_ <;> intro _ <;> first | (exfalso; first | omega | (simp only [decide_eq_true_eq, decide_eq_false_iff_not, Bool.not_eq_true', Bool.not_eq_false', ne_eq, Bool.not_true, Bool.not_false, cond_true, cond_false, Bool.true_eq_false, Bool.false_eq_true, Bool.and_eq_true, Bool.and_eq_false_iff] at *; omega)) | skip) | apply guess | exact Or.inl rfl | exact Or.inr rfl | exact Side.mk trivial | exact Side.mk (fun h => h) | exact Side.mk (fun h => ⟨h, h⟩) | with_reducible exact Side.mk rfl | with_reducible exact Side.mk ⟨rfl, rfl⟩ | with_reducible exact Side.mk (by assumption) | with_reducible rfl | intro _)
          all_goals try (conv => whnf)
          all_goals try (refine Side.mk ?_; first | (intros; omega) | (intro h1_ h2_; rw [h1_, h2_]; rfl) | (show List.length (_ ++ _) ≤ _; simp only [List.length_append, List.length_cons, List.length_nil, List.length_replicate, List.length_take]; omega) | (simp_all; done) | (simp_all; omega))
          all_goals try omega
          refine ⟨(false, zs), ⟨hz1, hz2, hz3⟩, ?_⟩
          repeat' ((conv => whnf); first | done | refine ev_step ?_ | refine ops_step ?_ | refine scan_step ?_ | refine draw_step ?_ | refine each_step ?_ | refine sl_step ?_ | refine hp_step ?_ | refine guard_no (by decide) ?_ | refine guard_go ?_ | refine guard_old ?_ | apply cut_auto | with_reducible exact CutS.mk (Or.inl ⟨rfl, rfl, rfl⟩) | refine CutS.mk (Or.inr (sub_auto ?_)) | exact trivial | refine And.intro ?_ ?_ | refine cond_split ?_ ?_ | apply guess | exact Or.inl rfl | exact Or.inr rfl | exact Side.mk trivial | exact Side.mk (fun h => h) | exact Side.mk (fun h => ⟨h, h⟩) | with_reducible exact Side.mk rfl | with_reducible exact Side.mk ⟨rfl, rfl⟩ | with_reducible exact Side.mk (by assumption) | with_reducible rfl | intro _)
          all_goals try (conv => whnf)
          all_goals first | rfl | omega | trace_state
        · repeat' ((conv => whnf); first | done | refine ev_step ?_ | refine ops_step ?_ | refine scan_step ?_ | refine draw_step ?_ | refine each_step ?_ | refine sl_step ?_ | refine hp_step ?_ | refine guard_no (by decide) ?_ | refine guard_go ?_ | refine guard_old ?_ | apply cut_auto | with_reducible exact CutS.mk (Or.inl ⟨rfl, rfl, rfl⟩) | refine CutS.mk (Or.inr (sub_auto ?_)) | exact trivial | refine And.intro ?_ ?_ | (refine cond_split ?_ ?_ <;> intro _ <;> first | (exfalso; first | omega | (simp only [decide_eq_true_eq, decide_eq_false_iff_not, Bool.not_eq_true', Bool.not_eq_false', ne_eq, Bool.not_true, Bool.not_false, cond_true, cond_false, Bool.true_eq_false, Bool.false_eq_true, Bool.and_eq_true, Bool.and_eq_false_iff] at *; omega)) | skip) | apply guess | exact Or.inl rfl | exact Or.inr rfl | exact Side.mk trivial | exact Side.mk (fun h => h) | exact Side.mk (fun h => ⟨h, h⟩) | with_reducible exact Side.mk rfl | with_reducible exact Side.mk ⟨rfl, rfl⟩ | with_reducible exact Side.mk (by assumption) | with_reducible rfl | intro _)
          all_goals try (conv => whnf)
          all_goals try (refine Side.mk ?_; first | (intros; omega) | (intro h1_ h2_; rw [h1_, h2_]; rfl) | (show List.length (_ ++ _) ≤ _; simp only [List.length_append, List.length_cons, List.length_nil, List.length_replicate, List.length_take]; omega) | (simp_all; done) | (simp_all; omega))
          all_goals try omega
          refine ⟨(true, zs), ⟨hz1, hz2, hz3⟩, ?_⟩
          repeat' ((conv => whnf); first | done | refine ev_step ?_ | refine ops_step ?_ | refine scan_step ?_ | refine draw_step ?_ | refine each_step ?_ | refine sl_step ?_ | refine hp_step ?_ | refine guard_no (by decide) ?_ | refine guard_go ?_ | refine guard_old ?_ | apply cut_auto | with_reducible exact CutS.mk (Or.inl ⟨rfl, rfl, rfl⟩) | refine CutS.mk (Or.inr (sub_auto ?_)) | exact trivial | refine And.intro ?_ ?_ | refine cond_split ?_ ?_ | apply guess | exact Or.inl rfl | exact Or.inr rfl | exact Side.mk trivial | exact Side.mk (fun h => h) | exact Side.mk (fun h => ⟨h, h⟩) | with_reducible exact Side.mk rfl | with_reducible exact Side.mk ⟨rfl, rfl⟩ | with_reducible exact Side.mk (by assumption) | with_reducible rfl | intro _)
          all_goals try (conv => whnf)
          all_goals first | rfl | omega | trace_state
theorem k_growC (A V : List (List Int)) (ns : List R4) (segs : List (Nat × Nat)) (xss : List (List R2)) (hx : netsB A V ns = true) (hA : natSS A) (hs : SegsOK ns segs xss) (f : Nat) : ∀ (ks : List Int), ChoiceOK (wN A) A.length ns ks → ks.length + f = ns.length → GrowC A V ns segs xss f ks := by
  induction f with
  | zero => exact fun ks hc hl => k_growC1 A V ns segs xss hx hA hs 0 ks hc hl (fun f' h => by omega)
  | succ f ih =>
    intro ks hc hl
    refine k_growC1 A V ns segs xss hx hA hs (f + 1) ks hc hl fun f' h k hk => ?_
    obtain rfl : f' = f := by omega
    exact ih _ (choice_snoc hc (by omega) ⟨by omega, by unfold sN at hk; omega⟩) (by simp; omega)
end Go.Sx.U
