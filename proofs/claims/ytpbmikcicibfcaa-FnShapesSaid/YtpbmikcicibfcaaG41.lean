/-
  FnShapes, as a contract.
-/
import Derived.Test.YtpbmikcicibfcaaM8D
import Derived.Test.YtpbmikcicibfcaaG33
import Derived.Test.YtpbmikcicibfcaaG40
set_option linter.unusedSimpArgs false
namespace Go.Sx.U
set_option linter.unusedVariables false
set_option linter.unusedSimpArgs false
set_option maxRecDepth 100000
set_option maxHeartbeats 8000000
open Go Go.Sx Go.Proofs Go.Sx.M8

theorem far_line (a b c d : Int) : farI a b c d = (lineN a b c d : Int) := by
  unfold farI lineN
  omega
theorem shape_small {s : List R2} (h : GoodShape s) : smL s := fun i hi => by have := h.cel i hi; unfold smI; omega
/-- What the law wants of the shapes. -/
structure ShapesOK (a b c d : Int) (S : List (List R2)) : Prop where
  good : ∀ i, i < S.length → GoodShape (S.getD i [])
  len : ∀ i, i < S.length → (pathL (S.getD i [])).length = lineN a b c d + 1
  fst : ∀ i, i < S.length → (pathL (S.getD i [])).getD 0 default = ⟨a, b⟩
  lst : ∀ i, i < S.length → (pathL (S.getD i [])).getD ((pathL (S.getD i [])).length - 1) default = ⟨c, d⟩
  four : ∀ i, i < S.length → (S.getD i []).length ≤ 4
  diff : ∀ i k, k < i → i < S.length → S.getD i [] ≠ S.getD k []
  few : S.length ≤ 14
theorem shapes_okL {a b c d : Int} (h : cel a ∧ cel b ∧ cel c ∧ cel d) : ShapesOK a b c d (shapesV a b c d) := by
  obtain ⟨f1, f2⟩ := shapes_small h
  have hm : ∀ i, i < (shapesV a b c d).length → (shapesV a b c d).getD i [] ∈ shapesV a b c d := fun i hi => mem_of_getD hi
  have hg : ∀ i, i < (shapesV a b c d).length → GoodShape ((shapesV a b c d).getD i []) := fun i hi => good_shapes h.1 h.2.1 h.2.2.1 h.2.2.2 _ (hm i hi)
  refine ⟨hg, fun i hi => (shapes_lenP _ _ _ _ _ (hm i hi)).len, fun i hi => ?_, fun i hi => ?_, fun i hi => f2 _ (hm i hi), fun i k hk hi => shapes_ne hk hi, f1⟩
  · rw [← (shapes_lenP _ _ _ _ _ (hm i hi)).fst]
    exact linesT_head _ _
  · have hl := shapes_lenP _ _ _ _ _ (hm i hi)
    rw [← hl.lst]
    have h1 := (hg i hi).one
    exact linesT_last (hg i hi).ali _ (by omega)
theorem k_FnShapes (bs cs : List Int) (hp : Side ((bs.length ≤ 9223372036854775807 ∧ ∀ k ∈ bs, 0 ≤ k ∧ k ≤ 255) ∧ cs.length ≤ 9223372036854775807 ∧ ∀ k ∈ cs, 0 ≤ k ∧ k ≤ 255)) : FnIs Try.prog 9 [.sl 0 [], .sl 1 []] 2 [(1, .flat false (.ints .u8 cs)), (0, .flat false (.ints .u8 bs))] (.bool true) 2 [] := by
  obtain ⟨⟨b1, b2⟩, c1, c2⟩ := hp.h
  have k0 := k_r8Long bs cs ⟨⟨b1, c1⟩⟩
  refine fn_of_evk [0, 1, 4, 5, 6, 7, 8, 9, 10, 11, 12, 13, 14, 15, 16, 17, 18, 19, 20, 23, 87, 104, 108, 112, 163, 166, 177] tok Try.func9 rfl rfl rfl ?_
  by_cases hl : bs.length ≤ 48 ∧ cs.length ≤ 48
  · rw [show (decide (48 < (bs.length : Int)) || decide (48 < (cs.length : Int))) = false by rw [Bool.or_eq_false_iff, decide_eq_false_iff_not, decide_eq_false_iff_not]; omega] at k0
    have hb : bytesOk bs := ⟨Nat.le_trans hl.1 (by decide), b2⟩
    have hc : bytesOk cs := ⟨Nat.le_trans hl.2 (by decide), c2⟩
    repeat' ((conv => whnf); first | done | refine ev_step ?_ | refine ops_step ?_ | refine scan_step ?_ | refine draw_step ?_ | refine each_step ?_ | refine sl_step ?_ | refine hp_step ?_ | refine guard_no (by decide) ?_ | refine guard_go ?_ | refine guard_old ?_ | apply cut_auto | with_reducible exact CutS.mk (Or.inl ⟨rfl, rfl, rfl⟩) | refine CutS.mk (Or.inr (sub_auto ?_)) | exact trivial | refine And.intro ?_ ?_ | (refine cond_split ?_ ?_ <;> intro _ <;> first | (exfalso; first | omega | (simp only [decide_eq_true_eq, decide_eq_false_iff_not, Bool.not_eq_true', Bool.not_eq_false', ne_eq, Bool.not_true, Bool.not_false, cond_true, cond_false, Bool.true_eq_false, Bool.false_eq_true, Bool.and_eq_true, Bool.and_eq_false_iff] at *; omega)) | skip) | apply guess | apply FnIs.useF (k0) | apply FnEx.useF (k_r8At8 bs _ _ _) | exact Or.inl rfl | exact Or.inr rfl | exact Side.mk trivial | exact Side.mk (fun h => h) | exact Side.mk (fun h => ⟨h, h⟩) | with_reducible exact Side.mk rfl | with_reducible exact Side.mk ⟨rfl, rfl⟩ | with_reducible exact Side.mk (by assumption) | with_reducible rfl | intro _)
    all_goals try (conv => whnf)
    all_goals try (refine Side.mk ⟨hb, ?_⟩; omega)
    all_goals try (refine Side.mk ?_; first | (intros; omega) | (intro h1_ h2_; rw [h1_, h2_]; rfl) | (show List.length (_ ++ _) ≤ _; simp only [List.length_append, List.length_cons, List.length_nil, List.length_replicate, List.length_take]; omega) | (simp_all; done) | (simp_all; omega))
    rename_i u hu v hv r hr
    obtain ⟨w, hw⟩ : ∃ w : Nat, 1 + u = (w : Int) := ⟨(1 + u).toNat, by omega⟩
    obtain ⟨g, hg⟩ : ∃ g : Nat, 1 + v = (g : Int) := ⟨(1 + v).toNat, by omega⟩
    have ke := k_EvenGrid w g r ⟨⟨by omega, by omega⟩, ⟨by omega, by omega⟩, by omega, by omega⟩
    have hA : GR g (w - 1) (rowsE g (w - 1) r) := GR.even ⟨by omega, by omega⟩
    have hV : GR (g - 1) w (rowsE (g - 1) w r) := GR.even ⟨by omega, by omega⟩
    generalize rowsE g (w - 1) r = A at *
    generalize rowsE (g - 1) w r = V at *
    obtain ⟨m1, m2, m3⟩ := grid_mk hA hV ⟨by omega, by omega⟩ ⟨by omega, by omega⟩
    have nA := gr_nat hA (by omega) (by omega)
    have nV := gr_nat hV (by omega) (by omega)
    rw [hw, hg]
    repeat' ((conv => whnf); first | done | refine ev_step ?_ | refine ops_step ?_ | refine scan_step ?_ | refine draw_step ?_ | refine each_step ?_ | refine sl_step ?_ | refine hp_step ?_ | refine guard_no (by decide) ?_ | refine guard_go ?_ | refine guard_old ?_ | apply cut_auto | with_reducible exact CutS.mk (Or.inl ⟨rfl, rfl, rfl⟩) | refine CutS.mk (Or.inr (sub_auto ?_)) | exact trivial | refine And.intro ?_ ?_ | (refine cond_split ?_ ?_ <;> intro _ <;> first | (exfalso; first | omega | (simp only [decide_eq_true_eq, decide_eq_false_iff_not, Bool.not_eq_true', Bool.not_eq_false', ne_eq, Bool.not_true, Bool.not_false, cond_true, cond_false, Bool.true_eq_false, Bool.false_eq_true, Bool.and_eq_true, Bool.and_eq_false_iff] at *; omega)) | skip) | apply guess | apply FnIs.useF (ke) | apply FnEx.useF (k_r8At8 cs _ _ _) | exact Or.inl rfl | exact Or.inr rfl | exact Side.mk trivial | exact Side.mk (fun h => h) | exact Side.mk (fun h => ⟨h, h⟩) | with_reducible exact Side.mk rfl | with_reducible exact Side.mk ⟨rfl, rfl⟩ | with_reducible exact Side.mk (by assumption) | with_reducible rfl | intro _)
    all_goals try (conv => whnf)
    all_goals try (refine Side.mk ⟨hc, ?_⟩; omega)
    all_goals try exact hw
    all_goals try exact hg
    all_goals try exact hw.symm
    all_goals try exact hg.symm
    all_goals try (refine Side.mk ?_; first | (intros; omega) | (intro h1_ h2_; rw [h1_, h2_]; rfl) | (show List.length (_ ++ _) ≤ _; simp only [List.length_append, List.length_cons, List.length_nil, List.length_replicate, List.length_take]; omega) | (simp_all; done) | (simp_all; omega))
    rename_i a ha b hb' c hc' d hd
    have hl3 := hA.len
    have hwd : wd A = w := by have := hA.row 0 (by omega); unfold wd; omega
    have hk : (gridB A V && netB A a b c d) = true := by
      rw [m1, Bool.true_and]
      simp only [netB, cellB, Bool.and_eq_true, decide_eq_true_eq, hwd, hl3]
      omega
    have hcel : cel a ∧ cel b ∧ cel c ∧ cel d := by unfold cel; omega
    have ks := k_ShapesOf A V a b c d ⟨⟨nA, nV⟩⟩ hk
    have kd := k_DistanceOf a b c d ⟨⟨by omega, by omega⟩, by omega, by omega⟩
    rw [far_line] at kd
    have ki := k_IsNet A V a b c d ⟨⟨nA, nV⟩⟩
    rw [hk] at ki
    have kv := k_ValidGrid A V ⟨⟨nA, nV⟩⟩
    rw [m1] at kv
    have hS := shapes_okL hcel
    have hSl := shapesV_len a b c d
    have hln : lineN a b c d ≤ 14 := by unfold lineN; omega
    generalize shapesV a b c d = S at *
    have hS14 := hS.few
    have f1 := hS.len
    generalize lineN a b c d = D at *
    have hwant : ((bif decide (a = c) then true else decide (b = d)) = true ∧ decide ((S.length : Int) ≠ 1) = false) ∨ ((bif decide (a = c) then true else decide (b = d)) = false ∧ decide ((S.length : Int) ≠ (D : Int)) = false) := by
      rw [hSl]
      by_cases e1 : a = c
      · left; simp [e1]
      · by_cases e2 : b = d
        · left; simp [e1, e2]
        · right; simp [e1, e2]
    have p0 : ∀ i, i < S.length → FnIs Try.prog 45 [.sl 0 []] 1 [(0, .flat false (.r2 (S.getD i [])))] (.tuple [.sl 1 [], .bool true]) 2 [(1, .flat true (.r2 (pathL (S.getD i []))))] := fun i hi => k_PathThrough _ (hS.good i hi)
    have p1 : ∀ i, i < S.length → FnIs Try.prog 46 [.sl 0 []] 1 [(0, .flat false (.r2 (pathL (S.getD i []))))] (.tuple [.int .i64 (max (((S.getD i []).length : Int) - 2) 0), .bool true]) 1 [] := fun i hi => k_BendsOfP _ (hS.good i hi)
    have p2 : ∀ i k, k < i → i < S.length → FnIs Try.prog 47 [.sl 0 [], .sl 1 []] 2 [(0, .flat false (.r2 (S.getD i []))), (1, .flat false (.r2 (S.getD k [])))] (.bool false) 2 [] := fun i k hk hi => k_r8PointsNo _ _ ⟨⟨by have := hS.four i hi; omega, by have := hS.four k (by omega); omega⟩, ⟨shape_small (hS.good i hi), shape_small (hS.good k (by omega))⟩, hS.diff i k hk hi⟩
    have f2 := hS.fst
    have f3 := hS.lst
    have f4 := hS.four
    clear hS hSl
    rcases hwant with ⟨d1, d2⟩ | ⟨d1, d2⟩
    all_goals
      repeat' ((conv => whnf); first | done | refine ev_step ?_ | refine ops_step ?_ | refine scan_step ?_ | refine draw_step ?_ | refine each_step ?_ | refine sl_step ?_ | refine hp_step ?_ | refine guard_yes rfl ?_ | refine guard_no (by decide) ?_ | refine guard_go ?_ | refine guard_old ?_ | apply cut_auto | with_reducible exact CutS.mk (Or.inl ⟨rfl, rfl, rfl⟩) | refine CutS.mk (Or.inr (sub_auto ?_)) | exact trivial | refine And.intro ?_ ?_ | (refine cond_split ?_ ?_ <;> intro hq_ <;> first | (exfalso; first | omega | (simp only [d1, d2, cond_true, cond_false, Bool.not_true, Bool.not_false, Bool.and_true, Bool.true_and, Bool.and_false, Bool.false_and, Bool.or_true, Bool.true_or, Bool.or_false, Bool.false_or, Bool.true_eq_false, Bool.false_eq_true, decide_true, decide_false, reduceCtorEq] at hq_; done) | (rw [decide_eq_false_iff_not] at hq_; omega) | (rw [decide_eq_true_eq] at hq_; omega) | (simp only [d1, d2, reduceCtorEq] at hq_; done) | exact Bool.noConfusion (Eq.trans (Eq.symm d1) hq_) | exact Bool.noConfusion (Eq.trans (Eq.symm d2) hq_)) | skip) | apply guess | apply FnIs.useF (ks) | apply FnIs.useF (kd) | apply FnIs.useF (ki) | apply FnIs.useF (kv) | exact Or.inl rfl | exact Or.inr rfl | exact Side.mk trivial | exact Side.mk (fun h => h) | exact Side.mk (fun h => ⟨h, h⟩) | with_reducible exact Side.mk rfl | with_reducible exact Side.mk ⟨rfl, rfl⟩ | with_reducible exact Side.mk (by assumption) | with_reducible rfl | intro _)
      all_goals try (conv => whnf)
      all_goals try (refine Side.mk ?_; first | (intros; omega) | (intro h1_ h2_; rw [h1_, h2_]; rfl) | (show List.length (_ ++ _) ≤ _; simp only [List.length_append, List.length_cons, List.length_nil, List.length_replicate, List.length_take]; omega) | (simp_all; done) | (simp_all; omega))
      refine loop_at (fun i : Nat => i ≤ S.length) 10 (fun i => [(15, .int .i64 i), (16, .top), (17, .top), (18, .top), (19, .top), (20, .top), (112, .top), (163, .top), (166, .top), (177, .top)]) (fun i => []) (fun i => S.length - i) 0 (Nat.zero_le _) ?_ (fun i hi => ?_)
      · repeat' ((conv => whnf); first | done | refine ev_step ?_ | refine ops_step ?_ | refine scan_step ?_ | refine draw_step ?_ | refine each_step ?_ | refine sl_step ?_ | refine hp_step ?_ | refine guard_no (by decide) ?_ | refine guard_go ?_ | refine guard_old ?_ | apply cut_auto | with_reducible exact CutS.mk (Or.inl ⟨rfl, rfl, rfl⟩) | refine CutS.mk (Or.inr (sub_auto ?_)) | exact trivial | refine And.intro ?_ ?_ | refine cond_split ?_ ?_ | apply guess | exact Or.inl rfl | exact Or.inr rfl | exact Side.mk trivial | exact Side.mk (fun h => h) | exact Side.mk (fun h => ⟨h, h⟩) | with_reducible exact Side.mk rfl | with_reducible exact Side.mk ⟨rfl, rfl⟩ | with_reducible exact Side.mk (by assumption) | with_reducible rfl | intro _)
        all_goals try (conv => whnf)
        all_goals first | rfl | trace_state
      · by_cases hlt : i < S.length
        · have p0i := p0 i hlt
          have p1i := p1 i hlt
          have g1 := f1 i hlt
          have g2 := f2 i hlt
          have g3 := f3 i hlt
          have g4 := f4 i hlt
          have d9 : decide ((i : Int) < (S.length : Int)) = true := decide_eq_true (by omega)
          clear f1 f2 f3 f4 p0 p1
          generalize pathL (S.getD i []) = P at *
          have gz : P.getD (Int.toNat 0) default = ⟨a, b⟩ := g2
          have gl : P.getD ((P.length : Int) - 1).toNat default = ⟨c, d⟩ := by rw [show ((P.length : Int) - 1).toNat = P.length - 1 by omega]; exact g3
          have hcond : (bif bif bif bif bif !true then true else !true then true else decide (2 < max (((S.getD i []).length : Int) - 2) 0) then true else decide ((P.length : Int) - 1 ≠ (D : Int)) then true else !(decide ((P.getD (Int.toNat 0) default).a = a) && decide ((P.getD (Int.toNat 0) default).b = b)) then true else !(decide ((P.getD ((P.length : Int) - 1).toNat default).a = c) && decide ((P.getD ((P.length : Int) - 1).toNat default).b = d))) = false := by
            rw [gz, gl, decide_eq_false (show ¬ 2 < max (((S.getD i []).length : Int) - 2) 0 by omega), decide_eq_false (show ¬ (P.length : Int) - 1 ≠ (D : Int) by omega)]
            simp
          repeat' ((conv => whnf); first | done | refine ev_step ?_ | refine ops_step ?_ | refine scan_step ?_ | refine draw_step ?_ | refine each_step ?_ | refine sl_step ?_ | refine hp_step ?_ | refine guard_no (by decide) ?_ | refine guard_go ?_ | refine guard_old ?_ | apply cut_auto | with_reducible exact CutS.mk (Or.inl ⟨rfl, rfl, rfl⟩) | refine CutS.mk (Or.inr (sub_auto ?_)) | exact trivial | refine And.intro ?_ ?_ | (refine cond_split ?_ ?_ <;> intro hq_ <;> first | (exfalso; first | omega | (simp only [d9, hcond, cond_true, cond_false, Bool.not_true, Bool.not_false, Bool.and_true, Bool.true_and, Bool.and_false, Bool.false_and, Bool.or_true, Bool.true_or, Bool.or_false, Bool.false_or, Bool.true_eq_false, Bool.false_eq_true, decide_true, decide_false, reduceCtorEq] at hq_; done) | (rw [decide_eq_false_iff_not] at hq_; omega) | (rw [decide_eq_true_eq] at hq_; omega) | (simp only [d9, hcond, reduceCtorEq] at hq_; done) | exact Bool.noConfusion (Eq.trans (Eq.symm d9) hq_) | exact Bool.noConfusion (Eq.trans (Eq.symm hcond) hq_)) | skip) | apply guess | apply FnIs.useF (p0i) | apply FnIs.useF (p1i) | exact Or.inl rfl | exact Or.inr rfl | exact Side.mk trivial | exact Side.mk (fun h => h) | exact Side.mk (fun h => ⟨h, h⟩) | with_reducible exact Side.mk rfl | with_reducible exact Side.mk ⟨rfl, rfl⟩ | with_reducible exact Side.mk (by assumption) | with_reducible rfl | intro _)
          all_goals try (conv => whnf)
          all_goals try simp only [Int.toNat_natCast]
          all_goals try (refine Side.mk ?_; intro _; simp only [gz, gl]; unfold inI64; omega)
          all_goals try (refine Side.mk ?_; first | (intros; omega) | (intro h1_ h2_; rw [h1_, h2_]; rfl) | (show List.length (_ ++ _) ≤ _; simp only [List.length_append, List.length_cons, List.length_nil, List.length_replicate, List.length_take]; omega) | (simp_all; done) | (simp_all; omega))
          all_goals try omega
          refine loop_at (fun k : Nat => k ≤ i) 12 (fun k => [(20, .int .i64 k), (166, .top), (177, .top)]) (fun k => []) (fun k => i - k) 0 (Nat.zero_le _) ?_ (fun k hk => ?_)
          · repeat' ((conv => whnf); first | done | refine ev_step ?_ | refine ops_step ?_ | refine scan_step ?_ | refine draw_step ?_ | refine each_step ?_ | refine sl_step ?_ | refine hp_step ?_ | refine guard_no (by decide) ?_ | refine guard_go ?_ | refine guard_old ?_ | apply cut_auto | with_reducible exact CutS.mk (Or.inl ⟨rfl, rfl, rfl⟩) | refine CutS.mk (Or.inr (sub_auto ?_)) | exact trivial | refine And.intro ?_ ?_ | refine cond_split ?_ ?_ | apply guess | exact Or.inl rfl | exact Or.inr rfl | exact Side.mk trivial | exact Side.mk (fun h => h) | exact Side.mk (fun h => ⟨h, h⟩) | with_reducible exact Side.mk rfl | with_reducible exact Side.mk ⟨rfl, rfl⟩ | with_reducible exact Side.mk (by assumption) | with_reducible rfl | intro _)
            all_goals try (conv => whnf)
            all_goals first | rfl | trace_state
          · by_cases hkt : k < i
            · have p2k := p2 i k hkt hlt
              have d8 : decide ((k : Int) < (i : Int)) = true := decide_eq_true (by omega)
              repeat' ((conv => whnf); first | done | refine ev_step ?_ | refine ops_step ?_ | refine scan_step ?_ | refine draw_step ?_ | refine each_step ?_ | refine sl_step ?_ | refine hp_step ?_ | refine ACall.disown (M := 8) rfl (FnIs.useF p2k ?_) | refine guard_no (by decide) ?_ | refine guard_go ?_ | refine guard_old ?_ | apply cut_auto | with_reducible exact CutS.mk (Or.inl ⟨rfl, rfl, rfl⟩) | refine CutS.mk (Or.inr (sub_auto ?_)) | exact trivial | refine And.intro ?_ ?_ | (refine cond_split ?_ ?_ <;> intro hq_ <;> first | (exfalso; first | omega | (simp only [d8, cond_true, cond_false, Bool.not_true, Bool.not_false, Bool.and_true, Bool.true_and, Bool.and_false, Bool.false_and, Bool.or_true, Bool.true_or, Bool.or_false, Bool.false_or, Bool.true_eq_false, Bool.false_eq_true, decide_true, decide_false, reduceCtorEq] at hq_; done) | (rw [decide_eq_false_iff_not] at hq_; omega) | (rw [decide_eq_true_eq] at hq_; omega) | (simp only [d8, reduceCtorEq] at hq_; done) | exact Bool.noConfusion (Eq.trans (Eq.symm d8) hq_)) | skip) | apply guess | exact Or.inl rfl | exact Or.inr rfl | exact Side.mk trivial | exact Side.mk (fun h => h) | exact Side.mk (fun h => ⟨h, h⟩) | with_reducible exact Side.mk rfl | with_reducible exact Side.mk ⟨rfl, rfl⟩ | with_reducible exact Side.mk (by assumption) | with_reducible rfl | intro _)
              all_goals try (conv => whnf)
              all_goals try simp only [Int.toNat_natCast]
              all_goals try (refine Side.mk ?_; first | (intros; omega) | (intro h1_ h2_; rw [h1_, h2_]; rfl) | (show List.length (_ ++ _) ≤ _; simp only [List.length_append, List.length_cons, List.length_nil, List.length_replicate, List.length_take]; omega) | (simp_all; done) | (simp_all; omega))
              all_goals try omega
              refine ⟨k + 1, by omega, by omega, ?_⟩
              repeat' ((conv => whnf); first | done | refine ev_step ?_ | refine ops_step ?_ | refine scan_step ?_ | refine draw_step ?_ | refine each_step ?_ | refine sl_step ?_ | refine hp_step ?_ | refine guard_no (by decide) ?_ | refine guard_go ?_ | refine guard_old ?_ | apply cut_auto | with_reducible exact CutS.mk (Or.inl ⟨rfl, rfl, rfl⟩) | refine CutS.mk (Or.inr (sub_auto ?_)) | exact trivial | refine And.intro ?_ ?_ | refine cond_split ?_ ?_ | apply guess | exact Or.inl rfl | exact Or.inr rfl | exact Side.mk trivial | exact Side.mk (fun h => h) | exact Side.mk (fun h => ⟨h, h⟩) | with_reducible exact Side.mk rfl | with_reducible exact Side.mk ⟨rfl, rfl⟩ | with_reducible exact Side.mk (by assumption) | with_reducible rfl | intro _)
              all_goals try (conv => whnf)
              all_goals first | rfl | omega | trace_state
            · have d8 : decide ((k : Int) < (i : Int)) = false := decide_eq_false (by omega)
              repeat' ((conv => whnf); first | done | refine ev_step ?_ | refine ops_step ?_ | refine scan_step ?_ | refine draw_step ?_ | refine each_step ?_ | refine sl_step ?_ | refine hp_step ?_ | refine guard_no (by decide) ?_ | refine guard_go ?_ | refine guard_old ?_ | apply cut_auto | with_reducible exact CutS.mk (Or.inl ⟨rfl, rfl, rfl⟩) | refine CutS.mk (Or.inr (sub_auto ?_)) | exact trivial | refine And.intro ?_ ?_ | (refine cond_split ?_ ?_ <;> intro hq_ <;> first | (exfalso; first | omega | (simp only [d8, cond_true, cond_false, Bool.not_true, Bool.not_false, Bool.and_true, Bool.true_and, Bool.and_false, Bool.false_and, Bool.or_true, Bool.true_or, Bool.or_false, Bool.false_or, Bool.true_eq_false, Bool.false_eq_true, decide_true, decide_false, reduceCtorEq] at hq_; done) | (rw [decide_eq_false_iff_not] at hq_; omega) | (rw [decide_eq_true_eq] at hq_; omega) | (simp only [d8, reduceCtorEq] at hq_; done) | exact Bool.noConfusion (Eq.trans (Eq.symm d8) hq_)) | skip) | apply guess | exact Or.inl rfl | exact Or.inr rfl | exact Side.mk trivial | exact Side.mk (fun h => h) | exact Side.mk (fun h => ⟨h, h⟩) | with_reducible exact Side.mk rfl | with_reducible exact Side.mk ⟨rfl, rfl⟩ | with_reducible exact Side.mk (by assumption) | with_reducible rfl | intro _)
              all_goals try (conv => whnf)
              all_goals try (refine Side.mk ?_; first | (intros; omega) | (intro h1_ h2_; rw [h1_, h2_]; rfl) | (show List.length (_ ++ _) ≤ _; simp only [List.length_append, List.length_cons, List.length_nil, List.length_replicate, List.length_take]; omega) | (simp_all; done) | (simp_all; omega))
              all_goals try omega
              refine ⟨i + 1, by omega, by omega, ?_⟩
              repeat' ((conv => whnf); first | done | refine ev_step ?_ | refine ops_step ?_ | refine scan_step ?_ | refine draw_step ?_ | refine each_step ?_ | refine sl_step ?_ | refine hp_step ?_ | refine guard_no (by decide) ?_ | refine guard_go ?_ | refine guard_old ?_ | apply cut_auto | with_reducible exact CutS.mk (Or.inl ⟨rfl, rfl, rfl⟩) | refine CutS.mk (Or.inr (sub_auto ?_)) | exact trivial | refine And.intro ?_ ?_ | refine cond_split ?_ ?_ | apply guess | exact Or.inl rfl | exact Or.inr rfl | exact Side.mk trivial | exact Side.mk (fun h => h) | exact Side.mk (fun h => ⟨h, h⟩) | with_reducible exact Side.mk rfl | with_reducible exact Side.mk ⟨rfl, rfl⟩ | with_reducible exact Side.mk (by assumption) | with_reducible rfl | intro _)
              all_goals try (conv => whnf)
              all_goals first | rfl | omega | trace_state
        · have d9 : decide ((i : Int) < (S.length : Int)) = false := decide_eq_false (by omega)
          clear f1 f2 f3 f4 p0 p1
          repeat' ((conv => whnf); first | done | refine ev_step ?_ | refine ops_step ?_ | refine scan_step ?_ | refine draw_step ?_ | refine each_step ?_ | refine sl_step ?_ | refine hp_step ?_ | refine guard_no (by decide) ?_ | refine guard_go ?_ | refine guard_old ?_ | apply cut_auto | with_reducible exact CutS.mk (Or.inl ⟨rfl, rfl, rfl⟩) | refine CutS.mk (Or.inr (sub_auto ?_)) | exact trivial | refine And.intro ?_ ?_ | (refine cond_split ?_ ?_ <;> intro hq_ <;> first | (exfalso; first | omega | (simp only [d9, cond_true, cond_false, Bool.not_true, Bool.not_false, Bool.and_true, Bool.true_and, Bool.and_false, Bool.false_and, Bool.or_true, Bool.true_or, Bool.or_false, Bool.false_or, Bool.true_eq_false, Bool.false_eq_true, decide_true, decide_false, reduceCtorEq] at hq_; done) | (rw [decide_eq_false_iff_not] at hq_; omega) | (rw [decide_eq_true_eq] at hq_; omega) | (simp only [d9, reduceCtorEq] at hq_; done) | exact Bool.noConfusion (Eq.trans (Eq.symm d9) hq_)) | skip) | apply guess | exact Or.inl rfl | exact Or.inr rfl | exact Side.mk trivial | exact Side.mk (fun h => h) | exact Side.mk (fun h => ⟨h, h⟩) | with_reducible exact Side.mk rfl | with_reducible exact Side.mk ⟨rfl, rfl⟩ | with_reducible exact Side.mk (by assumption) | with_reducible rfl | intro _)
          all_goals try (conv => whnf)
          all_goals try (refine Side.mk ?_; first | (intros; omega) | (intro h1_ h2_; rw [h1_, h2_]; rfl) | (show List.length (_ ++ _) ≤ _; simp only [List.length_append, List.length_cons, List.length_nil, List.length_replicate, List.length_take]; omega) | (simp_all; done) | (simp_all; omega))
          all_goals first | rfl | omega | trace_state
  · rw [show (decide (48 < (bs.length : Int)) || decide (48 < (cs.length : Int))) = true by rw [Bool.or_eq_true, decide_eq_true_eq, decide_eq_true_eq]; omega] at k0
    repeat' ((conv => whnf); first | done | refine ev_step ?_ | refine ops_step ?_ | refine scan_step ?_ | refine draw_step ?_ | refine each_step ?_ | refine sl_step ?_ | refine hp_step ?_ | refine guard_no (by decide) ?_ | refine guard_go ?_ | refine guard_old ?_ | apply cut_auto | with_reducible exact CutS.mk (Or.inl ⟨rfl, rfl, rfl⟩) | refine CutS.mk (Or.inr (sub_auto ?_)) | exact trivial | refine And.intro ?_ ?_ | (refine cond_split ?_ ?_ <;> intro _ <;> first | (exfalso; first | omega | (simp only [decide_eq_true_eq, decide_eq_false_iff_not, Bool.not_eq_true', Bool.not_eq_false', ne_eq, Bool.not_true, Bool.not_false, cond_true, cond_false, Bool.true_eq_false, Bool.false_eq_true, Bool.and_eq_true, Bool.and_eq_false_iff] at *; omega)) | skip) | apply guess | apply FnIs.useF (k0) | exact Or.inl rfl | exact Or.inr rfl | exact Side.mk trivial | exact Side.mk (fun h => h) | exact Side.mk (fun h => ⟨h, h⟩) | with_reducible exact Side.mk rfl | with_reducible exact Side.mk ⟨rfl, rfl⟩ | with_reducible exact Side.mk (by assumption) | with_reducible rfl | intro _)
    all_goals try (conv => whnf)
    all_goals first | rfl | trace_state
end Go.Sx.U
