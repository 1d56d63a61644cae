/-
  Chapter 9: the reference's critical path (contract).
-/
import Derived.Test.YtgfbiehncbinmaaM9D
import Derived.Test.YtgfbiehncbinmaaQ7
import Derived.Test.YtgfbiehncbinmaaR8
import Derived.Test.YtgfbiehncbinmaaM9T
set_option linter.unusedSimpArgs false
namespace Go.Sx.U
set_option linter.unusedVariables false
set_option linter.unusedSimpArgs false
set_option maxRecDepth 100000
set_option maxHeartbeats 8000000
open Go Go.Sx Go.Proofs Go.Sx.M9

abbrev srcB (pl : List Int) (v : Int) : Bool := decide (0 ≤ v) && decide (v < pl.length) && decide (pl.getD v.toNat 0 = 0)
abbrev finB (pl : List Int) (v : Int) : Bool := decide (0 ≤ v) && decide (v < pl.length) && decide (pl.getD v.toNat 0 = maxL pl)
abbrev tkL (rs : List R3) (pl : List Int) : List Int := tights rs pl rs.length
/-- The reference's answer. -/
def critL (n : Nat) (rs : List R3) (pl : List Int) : List Int := critF rs (tkL rs pl) (finB pl) n (n + 1) (startT (srcB pl) n)
def critV (p : Int) (rs : List R3) : List Int := match least? p rs with
  | none => []
  | some pl => critL p.toNat rs pl
structure PressOK (n : Nat) (rs : List R3) (pl : List Int) : Prop where
  par : 1 ≤ n ∧ n ≤ 16
  rul : rs.length ≤ 40
  len : pl.length = n
  rng : ∀ r ∈ rs, (0 ≤ r.a ∧ r.a < n) ∧ (0 ≤ r.b ∧ r.b < n) ∧ -1000 ≤ r.c ∧ r.c ≤ 1000
  pls : ∀ i, 0 ≤ pl.getD i 0 ∧ pl.getD i 0 ≤ 16000
theorem press_ok {p : Int} {rs : List R3} {pl : List Int} (h : least? p rs = some pl) : okPress p rs = true ∧ leastR p rs = some pl ∧ (p = (p.toNat : Int)) ∧ PressOK p.toNat rs pl := by
  unfold least? at h
  split at h
  case isFalse => cases h
  rename_i hp
  obtain ⟨h1, h2, h3, h4⟩ := leastR_spec hp h
  have hb := okPress_bd hp
  have hall := hp
  simp only [okPress, Bool.and_eq_true, decide_eq_true_eq, List.all_eq_true, okRule] at hall
  refine ⟨hp, h, by omega, ⟨by omega, by omega, by omega, fun r hr => ?_, fun i => ⟨h2 i, h4 i⟩⟩⟩
  have := hall.2 r hr
  omega
theorem tkL_bd (rs : List R3) (pl : List Int) : (tkL rs pl).length ≤ rs.length ∧ ∀ k, k < (tkL rs pl).length → 0 ≤ (tkL rs pl).getD k 0 ∧ (tkL rs pl).getD k 0 < rs.length := by
  refine ⟨tights_len rs pl _, fun k hk => ?_⟩
  have hm : (tkL rs pl).getD k 0 ∈ tkL rs pl := mem_of_getD hk
  obtain ⟨a, ha, e⟩ := List.mem_map.1 hm
  have := List.mem_range.1 (List.mem_filter.1 ha).1
  have e2 : (a : Int) = (tkL rs pl).getD k 0 := e
  omega
theorem edge_rng {n : Nat} {rs : List R3} {pl : List Int} (h : PressOK n rs pl) {u v : Int} (he : edgeK rs (tkL rs pl) u v = true) : (0 ≤ u ∧ u < n) ∧ 0 ≤ v ∧ v < n := by
  obtain ⟨k, hk, h1, h2⟩ := edgeK_iff.1 he
  obtain ⟨_, hb⟩ := tkL_bd rs pl
  have hb := hb k hk
  have := h.rng _ (mem_of_getD (d := default) (show ((tkL rs pl).getD k 0).toNat < rs.length by omega))
  rw [h1, h2] at this
  exact ⟨this.1, this.2.1⟩
theorem src_rng {n : Nat} {rs : List R3} {pl : List Int} (h : PressOK n rs pl) {v : Int} (he : srcB pl v = true) : 0 ≤ v ∧ v < n := by
  simp only [srcB, Bool.and_eq_true, decide_eq_true_eq] at he
  have := h.len
  omega
theorem last_rng {n : Nat} {rs : List R3} {pl : List Int} (h : PressOK n rs pl) {l : List Int} (hw : M9.Way (edgeK rs (tkL rs pl)) (srcB pl) l) : 0 ≤ lastI l ∧ lastI l < n := by
  have h1 := hw.one
  by_cases e : l.length = 1
  · have := src_rng h hw.src
    unfold lastI
    rw [e]
    exact this
  · have := (edge_rng h (hw.step (l.length - 2) (by omega))).2
    rw [show l.length - 2 + 1 = l.length - 1 by omega] at this
    exact this
theorem startT_len (S : Int → Bool) : ∀ n, (startT S n).length ≤ n
  | 0 => Nat.le_refl _
  | n + 1 => by
    have := startT_len S n
    simp only [startT]
    split
    · simp; omega
    · omega
theorem crit_is {n : Nat} {rs : List R3} {pl : List Int} (h : PressOK n rs pl) : CritV (edgeK rs (tkL rs pl)) (srcB pl) (finB pl) (critL n rs pl) :=
  crit_ref (fun _ _ he => (edge_rng h he).2) (fun _ he => src_rng h he)
theorem placed_some {p : Int} {rs : List R3} {pl : List Int} (hp : okPress p rs = true) (h : leastR p rs = some pl) : placed p rs pl = true := by
  obtain ⟨h1, h2, h3, h4⟩ := leastR_spec hp h
  have hb := okPress_bd hp
  refine placed_iff.2 ⟨by omega, fun x hx => ?_, h3⟩
  obtain ⟨i, hi, e⟩ := mem_getI hx
  rw [← e]
  exact ⟨h2 i, h4 i⟩
theorem and_l {a b : Bool} (h : (a && b) = true) : a = true := by cases a <;> simp_all
theorem and_r {a b : Bool} (h : (a && b) = true) : b = true := by cases a <;> simp_all
theorem k_CritSpec (p : Int) (rs : List R3) (h : Side (inI64 p ∧ rs.length ≤ 1048577)) : FnEx Try.prog 17 [.agg [.int .i64 p, .sl 0 []]] 1 [(0, .flat false (.r3 rs))] (fun o : Option (List (List Int) × Nat) => match o with | none => critV p rs = [] | some a => a.2 < a.1.length ∧ a.1.getD a.2 [] = critV p rs ∧ critV p rs ≠ [] ∧ (critV p rs).length ≤ 16) (fun o => match o with | none => .tuple [.nilsl, .bool false] | some a => .tuple [.sl 1 [a.2], .bool true]) 2 (fun o => match o with | none => [] | some a => [(1, .nestI true .i64 a.1)]) := by
  have k1 := c66 p rs h
  cases hp : okPress p rs with
  | false =>
    rw [hp] at k1
    refine ex_of_evk [0, 1, 2, 3, 4, 5, 6, 7, 8, 9, 10, 11, 13, 19, 28, 35, 43, 48, 80, 87] tok Try.func17 rfl rfl rfl ?_
    repeat' ((conv => whnf); first | done | refine ev_step ?_ | refine ops_step ?_ | refine scan_step ?_ | refine draw_step ?_ | refine each_step ?_ | refine sl_step ?_ | refine hp_step ?_ | refine guard_no (by decide) ?_ | refine guard_go ?_ | refine guard_old ?_ | apply cut_auto | with_reducible exact CutS.mk (Or.inl ⟨rfl, rfl, rfl⟩) | refine CutS.mk (Or.inr (Or.inl (sub_auto ?_))) | exact trivial | refine And.intro ?_ ?_ | (refine cond_split ?_ ?_ <;> intro _ <;> first | (exfalso; first | omega | (simp only [decide_eq_true_eq, decide_eq_false_iff_not, Bool.not_eq_true', Bool.not_eq_false', ne_eq, Bool.not_true, Bool.not_false, cond_true, cond_false, Bool.true_eq_false, Bool.false_eq_true, Bool.and_eq_true, Bool.and_eq_false_iff] at *; omega)) | skip) | apply guess | apply FnIs.useF (k1) | exact Or.inl rfl | exact Or.inr rfl | exact Side.mk trivial | exact Side.mk (fun h => h) | exact Side.mk (fun h => ⟨h, h⟩) | with_reducible exact Side.mk rfl | with_reducible exact Side.mk ⟨rfl, rfl⟩ | with_reducible exact Side.mk (by assumption) | with_reducible rfl | intro _)
    all_goals try (conv => whnf)
    all_goals try (refine Side.mk ?_; first | (intros; omega) | (intro h1_ h2_; rw [h1_, h2_]; rfl) | (show List.length (_ ++ _) ≤ _; simp only [List.length_append, List.length_cons, List.length_nil, List.length_replicate, List.length_take]; omega) | (simp_all; done) | (simp_all; omega))
    refine ⟨none, by simp [critV, least?, hp], ?_⟩
    repeat' ((conv => whnf); first | done | refine ev_step ?_ | refine ops_step ?_ | refine scan_step ?_ | refine draw_step ?_ | refine each_step ?_ | refine sl_step ?_ | refine hp_step ?_ | refine guard_no (by decide) ?_ | refine guard_go ?_ | refine guard_old ?_ | apply cut_auto | with_reducible exact CutS.mk (Or.inl ⟨rfl, rfl, rfl⟩) | refine CutS.mk (Or.inr (Or.inl (sub_auto ?_))) | exact trivial | refine And.intro ?_ ?_ | refine cond_split ?_ ?_ | apply guess | exact Or.inl rfl | exact Or.inr rfl | exact Side.mk trivial | exact Side.mk (fun h => h) | exact Side.mk (fun h => ⟨h, h⟩) | with_reducible exact Side.mk rfl | with_reducible exact Side.mk ⟨rfl, rfl⟩ | with_reducible exact Side.mk (by assumption) | with_reducible rfl | intro _)
    all_goals try (conv => whnf)
    all_goals first | rfl | trace_state
  | true =>
    rw [hp] at k1
    have k2 := c76 p rs ⟨hp⟩
    cases hL : leastR p rs with
    | none =>
      rw [hL] at k2
      refine ex_of_evk [0, 1, 2, 3, 4, 5, 6, 7, 8, 9, 10, 11, 13, 19, 28, 35, 43, 48, 80, 87] tok Try.func17 rfl rfl rfl ?_
      repeat' ((conv => whnf); first | done | refine ev_step ?_ | refine ops_step ?_ | refine scan_step ?_ | refine draw_step ?_ | refine each_step ?_ | refine sl_step ?_ | refine hp_step ?_ | refine guard_no (by decide) ?_ | refine guard_go ?_ | refine guard_old ?_ | apply cut_auto | with_reducible exact CutS.mk (Or.inl ⟨rfl, rfl, rfl⟩) | refine CutS.mk (Or.inr (Or.inl (sub_auto ?_))) | exact trivial | refine And.intro ?_ ?_ | (refine cond_split ?_ ?_ <;> intro _ <;> first | (exfalso; first | omega | (simp only [decide_eq_true_eq, decide_eq_false_iff_not, Bool.not_eq_true', Bool.not_eq_false', ne_eq, Bool.not_true, Bool.not_false, cond_true, cond_false, Bool.true_eq_false, Bool.false_eq_true, Bool.and_eq_true, Bool.and_eq_false_iff] at *; omega)) | skip) | apply guess | apply FnIs.useF (k1) | apply FnIs.useF (k2) | exact Or.inl rfl | exact Or.inr rfl | exact Side.mk trivial | exact Side.mk (fun h => h) | exact Side.mk (fun h => ⟨h, h⟩) | with_reducible exact Side.mk rfl | with_reducible exact Side.mk ⟨rfl, rfl⟩ | with_reducible exact Side.mk (by assumption) | with_reducible rfl | intro _)
      all_goals try (conv => whnf)
      all_goals try (refine Side.mk ?_; first | (intros; omega) | (intro h1_ h2_; rw [h1_, h2_]; rfl) | (show List.length (_ ++ _) ≤ _; simp only [List.length_append, List.length_cons, List.length_nil, List.length_replicate, List.length_take]; omega) | (simp_all; done) | (simp_all; omega))
      refine ⟨none, by simp [critV, least?, hp, hL], ?_⟩
      repeat' ((conv => whnf); first | done | refine ev_step ?_ | refine ops_step ?_ | refine scan_step ?_ | refine draw_step ?_ | refine each_step ?_ | refine sl_step ?_ | refine hp_step ?_ | refine guard_no (by decide) ?_ | refine guard_go ?_ | refine guard_old ?_ | apply cut_auto | with_reducible exact CutS.mk (Or.inl ⟨rfl, rfl, rfl⟩) | refine CutS.mk (Or.inr (Or.inl (sub_auto ?_))) | exact trivial | refine And.intro ?_ ?_ | refine cond_split ?_ ?_ | apply guess | exact Or.inl rfl | exact Or.inr rfl | exact Side.mk trivial | exact Side.mk (fun h => h) | exact Side.mk (fun h => ⟨h, h⟩) | with_reducible exact Side.mk rfl | with_reducible exact Side.mk ⟨rfl, rfl⟩ | with_reducible exact Side.mk (by assumption) | with_reducible rfl | intro _)
      all_goals try (conv => whnf)
      all_goals first | rfl | trace_state
    | some pl =>
      rw [hL] at k2
      simp only [Option.isSome_some, Option.getD_some] at k2
      have hl : least? p rs = some pl := by simp [least?, hp, hL]
      obtain ⟨_, _, hpn, hP⟩ := press_ok hl
      have hcv : critV p rs = critL p.toNat rs pl := by simp only [critV, hl]
      rw [hcv]
      clear hcv
      generalize p.toNat = n at *
      subst hpn
      have hpl := hP.pls
      have hlen := hP.len
      have k3 := c79 pl ⟨by have := hP.par; omega, fun i => (hpl i).1⟩
      have k4 := c87 (n : Int) rs pl ⟨hp, placed_some hp hL⟩
      refine ex_of_evk [0, 1, 2, 3, 4, 5, 6, 7, 8, 9, 10, 11, 13, 19, 28, 35, 43, 48, 80, 87] tok Try.func17 rfl rfl rfl ?_
      repeat' ((conv => whnf); first | done | refine ev_step ?_ | refine ops_step ?_ | refine scan_step ?_ | refine draw_step ?_ | refine each_step ?_ | refine sl_step ?_ | refine hp_step ?_ | refine guard_no (by decide) ?_ | refine guard_go ?_ | refine guard_old ?_ | apply cut_auto | with_reducible exact CutS.mk (Or.inl ⟨rfl, rfl, rfl⟩) | refine CutS.mk (Or.inr (Or.inl (sub_auto ?_))) | exact trivial | refine And.intro ?_ ?_ | (refine cond_split ?_ ?_ <;> intro _ <;> first | (exfalso; first | omega | (simp only [decide_eq_true_eq, decide_eq_false_iff_not, Bool.not_eq_true', Bool.not_eq_false', ne_eq, Bool.not_true, Bool.not_false, cond_true, cond_false, Bool.true_eq_false, Bool.false_eq_true, Bool.and_eq_true, Bool.and_eq_false_iff] at *; omega)) | skip) | apply guess | apply FnIs.useF (k1) | apply FnIs.useF (k2) | apply FnIs.useF (k3) | apply FnIs.useF (k4) | exact Or.inl rfl | exact Or.inr rfl | exact Side.mk trivial | exact Side.mk (fun h => h) | exact Side.mk (fun h => ⟨h, h⟩) | with_reducible exact Side.mk rfl | with_reducible exact Side.mk ⟨rfl, rfl⟩ | with_reducible exact Side.mk (by assumption) | with_reducible rfl | intro _)
      all_goals try (conv => whnf)
      all_goals try (refine Side.mk ?_; first | (intros; omega) | (intro h1_ h2_; rw [h1_, h2_]; rfl) | (show List.length (_ ++ _) ≤ _; simp only [List.length_append, List.length_cons, List.length_nil, List.length_replicate, List.length_take]; omega) | (simp_all; done) | (simp_all; omega))
      have hpar := hP.par
      have hrul := hP.rul
      refine loop_at (fun i : Nat => i ≤ n) 6 (fun i => [(9, .int .i64 i), (8, .sl 5 []), (10, .top), (11, .top), (28, .top), (35, .top), (43, .top), (48, .top), (80, .top), (87, .top)]) (fun i => [(5, .flat true (.rows 4 0 (startT (srcB pl) i).length)), (4, .nestI true .i64 (startT (srcB pl) i))]) (fun i => n - i) 0 (Nat.zero_le _) ?_ (fun i hi => ?_)
      · repeat' ((conv => whnf); first | done | refine ev_step ?_ | refine ops_step ?_ | refine scan_step ?_ | refine draw_step ?_ | refine each_step ?_ | refine sl_step ?_ | refine hp_step ?_ | refine guard_no (by decide) ?_ | refine guard_go ?_ | refine guard_old ?_ | apply cut_auto | with_reducible exact CutS.mk (Or.inl ⟨rfl, rfl, rfl⟩) | refine CutS.mk (Or.inr (Or.inl (sub_auto ?_))) | exact trivial | refine And.intro ?_ ?_ | refine cond_split ?_ ?_ | apply guess | exact Or.inl rfl | exact Or.inr rfl | exact Side.mk trivial | exact Side.mk (fun h => h) | exact Side.mk (fun h => ⟨h, h⟩) | with_reducible exact Side.mk rfl | with_reducible exact Side.mk ⟨rfl, rfl⟩ | with_reducible exact Side.mk (by assumption) | with_reducible rfl | intro _)
        all_goals try (conv => whnf)
        all_goals first | rfl | trace_state
      · have hsl := startT_len (srcB pl) i
        by_cases hit : i < n
        · have d9 : decide ((i : Int) < (n : Int)) = true := decide_eq_true (by omega)
          have hs : startT (srcB pl) (i + 1) = if srcB pl i = true then startT (srcB pl) i ++ [[(i : Int)]] else startT (srcB pl) i := rfl
          have hsb : srcB pl (i : Int) = decide (pl.getD (i : Int).toNat 0 = 0) := by
            unfold srcB
            rw [decide_eq_true (show 0 ≤ (i : Int) by omega), decide_eq_true (show (i : Int) < pl.length by omega)]
            rfl
          rw [hsb] at hs
          cases hq : decide (pl.getD (i : Int).toNat 0 = 0)
          all_goals
            rw [hq] at hs
            repeat' ((conv => whnf); first | done | refine ev_step ?_ | refine ops_step ?_ | refine scan_step ?_ | refine draw_step ?_ | refine each_step ?_ | refine sl_step ?_ | refine hp_step ?_ | refine guard_no (by decide) ?_ | refine guard_go ?_ | refine guard_old ?_ | apply cut_auto | with_reducible exact CutS.mk (Or.inl ⟨rfl, rfl, rfl⟩) | refine CutS.mk (Or.inr (Or.inl (sub_auto ?_))) | exact trivial | refine And.intro ?_ ?_ | (refine cond_split ?_ ?_ <;> intro hq_ <;> first | (exfalso; first | omega | (simp only [d9, hq, cond_true, cond_false, Bool.not_true, Bool.not_false, Bool.and_true, Bool.true_and, Bool.and_false, Bool.false_and, Bool.or_true, Bool.true_or, Bool.or_false, Bool.false_or, Bool.true_eq_false, Bool.false_eq_true, decide_true, decide_false, reduceCtorEq] at hq_; done) | (rw [decide_eq_false_iff_not] at hq_; omega) | (rw [decide_eq_true_eq] at hq_; omega) | (simp only [d9, hq, reduceCtorEq] at hq_; done) | exact Bool.noConfusion (Eq.trans (Eq.symm d9) hq_) | exact Bool.noConfusion (Eq.trans (Eq.symm hq) hq_)) | skip) | apply guess | exact Or.inl rfl | exact Or.inr rfl | exact Side.mk trivial | exact Side.mk (fun h => h) | exact Side.mk (fun h => ⟨h, h⟩) | with_reducible exact Side.mk rfl | with_reducible exact Side.mk ⟨rfl, rfl⟩ | with_reducible exact Side.mk (by assumption) | with_reducible rfl | intro _)
            all_goals try (conv => whnf)
            all_goals try simp only [Int.toNat_natCast]
            all_goals try (refine Side.mk ?_; first | (intros; omega) | (intro h1_ h2_; rw [h1_, h2_]; rfl) | (show List.length (_ ++ _) ≤ _; simp only [List.length_append, List.length_cons, List.length_nil, List.length_replicate, List.length_take]; omega) | (simp_all; done) | (simp_all; omega))
            all_goals try omega
            refine ⟨i + 1, by omega, by omega, ?_⟩
            repeat' ((conv => whnf); first | done | refine ev_step ?_ | refine ops_step ?_ | refine scan_step ?_ | refine draw_step ?_ | refine each_step ?_ | refine sl_step ?_ | refine hp_step ?_ | refine guard_no (by decide) ?_ | refine guard_go ?_ | refine guard_old ?_ | apply cut_auto | with_reducible exact CutS.mk (Or.inl ⟨rfl, rfl, rfl⟩) | refine CutS.mk (Or.inr (Or.inl (sub_auto ?_))) | exact trivial | refine And.intro ?_ ?_ | refine cond_split ?_ ?_ | apply guess | exact Or.inl rfl | exact Or.inr rfl | exact Side.mk trivial | exact Side.mk (fun h => h) | exact Side.mk (fun h => ⟨h, h⟩) | with_reducible exact Side.mk rfl | with_reducible exact Side.mk ⟨rfl, rfl⟩ | with_reducible exact Side.mk (by assumption) | with_reducible rfl | intro _)
            all_goals try (conv => whnf)
            all_goals first | rfl | omega | (rw [hs]; rfl) | trace_state
        · have d9 : decide ((i : Int) < (n : Int)) = false := decide_eq_false (by omega)
          obtain rfl : n = i := by omega
          repeat' ((conv => whnf); first | done | refine ev_step ?_ | refine ops_step ?_ | refine scan_step ?_ | refine draw_step ?_ | refine each_step ?_ | refine sl_step ?_ | refine hp_step ?_ | refine guard_no (by decide) ?_ | refine guard_go ?_ | refine guard_old ?_ | apply cut_auto | with_reducible exact CutS.mk (Or.inl ⟨rfl, rfl, rfl⟩) | refine CutS.mk (Or.inr (Or.inl (sub_auto ?_))) | exact trivial | refine And.intro ?_ ?_ | (refine cond_split ?_ ?_ <;> intro hq_ <;> first | (exfalso; first | omega | (simp only [d9, cond_true, cond_false, Bool.not_true, Bool.not_false, Bool.and_true, Bool.true_and, Bool.and_false, Bool.false_and, Bool.or_true, Bool.true_or, Bool.or_false, Bool.false_or, Bool.true_eq_false, Bool.false_eq_true, decide_true, decide_false, reduceCtorEq] at hq_; done) | (rw [decide_eq_false_iff_not] at hq_; omega) | (rw [decide_eq_true_eq] at hq_; omega) | (simp only [d9, reduceCtorEq] at hq_; done) | exact Bool.noConfusion (Eq.trans (Eq.symm d9) hq_)) | skip) | apply guess | exact Or.inl rfl | exact Or.inr rfl | exact Side.mk trivial | exact Side.mk (fun h => h) | exact Side.mk (fun h => ⟨h, h⟩) | with_reducible exact Side.mk rfl | with_reducible exact Side.mk ⟨rfl, rfl⟩ | with_reducible exact Side.mk (by assumption) | with_reducible rfl | intro _)
          all_goals try (conv => whnf)
          all_goals try (refine Side.mk ?_; first | (intros; omega) | (intro h1_ h2_; rw [h1_, h2_]; rfl) | (show List.length (_ ++ _) ≤ _; simp only [List.length_append, List.length_cons, List.length_nil, List.length_replicate, List.length_take]; omega) | (simp_all; done) | (simp_all; omega))
          have hcr : critL n rs pl = critF rs (tkL rs pl) (finB pl) n (n + 1) (startT (srcB pl) n) := rfl
          have hL0 := Lvl.start (E := edgeK rs (tkL rs pl)) (S := srcB pl) (n := n) (fun v hv => src_rng hP hv)
          obtain ⟨tb1, tb2⟩ := tkL_bd rs pl
          refine loop_at (fun a : Nat × Nat × List (List Int) => n + 1 ≤ a.1 + a.2.1 ∧ Lvl (edgeK rs (tkL rs pl)) (srcB pl) a.2.1 a.2.2 ∧ critF rs (tkL rs pl) (finB pl) n a.1 a.2.2 = critL n rs pl ∧ a.2.2.length ≤ n) 6 (fun a => [(8, .sl 5 []), (10, .top), (11, .top), (43, .top), (48, .top), (80, .top), (87, .top)]) (fun a => [(5, .flat true (.rows 4 0 a.2.2.length)), (4, .nestI true .i64 a.2.2)]) (fun a => a.1) (n + 1, 0, startT (srcB pl) n) ⟨Nat.le_refl _, hL0, hcr.symm, hsl⟩ ?_ (fun a ha => ?_)
          · repeat' ((conv => whnf); first | done | refine ev_step ?_ | refine ops_step ?_ | refine scan_step ?_ | refine draw_step ?_ | refine each_step ?_ | refine sl_step ?_ | refine hp_step ?_ | refine guard_no (by decide) ?_ | refine guard_go ?_ | refine guard_old ?_ | apply cut_auto | with_reducible exact CutS.mk (Or.inl ⟨rfl, rfl, rfl⟩) | refine CutS.mk (Or.inr (Or.inl (sub_auto ?_))) | exact trivial | refine And.intro ?_ ?_ | refine cond_split ?_ ?_ | apply guess | exact Or.inl rfl | exact Or.inr rfl | exact Side.mk trivial | exact Side.mk (fun h => h) | exact Side.mk (fun h => ⟨h, h⟩) | with_reducible exact Side.mk rfl | with_reducible exact Side.mk ⟨rfl, rfl⟩ | with_reducible exact Side.mk (by assumption) | with_reducible rfl | intro _)
            all_goals try (conv => whnf)
            all_goals first | rfl | trace_state
          · obtain ⟨f, L, LS⟩ := a
            obtain ⟨a1, a2, a3, a4⟩ := ha
            dsimp only at a1 a2 a3 a4 ⊢
            by_cases hLS : LS = []
            · have d8 : decide ((0 : Int) < (LS.length : Int)) = false := by rw [hLS]; rfl
              have hc0 : critL n rs pl = [] := by
                rw [← a3, hLS]
                cases f <;> rfl
              repeat' ((conv => whnf); first | done | refine ev_step ?_ | refine ops_step ?_ | refine scan_step ?_ | refine draw_step ?_ | refine each_step ?_ | refine sl_step ?_ | refine hp_step ?_ | refine guard_no (by decide) ?_ | refine guard_go ?_ | refine guard_old ?_ | apply cut_auto | with_reducible exact CutS.mk (Or.inl ⟨rfl, rfl, rfl⟩) | refine CutS.mk (Or.inr (Or.inl (sub_auto ?_))) | exact trivial | refine And.intro ?_ ?_ | (refine cond_split ?_ ?_ <;> intro hq_ <;> first | (exfalso; first | omega | (simp only [d8, cond_true, cond_false, Bool.not_true, Bool.not_false, Bool.and_true, Bool.true_and, Bool.and_false, Bool.false_and, Bool.or_true, Bool.true_or, Bool.or_false, Bool.false_or, Bool.true_eq_false, Bool.false_eq_true, decide_true, decide_false, reduceCtorEq] at hq_; done) | (rw [decide_eq_false_iff_not] at hq_; omega) | (rw [decide_eq_true_eq] at hq_; omega) | (simp only [d8, reduceCtorEq] at hq_; done) | exact Bool.noConfusion (Eq.trans (Eq.symm d8) hq_)) | skip) | apply guess | exact Or.inl rfl | exact Or.inr rfl | exact Side.mk trivial | exact Side.mk (fun h => h) | exact Side.mk (fun h => ⟨h, h⟩) | with_reducible exact Side.mk rfl | with_reducible exact Side.mk ⟨rfl, rfl⟩ | with_reducible exact Side.mk (by assumption) | with_reducible rfl | intro _)
              all_goals try (conv => whnf)
              all_goals try (refine Side.mk ?_; first | (intros; omega) | (intro h1_ h2_; rw [h1_, h2_]; rfl) | (show List.length (_ ++ _) ≤ _; simp only [List.length_append, List.length_cons, List.length_nil, List.length_replicate, List.length_take]; omega) | (simp_all; done) | (simp_all; omega))
              refine ⟨none, hc0, ?_⟩
              repeat' ((conv => whnf); first | done | refine ev_step ?_ | refine ops_step ?_ | refine scan_step ?_ | refine draw_step ?_ | refine each_step ?_ | refine sl_step ?_ | refine hp_step ?_ | refine guard_no (by decide) ?_ | refine guard_go ?_ | refine guard_old ?_ | apply cut_auto | with_reducible exact CutS.mk (Or.inl ⟨rfl, rfl, rfl⟩) | refine CutS.mk (Or.inr (Or.inl (sub_auto ?_))) | exact trivial | refine And.intro ?_ ?_ | refine cond_split ?_ ?_ | apply guess | exact Or.inl rfl | exact Or.inr rfl | exact Side.mk trivial | exact Side.mk (fun h => h) | exact Side.mk (fun h => ⟨h, h⟩) | with_reducible exact Side.mk rfl | with_reducible exact Side.mk ⟨rfl, rfl⟩ | with_reducible exact Side.mk (by assumption) | with_reducible rfl | intro _)
              all_goals try (conv => whnf)
              all_goals first | rfl | trace_state
            · have hpos : 0 < LS.length := List.length_pos_iff.2 hLS
              have d8 : decide ((0 : Int) < (LS.length : Int)) = true := decide_eq_true (by omega)
              have hsm := a2.small (fun u v he => (edge_rng hP he).2) (fun v hv => src_rng hP hv) hLS
              cases f with
              | zero => omega
              | succ f =>
                have hway : ∀ i, i < LS.length → M9.Way (edgeK rs (tkL rs pl)) (srcB pl) (LS.getD i []) ∧ (LS.getD i []).length = L + 1 := fun i hi => ⟨(a2.way _ (getD_mem hi)).1, (a2.way _ (getD_mem hi)).2.1⟩
                rw [critF, if_neg hLS] at a3
                repeat' ((conv => whnf); first | done | refine ev_step ?_ | refine ops_step ?_ | refine scan_step ?_ | refine draw_step ?_ | refine each_step ?_ | refine sl_step ?_ | refine hp_step ?_ | refine guard_no (by decide) ?_ | refine guard_go ?_ | refine guard_old ?_ | apply cut_auto | with_reducible exact CutS.mk (Or.inl ⟨rfl, rfl, rfl⟩) | refine CutS.mk (Or.inr (Or.inl (sub_auto ?_))) | exact trivial | refine And.intro ?_ ?_ | (refine cond_split ?_ ?_ <;> intro hq_ <;> first | (exfalso; first | omega | (simp only [d8, cond_true, cond_false, Bool.not_true, Bool.not_false, Bool.and_true, Bool.true_and, Bool.and_false, Bool.false_and, Bool.or_true, Bool.true_or, Bool.or_false, Bool.false_or, Bool.true_eq_false, Bool.false_eq_true, decide_true, decide_false, reduceCtorEq] at hq_; done) | (rw [decide_eq_false_iff_not] at hq_; omega) | (rw [decide_eq_true_eq] at hq_; omega) | (simp only [d8, reduceCtorEq] at hq_; done) | exact Bool.noConfusion (Eq.trans (Eq.symm d8) hq_)) | skip) | apply guess | exact Or.inl rfl | exact Or.inr rfl | exact Side.mk trivial | exact Side.mk (fun h => h) | exact Side.mk (fun h => ⟨h, h⟩) | with_reducible exact Side.mk rfl | with_reducible exact Side.mk ⟨rfl, rfl⟩ | with_reducible exact Side.mk (by assumption) | with_reducible rfl | intro _)
                all_goals try (conv => whnf)
                all_goals try (refine Side.mk ?_; first | (intros; omega) | (intro h1_ h2_; rw [h1_, h2_]; rfl) | (show List.length (_ ++ _) ≤ _; simp only [List.length_append, List.length_cons, List.length_nil, List.length_replicate, List.length_take]; omega) | (simp_all; done) | (simp_all; omega))
                refine loop_at (fun b : Nat × Option Nat => b.1 ≤ LS.length ∧ match b.2 with | none => finT (finB pl) LS b.1 = [] | some j => j < LS.length ∧ finT (finB pl) LS b.1 = LS.getD j []) 7 (fun b => match b.2 with | none => [(11, .int .i64 b.1), (10, .sl 6 []), (48, .top), (80, .top)] | some j => [(11, .int .i64 b.1), (10, .sl 4 [j]), (48, .top), (80, .top)]) (fun b => []) (fun b => LS.length - b.1) (0, none) ⟨Nat.zero_le _, rfl⟩ ?_ (fun b hb => ?_)
                · repeat' ((conv => whnf); first | done | refine ev_step ?_ | refine ops_step ?_ | refine scan_step ?_ | refine draw_step ?_ | refine each_step ?_ | refine sl_step ?_ | refine hp_step ?_ | refine guard_no (by decide) ?_ | refine guard_go ?_ | refine guard_old ?_ | apply cut_auto | with_reducible exact CutS.mk (Or.inl ⟨rfl, rfl, rfl⟩) | refine CutS.mk (Or.inr (Or.inl (sub_auto ?_))) | exact trivial | refine And.intro ?_ ?_ | refine cond_split ?_ ?_ | apply guess | exact Or.inl rfl | exact Or.inr rfl | exact Side.mk trivial | exact Side.mk (fun h => h) | exact Side.mk (fun h => ⟨h, h⟩) | with_reducible exact Side.mk rfl | with_reducible exact Side.mk ⟨rfl, rfl⟩ | with_reducible exact Side.mk (by assumption) | with_reducible rfl | intro _)
                  all_goals try (conv => whnf)
                  all_goals first | rfl | trace_state
                · obtain ⟨i, o⟩ := b
                  obtain ⟨b1, b2⟩ := hb
                  dsimp only at b1 b2 ⊢
                  by_cases hit : i < LS.length
                  · obtain ⟨wi, wl⟩ := hway i hit
                    have wr := last_rng hP wi
                    have d7 : decide ((i : Int) < (LS.length : Int)) = true := decide_eq_true (by omega)
                    have hlast : (LS.getD i []).getD (((LS.getD i []).length : Int) - 1).toNat 0 = lastI (LS.getD i []) := by unfold lastI; rw [show (((LS.getD i []).length : Int) - 1).toNat = (LS.getD i []).length - 1 by omega]
                    have hf : finT (finB pl) LS (i + 1) = if finB pl (lastI (LS.getD i [])) = true then addB (finT (finB pl) LS i) (LS.getD i []) else finT (finB pl) LS i := rfl
                    have hfb : finB pl (lastI (LS.getD i [])) = decide (pl.getD (lastI (LS.getD i [])).toNat 0 = maxL pl) := by
                      unfold finB
                      rw [decide_eq_true wr.1, decide_eq_true (show lastI (LS.getD i []) < pl.length by omega)]
                      rfl
                    rw [hfb] at hf
                    cases hX : decide (pl.getD ((LS.getD i []).getD (((LS.getD i []).length : Int) - 1).toNat 0).toNat 0 = maxL pl)
                    · have hX2 := hX
                      rw [hlast] at hX2
                      rw [hX2, if_neg (by simp)] at hf
                      rcases o with _ | j
                      · have hcond : (bif decide (pl.getD ((LS.getD i []).getD (((LS.getD i []).length : Int) - 1).toNat 0).toNat 0 = maxL pl) then bif decide ((([] : List Int).length : Int) = 0) then true else false else false) = false := by rw [hX]; rfl
                        repeat' ((conv => whnf); first | done | refine ev_step ?_ | refine ops_step ?_ | refine scan_step ?_ | refine draw_step ?_ | refine each_step ?_ | refine sl_step ?_ | refine hp_step ?_ | refine guard_no (fun q => Bool.noConfusion (hX.symm.trans (and_l q))) ?_ | refine guard_no (by decide) ?_ | refine guard_go ?_ | refine guard_old ?_ | apply cut_auto | with_reducible exact CutS.mk (Or.inl ⟨rfl, rfl, rfl⟩) | refine CutS.mk (Or.inr (Or.inl (sub_auto ?_))) | exact trivial | refine And.intro ?_ ?_ | (refine cond_split ?_ ?_ <;> intro hq_ <;> first | (exfalso; first | omega | (simp only [d7, hcond, cond_true, cond_false, Bool.not_true, Bool.not_false, Bool.and_true, Bool.true_and, Bool.and_false, Bool.false_and, Bool.or_true, Bool.true_or, Bool.or_false, Bool.false_or, Bool.true_eq_false, Bool.false_eq_true, decide_true, decide_false, reduceCtorEq] at hq_; done) | (rw [decide_eq_false_iff_not] at hq_; omega) | (rw [decide_eq_true_eq] at hq_; omega) | (simp only [d7, hcond, reduceCtorEq] at hq_; done) | exact Bool.noConfusion (Eq.trans (Eq.symm d7) hq_) | exact Bool.noConfusion (Eq.trans (Eq.symm hcond) hq_)) | skip) | apply guess | exact Or.inl rfl | exact Or.inr rfl | exact Side.mk trivial | exact Side.mk (fun h => h) | exact Side.mk (fun h => ⟨h, h⟩) | with_reducible exact Side.mk rfl | with_reducible exact Side.mk ⟨rfl, rfl⟩ | with_reducible exact Side.mk (by assumption) | with_reducible rfl | intro _)
                        all_goals try (conv => whnf)
                        all_goals try simp only [Int.toNat_natCast]
                        all_goals try (rw [hlast]; first | (refine Side.mk ?_; omega) | skip)
                        all_goals try (refine Side.mk ?_; first | (intros; omega) | (intro h1_ h2_; rw [h1_, h2_]; rfl) | (show List.length (_ ++ _) ≤ _; simp only [List.length_append, List.length_cons, List.length_nil, List.length_replicate, List.length_take]; omega) | (simp_all; done) | (simp_all; omega))
                        refine ⟨(i + 1, none), ⟨by show i + 1 ≤ _; omega, by show finT _ _ (i + 1) = []; rw [hf]; exact b2⟩, by show _ - (i + 1) < _; omega, ?_⟩
                        repeat' ((conv => whnf); first | done | refine ev_step ?_ | refine ops_step ?_ | refine scan_step ?_ | refine draw_step ?_ | refine each_step ?_ | refine sl_step ?_ | refine hp_step ?_ | refine guard_no (by decide) ?_ | refine guard_go ?_ | refine guard_old ?_ | apply cut_auto | with_reducible exact CutS.mk (Or.inl ⟨rfl, rfl, rfl⟩) | refine CutS.mk (Or.inr (Or.inl (sub_auto ?_))) | exact trivial | refine And.intro ?_ ?_ | refine cond_split ?_ ?_ | apply guess | exact Or.inl rfl | exact Or.inr rfl | exact Side.mk trivial | exact Side.mk (fun h => h) | exact Side.mk (fun h => ⟨h, h⟩) | with_reducible exact Side.mk rfl | with_reducible exact Side.mk ⟨rfl, rfl⟩ | with_reducible exact Side.mk (by assumption) | with_reducible rfl | intro _)
                        all_goals try (conv => whnf)
                        all_goals first | rfl | trace_state
                      · have hcond : (bif decide (pl.getD ((LS.getD i []).getD (((LS.getD i []).length : Int) - 1).toNat 0).toNat 0 = maxL pl) then bif decide (((LS.getD j []).length : Int) = 0) then true else false else false) = false := by rw [hX]; rfl
                        repeat' ((conv => whnf); first | done | refine ev_step ?_ | refine ops_step ?_ | refine scan_step ?_ | refine draw_step ?_ | refine each_step ?_ | refine sl_step ?_ | refine hp_step ?_ | refine guard_no (fun q => Bool.noConfusion (hX.symm.trans (and_l q))) ?_ | refine guard_no (by decide) ?_ | refine guard_go ?_ | refine guard_old ?_ | apply cut_auto | with_reducible exact CutS.mk (Or.inl ⟨rfl, rfl, rfl⟩) | refine CutS.mk (Or.inr (Or.inl (sub_auto ?_))) | exact trivial | refine And.intro ?_ ?_ | (refine cond_split ?_ ?_ <;> intro hq_ <;> first | (exfalso; first | omega | (simp only [d7, hcond, cond_true, cond_false, Bool.not_true, Bool.not_false, Bool.and_true, Bool.true_and, Bool.and_false, Bool.false_and, Bool.or_true, Bool.true_or, Bool.or_false, Bool.false_or, Bool.true_eq_false, Bool.false_eq_true, decide_true, decide_false, reduceCtorEq] at hq_; done) | (rw [decide_eq_false_iff_not] at hq_; omega) | (rw [decide_eq_true_eq] at hq_; omega) | (simp only [d7, hcond, reduceCtorEq] at hq_; done) | exact Bool.noConfusion (Eq.trans (Eq.symm d7) hq_) | exact Bool.noConfusion (Eq.trans (Eq.symm hcond) hq_)) | skip) | apply guess | exact Or.inl rfl | exact Or.inr rfl | exact Side.mk trivial | exact Side.mk (fun h => h) | exact Side.mk (fun h => ⟨h, h⟩) | with_reducible exact Side.mk rfl | with_reducible exact Side.mk ⟨rfl, rfl⟩ | with_reducible exact Side.mk (by assumption) | with_reducible rfl | intro _)
                        all_goals try (conv => whnf)
                        all_goals try simp only [Int.toNat_natCast]
                        all_goals try (rw [hlast]; first | (refine Side.mk ?_; omega) | skip)
                        all_goals try (refine Side.mk ?_; first | (intros; omega) | (intro h1_ h2_; rw [h1_, h2_]; rfl) | (show List.length (_ ++ _) ≤ _; simp only [List.length_append, List.length_cons, List.length_nil, List.length_replicate, List.length_take]; omega) | (simp_all; done) | (simp_all; omega))
                        refine ⟨(i + 1, some j), ⟨by show i + 1 ≤ _; omega, b2.1, by show finT _ _ (i + 1) = _; rw [hf]; exact b2.2⟩, by show _ - (i + 1) < _; omega, ?_⟩
                        repeat' ((conv => whnf); first | done | refine ev_step ?_ | refine ops_step ?_ | refine scan_step ?_ | refine draw_step ?_ | refine each_step ?_ | refine sl_step ?_ | refine hp_step ?_ | refine guard_no (by decide) ?_ | refine guard_go ?_ | refine guard_old ?_ | apply cut_auto | with_reducible exact CutS.mk (Or.inl ⟨rfl, rfl, rfl⟩) | refine CutS.mk (Or.inr (Or.inl (sub_auto ?_))) | exact trivial | refine And.intro ?_ ?_ | refine cond_split ?_ ?_ | apply guess | exact Or.inl rfl | exact Or.inr rfl | exact Side.mk trivial | exact Side.mk (fun h => h) | exact Side.mk (fun h => ⟨h, h⟩) | with_reducible exact Side.mk rfl | with_reducible exact Side.mk ⟨rfl, rfl⟩ | with_reducible exact Side.mk (by assumption) | with_reducible rfl | intro _)
                        all_goals try (conv => whnf)
                        all_goals first | rfl | trace_state
                    · have hX2 := hX
                      rw [hlast] at hX2
                      rw [hX2, if_pos rfl] at hf
                      rcases o with _ | j
                      · have hcond : (bif decide (pl.getD ((LS.getD i []).getD (((LS.getD i []).length : Int) - 1).toNat 0).toNat 0 = maxL pl) then bif decide ((([] : List Int).length : Int) = 0) then true else false else false) = true := by rw [hX]; rfl
                        have hA : addB (finT (finB pl) LS i) (LS.getD i []) = LS.getD i [] := by
                          unfold addB
                          rw [if_pos (.inl b2)]
                        rw [hA] at hf
                        repeat' ((conv => whnf); first | done | refine ev_step ?_ | refine ops_step ?_ | refine scan_step ?_ | refine draw_step ?_ | refine each_step ?_ | refine sl_step ?_ | refine hp_step ?_ | refine guard_no (fun q => Bool.noConfusion (and_r q)) ?_ | refine guard_no (by decide) ?_ | refine guard_go ?_ | refine guard_old ?_ | apply cut_auto | with_reducible exact CutS.mk (Or.inl ⟨rfl, rfl, rfl⟩) | refine CutS.mk (Or.inr (Or.inl (sub_auto ?_))) | exact trivial | refine And.intro ?_ ?_ | (refine cond_split ?_ ?_ <;> intro hq_ <;> first | (exfalso; first | omega | (simp only [d7, hcond, cond_true, cond_false, Bool.not_true, Bool.not_false, Bool.and_true, Bool.true_and, Bool.and_false, Bool.false_and, Bool.or_true, Bool.true_or, Bool.or_false, Bool.false_or, Bool.true_eq_false, Bool.false_eq_true, decide_true, decide_false, reduceCtorEq] at hq_; done) | (rw [decide_eq_false_iff_not] at hq_; omega) | (rw [decide_eq_true_eq] at hq_; omega) | (simp only [d7, hcond, reduceCtorEq] at hq_; done) | exact Bool.noConfusion (Eq.trans (Eq.symm d7) hq_) | exact Bool.noConfusion (Eq.trans (Eq.symm hcond) hq_)) | skip) | apply guess | exact Or.inl rfl | exact Or.inr rfl | exact Side.mk trivial | exact Side.mk (fun h => h) | exact Side.mk (fun h => ⟨h, h⟩) | with_reducible exact Side.mk rfl | with_reducible exact Side.mk ⟨rfl, rfl⟩ | with_reducible exact Side.mk (by assumption) | with_reducible rfl | intro _)
                        all_goals try (conv => whnf)
                        all_goals try simp only [Int.toNat_natCast]
                        all_goals try (rw [hlast]; first | (refine Side.mk ?_; omega) | skip)
                        all_goals try (refine Side.mk ?_; first | (intros; omega) | (intro h1_ h2_; rw [h1_, h2_]; rfl) | (show List.length (_ ++ _) ≤ _; simp only [List.length_append, List.length_cons, List.length_nil, List.length_replicate, List.length_take]; omega) | (simp_all; done) | (simp_all; omega))
                        refine ⟨(i + 1, some i), ⟨by show i + 1 ≤ _; omega, hit, hf⟩, by show _ - (i + 1) < _; omega, ?_⟩
                        repeat' ((conv => whnf); first | done | refine ev_step ?_ | refine ops_step ?_ | refine scan_step ?_ | refine draw_step ?_ | refine each_step ?_ | refine sl_step ?_ | refine hp_step ?_ | refine guard_no (by decide) ?_ | refine guard_go ?_ | refine guard_old ?_ | apply cut_auto | with_reducible exact CutS.mk (Or.inl ⟨rfl, rfl, rfl⟩) | refine CutS.mk (Or.inr (Or.inl (sub_auto ?_))) | exact trivial | refine And.intro ?_ ?_ | refine cond_split ?_ ?_ | apply guess | exact Or.inl rfl | exact Or.inr rfl | exact Side.mk trivial | exact Side.mk (fun h => h) | exact Side.mk (fun h => ⟨h, h⟩) | with_reducible exact Side.mk rfl | with_reducible exact Side.mk ⟨rfl, rfl⟩ | with_reducible exact Side.mk (by assumption) | with_reducible rfl | intro _)
                        all_goals try (conv => whnf)
                        all_goals first | rfl | trace_state
                      · obtain ⟨z1, z2⟩ := b2
                        obtain ⟨wj, wlj⟩ := hway j z1
                        have hne : decide (((LS.getD j []).length : Int) = 0) = false := decide_eq_false (by omega)
                        have hg : (decide (pl.getD ((LS.getD i []).getD (((LS.getD i []).length : Int) - 1).toNat 0).toNat 0 = maxL pl) && !decide (((LS.getD j []).length : Int) = 0)) = true := by rw [hX, hne]; rfl
                        have kl := k_l03Less (LS.getD i []) (LS.getD j []) ⟨by omega, by omega⟩
                        have hA : addB (finT (finB pl) LS i) (LS.getD i []) = if lessL (LS.getD i []) (LS.getD j []) = true then LS.getD i [] else LS.getD j [] := by
                          unfold addB
                          rw [z2]
                          have : LS.getD j [] ≠ [] := fun e => by rw [e] at wlj; simp at wlj
                          simp only [this, false_or]
                        rw [hA] at hf
                        cases hq : lessL (LS.getD i []) (LS.getD j [])
                        · have hcond : (bif decide (pl.getD ((LS.getD i []).getD (((LS.getD i []).length : Int) - 1).toNat 0).toNat 0 = maxL pl) then bif decide (((LS.getD j []).length : Int) = 0) then true else false else false) = false := by rw [hX, hne]; rfl
                          rw [hq] at kl hf
                          repeat' ((conv => whnf); first | done | refine ev_step ?_ | refine ops_step ?_ | refine scan_step ?_ | refine draw_step ?_ | refine each_step ?_ | refine sl_step ?_ | refine hp_step ?_ | refine guard_yes hg ?_ | refine guard_no (by decide) ?_ | refine guard_go ?_ | refine guard_old ?_ | apply cut_auto | with_reducible exact CutS.mk (Or.inl ⟨rfl, rfl, rfl⟩) | refine CutS.mk (Or.inr (Or.inl (sub_auto ?_))) | exact trivial | refine And.intro ?_ ?_ | (refine cond_split ?_ ?_ <;> intro hq_ <;> first | (exfalso; first | omega | (simp only [d7, hcond, cond_true, cond_false, Bool.not_true, Bool.not_false, Bool.and_true, Bool.true_and, Bool.and_false, Bool.false_and, Bool.or_true, Bool.true_or, Bool.or_false, Bool.false_or, Bool.true_eq_false, Bool.false_eq_true, decide_true, decide_false, reduceCtorEq] at hq_; done) | (rw [decide_eq_false_iff_not] at hq_; omega) | (rw [decide_eq_true_eq] at hq_; omega) | (simp only [d7, hcond, reduceCtorEq] at hq_; done) | exact Bool.noConfusion (Eq.trans (Eq.symm d7) hq_) | exact Bool.noConfusion (Eq.trans (Eq.symm hcond) hq_)) | skip) | apply guess | apply FnIs.useF (kl) | exact Or.inl rfl | exact Or.inr rfl | exact Side.mk trivial | exact Side.mk (fun h => h) | exact Side.mk (fun h => ⟨h, h⟩) | with_reducible exact Side.mk rfl | with_reducible exact Side.mk ⟨rfl, rfl⟩ | with_reducible exact Side.mk (by assumption) | with_reducible rfl | intro _)
                          all_goals try (conv => whnf)
                          all_goals try simp only [Int.toNat_natCast]
                          all_goals try (rw [hlast]; first | (refine Side.mk ?_; omega) | skip)
                          all_goals try (refine Side.mk ?_; first | (intros; omega) | (intro h1_ h2_; rw [h1_, h2_]; rfl) | (show List.length (_ ++ _) ≤ _; simp only [List.length_append, List.length_cons, List.length_nil, List.length_replicate, List.length_take]; omega) | (simp_all; done) | (simp_all; omega))
                          refine ⟨(i + 1, some j), ⟨by show i + 1 ≤ _; omega, z1, by show finT _ _ (i + 1) = _; rw [hf]; rfl⟩, by show _ - (i + 1) < _; omega, ?_⟩
                          repeat' ((conv => whnf); first | done | refine ev_step ?_ | refine ops_step ?_ | refine scan_step ?_ | refine draw_step ?_ | refine each_step ?_ | refine sl_step ?_ | refine hp_step ?_ | refine guard_no (by decide) ?_ | refine guard_go ?_ | refine guard_old ?_ | apply cut_auto | with_reducible exact CutS.mk (Or.inl ⟨rfl, rfl, rfl⟩) | refine CutS.mk (Or.inr (Or.inl (sub_auto ?_))) | exact trivial | refine And.intro ?_ ?_ | refine cond_split ?_ ?_ | apply guess | exact Or.inl rfl | exact Or.inr rfl | exact Side.mk trivial | exact Side.mk (fun h => h) | exact Side.mk (fun h => ⟨h, h⟩) | with_reducible exact Side.mk rfl | with_reducible exact Side.mk ⟨rfl, rfl⟩ | with_reducible exact Side.mk (by assumption) | with_reducible rfl | intro _)
                          all_goals try (conv => whnf)
                          all_goals first | rfl | trace_state
                        · have hcond : (bif decide (pl.getD ((LS.getD i []).getD (((LS.getD i []).length : Int) - 1).toNat 0).toNat 0 = maxL pl) then bif decide (((LS.getD j []).length : Int) = 0) then true else true else false) = true := by rw [hX, hne]; rfl
                          rw [hq] at kl hf
                          repeat' ((conv => whnf); first | done | refine ev_step ?_ | refine ops_step ?_ | refine scan_step ?_ | refine draw_step ?_ | refine each_step ?_ | refine sl_step ?_ | refine hp_step ?_ | refine guard_yes hg ?_ | refine guard_no (by decide) ?_ | refine guard_go ?_ | refine guard_old ?_ | apply cut_auto | with_reducible exact CutS.mk (Or.inl ⟨rfl, rfl, rfl⟩) | refine CutS.mk (Or.inr (Or.inl (sub_auto ?_))) | exact trivial | refine And.intro ?_ ?_ | (refine cond_split ?_ ?_ <;> intro hq_ <;> first | (exfalso; first | omega | (simp only [d7, hcond, cond_true, cond_false, Bool.not_true, Bool.not_false, Bool.and_true, Bool.true_and, Bool.and_false, Bool.false_and, Bool.or_true, Bool.true_or, Bool.or_false, Bool.false_or, Bool.true_eq_false, Bool.false_eq_true, decide_true, decide_false, reduceCtorEq] at hq_; done) | (rw [decide_eq_false_iff_not] at hq_; omega) | (rw [decide_eq_true_eq] at hq_; omega) | (simp only [d7, hcond, reduceCtorEq] at hq_; done) | exact Bool.noConfusion (Eq.trans (Eq.symm d7) hq_) | exact Bool.noConfusion (Eq.trans (Eq.symm hcond) hq_)) | skip) | apply guess | apply FnIs.useF (kl) | exact Or.inl rfl | exact Or.inr rfl | exact Side.mk trivial | exact Side.mk (fun h => h) | exact Side.mk (fun h => ⟨h, h⟩) | with_reducible exact Side.mk rfl | with_reducible exact Side.mk ⟨rfl, rfl⟩ | with_reducible exact Side.mk (by assumption) | with_reducible rfl | intro _)
                          all_goals try (conv => whnf)
                          all_goals try simp only [Int.toNat_natCast]
                          all_goals try (rw [hlast]; first | (refine Side.mk ?_; omega) | skip)
                          all_goals try (refine Side.mk ?_; first | (intros; omega) | (intro h1_ h2_; rw [h1_, h2_]; rfl) | (show List.length (_ ++ _) ≤ _; simp only [List.length_append, List.length_cons, List.length_nil, List.length_replicate, List.length_take]; omega) | (simp_all; done) | (simp_all; omega))
                          refine ⟨(i + 1, some i), ⟨by show i + 1 ≤ _; omega, hit, by show finT _ _ (i + 1) = _; rw [hf]; rfl⟩, by show _ - (i + 1) < _; omega, ?_⟩
                          repeat' ((conv => whnf); first | done | refine ev_step ?_ | refine ops_step ?_ | refine scan_step ?_ | refine draw_step ?_ | refine each_step ?_ | refine sl_step ?_ | refine hp_step ?_ | refine guard_no (by decide) ?_ | refine guard_go ?_ | refine guard_old ?_ | apply cut_auto | with_reducible exact CutS.mk (Or.inl ⟨rfl, rfl, rfl⟩) | refine CutS.mk (Or.inr (Or.inl (sub_auto ?_))) | exact trivial | refine And.intro ?_ ?_ | refine cond_split ?_ ?_ | apply guess | exact Or.inl rfl | exact Or.inr rfl | exact Side.mk trivial | exact Side.mk (fun h => h) | exact Side.mk (fun h => ⟨h, h⟩) | with_reducible exact Side.mk rfl | with_reducible exact Side.mk ⟨rfl, rfl⟩ | with_reducible exact Side.mk (by assumption) | with_reducible rfl | intro _)
                          all_goals try (conv => whnf)
                          all_goals first | rfl | trace_state
                  · have hie : i = LS.length := by omega
                    have d7 : decide ((i : Int) < (LS.length : Int)) = false := decide_eq_false (by omega)
                    rcases o with _ | j
                    · rw [hie] at b2
                      rw [b2, if_neg (by simp)] at a3
                      have hLO : LvlOK n rs (tkL rs pl) LS := ⟨hpar, hrul, by omega, tb2, by omega, fun i hi => by have := (hway i hi).2; omega⟩
                      have kk := k_Longer n rs (tkL rs pl) LS hLO
                      have hnl := longT_len rs (tkL rs pl) LS n
                      have hnx := a2.next (n := n) (fun u v he => (edge_rng hP he).2)
                      have dz : decide ((0 : Int) < (([] : List Int).length : Int)) = false := rfl
                      repeat' ((conv => whnf); first | done | refine ev_step ?_ | refine ops_step ?_ | refine scan_step ?_ | refine draw_step ?_ | refine each_step ?_ | refine sl_step ?_ | refine hp_step ?_ | refine guard_no (by decide) ?_ | refine guard_go ?_ | refine guard_old ?_ | apply cut_auto | with_reducible exact CutS.mk (Or.inl ⟨rfl, rfl, rfl⟩) | refine CutS.mk (Or.inr (Or.inl (sub_auto ?_))) | exact trivial | refine And.intro ?_ ?_ | (refine cond_split ?_ ?_ <;> intro hq_ <;> first | (exfalso; first | omega | (simp only [d7, dz, cond_true, cond_false, Bool.not_true, Bool.not_false, Bool.and_true, Bool.true_and, Bool.and_false, Bool.false_and, Bool.or_true, Bool.true_or, Bool.or_false, Bool.false_or, Bool.true_eq_false, Bool.false_eq_true, decide_true, decide_false, reduceCtorEq] at hq_; done) | (rw [decide_eq_false_iff_not] at hq_; omega) | (rw [decide_eq_true_eq] at hq_; omega) | (simp only [d7, dz, reduceCtorEq] at hq_; done) | exact Bool.noConfusion (Eq.trans (Eq.symm d7) hq_) | exact Bool.noConfusion (Eq.trans (Eq.symm dz) hq_)) | skip) | apply guess | apply FnIs.useF (kk) | exact Or.inl rfl | exact Or.inr rfl | exact Side.mk trivial | exact Side.mk (fun h => h) | exact Side.mk (fun h => ⟨h, h⟩) | with_reducible exact Side.mk rfl | with_reducible exact Side.mk ⟨rfl, rfl⟩ | with_reducible exact Side.mk (by assumption) | with_reducible rfl | intro _)
                      all_goals try (conv => whnf)
                      all_goals try simp only [Int.toNat_natCast]
                      all_goals try (refine Side.mk ?_; first | (intros; omega) | (intro h1_ h2_; rw [h1_, h2_]; rfl) | (show List.length (_ ++ _) ≤ _; simp only [List.length_append, List.length_cons, List.length_nil, List.length_replicate, List.length_take]; omega) | (simp_all; done) | (simp_all; omega))
                      refine ⟨(f, L + 1, longT rs (tkL rs pl) LS n), ⟨by show n + 1 ≤ f + (L + 1); omega, hnx, a3, hnl⟩, by show f < f + 1; omega, ?_⟩
                      repeat' ((conv => whnf); first | done | refine ev_step ?_ | refine ops_step ?_ | refine scan_step ?_ | refine draw_step ?_ | refine each_step ?_ | refine sl_step ?_ | refine hp_step ?_ | refine guard_no (by decide) ?_ | refine guard_go ?_ | refine guard_old ?_ | apply cut_auto | with_reducible exact CutS.mk (Or.inl ⟨rfl, rfl, rfl⟩) | refine CutS.mk (Or.inr (Or.inl (sub_auto ?_))) | exact trivial | refine And.intro ?_ ?_ | refine cond_split ?_ ?_ | apply guess | exact Or.inl rfl | exact Or.inr rfl | exact Side.mk trivial | exact Side.mk (fun h => h) | exact Side.mk (fun h => ⟨h, h⟩) | with_reducible exact Side.mk rfl | with_reducible exact Side.mk ⟨rfl, rfl⟩ | with_reducible exact Side.mk (by assumption) | with_reducible rfl | intro _)
                      all_goals try (conv => whnf)
                      all_goals first | rfl | trace_state
                    · obtain ⟨z1, z2⟩ := b2
                      obtain ⟨wj, wlj⟩ := hway j z1
                      rw [hie] at z2
                      have hne : LS.getD j [] ≠ [] := fun e => by rw [e] at wlj; simp at wlj
                      rw [z2, if_pos hne] at a3
                      have dz : decide ((0 : Int) < ((LS.getD j []).length : Int)) = true := decide_eq_true (by omega)
                      repeat' ((conv => whnf); first | done | refine ev_step ?_ | refine ops_step ?_ | refine scan_step ?_ | refine draw_step ?_ | refine each_step ?_ | refine sl_step ?_ | refine hp_step ?_ | refine guard_no (by decide) ?_ | refine guard_go ?_ | refine guard_old ?_ | apply cut_auto | with_reducible exact CutS.mk (Or.inl ⟨rfl, rfl, rfl⟩) | refine CutS.mk (Or.inr (Or.inl (sub_auto ?_))) | exact trivial | refine And.intro ?_ ?_ | (refine cond_split ?_ ?_ <;> intro hq_ <;> first | (exfalso; first | omega | (simp only [d7, dz, cond_true, cond_false, Bool.not_true, Bool.not_false, Bool.and_true, Bool.true_and, Bool.and_false, Bool.false_and, Bool.or_true, Bool.true_or, Bool.or_false, Bool.false_or, Bool.true_eq_false, Bool.false_eq_true, decide_true, decide_false, reduceCtorEq] at hq_; done) | (rw [decide_eq_false_iff_not] at hq_; omega) | (rw [decide_eq_true_eq] at hq_; omega) | (simp only [d7, dz, reduceCtorEq] at hq_; done) | exact Bool.noConfusion (Eq.trans (Eq.symm d7) hq_) | exact Bool.noConfusion (Eq.trans (Eq.symm dz) hq_)) | skip) | apply guess | exact Or.inl rfl | exact Or.inr rfl | exact Side.mk trivial | exact Side.mk (fun h => h) | exact Side.mk (fun h => ⟨h, h⟩) | with_reducible exact Side.mk rfl | with_reducible exact Side.mk ⟨rfl, rfl⟩ | with_reducible exact Side.mk (by assumption) | with_reducible rfl | intro _)
                      all_goals try (conv => whnf)
                      all_goals try simp only [Int.toNat_natCast]
                      all_goals try (refine Side.mk ?_; first | (intros; omega) | (intro h1_ h2_; rw [h1_, h2_]; rfl) | (show List.length (_ ++ _) ≤ _; simp only [List.length_append, List.length_cons, List.length_nil, List.length_replicate, List.length_take]; omega) | (simp_all; done) | (simp_all; omega))
                      refine ⟨some (LS, j), ⟨z1, a3, by rw [← a3]; exact hne, by rw [← a3]; omega⟩, ?_⟩
                      repeat' ((conv => whnf); first | done | refine ev_step ?_ | refine ops_step ?_ | refine scan_step ?_ | refine draw_step ?_ | refine each_step ?_ | refine sl_step ?_ | refine hp_step ?_ | refine guard_no (by decide) ?_ | refine guard_go ?_ | refine guard_old ?_ | apply cut_auto | with_reducible exact CutS.mk (Or.inl ⟨rfl, rfl, rfl⟩) | refine CutS.mk (Or.inr (Or.inl (sub_auto ?_))) | exact trivial | refine And.intro ?_ ?_ | refine cond_split ?_ ?_ | apply guess | exact Or.inl rfl | exact Or.inr rfl | exact Side.mk trivial | exact Side.mk (fun h => h) | exact Side.mk (fun h => ⟨h, h⟩) | with_reducible exact Side.mk rfl | with_reducible exact Side.mk ⟨rfl, rfl⟩ | with_reducible exact Side.mk (by assumption) | with_reducible rfl | intro _)
                      all_goals try (conv => whnf)
                      all_goals first | rfl | trace_state
end Go.Sx.U
