/-
  Chapter 9: rising rings: the program's search (contract of the function that calls itself).
-/
import Derived.Test.YtgfbiehncbinmaaR2
import Derived.Test.YtgfbiehncbinmaaKM
import Derived.Test.YtgfbiehncbinmaaC0
namespace Go.Sx.U
set_option linter.unusedVariables false
set_option linter.unusedSimpArgs false
set_option maxRecDepth 100000
set_option maxHeartbeats 8000000
open Go Go.Sx Go.Sx.M9 Go.Proofs

theorem getD_memG {o : List Int} {j : Nat} (h : j < o.length) : o.getD j 0 ∈ o := by
  rw [List.getD, List.getElem?_eq_getElem h]; exact List.getElem_mem h
/-- The parts on a list of rules. -/
def paL (rs : List R3) (l : List Int) : List Int := (rs.getD (l.getD 0 0).toNat default).a :: l.map fun k => (rs.getD k.toNat default).b
theorem paL_snoc (rs : List R3) {l : List Int} (h : l ≠ []) (i : Nat) : paL rs (l ++ [(i : Int)]) = paL rs l ++ [(rs.getD i default).b] := by
  cases l with
  | nil => exact absurd rfl h
  | cons a r => simp [paL]
theorem paL_last (rs : List R3) {l : List Int} (h : l ≠ []) : lastI (paL rs l) = (rs.getD (l.getD (l.length - 1) 0).toNat default).b := by
  cases l with
  | nil => exact absurd rfl h
  | cons a r =>
    simp only [lastI, paL, List.length_cons, List.length_map, Nat.add_sub_cancel, List.getD_eq_getElem?_getD, List.getElem?_cons_succ, List.getElem?_map]
    cases hq : (a :: r)[r.length]? with
    | none => exact absurd hq (by simp)
    | some x => simp
/-- How a list may stand behind a call: the list itself, or a beginning of a longer one. -/
abbrev begB (o : List Int) (a : Bool × List Int) : Prop := o.length ≤ a.2.length ∧ a.2.take o.length = o ∧ (a.1 = false → a.2 = o)
theorem beg_down {o : List Int} {x : Int} {a : Bool × List Int} (h : begB (o ++ [x]) a) : begB o (true, a.2) := by
  obtain ⟨h1, h2, _⟩ := h
  rw [List.length_append, List.length_singleton] at h1 h2
  refine ⟨by simp only; omega, ?_, fun e => by cases e⟩
  have := congrArg (List.take o.length) h2
  rw [List.take_take, show min o.length (o.length + 1) = o.length by omega] at this
  simp only
  rw [this]; simp
abbrev ringO (n : Int) (o : AV) : AObj := .flat true (.gen 4 [[.sl 1 [], .int .i64 n, o, .map 3]])
abbrev ringH (n : Int) (D : List Int) (l : List Int) (a : Bool × List Int) : Heap := [(0, ringO n (bif a.1 then .sub 4 [] 0 l.length none else .sl 4 [])), (3, .mp (.ib (yesK D))), (4, .flat true (.ints .i64 a.2))]
structure GrowP (p : Int) (rs : List R3) (f : Nat) (l : List Int) (s : Int) : Prop where
  ok : okPress p rs = true
  ne : l ≠ []
  rng : ∀ k ∈ l, 0 ≤ k ∧ k < (rs.length : Int)
  ring : RingP p rs f l (paL rs l) s
theorem GrowP.step {p : Int} {rs : List R3} {f : Nat} {l : List Int} {s : Int} (h : GrowP p rs (f + 1) l s) {i : Nat} (hi : i < rs.length) : GrowP p rs f (l ++ [(i : Int)]) (s + (rs.getD i default).c) := by
  refine ⟨h.ok, by simp, fun k hk => ?_, ?_⟩
  · rcases List.mem_append.1 hk with hk | hk
    · exact h.rng k hk
    · rw [List.mem_singleton.1 hk]; omega
  · rw [paL_snoc rs h.ne]; exact h.ring.step hi
abbrev GrowYes (rs : List R3) (f : Nat) (l : List Int) (s : Int) (x : List Int) : Prop :=
  FnIs Try.prog 45 [.ptr 0 [] 0 0, .int .i64 s] 4 [(0, ringO (l.length + f : Nat) (.sl 2 [])), (1, .flat false (.r3 rs)), (2, .flat true (.ints .i64 l)), (3, .mp (.ib (yesK (paL rs l).dropLast)))] (.bool true) 5 [(0, .flat true (.gen 4 [[.sl 1 [], .int .i64 (l.length + f : Nat), .sl 4 [], .top]])), (4, .flat true (.ints .i64 x))]
abbrev GrowNo (rs : List R3) (f : Nat) (l : List Int) (s : Int) : Prop :=
  FnEx Try.prog 45 [.ptr 0 [] 0 0, .int .i64 s] 4 [(0, ringO (l.length + f : Nat) (.sl 2 [])), (1, .flat false (.r3 rs)), (2, .flat true (.ints .i64 l)), (3, .mp (.ib (yesK (paL rs l).dropLast)))] (begB l) (fun _ => .bool false) 5 (ringH (l.length + f : Nat) (paL rs l).dropLast l)
abbrev GrowIs9 (rs : List R3) (f : Nat) (l : List Int) (s : Int) : Prop := (∀ x, ringF rs f l (paL rs l) s = some x → GrowYes rs f l s x) ∧ (ringF rs f l (paL rs l) s = none → GrowNo rs f l s)

theorem k_grow0 (p : Int) (rs : List R3) (l : List Int) (s : Int) (h : GrowP p rs 0 l s) : GrowIs9 rs 0 l s := by
  have hs := h.ring.small
  have hpos := List.length_pos_iff.2 h.ne
  have e1 : ((l.length : Int) - 1).toNat = l.length - 1 := by omega
  have hL := paL_last rs h.ne
  rw [← e1] at hL
  have hF : (paL rs l).getD 0 0 = (rs.getD (l.getD (0 : Int).toNat 0).toNat default).a := rfl
  have r0 := h.rng (l.getD (0 : Int).toNat 0) (getD_memG hpos)
  have r1 := h.rng (l.getD ((l.length : Int) - 1).toNat 0) (getD_memG (by omega))
  have hc := ring0_cond (paL rs l) s
  rw [hL, hF] at hc
  unfold GrowIs9 GrowYes GrowNo
  generalize hn : ((l.length + 0 : Nat) : Int) = n
  refine ⟨fun x hx => ?_, fun hx => ?_⟩
  · rw [ringF] at hx
    split at hx
    case isFalse => cases hx
    injection hx with hx
    subst hx
    rename_i hq
    rw [hL, hF] at hq
    rw [decide_eq_true hq] at hc
    refine fn_of_ev tok Try.func45 rfl rfl rfl ?_
    repeat' ((conv => whnf); first | done | refine ev_step ?_ | refine ops_step ?_ | refine scan_step ?_ | refine draw_step ?_ | refine each_step ?_ | refine sl_step ?_ | refine hp_step ?_ | refine guard_no (by decide) ?_ | refine guard_go ?_ | refine guard_old ?_ | apply cut_auto | with_reducible exact CutS.mk (Or.inl ⟨rfl, rfl, rfl⟩) | refine CutS.mk (Or.inr (sub_auto ?_)) | exact trivial | refine And.intro ?_ ?_ | (refine cond_split ?_ ?_ <;> intro _ <;> first | (exfalso; first | omega | (simp only [decide_eq_true_eq, decide_eq_false_iff_not, Bool.not_eq_true', Bool.not_eq_false', ne_eq, Bool.not_true, Bool.not_false, cond_true, cond_false, Bool.true_eq_false, Bool.false_eq_true, Bool.and_eq_true, Bool.and_eq_false_iff] at *; omega)) | skip) | apply guess | exact Or.inl rfl | exact Or.inr rfl | exact Side.mk trivial | exact Side.mk (fun h => h) | exact Side.mk (fun h => ⟨h, h⟩) | with_reducible exact Side.mk rfl | with_reducible exact Side.mk ⟨rfl, rfl⟩ | with_reducible exact Side.mk (by assumption) | with_reducible rfl | intro _)
    all_goals try (conv => whnf)
    all_goals try (refine Side.mk ?_; first | (intros; omega) | (intro h1_ h2_; rw [h1_, h2_]; rfl) | (show List.length (_ ++ _) ≤ _; simp only [List.length_append, List.length_cons, List.length_nil, List.length_replicate, List.length_take]; omega) | (simp_all; done) | (simp_all; omega))
    all_goals first | rfl | exact hc.symm | trace_state
  · rw [ringF] at hx
    split at hx
    case isTrue => cases hx
    rename_i hq
    rw [hL, hF] at hq
    rw [decide_eq_false hq] at hc
    refine ex_of_evk [] tok Try.func45 rfl rfl rfl ?_
    repeat' ((conv => whnf); first | done | refine ev_step ?_ | refine ops_step ?_ | refine scan_step ?_ | refine draw_step ?_ | refine each_step ?_ | refine sl_step ?_ | refine hp_step ?_ | refine guard_no (by decide) ?_ | refine guard_go ?_ | refine guard_old ?_ | apply cut_auto | with_reducible exact CutS.mk (Or.inl ⟨rfl, rfl, rfl⟩) | refine CutS.mk (Or.inr (sub_auto ?_)) | exact trivial | refine And.intro ?_ ?_ | (refine cond_split ?_ ?_ <;> intro _ <;> first | (exfalso; first | omega | (simp only [decide_eq_true_eq, decide_eq_false_iff_not, Bool.not_eq_true', Bool.not_eq_false', ne_eq, Bool.not_true, Bool.not_false, cond_true, cond_false, Bool.true_eq_false, Bool.false_eq_true, Bool.and_eq_true, Bool.and_eq_false_iff] at *; omega)) | skip) | apply guess | exact Or.inl rfl | exact Or.inr rfl | exact Side.mk trivial | exact Side.mk (fun h => h) | exact Side.mk (fun h => ⟨h, h⟩) | with_reducible exact Side.mk rfl | with_reducible exact Side.mk ⟨rfl, rfl⟩ | with_reducible exact Side.mk (by assumption) | with_reducible rfl | intro _)
    all_goals try (conv => whnf)
    all_goals try (refine Side.mk ?_; first | (intros; omega) | (intro h1_ h2_; rw [h1_, h2_]; rfl) | (show List.length (_ ++ _) ≤ _; simp only [List.length_append, List.length_cons, List.length_nil, List.length_replicate, List.length_take]; omega) | (simp_all; done) | (simp_all; omega))
    refine ⟨(false, l), ⟨Nat.le_refl _, List.take_length, fun _ => rfl⟩, ?_⟩
    repeat' ((conv => whnf); first | done | refine ev_step ?_ | refine ops_step ?_ | refine scan_step ?_ | refine draw_step ?_ | refine each_step ?_ | refine sl_step ?_ | refine hp_step ?_ | refine guard_no (by decide) ?_ | refine guard_go ?_ | refine guard_old ?_ | apply cut_auto | with_reducible exact CutS.mk (Or.inl ⟨rfl, rfl, rfl⟩) | refine CutS.mk (Or.inr (sub_auto ?_)) | exact trivial | refine And.intro ?_ ?_ | refine cond_split ?_ ?_ | apply guess | exact Or.inl rfl | exact Or.inr rfl | exact Side.mk trivial | exact Side.mk (fun h => h) | exact Side.mk (fun h => ⟨h, h⟩) | with_reducible exact Side.mk rfl | with_reducible exact Side.mk ⟨rfl, rfl⟩ | with_reducible exact Side.mk (by assumption) | with_reducible rfl | intro _)
    all_goals try (conv => whnf)
    all_goals first | rfl | exact hc.symm | trace_state
theorem k_grow1R (p : Int) (rs : List R3) (f : Nat) (l : List Int) (s : Int) (h : GrowP p rs (f + 1) l s) (IH : ∀ i, i < rs.length → GrowIs9 rs f (l ++ [(i : Int)]) (s + (rs.getD i default).c)) : GrowIs9 rs (f + 1) l s := by
  have hs := h.ring.small
  have hlo := h.ring.lo
  have hhi := h.ring.hi
  have hpl := h.ring.len
  have hpos := List.length_pos_iff.2 h.ne
  obtain ⟨hp1, hp2, hp3, hall⟩ := okPress_bd h.ok
  have e1 : ((l.length : Int) - 1).toNat = l.length - 1 := by omega
  have hL := paL_last rs h.ne
  rw [← e1] at hL
  have hF : (paL rs l).getD 0 0 = (rs.getD (l.getD (0 : Int).toNat 0).toNat default).a := rfl
  have r0 := h.rng (l.getD (0 : Int).toNat 0) (getD_memG hpos)
  have r1 := h.rng (l.getD ((l.length : Int) - 1).toNat 0) (getD_memG (by omega))
  have hne := h.ne
  have hdl : (paL rs l).dropLast ≠ [] := fun e => by
    have := congrArg List.length e
    rw [List.length_dropLast] at this
    simp at this; omega
  have hfirst : (paL rs l).getD 0 0 ∈ (paL rs l).dropLast := by
    cases l with
    | nil => exact absurd rfl hne
    | cons a r => simp [paL]
  have hRs := ringF_succ rs f l (paL rs l) s
  have hRc := ringF_cut rs f l (paL rs l) s
  have hmem : ∀ i, i < rs.length → rs.getD i default ∈ rs := fun i hi => by
    rw [List.getD, List.getElem?_eq_getElem hi]; exact List.getElem_mem hi
  have hget := yesK_get (paL rs l).dropLast (lastI (paL rs l))
  rw [hL] at hget
  unfold GrowIs9 GrowYes GrowNo at IH ⊢
  have hidx : ∀ i : Nat, ((l ++ [(i : Int)]).length + f : Nat) = ((l.length + (f + 1) : Nat) : Int) := fun i => by simp; omega
  simp only [hidx, paL_snoc rs hne, dropLast_snoc'] at IH
  generalize hn : ((l.length + (f + 1) : Nat) : Int) = n at IH ⊢
  by_cases hcut : lastI (paL rs l) ∈ (paL rs l).dropLast
  · refine ⟨fun x hx => ?_, fun _ => ?_⟩
    · rw [hRc ⟨hne, hcut⟩] at hx; cases hx
    · rw [hL] at hcut
      rw [decide_eq_true hcut] at hget
      refine ex_of_evk [] tok Try.func45 rfl rfl rfl ?_
      repeat' ((conv => whnf); first | done | refine ev_step ?_ | refine ops_step ?_ | refine scan_step ?_ | refine draw_step ?_ | refine each_step ?_ | refine sl_step ?_ | refine hp_step ?_ | refine guard_no (by decide) ?_ | refine guard_go ?_ | refine guard_old ?_ | apply cut_auto | with_reducible exact CutS.mk (Or.inl ⟨rfl, rfl, rfl⟩) | refine CutS.mk (Or.inr (sub_auto ?_)) | exact trivial | refine And.intro ?_ ?_ | (refine cond_split ?_ ?_ <;> intro _ <;> first | (exfalso; first | omega | (simp only [decide_eq_true_eq, decide_eq_false_iff_not, Bool.not_eq_true', Bool.not_eq_false', ne_eq, Bool.not_true, Bool.not_false, cond_true, cond_false, Bool.true_eq_false, Bool.false_eq_true, Bool.and_eq_true, Bool.and_eq_false_iff] at *; omega)) | skip) | apply guess | exact Or.inl rfl | exact Or.inr rfl | exact Side.mk trivial | exact Side.mk (fun h => h) | exact Side.mk (fun h => ⟨h, h⟩) | with_reducible exact Side.mk rfl | with_reducible exact Side.mk ⟨rfl, rfl⟩ | with_reducible exact Side.mk (by assumption) | with_reducible rfl | intro _)
      all_goals try (conv => whnf)
      all_goals try (refine Side.mk ?_; first | (intros; omega) | (intro h1_ h2_; rw [h1_, h2_]; rfl) | (show List.length (_ ++ _) ≤ _; simp only [List.length_append, List.length_cons, List.length_nil, List.length_replicate, List.length_take]; omega) | (simp_all; done) | (simp_all; omega))
      · refine ⟨(false, l), ⟨Nat.le_refl _, List.take_length, fun _ => rfl⟩, ?_⟩
        repeat' ((conv => whnf); first | done | refine ev_step ?_ | refine ops_step ?_ | refine scan_step ?_ | refine draw_step ?_ | refine each_step ?_ | refine sl_step ?_ | refine hp_step ?_ | refine guard_no (by decide) ?_ | refine guard_go ?_ | refine guard_old ?_ | apply cut_auto | with_reducible exact CutS.mk (Or.inl ⟨rfl, rfl, rfl⟩) | refine CutS.mk (Or.inr (sub_auto ?_)) | exact trivial | refine And.intro ?_ ?_ | refine cond_split ?_ ?_ | apply guess | exact Or.inl rfl | exact Or.inr rfl | exact Side.mk trivial | exact Side.mk (fun h => h) | exact Side.mk (fun h => ⟨h, h⟩) | with_reducible exact Side.mk rfl | with_reducible exact Side.mk ⟨rfl, rfl⟩ | with_reducible exact Side.mk (by assumption) | with_reducible rfl | intro _)
        all_goals try (conv => whnf)
        all_goals first | rfl | trace_state
      · have hcc : ∀ b : Bool, (bif b then true else mgB (yesK (paL rs l).dropLast) (rs.getD (l.getD ((l.length : Int) - 1).toNat 0).toNat default).b) = true := fun b => by rw [hget]; cases b <;> rfl
        refine loop_at (fun i : Nat => i ≤ rs.length) 4 (fun i => [(66, .int .i64 i)]) (fun _ => []) (fun i => rs.length - i) 0 (Nat.zero_le _) ?_ (fun i hi1 => ?_)
        · repeat' ((conv => whnf); first | done | refine ev_step ?_ | refine ops_step ?_ | refine scan_step ?_ | refine draw_step ?_ | refine each_step ?_ | refine sl_step ?_ | refine hp_step ?_ | refine guard_no (by decide) ?_ | refine guard_go ?_ | refine guard_old ?_ | apply cut_auto | with_reducible exact CutS.mk (Or.inl ⟨rfl, rfl, rfl⟩) | refine CutS.mk (Or.inr (sub_auto ?_)) | exact trivial | refine And.intro ?_ ?_ | refine cond_split ?_ ?_ | apply guess | exact Or.inl rfl | exact Or.inr rfl | exact Side.mk trivial | exact Side.mk (fun h => h) | exact Side.mk (fun h => ⟨h, h⟩) | with_reducible exact Side.mk rfl | with_reducible exact Side.mk ⟨rfl, rfl⟩ | with_reducible exact Side.mk (by assumption) | with_reducible rfl | intro _)
          all_goals try (conv => whnf)
          all_goals first | rfl | trace_state
        · by_cases hlt : i < rs.length
          · repeat' ((conv => whnf); first | done | refine ev_step ?_ | refine ops_step ?_ | refine scan_step ?_ | refine draw_step ?_ | refine each_step ?_ | refine sl_step ?_ | refine hp_step ?_ | refine guard_no (by decide) ?_ | refine guard_go ?_ | refine guard_old ?_ | apply cut_auto | with_reducible exact CutS.mk (Or.inl ⟨rfl, rfl, rfl⟩) | refine CutS.mk (Or.inr (sub_auto ?_)) | exact trivial | refine And.intro ?_ ?_ | (refine cond_split ?_ ?_ <;> intro hq_ <;> first | (exfalso; first | omega | (simp only [hcc, cond_true, cond_false, Bool.not_true, Bool.not_false, Bool.and_true, Bool.true_and, Bool.and_false, Bool.false_and, Bool.or_true, Bool.true_or, Bool.or_false, Bool.false_or, Bool.true_eq_false, Bool.false_eq_true, decide_true, decide_false, reduceCtorEq] at hq_; done) | (rw [decide_eq_false_iff_not] at hq_; omega) | (rw [decide_eq_true_eq] at hq_; omega) | (simp only [hcc, reduceCtorEq] at hq_; done) | exact Bool.noConfusion (Eq.trans (Eq.symm hcc) hq_)) | skip) | apply guess | exact Or.inl rfl | exact Or.inr rfl | exact Side.mk trivial | exact Side.mk (fun h => h) | exact Side.mk (fun h => ⟨h, h⟩) | with_reducible exact Side.mk rfl | with_reducible exact Side.mk ⟨rfl, rfl⟩ | with_reducible exact Side.mk (by assumption) | with_reducible rfl | intro _)
            all_goals try (conv => whnf)
            all_goals try (refine Side.mk ?_; first | (intros; omega) | (intro h1_ h2_; rw [h1_, h2_]; rfl) | (show List.length (_ ++ _) ≤ _; simp only [List.length_append, List.length_cons, List.length_nil, List.length_replicate, List.length_take]; omega) | (simp_all; done) | (simp_all; omega))
            all_goals try omega
            refine ⟨i + 1, by omega, by omega, ?_⟩
            repeat' ((conv => whnf); first | done | refine ev_step ?_ | refine ops_step ?_ | refine scan_step ?_ | refine draw_step ?_ | refine each_step ?_ | refine sl_step ?_ | refine hp_step ?_ | refine guard_no (by decide) ?_ | refine guard_go ?_ | refine guard_old ?_ | apply cut_auto | with_reducible exact CutS.mk (Or.inl ⟨rfl, rfl, rfl⟩) | refine CutS.mk (Or.inr (sub_auto ?_)) | exact trivial | refine And.intro ?_ ?_ | refine cond_split ?_ ?_ | apply guess | exact Or.inl rfl | exact Or.inr rfl | exact Side.mk trivial | exact Side.mk (fun h => h) | exact Side.mk (fun h => ⟨h, h⟩) | with_reducible exact Side.mk rfl | with_reducible exact Side.mk ⟨rfl, rfl⟩ | with_reducible exact Side.mk (by assumption) | with_reducible rfl | intro _)
            all_goals try (conv => whnf)
            all_goals first | rfl | omega | trace_state
          · repeat' ((conv => whnf); first | done | refine ev_step ?_ | refine ops_step ?_ | refine scan_step ?_ | refine draw_step ?_ | refine each_step ?_ | refine sl_step ?_ | refine hp_step ?_ | refine guard_no (by decide) ?_ | refine guard_go ?_ | refine guard_old ?_ | apply cut_auto | with_reducible exact CutS.mk (Or.inl ⟨rfl, rfl, rfl⟩) | refine CutS.mk (Or.inr (sub_auto ?_)) | exact trivial | refine And.intro ?_ ?_ | (refine cond_split ?_ ?_ <;> intro _ <;> first | (exfalso; first | omega | (simp only [decide_eq_true_eq, decide_eq_false_iff_not, Bool.not_eq_true', Bool.not_eq_false', ne_eq, Bool.not_true, Bool.not_false, cond_true, cond_false, Bool.true_eq_false, Bool.false_eq_true, Bool.and_eq_true, Bool.and_eq_false_iff] at *; omega)) | skip) | apply guess | exact Or.inl rfl | exact Or.inr rfl | exact Side.mk trivial | exact Side.mk (fun h => h) | exact Side.mk (fun h => ⟨h, h⟩) | with_reducible exact Side.mk rfl | with_reducible exact Side.mk ⟨rfl, rfl⟩ | with_reducible exact Side.mk (by assumption) | with_reducible rfl | intro _)
            all_goals try (conv => whnf)
            all_goals try (refine Side.mk ?_; first | (intros; omega) | (intro h1_ h2_; rw [h1_, h2_]; rfl) | (show List.length (_ ++ _) ≤ _; simp only [List.length_append, List.length_cons, List.length_nil, List.length_replicate, List.length_take]; omega) | (simp_all; done) | (simp_all; omega))
            all_goals try omega
            refine ⟨(false, l), ⟨Nat.le_refl _, List.take_length, fun _ => rfl⟩, ?_⟩
            repeat' ((conv => whnf); first | done | refine ev_step ?_ | refine ops_step ?_ | refine scan_step ?_ | refine draw_step ?_ | refine each_step ?_ | refine sl_step ?_ | refine hp_step ?_ | refine guard_no (by decide) ?_ | refine guard_go ?_ | refine guard_old ?_ | apply cut_auto | with_reducible exact CutS.mk (Or.inl ⟨rfl, rfl, rfl⟩) | refine CutS.mk (Or.inr (sub_auto ?_)) | exact trivial | refine And.intro ?_ ?_ | refine cond_split ?_ ?_ | apply guess | exact Or.inl rfl | exact Or.inr rfl | exact Side.mk trivial | exact Side.mk (fun h => h) | exact Side.mk (fun h => ⟨h, h⟩) | with_reducible exact Side.mk rfl | with_reducible exact Side.mk ⟨rfl, rfl⟩ | with_reducible exact Side.mk (by assumption) | with_reducible rfl | intro _)
            all_goals try (conv => whnf)
            all_goals first | rfl | trace_state
  · have hnf : (rs.getD (l.getD ((l.length : Int) - 1).toNat 0).toNat default).b ≠ (rs.getD (l.getD (0 : Int).toNat 0).toNat default).a := fun e => hcut (by rw [hL, e, ← hF]; exact hfirst)
    rw [hRs (fun h => hcut h.2)]
    rw [hL] at hcut
    rw [decide_eq_false hcut] at hget
    have hput := yesK_put hcut
    have hdel := yesK_del hcut
    rw [← hL, last_split (show paL rs l ≠ [] from List.cons_ne_nil _ _)] at hput hdel
    rw [hL] at hput hdel
    refine ⟨fun x hx => ?_, fun hx => ?_⟩
    · refine fn_of_ev tok Try.func45 rfl rfl rfl ?_
      repeat' ((conv => whnf); first | done | refine ev_step ?_ | refine ops_step ?_ | refine scan_step ?_ | refine draw_step ?_ | refine each_step ?_ | refine sl_step ?_ | refine hp_step ?_ | refine guard_no (by decide) ?_ | refine guard_go ?_ | refine guard_old ?_ | apply cut_auto | with_reducible exact CutS.mk (Or.inl ⟨rfl, rfl, rfl⟩) | refine CutS.mk (Or.inr (sub_auto ?_)) | exact trivial | refine And.intro ?_ ?_ | (refine cond_split ?_ ?_ <;> intro _ <;> first | (exfalso; first | omega | (simp only [decide_eq_true_eq, decide_eq_false_iff_not, Bool.not_eq_true', Bool.not_eq_false', ne_eq, Bool.not_true, Bool.not_false, cond_true, cond_false, Bool.true_eq_false, Bool.false_eq_true, Bool.and_eq_true, Bool.and_eq_false_iff] at *; omega)) | skip) | apply guess | exact Or.inl rfl | exact Or.inr rfl | exact Side.mk trivial | exact Side.mk (fun h => h) | exact Side.mk (fun h => ⟨h, h⟩) | with_reducible exact Side.mk rfl | with_reducible exact Side.mk ⟨rfl, rfl⟩ | with_reducible exact Side.mk (by assumption) | with_reducible rfl | intro _)
      all_goals try (conv => whnf)
      all_goals try (refine Side.mk ?_; first | (intros; omega) | (intro h1_ h2_; rw [h1_, h2_]; rfl) | (show List.length (_ ++ _) ≤ _; simp only [List.length_append, List.length_cons, List.length_nil, List.length_replicate, List.length_take]; omega) | (simp_all; done) | (simp_all; omega))
      refine loop_del [2] (fun x : Nat × (Bool × List Int) => x.1 ≤ rs.length ∧ begB l x.2 ∧ (List.range x.1).findSome? (ringG rs f l (paL rs l) s) = none) 5 (fun x => [(66, .int .i64 x.1), (16, .top), (29, .top), (33, .top), (44, .top)]) (fun x => ringH n (paL rs l).dropLast l x.2) (fun x => rs.length - x.1) (0, (false, l)) ⟨Nat.zero_le _, ⟨Nat.le_refl _, List.take_length, fun _ => rfl⟩, rfl⟩ ?_ (fun x hq => ?_)
      · repeat' ((conv => whnf); first | done | refine ev_step ?_ | refine ops_step ?_ | refine scan_step ?_ | refine draw_step ?_ | refine each_step ?_ | refine sl_step ?_ | refine hp_step ?_ | refine guard_no (by decide) ?_ | refine guard_go ?_ | refine guard_old ?_ | apply cut_auto | with_reducible exact CutS.mk (Or.inl ⟨rfl, rfl, rfl⟩) | refine CutS.mk (Or.inr (sub_auto ?_)) | exact trivial | refine And.intro ?_ ?_ | refine cond_split ?_ ?_ | apply guess | exact Or.inl rfl | exact Or.inr rfl | exact Side.mk trivial | exact Side.mk (fun h => h) | exact Side.mk (fun h => ⟨h, h⟩) | with_reducible exact Side.mk rfl | with_reducible exact Side.mk ⟨rfl, rfl⟩ | with_reducible exact Side.mk (by assumption) | with_reducible rfl | intro _)
        all_goals try (conv => whnf)
        all_goals first | rfl | trace_state
      · obtain ⟨i, fl, zs⟩ := x
        obtain ⟨hi1, ⟨hz1, hz2, hz3⟩, hi2⟩ := hq
        dsimp only at hi1 hz1 hz2 hz3 hi2 ⊢
        by_cases hlt : i < rs.length
        · have hb := okRule_bd (hall _ (hmem (i : Int).toNat hlt))
          have hs1 := fs_succ (ringG rs f l (paL rs l) s) i
          rw [hi2, Option.none_or] at hs1
          by_cases ha : (rs.getD (i : Int).toNat default).a = (rs.getD (l.getD ((l.length : Int) - 1).toNat 0).toNat default).b
          · have hcc : (bif decide ((rs.getD (i : Int).toNat default).a ≠ (rs.getD (l.getD ((l.length : Int) - 1).toNat 0).toNat default).b) then true else mgB (yesK (paL rs l).dropLast) (rs.getD (l.getD ((l.length : Int) - 1).toNat 0).toNat default).b) = false := by
              rw [decide_eq_false (fun h => h ha), hget]; rfl
            have ih := IH i hlt
            have hg : ringG rs f l (paL rs l) s i = ringF rs f (l ++ [(i : Int)]) (paL rs l ++ [(rs.getD i default).b]) (s + (rs.getD i default).c) := if_pos (by rw [hL]; exact ha)
            cases hR : ringF rs f (l ++ [(i : Int)]) (paL rs l ++ [(rs.getD i default).b]) (s + (rs.getD i default).c) with
            | none =>
              have k1 : FnEx Try.prog 45 [.ptr 0 [] 0 0, .int .i64 (s + (rs.getD (i : Int).toNat default).c)] 4 [(0, ringO n (.sl 2 [])), (1, .flat false (.r3 rs)), (2, .flat true (.ints .i64 (l ++ [(i : Int)]))), (3, .mp (.ib (yesK (paL rs l))))] (begB (l ++ [(i : Int)])) (fun _ => .bool false) 5 (ringH n (paL rs l) (l ++ [(i : Int)])) := ih.2 hR
              cases fl
              · have hz := hz3 rfl
                subst hz
                repeat' ((conv => whnf); first | done | refine ev_step ?_ | refine ops_step ?_ | refine scan_step ?_ | refine draw_step ?_ | refine each_step ?_ | refine sl_step ?_ | refine hp_step ?_ | refine guard_no (by decide) ?_ | refine guard_go ?_ | refine guard_old ?_ | apply cut_auto | with_reducible exact CutS.mk (Or.inl ⟨rfl, rfl, rfl⟩) | refine CutS.mk (Or.inr (sub_auto ?_)) | exact trivial | refine And.intro ?_ ?_ | (refine cond_split ?_ ?_ <;> intro hq_ <;> first | (exfalso; first | omega | (simp only [hcc, cond_true, cond_false, Bool.not_true, Bool.not_false, Bool.and_true, Bool.true_and, Bool.and_false, Bool.false_and, Bool.or_true, Bool.true_or, Bool.or_false, Bool.false_or, Bool.true_eq_false, Bool.false_eq_true, decide_true, decide_false, reduceCtorEq] at hq_; done) | (rw [decide_eq_false_iff_not] at hq_; omega) | (rw [decide_eq_true_eq] at hq_; omega) | (simp only [hcc, reduceCtorEq] at hq_; done) | exact Bool.noConfusion (Eq.trans (Eq.symm hcc) hq_)) | skip) | apply guess | apply FnEx.useF2 (k1) | exact Or.inl rfl | exact Or.inr rfl | exact Side.mk trivial | exact Side.mk (fun h => h) | exact Side.mk (fun h => ⟨h, h⟩) | with_reducible exact Side.mk rfl | with_reducible exact Side.mk ⟨rfl, rfl⟩ | with_reducible exact Side.mk (by assumption) | with_reducible rfl | intro _)
                all_goals try (conv => whnf)
                all_goals try (refine Side.mk ?_; first | (intros; omega) | (intro h1_ h2_; rw [h1_, h2_]; rfl) | (show List.length (_ ++ _) ≤ _; simp only [List.length_append, List.length_cons, List.length_nil, List.length_replicate, List.length_take]; omega) | (simp_all; done) | (simp_all; omega))
                all_goals try omega
                all_goals try exact hput.symm
                all_goals try (simp only [List.drop_zero]; rw [hz2]; done)
                all_goals try (rename_i ys hy; have hy2 := hy.2.2 rfl; dsimp only at hy2; subst hy2; refine Side.mk ?_; simp only [List.length_append, List.length_singleton]; first | omega | (unfold inI64; omega))
                · rename_i ys hy
                  have hd := beg_down hy
                  refine ⟨(i + 1, (true, ys)), ⟨by dsimp only; omega, hd, by rw [hs1, hg, hR]⟩, by dsimp only; omega, ?_⟩
                  have hy2 := hy.2.2 rfl
                  dsimp only at hy2
                  subst hy2
                  repeat' ((conv => whnf); first | done | refine ev_step ?_ | refine ops_step ?_ | refine scan_step ?_ | refine draw_step ?_ | refine each_step ?_ | refine sl_step ?_ | refine hp_step ?_ | refine guard_no (by decide) ?_ | refine guard_go ?_ | refine guard_old ?_ | apply cut_auto | with_reducible exact CutS.mk (Or.inl ⟨rfl, rfl, rfl⟩) | refine CutS.mk (Or.inr (sub_auto ?_)) | exact trivial | refine And.intro ?_ ?_ | refine cond_split ?_ ?_ | apply guess | exact Or.inl rfl | exact Or.inr rfl | exact Side.mk trivial | exact Side.mk (fun h => h) | exact Side.mk (fun h => ⟨h, h⟩) | with_reducible exact Side.mk rfl | with_reducible exact Side.mk ⟨rfl, rfl⟩ | with_reducible exact Side.mk (by assumption) | with_reducible rfl | intro _)
                  all_goals try (conv => whnf)
                  all_goals first | rfl | omega | exact hdel | exact hdel.symm | (change _ = _ - 0; simp only [List.length_append, List.length_singleton]; omega) | trace_state
                · rename_i ys hy
                  have hd := beg_down hy
                  refine ⟨(i + 1, (true, ys)), ⟨by dsimp only; omega, hd, by rw [hs1, hg, hR]⟩, by dsimp only; omega, ?_⟩
                  repeat' ((conv => whnf); first | done | refine ev_step ?_ | refine ops_step ?_ | refine scan_step ?_ | refine draw_step ?_ | refine each_step ?_ | refine sl_step ?_ | refine hp_step ?_ | refine guard_no (by decide) ?_ | refine guard_go ?_ | refine guard_old ?_ | apply cut_auto | with_reducible exact CutS.mk (Or.inl ⟨rfl, rfl, rfl⟩) | refine CutS.mk (Or.inr (sub_auto ?_)) | exact trivial | refine And.intro ?_ ?_ | refine cond_split ?_ ?_ | apply guess | exact Or.inl rfl | exact Or.inr rfl | exact Side.mk trivial | exact Side.mk (fun h => h) | exact Side.mk (fun h => ⟨h, h⟩) | with_reducible exact Side.mk rfl | with_reducible exact Side.mk ⟨rfl, rfl⟩ | with_reducible exact Side.mk (by assumption) | with_reducible rfl | intro _)
                  all_goals try (conv => whnf)
                  all_goals first | rfl | omega | exact hdel | exact hdel.symm | (change _ = _ - 0; simp only [List.length_append, List.length_singleton]; omega) | trace_state
              · repeat' ((conv => whnf); first | done | refine ev_step ?_ | refine ops_step ?_ | refine scan_step ?_ | refine draw_step ?_ | refine each_step ?_ | refine sl_step ?_ | refine hp_step ?_ | refine guard_no (by decide) ?_ | refine guard_go ?_ | refine guard_old ?_ | apply cut_auto | with_reducible exact CutS.mk (Or.inl ⟨rfl, rfl, rfl⟩) | refine CutS.mk (Or.inr (sub_auto ?_)) | exact trivial | refine And.intro ?_ ?_ | (refine cond_split ?_ ?_ <;> intro hq_ <;> first | (exfalso; first | omega | (simp only [hcc, cond_true, cond_false, Bool.not_true, Bool.not_false, Bool.and_true, Bool.true_and, Bool.and_false, Bool.false_and, Bool.or_true, Bool.true_or, Bool.or_false, Bool.false_or, Bool.true_eq_false, Bool.false_eq_true, decide_true, decide_false, reduceCtorEq] at hq_; done) | (rw [decide_eq_false_iff_not] at hq_; omega) | (rw [decide_eq_true_eq] at hq_; omega) | (simp only [hcc, reduceCtorEq] at hq_; done) | exact Bool.noConfusion (Eq.trans (Eq.symm hcc) hq_)) | skip) | apply guess | apply FnEx.useF2 (k1) | exact Or.inl rfl | exact Or.inr rfl | exact Side.mk trivial | exact Side.mk (fun h => h) | exact Side.mk (fun h => ⟨h, h⟩) | with_reducible exact Side.mk rfl | with_reducible exact Side.mk ⟨rfl, rfl⟩ | with_reducible exact Side.mk (by assumption) | with_reducible rfl | intro _)
                all_goals try (conv => whnf)
                all_goals try (refine Side.mk ?_; first | (intros; omega) | (intro h1_ h2_; rw [h1_, h2_]; rfl) | (show List.length (_ ++ _) ≤ _; simp only [List.length_append, List.length_cons, List.length_nil, List.length_replicate, List.length_take]; omega) | (simp_all; done) | (simp_all; omega))
                all_goals try omega
                all_goals try exact hput.symm
                all_goals try (simp only [List.drop_zero]; rw [hz2]; done)
                all_goals try exact Side.mk (by show 0 + l.length ≤ zs.length; omega)
                all_goals try (rename_i ys hy; have hy2 := hy.2.2 rfl; dsimp only at hy2; subst hy2; refine Side.mk ?_; simp only [List.length_append, List.length_singleton]; first | omega | (unfold inI64; omega))
                · rename_i ys hy
                  have hd := beg_down hy
                  refine ⟨(i + 1, (true, ys)), ⟨by dsimp only; omega, hd, by rw [hs1, hg, hR]⟩, by dsimp only; omega, ?_⟩
                  have hy2 := hy.2.2 rfl
                  dsimp only at hy2
                  subst hy2
                  repeat' ((conv => whnf); first | done | refine ev_step ?_ | refine ops_step ?_ | refine scan_step ?_ | refine draw_step ?_ | refine each_step ?_ | refine sl_step ?_ | refine hp_step ?_ | refine guard_no (by decide) ?_ | refine guard_go ?_ | refine guard_old ?_ | apply cut_auto | with_reducible exact CutS.mk (Or.inl ⟨rfl, rfl, rfl⟩) | refine CutS.mk (Or.inr (sub_auto ?_)) | exact trivial | refine And.intro ?_ ?_ | refine cond_split ?_ ?_ | apply guess | exact Or.inl rfl | exact Or.inr rfl | exact Side.mk trivial | exact Side.mk (fun h => h) | exact Side.mk (fun h => ⟨h, h⟩) | with_reducible exact Side.mk rfl | with_reducible exact Side.mk ⟨rfl, rfl⟩ | with_reducible exact Side.mk (by assumption) | with_reducible rfl | intro _)
                  all_goals try (conv => whnf)
                  all_goals first | rfl | omega | exact hdel | exact hdel.symm | (change _ = _ - 0; simp only [List.length_append, List.length_singleton]; omega) | trace_state
                · rename_i ys hy
                  have hd := beg_down hy
                  refine ⟨(i + 1, (true, ys)), ⟨by dsimp only; omega, hd, by rw [hs1, hg, hR]⟩, by dsimp only; omega, ?_⟩
                  repeat' ((conv => whnf); first | done | refine ev_step ?_ | refine ops_step ?_ | refine scan_step ?_ | refine draw_step ?_ | refine each_step ?_ | refine sl_step ?_ | refine hp_step ?_ | refine guard_no (by decide) ?_ | refine guard_go ?_ | refine guard_old ?_ | apply cut_auto | with_reducible exact CutS.mk (Or.inl ⟨rfl, rfl, rfl⟩) | refine CutS.mk (Or.inr (sub_auto ?_)) | exact trivial | refine And.intro ?_ ?_ | refine cond_split ?_ ?_ | apply guess | exact Or.inl rfl | exact Or.inr rfl | exact Side.mk trivial | exact Side.mk (fun h => h) | exact Side.mk (fun h => ⟨h, h⟩) | with_reducible exact Side.mk rfl | with_reducible exact Side.mk ⟨rfl, rfl⟩ | with_reducible exact Side.mk (by assumption) | with_reducible rfl | intro _)
                  all_goals try (conv => whnf)
                  all_goals first | rfl | omega | exact hdel | exact hdel.symm | (change _ = _ - 0; simp only [List.length_append, List.length_singleton]; omega) | trace_state
            | some y =>
              have hy : x = y := by
                have h1 := fs_more (n := rs.length) (hs1.trans (hg.trans hR)) (by omega)
                rw [h1] at hx; injection hx with hx; exact hx.symm
              subst hy
              have k1 : FnIs Try.prog 45 [.ptr 0 [] 0 0, .int .i64 (s + (rs.getD (i : Int).toNat default).c)] 4 [(0, ringO n (.sl 2 [])), (1, .flat false (.r3 rs)), (2, .flat true (.ints .i64 (l ++ [(i : Int)]))), (3, .mp (.ib (yesK (paL rs l))))] (.bool true) 5 [(0, .flat true (.gen 4 [[.sl 1 [], .int .i64 n, .sl 4 [], .top]])), (4, .flat true (.ints .i64 x))] := ih.1 x hR
              cases fl
              · have hz := hz3 rfl
                subst hz
                repeat' ((conv => whnf); first | done | refine ev_step ?_ | refine ops_step ?_ | refine scan_step ?_ | refine draw_step ?_ | refine each_step ?_ | refine sl_step ?_ | refine hp_step ?_ | refine guard_no (by decide) ?_ | refine guard_go ?_ | refine guard_old ?_ | apply cut_auto | with_reducible exact CutS.mk (Or.inl ⟨rfl, rfl, rfl⟩) | refine CutS.mk (Or.inr (sub_auto ?_)) | exact trivial | refine And.intro ?_ ?_ | (refine cond_split ?_ ?_ <;> intro hq_ <;> first | (exfalso; first | omega | (simp only [hcc, cond_true, cond_false, Bool.not_true, Bool.not_false, Bool.and_true, Bool.true_and, Bool.and_false, Bool.false_and, Bool.or_true, Bool.true_or, Bool.or_false, Bool.false_or, Bool.true_eq_false, Bool.false_eq_true, decide_true, decide_false, reduceCtorEq] at hq_; done) | (rw [decide_eq_false_iff_not] at hq_; omega) | (rw [decide_eq_true_eq] at hq_; omega) | (simp only [hcc, reduceCtorEq] at hq_; done) | exact Bool.noConfusion (Eq.trans (Eq.symm hcc) hq_)) | skip) | apply guess | apply FnIs.useF (k1) | exact Or.inl rfl | exact Or.inr rfl | exact Side.mk trivial | exact Side.mk (fun h => h) | exact Side.mk (fun h => ⟨h, h⟩) | with_reducible exact Side.mk rfl | with_reducible exact Side.mk ⟨rfl, rfl⟩ | with_reducible exact Side.mk (by assumption) | with_reducible rfl | intro _)
                all_goals try (conv => whnf)
                all_goals try (refine Side.mk ?_; first | (intros; omega) | (intro h1_ h2_; rw [h1_, h2_]; rfl) | (show List.length (_ ++ _) ≤ _; simp only [List.length_append, List.length_cons, List.length_nil, List.length_replicate, List.length_take]; omega) | (simp_all; done) | (simp_all; omega))
                all_goals try omega
                all_goals first | rfl | exact hput.symm | (simp only [List.drop_zero]; rw [hz2]; done) | trace_state
              · repeat' ((conv => whnf); first | done | refine ev_step ?_ | refine ops_step ?_ | refine scan_step ?_ | refine draw_step ?_ | refine each_step ?_ | refine sl_step ?_ | refine hp_step ?_ | refine guard_no (by decide) ?_ | refine guard_go ?_ | refine guard_old ?_ | apply cut_auto | with_reducible exact CutS.mk (Or.inl ⟨rfl, rfl, rfl⟩) | refine CutS.mk (Or.inr (sub_auto ?_)) | exact trivial | refine And.intro ?_ ?_ | (refine cond_split ?_ ?_ <;> intro hq_ <;> first | (exfalso; first | omega | (simp only [hcc, cond_true, cond_false, Bool.not_true, Bool.not_false, Bool.and_true, Bool.true_and, Bool.and_false, Bool.false_and, Bool.or_true, Bool.true_or, Bool.or_false, Bool.false_or, Bool.true_eq_false, Bool.false_eq_true, decide_true, decide_false, reduceCtorEq] at hq_; done) | (rw [decide_eq_false_iff_not] at hq_; omega) | (rw [decide_eq_true_eq] at hq_; omega) | (simp only [hcc, reduceCtorEq] at hq_; done) | exact Bool.noConfusion (Eq.trans (Eq.symm hcc) hq_)) | skip) | apply guess | apply FnIs.useF (k1) | exact Or.inl rfl | exact Or.inr rfl | exact Side.mk trivial | exact Side.mk (fun h => h) | exact Side.mk (fun h => ⟨h, h⟩) | with_reducible exact Side.mk rfl | with_reducible exact Side.mk ⟨rfl, rfl⟩ | with_reducible exact Side.mk (by assumption) | with_reducible rfl | intro _)
                all_goals try (conv => whnf)
                all_goals try (refine Side.mk ?_; first | (intros; omega) | (intro h1_ h2_; rw [h1_, h2_]; rfl) | (show List.length (_ ++ _) ≤ _; simp only [List.length_append, List.length_cons, List.length_nil, List.length_replicate, List.length_take]; omega) | (simp_all; done) | (simp_all; omega))
                all_goals try omega
                all_goals first | rfl | exact hput.symm | (simp only [List.drop_zero]; rw [hz2]; done) | exact Side.mk (by show 0 + l.length ≤ zs.length; omega) | trace_state
          · have hcc : (bif decide ((rs.getD (i : Int).toNat default).a ≠ (rs.getD (l.getD ((l.length : Int) - 1).toNat 0).toNat default).b) then true else mgB (yesK (paL rs l).dropLast) (rs.getD (l.getD ((l.length : Int) - 1).toNat 0).toNat default).b) = true := by
              rw [decide_eq_true ha]; rfl
            have hg : ringG rs f l (paL rs l) s i = none := if_neg (by rw [hL]; exact ha)
            cases fl
            · have hz := hz3 rfl
              subst hz
              repeat' ((conv => whnf); first | done | refine ev_step ?_ | refine ops_step ?_ | refine scan_step ?_ | refine draw_step ?_ | refine each_step ?_ | refine sl_step ?_ | refine hp_step ?_ | refine guard_no (by decide) ?_ | refine guard_go ?_ | refine guard_old ?_ | apply cut_auto | with_reducible exact CutS.mk (Or.inl ⟨rfl, rfl, rfl⟩) | refine CutS.mk (Or.inr (sub_auto ?_)) | exact trivial | refine And.intro ?_ ?_ | (refine cond_split ?_ ?_ <;> intro hq_ <;> first | (exfalso; first | omega | (simp only [hcc, cond_true, cond_false, Bool.not_true, Bool.not_false, Bool.and_true, Bool.true_and, Bool.and_false, Bool.false_and, Bool.or_true, Bool.true_or, Bool.or_false, Bool.false_or, Bool.true_eq_false, Bool.false_eq_true, decide_true, decide_false, reduceCtorEq] at hq_; done) | (rw [decide_eq_false_iff_not] at hq_; omega) | (rw [decide_eq_true_eq] at hq_; omega) | (simp only [hcc, reduceCtorEq] at hq_; done) | exact Bool.noConfusion (Eq.trans (Eq.symm hcc) hq_)) | skip) | apply guess | exact Or.inl rfl | exact Or.inr rfl | exact Side.mk trivial | exact Side.mk (fun h => h) | exact Side.mk (fun h => ⟨h, h⟩) | with_reducible exact Side.mk rfl | with_reducible exact Side.mk ⟨rfl, rfl⟩ | with_reducible exact Side.mk (by assumption) | with_reducible rfl | intro _)
              all_goals try (conv => whnf)
              all_goals try (refine Side.mk ?_; first | (intros; omega) | (intro h1_ h2_; rw [h1_, h2_]; rfl) | (show List.length (_ ++ _) ≤ _; simp only [List.length_append, List.length_cons, List.length_nil, List.length_replicate, List.length_take]; omega) | (simp_all; done) | (simp_all; omega))
              all_goals try omega
              refine ⟨(i + 1, (false, zs)), ⟨by dsimp only; omega, ⟨hz1, hz2, hz3⟩, by rw [hs1, hg]⟩, by dsimp only; omega, ?_⟩
              repeat' ((conv => whnf); first | done | refine ev_step ?_ | refine ops_step ?_ | refine scan_step ?_ | refine draw_step ?_ | refine each_step ?_ | refine sl_step ?_ | refine hp_step ?_ | refine guard_no (by decide) ?_ | refine guard_go ?_ | refine guard_old ?_ | apply cut_auto | with_reducible exact CutS.mk (Or.inl ⟨rfl, rfl, rfl⟩) | refine CutS.mk (Or.inr (sub_auto ?_)) | exact trivial | refine And.intro ?_ ?_ | refine cond_split ?_ ?_ | apply guess | exact Or.inl rfl | exact Or.inr rfl | exact Side.mk trivial | exact Side.mk (fun h => h) | exact Side.mk (fun h => ⟨h, h⟩) | with_reducible exact Side.mk rfl | with_reducible exact Side.mk ⟨rfl, rfl⟩ | with_reducible exact Side.mk (by assumption) | with_reducible rfl | intro _)
              all_goals try (conv => whnf)
              all_goals first | rfl | omega | trace_state
            · repeat' ((conv => whnf); first | done | refine ev_step ?_ | refine ops_step ?_ | refine scan_step ?_ | refine draw_step ?_ | refine each_step ?_ | refine sl_step ?_ | refine hp_step ?_ | refine guard_no (by decide) ?_ | refine guard_go ?_ | refine guard_old ?_ | apply cut_auto | with_reducible exact CutS.mk (Or.inl ⟨rfl, rfl, rfl⟩) | refine CutS.mk (Or.inr (sub_auto ?_)) | exact trivial | refine And.intro ?_ ?_ | (refine cond_split ?_ ?_ <;> intro hq_ <;> first | (exfalso; first | omega | (simp only [hcc, cond_true, cond_false, Bool.not_true, Bool.not_false, Bool.and_true, Bool.true_and, Bool.and_false, Bool.false_and, Bool.or_true, Bool.true_or, Bool.or_false, Bool.false_or, Bool.true_eq_false, Bool.false_eq_true, decide_true, decide_false, reduceCtorEq] at hq_; done) | (rw [decide_eq_false_iff_not] at hq_; omega) | (rw [decide_eq_true_eq] at hq_; omega) | (simp only [hcc, reduceCtorEq] at hq_; done) | exact Bool.noConfusion (Eq.trans (Eq.symm hcc) hq_)) | skip) | apply guess | exact Or.inl rfl | exact Or.inr rfl | exact Side.mk trivial | exact Side.mk (fun h => h) | exact Side.mk (fun h => ⟨h, h⟩) | with_reducible exact Side.mk rfl | with_reducible exact Side.mk ⟨rfl, rfl⟩ | with_reducible exact Side.mk (by assumption) | with_reducible rfl | intro _)
              all_goals try (conv => whnf)
              all_goals try (refine Side.mk ?_; first | (intros; omega) | (intro h1_ h2_; rw [h1_, h2_]; rfl) | (show List.length (_ ++ _) ≤ _; simp only [List.length_append, List.length_cons, List.length_nil, List.length_replicate, List.length_take]; omega) | (simp_all; done) | (simp_all; omega))
              all_goals try omega
              refine ⟨(i + 1, (true, zs)), ⟨by dsimp only; omega, ⟨hz1, hz2, hz3⟩, by rw [hs1, hg]⟩, by dsimp only; omega, ?_⟩
              repeat' ((conv => whnf); first | done | refine ev_step ?_ | refine ops_step ?_ | refine scan_step ?_ | refine draw_step ?_ | refine each_step ?_ | refine sl_step ?_ | refine hp_step ?_ | refine guard_no (by decide) ?_ | refine guard_go ?_ | refine guard_old ?_ | apply cut_auto | with_reducible exact CutS.mk (Or.inl ⟨rfl, rfl, rfl⟩) | refine CutS.mk (Or.inr (sub_auto ?_)) | exact trivial | refine And.intro ?_ ?_ | refine cond_split ?_ ?_ | apply guess | exact Or.inl rfl | exact Or.inr rfl | exact Side.mk trivial | exact Side.mk (fun h => h) | exact Side.mk (fun h => ⟨h, h⟩) | with_reducible exact Side.mk rfl | with_reducible exact Side.mk ⟨rfl, rfl⟩ | with_reducible exact Side.mk (by assumption) | with_reducible rfl | intro _)
              all_goals try (conv => whnf)
              all_goals first | rfl | omega | trace_state
        · exfalso
          rw [show rs.length = i by omega, hi2] at hx
          cases hx
    · refine ex_of_evk [] tok Try.func45 rfl rfl rfl ?_
      repeat' ((conv => whnf); first | done | refine ev_step ?_ | refine ops_step ?_ | refine scan_step ?_ | refine draw_step ?_ | refine each_step ?_ | refine sl_step ?_ | refine hp_step ?_ | refine guard_no (by decide) ?_ | refine guard_go ?_ | refine guard_old ?_ | apply cut_auto | with_reducible exact CutS.mk (Or.inl ⟨rfl, rfl, rfl⟩) | refine CutS.mk (Or.inr (sub_auto ?_)) | exact trivial | refine And.intro ?_ ?_ | (refine cond_split ?_ ?_ <;> intro _ <;> first | (exfalso; first | omega | (simp only [decide_eq_true_eq, decide_eq_false_iff_not, Bool.not_eq_true', Bool.not_eq_false', ne_eq, Bool.not_true, Bool.not_false, cond_true, cond_false, Bool.true_eq_false, Bool.false_eq_true, Bool.and_eq_true, Bool.and_eq_false_iff] at *; omega)) | skip) | apply guess | exact Or.inl rfl | exact Or.inr rfl | exact Side.mk trivial | exact Side.mk (fun h => h) | exact Side.mk (fun h => ⟨h, h⟩) | with_reducible exact Side.mk rfl | with_reducible exact Side.mk ⟨rfl, rfl⟩ | with_reducible exact Side.mk (by assumption) | with_reducible rfl | intro _)
      all_goals try (conv => whnf)
      all_goals try (refine Side.mk ?_; first | (intros; omega) | (intro h1_ h2_; rw [h1_, h2_]; rfl) | (show List.length (_ ++ _) ≤ _; simp only [List.length_append, List.length_cons, List.length_nil, List.length_replicate, List.length_take]; omega) | (simp_all; done) | (simp_all; omega))
      refine loop_del [2] (fun x : Nat × (Bool × List Int) => x.1 ≤ rs.length ∧ begB l x.2) 5 (fun x => [(66, .int .i64 x.1), (16, .top), (29, .top), (33, .top), (44, .top)]) (fun x => ringH n (paL rs l).dropLast l x.2) (fun x => rs.length - x.1) (0, (false, l)) ⟨Nat.zero_le _, ⟨Nat.le_refl _, List.take_length, fun _ => rfl⟩⟩ ?_ (fun x hq => ?_)
      · repeat' ((conv => whnf); first | done | refine ev_step ?_ | refine ops_step ?_ | refine scan_step ?_ | refine draw_step ?_ | refine each_step ?_ | refine sl_step ?_ | refine hp_step ?_ | refine guard_no (by decide) ?_ | refine guard_go ?_ | refine guard_old ?_ | apply cut_auto | with_reducible exact CutS.mk (Or.inl ⟨rfl, rfl, rfl⟩) | refine CutS.mk (Or.inr (sub_auto ?_)) | exact trivial | refine And.intro ?_ ?_ | refine cond_split ?_ ?_ | apply guess | exact Or.inl rfl | exact Or.inr rfl | exact Side.mk trivial | exact Side.mk (fun h => h) | exact Side.mk (fun h => ⟨h, h⟩) | with_reducible exact Side.mk rfl | with_reducible exact Side.mk ⟨rfl, rfl⟩ | with_reducible exact Side.mk (by assumption) | with_reducible rfl | intro _)
        all_goals try (conv => whnf)
        all_goals first | rfl | trace_state
      · obtain ⟨i, fl, zs⟩ := x
        obtain ⟨hi1, hz1, hz2, hz3⟩ := hq
        dsimp only at hi1 hz1 hz2 hz3 ⊢
        by_cases hlt : i < rs.length
        · have hb := okRule_bd (hall _ (hmem (i : Int).toNat hlt))
          have hgn := fs_none.1 hx i hlt
          by_cases ha : (rs.getD (i : Int).toNat default).a = (rs.getD (l.getD ((l.length : Int) - 1).toNat 0).toNat default).b
          · have hcc : (bif decide ((rs.getD (i : Int).toNat default).a ≠ (rs.getD (l.getD ((l.length : Int) - 1).toNat 0).toNat default).b) then true else mgB (yesK (paL rs l).dropLast) (rs.getD (l.getD ((l.length : Int) - 1).toNat 0).toNat default).b) = false := by
              rw [decide_eq_false (fun h => h ha), hget]; rfl
            have ih := IH i hlt
            have hg : ringG rs f l (paL rs l) s i = ringF rs f (l ++ [(i : Int)]) (paL rs l ++ [(rs.getD i default).b]) (s + (rs.getD i default).c) := if_pos (by rw [hL]; exact ha)
            have hR := hg.symm.trans hgn
            have k1 : FnEx Try.prog 45 [.ptr 0 [] 0 0, .int .i64 (s + (rs.getD (i : Int).toNat default).c)] 4 [(0, ringO n (.sl 2 [])), (1, .flat false (.r3 rs)), (2, .flat true (.ints .i64 (l ++ [(i : Int)]))), (3, .mp (.ib (yesK (paL rs l))))] (begB (l ++ [(i : Int)])) (fun _ => .bool false) 5 (ringH n (paL rs l) (l ++ [(i : Int)])) := ih.2 hR
            cases fl
            · have hz := hz3 rfl
              subst hz
              repeat' ((conv => whnf); first | done | refine ev_step ?_ | refine ops_step ?_ | refine scan_step ?_ | refine draw_step ?_ | refine each_step ?_ | refine sl_step ?_ | refine hp_step ?_ | refine guard_no (by decide) ?_ | refine guard_go ?_ | refine guard_old ?_ | apply cut_auto | with_reducible exact CutS.mk (Or.inl ⟨rfl, rfl, rfl⟩) | refine CutS.mk (Or.inr (sub_auto ?_)) | exact trivial | refine And.intro ?_ ?_ | (refine cond_split ?_ ?_ <;> intro hq_ <;> first | (exfalso; first | omega | (simp only [hcc, cond_true, cond_false, Bool.not_true, Bool.not_false, Bool.and_true, Bool.true_and, Bool.and_false, Bool.false_and, Bool.or_true, Bool.true_or, Bool.or_false, Bool.false_or, Bool.true_eq_false, Bool.false_eq_true, decide_true, decide_false, reduceCtorEq] at hq_; done) | (rw [decide_eq_false_iff_not] at hq_; omega) | (rw [decide_eq_true_eq] at hq_; omega) | (simp only [hcc, reduceCtorEq] at hq_; done) | exact Bool.noConfusion (Eq.trans (Eq.symm hcc) hq_)) | skip) | apply guess | apply FnEx.useF2 (k1) | exact Or.inl rfl | exact Or.inr rfl | exact Side.mk trivial | exact Side.mk (fun h => h) | exact Side.mk (fun h => ⟨h, h⟩) | with_reducible exact Side.mk rfl | with_reducible exact Side.mk ⟨rfl, rfl⟩ | with_reducible exact Side.mk (by assumption) | with_reducible rfl | intro _)
              all_goals try (conv => whnf)
              all_goals try (refine Side.mk ?_; first | (intros; omega) | (intro h1_ h2_; rw [h1_, h2_]; rfl) | (show List.length (_ ++ _) ≤ _; simp only [List.length_append, List.length_cons, List.length_nil, List.length_replicate, List.length_take]; omega) | (simp_all; done) | (simp_all; omega))
              all_goals try omega
              all_goals try exact hput.symm
              all_goals try (simp only [List.drop_zero]; rw [hz2]; done)
              all_goals try (rename_i ys hy; have hy2 := hy.2.2 rfl; dsimp only at hy2; subst hy2; refine Side.mk ?_; simp only [List.length_append, List.length_singleton]; first | omega | (unfold inI64; omega))
              · rename_i ys hy
                have hd := beg_down hy
                refine ⟨(i + 1, (true, ys)), ⟨by dsimp only; omega, hd⟩, by dsimp only; omega, ?_⟩
                have hy2 := hy.2.2 rfl
                dsimp only at hy2
                subst hy2
                repeat' ((conv => whnf); first | done | refine ev_step ?_ | refine ops_step ?_ | refine scan_step ?_ | refine draw_step ?_ | refine each_step ?_ | refine sl_step ?_ | refine hp_step ?_ | refine guard_no (by decide) ?_ | refine guard_go ?_ | refine guard_old ?_ | apply cut_auto | with_reducible exact CutS.mk (Or.inl ⟨rfl, rfl, rfl⟩) | refine CutS.mk (Or.inr (sub_auto ?_)) | exact trivial | refine And.intro ?_ ?_ | refine cond_split ?_ ?_ | apply guess | exact Or.inl rfl | exact Or.inr rfl | exact Side.mk trivial | exact Side.mk (fun h => h) | exact Side.mk (fun h => ⟨h, h⟩) | with_reducible exact Side.mk rfl | with_reducible exact Side.mk ⟨rfl, rfl⟩ | with_reducible exact Side.mk (by assumption) | with_reducible rfl | intro _)
                all_goals try (conv => whnf)
                all_goals first | rfl | omega | exact hdel | exact hdel.symm | (change _ = _ - 0; simp only [List.length_append, List.length_singleton]; omega) | trace_state
              · rename_i ys hy
                have hd := beg_down hy
                refine ⟨(i + 1, (true, ys)), ⟨by dsimp only; omega, hd⟩, by dsimp only; omega, ?_⟩
                repeat' ((conv => whnf); first | done | refine ev_step ?_ | refine ops_step ?_ | refine scan_step ?_ | refine draw_step ?_ | refine each_step ?_ | refine sl_step ?_ | refine hp_step ?_ | refine guard_no (by decide) ?_ | refine guard_go ?_ | refine guard_old ?_ | apply cut_auto | with_reducible exact CutS.mk (Or.inl ⟨rfl, rfl, rfl⟩) | refine CutS.mk (Or.inr (sub_auto ?_)) | exact trivial | refine And.intro ?_ ?_ | refine cond_split ?_ ?_ | apply guess | exact Or.inl rfl | exact Or.inr rfl | exact Side.mk trivial | exact Side.mk (fun h => h) | exact Side.mk (fun h => ⟨h, h⟩) | with_reducible exact Side.mk rfl | with_reducible exact Side.mk ⟨rfl, rfl⟩ | with_reducible exact Side.mk (by assumption) | with_reducible rfl | intro _)
                all_goals try (conv => whnf)
                all_goals first | rfl | omega | exact hdel | exact hdel.symm | (change _ = _ - 0; simp only [List.length_append, List.length_singleton]; omega) | trace_state
            · repeat' ((conv => whnf); first | done | refine ev_step ?_ | refine ops_step ?_ | refine scan_step ?_ | refine draw_step ?_ | refine each_step ?_ | refine sl_step ?_ | refine hp_step ?_ | refine guard_no (by decide) ?_ | refine guard_go ?_ | refine guard_old ?_ | apply cut_auto | with_reducible exact CutS.mk (Or.inl ⟨rfl, rfl, rfl⟩) | refine CutS.mk (Or.inr (sub_auto ?_)) | exact trivial | refine And.intro ?_ ?_ | (refine cond_split ?_ ?_ <;> intro hq_ <;> first | (exfalso; first | omega | (simp only [hcc, cond_true, cond_false, Bool.not_true, Bool.not_false, Bool.and_true, Bool.true_and, Bool.and_false, Bool.false_and, Bool.or_true, Bool.true_or, Bool.or_false, Bool.false_or, Bool.true_eq_false, Bool.false_eq_true, decide_true, decide_false, reduceCtorEq] at hq_; done) | (rw [decide_eq_false_iff_not] at hq_; omega) | (rw [decide_eq_true_eq] at hq_; omega) | (simp only [hcc, reduceCtorEq] at hq_; done) | exact Bool.noConfusion (Eq.trans (Eq.symm hcc) hq_)) | skip) | apply guess | apply FnEx.useF2 (k1) | exact Or.inl rfl | exact Or.inr rfl | exact Side.mk trivial | exact Side.mk (fun h => h) | exact Side.mk (fun h => ⟨h, h⟩) | with_reducible exact Side.mk rfl | with_reducible exact Side.mk ⟨rfl, rfl⟩ | with_reducible exact Side.mk (by assumption) | with_reducible rfl | intro _)
              all_goals try (conv => whnf)
              all_goals try (refine Side.mk ?_; first | (intros; omega) | (intro h1_ h2_; rw [h1_, h2_]; rfl) | (show List.length (_ ++ _) ≤ _; simp only [List.length_append, List.length_cons, List.length_nil, List.length_replicate, List.length_take]; omega) | (simp_all; done) | (simp_all; omega))
              all_goals try omega
              all_goals try exact hput.symm
              all_goals try (simp only [List.drop_zero]; rw [hz2]; done)
              all_goals try exact Side.mk (by show 0 + l.length ≤ zs.length; omega)
              all_goals try (rename_i ys hy; have hy2 := hy.2.2 rfl; dsimp only at hy2; subst hy2; refine Side.mk ?_; simp only [List.length_append, List.length_singleton]; first | omega | (unfold inI64; omega))
              · rename_i ys hy
                have hd := beg_down hy
                refine ⟨(i + 1, (true, ys)), ⟨by dsimp only; omega, hd⟩, by dsimp only; omega, ?_⟩
                have hy2 := hy.2.2 rfl
                dsimp only at hy2
                subst hy2
                repeat' ((conv => whnf); first | done | refine ev_step ?_ | refine ops_step ?_ | refine scan_step ?_ | refine draw_step ?_ | refine each_step ?_ | refine sl_step ?_ | refine hp_step ?_ | refine guard_no (by decide) ?_ | refine guard_go ?_ | refine guard_old ?_ | apply cut_auto | with_reducible exact CutS.mk (Or.inl ⟨rfl, rfl, rfl⟩) | refine CutS.mk (Or.inr (sub_auto ?_)) | exact trivial | refine And.intro ?_ ?_ | refine cond_split ?_ ?_ | apply guess | exact Or.inl rfl | exact Or.inr rfl | exact Side.mk trivial | exact Side.mk (fun h => h) | exact Side.mk (fun h => ⟨h, h⟩) | with_reducible exact Side.mk rfl | with_reducible exact Side.mk ⟨rfl, rfl⟩ | with_reducible exact Side.mk (by assumption) | with_reducible rfl | intro _)
                all_goals try (conv => whnf)
                all_goals first | rfl | omega | exact hdel | exact hdel.symm | (change _ = _ - 0; simp only [List.length_append, List.length_singleton]; omega) | trace_state
              · rename_i ys hy
                have hd := beg_down hy
                refine ⟨(i + 1, (true, ys)), ⟨by dsimp only; omega, hd⟩, by dsimp only; omega, ?_⟩
                repeat' ((conv => whnf); first | done | refine ev_step ?_ | refine ops_step ?_ | refine scan_step ?_ | refine draw_step ?_ | refine each_step ?_ | refine sl_step ?_ | refine hp_step ?_ | refine guard_no (by decide) ?_ | refine guard_go ?_ | refine guard_old ?_ | apply cut_auto | with_reducible exact CutS.mk (Or.inl ⟨rfl, rfl, rfl⟩) | refine CutS.mk (Or.inr (sub_auto ?_)) | exact trivial | refine And.intro ?_ ?_ | refine cond_split ?_ ?_ | apply guess | exact Or.inl rfl | exact Or.inr rfl | exact Side.mk trivial | exact Side.mk (fun h => h) | exact Side.mk (fun h => ⟨h, h⟩) | with_reducible exact Side.mk rfl | with_reducible exact Side.mk ⟨rfl, rfl⟩ | with_reducible exact Side.mk (by assumption) | with_reducible rfl | intro _)
                all_goals try (conv => whnf)
                all_goals first | rfl | omega | exact hdel | exact hdel.symm | (change _ = _ - 0; simp only [List.length_append, List.length_singleton]; omega) | trace_state
          · have hcc : (bif decide ((rs.getD (i : Int).toNat default).a ≠ (rs.getD (l.getD ((l.length : Int) - 1).toNat 0).toNat default).b) then true else mgB (yesK (paL rs l).dropLast) (rs.getD (l.getD ((l.length : Int) - 1).toNat 0).toNat default).b) = true := by
              rw [decide_eq_true ha]; rfl
            cases fl
            · have hz := hz3 rfl
              subst hz
              repeat' ((conv => whnf); first | done | refine ev_step ?_ | refine ops_step ?_ | refine scan_step ?_ | refine draw_step ?_ | refine each_step ?_ | refine sl_step ?_ | refine hp_step ?_ | refine guard_no (by decide) ?_ | refine guard_go ?_ | refine guard_old ?_ | apply cut_auto | with_reducible exact CutS.mk (Or.inl ⟨rfl, rfl, rfl⟩) | refine CutS.mk (Or.inr (sub_auto ?_)) | exact trivial | refine And.intro ?_ ?_ | (refine cond_split ?_ ?_ <;> intro hq_ <;> first | (exfalso; first | omega | (simp only [hcc, cond_true, cond_false, Bool.not_true, Bool.not_false, Bool.and_true, Bool.true_and, Bool.and_false, Bool.false_and, Bool.or_true, Bool.true_or, Bool.or_false, Bool.false_or, Bool.true_eq_false, Bool.false_eq_true, decide_true, decide_false, reduceCtorEq] at hq_; done) | (rw [decide_eq_false_iff_not] at hq_; omega) | (rw [decide_eq_true_eq] at hq_; omega) | (simp only [hcc, reduceCtorEq] at hq_; done) | exact Bool.noConfusion (Eq.trans (Eq.symm hcc) hq_)) | skip) | apply guess | exact Or.inl rfl | exact Or.inr rfl | exact Side.mk trivial | exact Side.mk (fun h => h) | exact Side.mk (fun h => ⟨h, h⟩) | with_reducible exact Side.mk rfl | with_reducible exact Side.mk ⟨rfl, rfl⟩ | with_reducible exact Side.mk (by assumption) | with_reducible rfl | intro _)
              all_goals try (conv => whnf)
              all_goals try (refine Side.mk ?_; first | (intros; omega) | (intro h1_ h2_; rw [h1_, h2_]; rfl) | (show List.length (_ ++ _) ≤ _; simp only [List.length_append, List.length_cons, List.length_nil, List.length_replicate, List.length_take]; omega) | (simp_all; done) | (simp_all; omega))
              all_goals try omega
              refine ⟨(i + 1, (false, zs)), ⟨by dsimp only; omega, ⟨hz1, hz2, hz3⟩⟩, by dsimp only; omega, ?_⟩
              repeat' ((conv => whnf); first | done | refine ev_step ?_ | refine ops_step ?_ | refine scan_step ?_ | refine draw_step ?_ | refine each_step ?_ | refine sl_step ?_ | refine hp_step ?_ | refine guard_no (by decide) ?_ | refine guard_go ?_ | refine guard_old ?_ | apply cut_auto | with_reducible exact CutS.mk (Or.inl ⟨rfl, rfl, rfl⟩) | refine CutS.mk (Or.inr (sub_auto ?_)) | exact trivial | refine And.intro ?_ ?_ | refine cond_split ?_ ?_ | apply guess | exact Or.inl rfl | exact Or.inr rfl | exact Side.mk trivial | exact Side.mk (fun h => h) | exact Side.mk (fun h => ⟨h, h⟩) | with_reducible exact Side.mk rfl | with_reducible exact Side.mk ⟨rfl, rfl⟩ | with_reducible exact Side.mk (by assumption) | with_reducible rfl | intro _)
              all_goals try (conv => whnf)
              all_goals first | rfl | omega | trace_state
            · repeat' ((conv => whnf); first | done | refine ev_step ?_ | refine ops_step ?_ | refine scan_step ?_ | refine draw_step ?_ | refine each_step ?_ | refine sl_step ?_ | refine hp_step ?_ | refine guard_no (by decide) ?_ | refine guard_go ?_ | refine guard_old ?_ | apply cut_auto | with_reducible exact CutS.mk (Or.inl ⟨rfl, rfl, rfl⟩) | refine CutS.mk (Or.inr (sub_auto ?_)) | exact trivial | refine And.intro ?_ ?_ | (refine cond_split ?_ ?_ <;> intro hq_ <;> first | (exfalso; first | omega | (simp only [hcc, cond_true, cond_false, Bool.not_true, Bool.not_false, Bool.and_true, Bool.true_and, Bool.and_false, Bool.false_and, Bool.or_true, Bool.true_or, Bool.or_false, Bool.false_or, Bool.true_eq_false, Bool.false_eq_true, decide_true, decide_false, reduceCtorEq] at hq_; done) | (rw [decide_eq_false_iff_not] at hq_; omega) | (rw [decide_eq_true_eq] at hq_; omega) | (simp only [hcc, reduceCtorEq] at hq_; done) | exact Bool.noConfusion (Eq.trans (Eq.symm hcc) hq_)) | skip) | apply guess | exact Or.inl rfl | exact Or.inr rfl | exact Side.mk trivial | exact Side.mk (fun h => h) | exact Side.mk (fun h => ⟨h, h⟩) | with_reducible exact Side.mk rfl | with_reducible exact Side.mk ⟨rfl, rfl⟩ | with_reducible exact Side.mk (by assumption) | with_reducible rfl | intro _)
              all_goals try (conv => whnf)
              all_goals try (refine Side.mk ?_; first | (intros; omega) | (intro h1_ h2_; rw [h1_, h2_]; rfl) | (show List.length (_ ++ _) ≤ _; simp only [List.length_append, List.length_cons, List.length_nil, List.length_replicate, List.length_take]; omega) | (simp_all; done) | (simp_all; omega))
              all_goals try omega
              refine ⟨(i + 1, (true, zs)), ⟨by dsimp only; omega, ⟨hz1, hz2, hz3⟩⟩, by dsimp only; omega, ?_⟩
              repeat' ((conv => whnf); first | done | refine ev_step ?_ | refine ops_step ?_ | refine scan_step ?_ | refine draw_step ?_ | refine each_step ?_ | refine sl_step ?_ | refine hp_step ?_ | refine guard_no (by decide) ?_ | refine guard_go ?_ | refine guard_old ?_ | apply cut_auto | with_reducible exact CutS.mk (Or.inl ⟨rfl, rfl, rfl⟩) | refine CutS.mk (Or.inr (sub_auto ?_)) | exact trivial | refine And.intro ?_ ?_ | refine cond_split ?_ ?_ | apply guess | exact Or.inl rfl | exact Or.inr rfl | exact Side.mk trivial | exact Side.mk (fun h => h) | exact Side.mk (fun h => ⟨h, h⟩) | with_reducible exact Side.mk rfl | with_reducible exact Side.mk ⟨rfl, rfl⟩ | with_reducible exact Side.mk (by assumption) | with_reducible rfl | intro _)
              all_goals try (conv => whnf)
              all_goals first | rfl | omega | trace_state
        · cases fl
          · repeat' ((conv => whnf); first | done | refine ev_step ?_ | refine ops_step ?_ | refine scan_step ?_ | refine draw_step ?_ | refine each_step ?_ | refine sl_step ?_ | refine hp_step ?_ | refine guard_no (by decide) ?_ | refine guard_go ?_ | refine guard_old ?_ | apply cut_auto | with_reducible exact CutS.mk (Or.inl ⟨rfl, rfl, rfl⟩) | refine CutS.mk (Or.inr (sub_auto ?_)) | exact trivial | refine And.intro ?_ ?_ | (refine cond_split ?_ ?_ <;> intro _ <;> first | (exfalso; first | omega | (simp only [decide_eq_true_eq, decide_eq_false_iff_not, Bool.not_eq_true', Bool.not_eq_false', ne_eq, Bool.not_true, Bool.not_false, cond_true, cond_false, Bool.true_eq_false, Bool.false_eq_true, Bool.and_eq_true, Bool.and_eq_false_iff] at *; omega)) | skip) | apply guess | exact Or.inl rfl | exact Or.inr rfl | exact Side.mk trivial | exact Side.mk (fun h => h) | exact Side.mk (fun h => ⟨h, h⟩) | with_reducible exact Side.mk rfl | with_reducible exact Side.mk ⟨rfl, rfl⟩ | with_reducible exact Side.mk (by assumption) | with_reducible rfl | intro _)
            all_goals try (conv => whnf)
            all_goals try (refine Side.mk ?_; first | (intros; omega) | (intro h1_ h2_; rw [h1_, h2_]; rfl) | (show List.length (_ ++ _) ≤ _; simp only [List.length_append, List.length_cons, List.length_nil, List.length_replicate, List.length_take]; omega) | (simp_all; done) | (simp_all; omega))
            all_goals try omega
            refine ⟨(false, zs), ⟨hz1, hz2, hz3⟩, ?_⟩
            repeat' ((conv => whnf); first | done | refine ev_step ?_ | refine ops_step ?_ | refine scan_step ?_ | refine draw_step ?_ | refine each_step ?_ | refine sl_step ?_ | refine hp_step ?_ | refine guard_no (by decide) ?_ | refine guard_go ?_ | refine guard_old ?_ | apply cut_auto | with_reducible exact CutS.mk (Or.inl ⟨rfl, rfl, rfl⟩) | refine CutS.mk (Or.inr (sub_auto ?_)) | exact trivial | refine And.intro ?_ ?_ | refine cond_split ?_ ?_ | apply guess | exact Or.inl rfl | exact Or.inr rfl | exact Side.mk trivial | exact Side.mk (fun h => h) | exact Side.mk (fun h => ⟨h, h⟩) | with_reducible exact Side.mk rfl | with_reducible exact Side.mk ⟨rfl, rfl⟩ | with_reducible exact Side.mk (by assumption) | with_reducible rfl | intro _)
            all_goals try (conv => whnf)
            all_goals first | rfl | omega | trace_state
          · repeat' ((conv => whnf); first | done | refine ev_step ?_ | refine ops_step ?_ | refine scan_step ?_ | refine draw_step ?_ | refine each_step ?_ | refine sl_step ?_ | refine hp_step ?_ | refine guard_no (by decide) ?_ | refine guard_go ?_ | refine guard_old ?_ | apply cut_auto | with_reducible exact CutS.mk (Or.inl ⟨rfl, rfl, rfl⟩) | refine CutS.mk (Or.inr (sub_auto ?_)) | exact trivial | refine And.intro ?_ ?_ | (refine cond_split ?_ ?_ <;> intro _ <;> first | (exfalso; first | omega | (simp only [decide_eq_true_eq, decide_eq_false_iff_not, Bool.not_eq_true', Bool.not_eq_false', ne_eq, Bool.not_true, Bool.not_false, cond_true, cond_false, Bool.true_eq_false, Bool.false_eq_true, Bool.and_eq_true, Bool.and_eq_false_iff] at *; omega)) | skip) | apply guess | exact Or.inl rfl | exact Or.inr rfl | exact Side.mk trivial | exact Side.mk (fun h => h) | exact Side.mk (fun h => ⟨h, h⟩) | with_reducible exact Side.mk rfl | with_reducible exact Side.mk ⟨rfl, rfl⟩ | with_reducible exact Side.mk (by assumption) | with_reducible rfl | intro _)
            all_goals try (conv => whnf)
            all_goals try (refine Side.mk ?_; first | (intros; omega) | (intro h1_ h2_; rw [h1_, h2_]; rfl) | (show List.length (_ ++ _) ≤ _; simp only [List.length_append, List.length_cons, List.length_nil, List.length_replicate, List.length_take]; omega) | (simp_all; done) | (simp_all; omega))
            all_goals try omega
            refine ⟨(true, zs), ⟨hz1, hz2, hz3⟩, ?_⟩
            repeat' ((conv => whnf); first | done | refine ev_step ?_ | refine ops_step ?_ | refine scan_step ?_ | refine draw_step ?_ | refine each_step ?_ | refine sl_step ?_ | refine hp_step ?_ | refine guard_no (by decide) ?_ | refine guard_go ?_ | refine guard_old ?_ | apply cut_auto | with_reducible exact CutS.mk (Or.inl ⟨rfl, rfl, rfl⟩) | refine CutS.mk (Or.inr (sub_auto ?_)) | exact trivial | refine And.intro ?_ ?_ | refine cond_split ?_ ?_ | apply guess | exact Or.inl rfl | exact Or.inr rfl | exact Side.mk trivial | exact Side.mk (fun h => h) | exact Side.mk (fun h => ⟨h, h⟩) | with_reducible exact Side.mk rfl | with_reducible exact Side.mk ⟨rfl, rfl⟩ | with_reducible exact Side.mk (by assumption) | with_reducible rfl | intro _)
            all_goals try (conv => whnf)
            all_goals first | rfl | omega | trace_state
theorem k_growR (p : Int) (rs : List R3) : ∀ (f : Nat) (l : List Int) (s : Int), GrowP p rs f l s → GrowIs9 rs f l s
  | 0, l, s, h => k_grow0 p rs l s h
  | f + 1, l, s, h => k_grow1R p rs f l s h fun i hi => k_growR p rs f _ _ (h.step hi)
end Go.Sx.U
