/-
  Chapter 11: the program's journal (contract).
-/
import Derived.Test.YtligakfmabjoeaaDoorT25
import Derived.Test.YtligakfmabjoeaaDoorKH
set_option linter.unusedSimpArgs false
namespace Go.Sx.U
set_option linter.unusedVariables false
set_option linter.unusedSimpArgs false
set_option maxRecDepth 100000
set_option maxHeartbeats 8000000
open Go Go.Sx Go.Proofs

theorem numsOf_app (a b : ByteArray) : numsOf (a ++ b) = numsOf a ++ numsOf b := by
  simp only [numsOf]
  rw [show (a ++ b).data.toList = a.data.toList ++ b.data.toList from bl_app a b, List.map_append]
theorem nlB_idx (s : ByteArray) : nlB s = decide (0 ≤ Lib.indexByte (bl s) 10) := by
  unfold nlB
  have hge := Lib.indexByte_ge (bl s) 10
  by_cases h : Lib.indexByte (bl s) 10 = -1
  · rw [h, List.any_eq_false.2 fun x hx => ?_]
    · rfl
    · obtain ⟨k, hk⟩ := List.getElem?_of_mem hx
      have := Lib.indexByte_none h k
      rw [hk] at this
      simpa using this
  · obtain ⟨o, ho⟩ : ∃ o : Nat, Lib.indexByte (bl s) 10 = o := ⟨(Lib.indexByte (bl s) 10).toNat, by omega⟩
    have h1 := (Lib.indexByte_some ho).1
    rw [decide_eq_true (by omega)]
    exact List.any_eq_true.2 ⟨10, List.mem_of_getElem? h1, rfl⟩
theorem numsOf_jour_ne {ls : List ByteArray} {i : Nat} (h : i < ls.length) : numsOf (jour (ls.take (i + 1))).2 ≠ [] := by
  intro e
  have h1 := numsOf_length (jour (ls.take (i + 1))).2
  have h2 := (jour_size_succ h).1
  rw [e] at h1
  simp at h1
  omega
theorem k_JournalOf (ls : List ByteArray) (h : Side (ls.length ≤ 1048577 ∧ ∀ s ∈ ls, s.size ≤ 1048577)) : FnIs Tryd.prog 9 [.sl 0 []] 1 [(0, .flat false (.strs ls))] (.tuple [.str (jourV ls), .bool (jokB ls)]) 1 [] := by
  obtain ⟨hl, hz⟩ := h.h
  refine fn_of_ev tok Tryd.func9 rfl rfl rfl ?_
  repeat' ((conv => whnf); first | done | refine ev_step ?_ | refine ops_step ?_ | refine scan_step ?_ | refine draw_step ?_ | refine each_step ?_ | refine sl_step ?_ | refine hp_step ?_ | refine guard_no (by decide) ?_ | refine guard_go ?_ | refine guard_old ?_ | apply cut_auto | with_reducible exact CutS.mk (Or.inl ⟨rfl, rfl, rfl⟩) | refine CutS.mk (Or.inr (Or.inl (sub_auto ?_))) | exact trivial | refine And.intro ?_ ?_ | refine cond_split ?_ ?_ | apply guess | exact Or.inl rfl | exact Or.inr rfl | exact Side.mk trivial | exact Side.mk (fun h => h) | exact Side.mk (fun h => ⟨h, h⟩) | with_reducible exact Side.mk rfl | with_reducible exact Side.mk ⟨rfl, rfl⟩ | with_reducible exact Side.mk (by assumption) | with_reducible rfl | intro _)
  all_goals try (conv => whnf)
  all_goals try (refine Side.mk ?_; first | (intros; omega) | (intro h1_ h2_; rw [h1_, h2_]; rfl) | (show List.length (_ ++ _) ≤ _; simp only [List.length_append, List.length_cons, List.length_nil, List.length_replicate, List.length_take]; omega) | (simp_all; done) | (simp_all; omega))
  refine loop_at (fun a : Bool × Nat => a.2 ≤ ls.length ∧ (ls.take a.2).any nlB = false ∧ (jour (ls.take a.2)).2.size ≤ 8100 ∧ (a.1 = false → a.2 = 0) ∧ (a.1 = true → numsOf (jour (ls.take a.2)).2 ≠ [])) 3 (fun a => [(11, .int .i64 a.2), (5, .int .i64 (jour (ls.take a.2)).1), (7, .top)]) (fun a => cond a.1 [(2, .flat true (.tby 5 (numsOf (jour (ls.take a.2)).2))), (1, .flat true (.bld 43 (.ptr 1 [] 0 0) (.sl 2 [])))] [(1, .flat true (.bld 43 .nilptr .nilsl))]) (fun a => ls.length - a.2) (false, 0) ⟨Nat.zero_le _, rfl, by simp [jour], fun _ => rfl, fun e => by cases e⟩ ?_ (fun a ha => ?_)
  · repeat' ((conv => whnf); first | done | refine ev_step ?_ | refine ops_step ?_ | refine scan_step ?_ | refine draw_step ?_ | refine each_step ?_ | refine sl_step ?_ | refine hp_step ?_ | refine guard_no (by decide) ?_ | refine guard_go ?_ | refine guard_old ?_ | apply cut_auto | with_reducible exact CutS.mk (Or.inl ⟨rfl, rfl, rfl⟩) | refine CutS.mk (Or.inr (Or.inl (sub_auto ?_))) | exact trivial | refine And.intro ?_ ?_ | refine cond_split ?_ ?_ | apply guess | exact Or.inl rfl | exact Or.inr rfl | exact Side.mk trivial | exact Side.mk (fun h => h) | exact Side.mk (fun h => ⟨h, h⟩) | with_reducible exact Side.mk rfl | with_reducible exact Side.mk ⟨rfl, rfl⟩ | with_reducible exact Side.mk (by assumption) | with_reducible rfl | intro _)
    all_goals try (conv => whnf)
    all_goals first | rfl | trace_state
  · obtain ⟨b, i⟩ := a
    obtain ⟨hi1, hi2, hi3, hi4, hi5⟩ := ha
    dsimp only at hi1 hi2 hi3 hi4 hi5
    obtain ⟨q1, q2⟩ := jour_ok (ls.take i)
    by_cases hlt : i < ls.length
    · have hsz := hz _ (ln_mem hlt)
      simp only [ln] at hsz
      have hjs := jour_size_succ hlt
      obtain ⟨q3, q4⟩ := chk_ok (jour_ok (ls.take i)) (ls.getD i ByteArray.empty)
      have hnl := nlB_idx (ls.getD i ByteArray.empty)
      by_cases hbad : 4000 < (ls.getD i ByteArray.empty).size ∨ nlB (ls.getD i ByteArray.empty) = true ∨ 4000 < (jour (ls.take i)).2.size
      · have hj : jokB ls = false := by
          rcases hbad with h1 | h1 | h1
          · exact jok_big (i := i + 1) (by omega) (by omega)
          · exact jok_nl hlt h1
          · exact jok_big hi1 h1
        have hv : jourV ls = ByteArray.empty := by unfold jourV; rw [hj]; rfl
        rw [hj, hv]
        cases b
        · have hi0 := hi4 rfl
          subst hi0
          have fc : (bif (bif decide ((4000 : Int) < ((ls.getD (((0 : Nat) : Int)).toNat ByteArray.empty).size : Int)) then true else decide (0 ≤ Lib.indexByte (bl (ls.getD (((0 : Nat) : Int)).toNat ByteArray.empty)) 10)) then true else decide ((4000 : Int) < 0)) = true := by
            rw [Int.toNat_natCast, ← hnl]
            rcases hbad with h1 | h1 | h1
            · rw [decide_eq_true (by omega)]; rfl
            · rw [h1]; cases decide ((4000 : Int) < ((ls.getD 0 ByteArray.empty).size : Int)) <;> rfl
            · simp [jour] at h1
          repeat' ((conv => whnf); first | done | refine ev_step ?_ | refine ops_step ?_ | refine scan_step ?_ | refine draw_step ?_ | refine each_step ?_ | refine sl_step ?_ | refine hp_step ?_ | refine guard_no (by decide) ?_ | refine guard_go ?_ | refine guard_old ?_ | apply cut_auto | with_reducible exact CutS.mk (Or.inl ⟨rfl, rfl, rfl⟩) | refine CutS.mk (Or.inr (Or.inl (sub_auto ?_))) | exact trivial | refine And.intro ?_ ?_ | (refine cond_split ?_ ?_ <;> intro hq_ <;> first | (exfalso; first | omega | (simp only [fc, cond_true, cond_false, Bool.not_true, Bool.not_false, Bool.and_true, Bool.true_and, Bool.and_false, Bool.false_and, Bool.or_true, Bool.true_or, Bool.or_false, Bool.false_or, Bool.true_eq_false, Bool.false_eq_true, decide_true, decide_false, reduceCtorEq] at hq_; done) | (rw [decide_eq_false_iff_not] at hq_; omega) | (rw [decide_eq_true_eq] at hq_; omega) | (simp only [fc, reduceCtorEq] at hq_; done) | exact Bool.noConfusion (Eq.trans (Eq.symm fc) hq_)) | skip) | apply guess | apply FnIs.useF (k_Contains1 _ 10) | apply FnIs.useS (k_bLen0 false) | exact Or.inl rfl | exact Or.inr rfl | exact Side.mk trivial | exact Side.mk (fun h => h) | exact Side.mk (fun h => ⟨h, h⟩) | with_reducible exact Side.mk rfl | with_reducible exact Side.mk ⟨rfl, rfl⟩ | with_reducible exact Side.mk (by assumption) | with_reducible rfl | intro _)
          all_goals try (conv => whnf)
          all_goals try dsimp only at *
          all_goals try simp only [Int.toNat_natCast] at *
          all_goals try (refine Side.mk ?_; first | (intros; omega) | (intro h1_ h2_; rw [h1_, h2_]; rfl) | (show List.length (_ ++ _) ≤ _; simp only [List.length_append, List.length_cons, List.length_nil, List.length_replicate, List.length_take]; omega) | (simp_all; done) | (simp_all; omega))
          all_goals first | rfl | trace_state
        · have hlx := numsOf_length (jour (ls.take i)).2
          have fc : (bif (bif decide ((4000 : Int) < ((ls.getD (i : Int).toNat ByteArray.empty).size : Int)) then true else decide (0 ≤ Lib.indexByte (bl (ls.getD (i : Int).toNat ByteArray.empty)) 10)) then true else decide ((4000 : Int) < ((numsOf (jour (ls.take i)).2).length : Int))) = true := by
            rw [Int.toNat_natCast, ← hnl, hlx]
            rcases hbad with h1 | h1 | h1
            · rw [decide_eq_true (by omega)]; rfl
            · rw [h1]; cases decide ((4000 : Int) < ((ls.getD i ByteArray.empty).size : Int)) <;> rfl
            · rw [decide_eq_true (p := (4000 : Int) < ((jour (ls.take i)).2.size : Int)) (by omega)]
              cases decide ((4000 : Int) < ((ls.getD i ByteArray.empty).size : Int)) <;> cases nlB (ls.getD i ByteArray.empty) <;> rfl
          repeat' ((conv => whnf); first | done | refine ev_step ?_ | refine ops_step ?_ | refine scan_step ?_ | refine draw_step ?_ | refine each_step ?_ | refine sl_step ?_ | refine hp_step ?_ | refine guard_no (by decide) ?_ | refine guard_go ?_ | refine guard_old ?_ | apply cut_auto | with_reducible exact CutS.mk (Or.inl ⟨rfl, rfl, rfl⟩) | refine CutS.mk (Or.inr (Or.inl (sub_auto ?_))) | exact trivial | refine And.intro ?_ ?_ | (refine cond_split ?_ ?_ <;> intro hq_ <;> first | (exfalso; first | omega | (simp only [fc, cond_true, cond_false, Bool.not_true, Bool.not_false, Bool.and_true, Bool.true_and, Bool.and_false, Bool.false_and, Bool.or_true, Bool.true_or, Bool.or_false, Bool.false_or, Bool.true_eq_false, Bool.false_eq_true, decide_true, decide_false, reduceCtorEq] at hq_; done) | (rw [decide_eq_false_iff_not] at hq_; omega) | (rw [decide_eq_true_eq] at hq_; omega) | (simp only [fc, reduceCtorEq] at hq_; done) | exact Bool.noConfusion (Eq.trans (Eq.symm fc) hq_)) | skip) | apply guess | apply FnIs.useF (k_Contains1 _ 10) | apply FnIs.useS (k_bLen true _) | exact Or.inl rfl | exact Or.inr rfl | exact Side.mk trivial | exact Side.mk (fun h => h) | exact Side.mk (fun h => ⟨h, h⟩) | with_reducible exact Side.mk rfl | with_reducible exact Side.mk ⟨rfl, rfl⟩ | with_reducible exact Side.mk (by assumption) | with_reducible rfl | intro _)
          all_goals try (conv => whnf)
          all_goals try dsimp only at *
          all_goals try simp only [Int.toNat_natCast] at *
          all_goals try (refine Side.mk ?_; first | (intros; omega) | (intro h1_ h2_; rw [h1_, h2_]; rfl) | (show List.length (_ ++ _) ≤ _; simp only [List.length_append, List.length_cons, List.length_nil, List.length_replicate, List.length_take]; omega) | (simp_all; done) | (simp_all; omega))
          all_goals first | rfl | trace_state
      · have hb1 : ¬ 4000 < (ls.getD i ByteArray.empty).size := fun e => hbad (.inl e)
        have hb2 : nlB (ls.getD i ByteArray.empty) = false := by
          cases hx : nlB (ls.getD i ByteArray.empty) with
          | false => rfl
          | true => exact absurd (.inr (.inl hx)) hbad
        have hb3 : ¬ 4000 < (jour (ls.take i)).2.size := fun e => hbad (.inr (.inr e))
        have hne := numsOf_jour_ne hlt
        have hst : numsOf (jour (ls.take (i + 1))).2 = numsOf (jour (ls.take i)).2 ++ numsOf (jline (chk (jour (ls.take i)).1 (ls.getD i ByteArray.empty)) (ls.getD i ByteArray.empty)) := by
          rw [jour_step hlt, numsOf_app]
        have hch : (jour (ls.take (i + 1))).1 = chk (jour (ls.take i)).1 (ls.getD i ByteArray.empty) := by rw [jour_step hlt]
        have hjl := jline_size (chk (jour (ls.take i)).1 (ls.getD i ByteArray.empty)) (ls.getD i ByteArray.empty)
        have hd := decB_le (chk (jour (ls.take i)).1 (ls.getD i ByteArray.empty)) (by omega) (by omega)
        have e1 : (ByteArray.mk #[32]).size = 1 := rfl
        have e2 : (ByteArray.mk #[10]).size = 1 := rfl
        have hnn : (ls.take (i + 1)).any nlB = false := by rw [any_succ ByteArray.empty hlt, hi2, hb2]; rfl
        have kc := k_CheckOf (jour (ls.take i)).1 (ls.getD i ByteArray.empty) ⟨⟨q1, q2⟩, hsz⟩
        have kd := k_Decimal (chk (jour (ls.take i)).1 (ls.getD i ByteArray.empty)) ⟨by omega, by omega⟩
        cases b
        · have hi0 := hi4 rfl
          subst hi0
          have fc : (bif (bif decide ((4000 : Int) < ((ls.getD (((0 : Nat) : Int)).toNat ByteArray.empty).size : Int)) then true else decide (0 ≤ Lib.indexByte (bl (ls.getD (((0 : Nat) : Int)).toNat ByteArray.empty)) 10)) then true else decide ((4000 : Int) < 0)) = false := by
            rw [Int.toNat_natCast, ← hnl, hb2, decide_eq_false (by omega)]; rfl
          repeat' ((conv => whnf); first | done | refine ev_step ?_ | refine ops_step ?_ | refine scan_step ?_ | refine draw_step ?_ | refine each_step ?_ | refine sl_step ?_ | refine hp_step ?_ | refine guard_no (by decide) ?_ | refine guard_go ?_ | refine guard_old ?_ | apply cut_auto | with_reducible exact CutS.mk (Or.inl ⟨rfl, rfl, rfl⟩) | refine CutS.mk (Or.inr (Or.inl (sub_auto ?_))) | exact trivial | refine And.intro ?_ ?_ | (refine cond_split ?_ ?_ <;> intro hq_ <;> first | (exfalso; first | omega | (simp only [fc, cond_true, cond_false, Bool.not_true, Bool.not_false, Bool.and_true, Bool.true_and, Bool.and_false, Bool.false_and, Bool.or_true, Bool.true_or, Bool.or_false, Bool.false_or, Bool.true_eq_false, Bool.false_eq_true, decide_true, decide_false, reduceCtorEq] at hq_; done) | (rw [decide_eq_false_iff_not] at hq_; omega) | (rw [decide_eq_true_eq] at hq_; omega) | (simp only [fc, reduceCtorEq] at hq_; done) | exact Bool.noConfusion (Eq.trans (Eq.symm fc) hq_)) | skip) | apply guess | apply FnIs.useF (k_Contains1 _ 10) | apply FnIs.useS (k_bLen0 false) | apply FnIs.useF (kc) | apply FnIs.useF (kd) | apply FnIs.useF (k_bWrite0 false _ _) | exact Or.inl rfl | exact Or.inr rfl | exact Side.mk trivial | exact Side.mk (fun h => h) | exact Side.mk (fun h => ⟨h, h⟩) | with_reducible exact Side.mk rfl | with_reducible exact Side.mk ⟨rfl, rfl⟩ | with_reducible exact Side.mk (by assumption) | with_reducible rfl | intro _)
          all_goals try (conv => whnf)
          all_goals try dsimp only at *
          all_goals try simp only [Int.toNat_natCast] at *
          all_goals try simp only [bl_size_app] at *
          all_goals try rfl
          all_goals try (refine Side.mk ?_; first | (intros; omega) | (intro h1_ h2_; rw [h1_, h2_]; rfl) | (show List.length (_ ++ _) ≤ _; simp only [List.length_append, List.length_cons, List.length_nil, List.length_replicate, List.length_take]; omega) | (simp_all; done) | (simp_all; omega))
          refine ⟨(true, 0 + 1), ⟨by omega, hnn, by show (jour (ls.take (0 + 1))).2.size ≤ 8100; omega, (fun e => by cases e), fun _ => hne⟩, by show ls.length - (0 + 1) < ls.length - 0; omega, ?_⟩
          repeat' ((conv => whnf); first | done | refine ev_step ?_ | refine ops_step ?_ | refine scan_step ?_ | refine draw_step ?_ | refine each_step ?_ | refine sl_step ?_ | refine hp_step ?_ | refine guard_no (by decide) ?_ | refine guard_go ?_ | refine guard_old ?_ | apply cut_auto | with_reducible exact CutS.mk (Or.inl ⟨rfl, rfl, rfl⟩) | refine CutS.mk (Or.inr (Or.inl (sub_auto ?_))) | exact trivial | refine And.intro ?_ ?_ | refine cond_split ?_ ?_ | apply guess | exact Or.inl rfl | exact Or.inr rfl | exact Side.mk trivial | exact Side.mk (fun h => h) | exact Side.mk (fun h => ⟨h, h⟩) | with_reducible exact Side.mk rfl | with_reducible exact Side.mk ⟨rfl, rfl⟩ | with_reducible exact Side.mk (by assumption) | with_reducible rfl | intro _)
          all_goals try (conv => whnf)
          all_goals first | rfl | exact hch.symm | exact hch | (rw [hst]; rfl) | trace_state
        · have hlx := numsOf_length (jour (ls.take i)).2
          have fc : (bif (bif decide ((4000 : Int) < ((ls.getD (i : Int).toNat ByteArray.empty).size : Int)) then true else decide (0 ≤ Lib.indexByte (bl (ls.getD (i : Int).toNat ByteArray.empty)) 10)) then true else decide ((4000 : Int) < ((numsOf (jour (ls.take i)).2).length : Int))) = false := by
            rw [Int.toNat_natCast, ← hnl, hlx, hb2, decide_eq_false (by omega), decide_eq_false (by omega)]; rfl
          repeat' ((conv => whnf); first | done | refine ev_step ?_ | refine ops_step ?_ | refine scan_step ?_ | refine draw_step ?_ | refine each_step ?_ | refine sl_step ?_ | refine hp_step ?_ | refine guard_no (by decide) ?_ | refine guard_go ?_ | refine guard_old ?_ | apply cut_auto | with_reducible exact CutS.mk (Or.inl ⟨rfl, rfl, rfl⟩) | refine CutS.mk (Or.inr (Or.inl (sub_auto ?_))) | exact trivial | refine And.intro ?_ ?_ | (refine cond_split ?_ ?_ <;> intro hq_ <;> first | (exfalso; first | omega | (simp only [fc, cond_true, cond_false, Bool.not_true, Bool.not_false, Bool.and_true, Bool.true_and, Bool.and_false, Bool.false_and, Bool.or_true, Bool.true_or, Bool.or_false, Bool.false_or, Bool.true_eq_false, Bool.false_eq_true, decide_true, decide_false, reduceCtorEq] at hq_; done) | (rw [decide_eq_false_iff_not] at hq_; omega) | (rw [decide_eq_true_eq] at hq_; omega) | (simp only [fc, reduceCtorEq] at hq_; done) | exact Bool.noConfusion (Eq.trans (Eq.symm fc) hq_)) | skip) | apply guess | apply FnIs.useF (k_Contains1 _ 10) | apply FnIs.useS (k_bLen true _) | apply FnIs.useF (kc) | apply FnIs.useF (kd) | apply FnIs.useF (k_bWrite true _ _ _) | exact Or.inl rfl | exact Or.inr rfl | exact Side.mk trivial | exact Side.mk (fun h => h) | exact Side.mk (fun h => ⟨h, h⟩) | with_reducible exact Side.mk rfl | with_reducible exact Side.mk ⟨rfl, rfl⟩ | with_reducible exact Side.mk (by assumption) | with_reducible rfl | intro _)
          all_goals try (conv => whnf)
          all_goals try dsimp only at *
          all_goals try simp only [Int.toNat_natCast] at *
          all_goals try simp only [bl_size_app] at *
          all_goals try rfl
          all_goals try (refine Side.mk ?_; first | (intros; omega) | (intro h1_ h2_; rw [h1_, h2_]; rfl) | (show List.length (_ ++ _) ≤ _; simp only [List.length_append, List.length_cons, List.length_nil, List.length_replicate, List.length_take]; omega) | (simp_all; done) | (simp_all; omega))
          refine ⟨(true, i + 1), ⟨by omega, hnn, by show (jour (ls.take (i + 1))).2.size ≤ 8100; omega, (fun e => by cases e), fun _ => hne⟩, by show ls.length - (i + 1) < ls.length - i; omega, ?_⟩
          repeat' ((conv => whnf); first | done | refine ev_step ?_ | refine ops_step ?_ | refine scan_step ?_ | refine draw_step ?_ | refine each_step ?_ | refine sl_step ?_ | refine hp_step ?_ | refine guard_no (by decide) ?_ | refine guard_go ?_ | refine guard_old ?_ | apply cut_auto | with_reducible exact CutS.mk (Or.inl ⟨rfl, rfl, rfl⟩) | refine CutS.mk (Or.inr (Or.inl (sub_auto ?_))) | exact trivial | refine And.intro ?_ ?_ | refine cond_split ?_ ?_ | apply guess | exact Or.inl rfl | exact Or.inr rfl | exact Side.mk trivial | exact Side.mk (fun h => h) | exact Side.mk (fun h => ⟨h, h⟩) | with_reducible exact Side.mk rfl | with_reducible exact Side.mk ⟨rfl, rfl⟩ | with_reducible exact Side.mk (by assumption) | with_reducible rfl | intro _)
          all_goals try (conv => whnf)
          all_goals first | rfl | exact hch.symm | exact hch | (rw [hst]; rfl) | trace_state
    · have hil : i = ls.length := by omega
      subst hil
      rw [List.take_length] at hi2 hi3 hi5 q1 q2 ⊢
      have hj0 := jok_end hi2
      cases b
      · have hn0 := hi4 rfl
        have hls : ls = [] := List.length_eq_zero_iff.1 hn0
        subst hls
        repeat' ((conv => whnf); first | done | refine ev_step ?_ | refine ops_step ?_ | refine scan_step ?_ | refine draw_step ?_ | refine each_step ?_ | refine sl_step ?_ | refine hp_step ?_ | refine guard_no (by decide) ?_ | refine guard_go ?_ | refine guard_old ?_ | apply cut_auto | with_reducible exact CutS.mk (Or.inl ⟨rfl, rfl, rfl⟩) | refine CutS.mk (Or.inr (Or.inl (sub_auto ?_))) | exact trivial | refine And.intro ?_ ?_ | (refine cond_split ?_ ?_ <;> intro _ <;> first | (exfalso; first | omega | (simp only [decide_eq_true_eq, decide_eq_false_iff_not, Bool.not_eq_true', Bool.not_eq_false', ne_eq, Bool.not_true, Bool.not_false, cond_true, cond_false, Bool.true_eq_false, Bool.false_eq_true, Bool.and_eq_true, Bool.and_eq_false_iff] at *; omega)) | skip) | apply guess | apply FnIs.useF (k_bLen0 false) | apply FnIs.useF (k_bString0 false) | exact Or.inl rfl | exact Or.inr rfl | exact Side.mk trivial | exact Side.mk (fun h => h) | exact Side.mk (fun h => ⟨h, h⟩) | with_reducible exact Side.mk rfl | with_reducible exact Side.mk ⟨rfl, rfl⟩ | with_reducible exact Side.mk (by assumption) | with_reducible rfl | intro _)
        all_goals try (conv => whnf)
        all_goals try dsimp only at *
        all_goals try (refine Side.mk ?_; first | (intros; omega) | (intro h1_ h2_; rw [h1_, h2_]; rfl) | (show List.length (_ ++ _) ≤ _; simp only [List.length_append, List.length_cons, List.length_nil, List.length_replicate, List.length_take]; omega) | (simp_all; done) | (simp_all; omega))
        all_goals first | rfl | trace_state
      · have hlx := numsOf_length (jour ls).2
        have hne := hi5 rfl
        by_cases hbig : (jour ls).2.size ≤ 4000
        · have hj : jokB ls = true := by rw [jok_end hi2, decide_eq_true hbig]
          have hv : jourV ls = (jour ls).2 := by unfold jourV; rw [hj]; rfl
          rw [hj, hv]
          repeat' ((conv => whnf); first | done | refine ev_step ?_ | refine ops_step ?_ | refine scan_step ?_ | refine draw_step ?_ | refine each_step ?_ | refine sl_step ?_ | refine hp_step ?_ | refine guard_no (by decide) ?_ | refine guard_go ?_ | refine guard_old ?_ | apply cut_auto | with_reducible exact CutS.mk (Or.inl ⟨rfl, rfl, rfl⟩) | refine CutS.mk (Or.inr (Or.inl (sub_auto ?_))) | exact trivial | refine And.intro ?_ ?_ | (refine cond_split ?_ ?_ <;> intro _ <;> first | (exfalso; first | omega | (simp only [decide_eq_true_eq, decide_eq_false_iff_not, Bool.not_eq_true', Bool.not_eq_false', ne_eq, Bool.not_true, Bool.not_false, cond_true, cond_false, Bool.true_eq_false, Bool.false_eq_true, Bool.and_eq_true, Bool.and_eq_false_iff] at *; omega)) | skip) | apply guess | apply FnIs.useF (k_bLen true _) | apply FnIs.useF (k_bString true _ ⟨hne, by omega, numsOf_by _⟩) | exact Or.inl rfl | exact Or.inr rfl | exact Side.mk trivial | exact Side.mk (fun h => h) | exact Side.mk (fun h => ⟨h, h⟩) | with_reducible exact Side.mk rfl | with_reducible exact Side.mk ⟨rfl, rfl⟩ | with_reducible exact Side.mk (by assumption) | with_reducible rfl | intro _)
          all_goals try (conv => whnf)
          all_goals try dsimp only at *
          all_goals try (refine Side.mk ?_; first | (intros; omega) | (intro h1_ h2_; rw [h1_, h2_]; rfl) | (show List.length (_ ++ _) ≤ _; simp only [List.length_append, List.length_cons, List.length_nil, List.length_replicate, List.length_take]; omega) | (simp_all; done) | (simp_all; omega))
          all_goals first | rfl | exact numsOf_strOf.symm | trace_state
        · have hj : jokB ls = false := by rw [jok_end hi2, decide_eq_false hbig]
          have hv : jourV ls = ByteArray.empty := by unfold jourV; rw [hj]; rfl
          rw [hj, hv]
          repeat' ((conv => whnf); first | done | refine ev_step ?_ | refine ops_step ?_ | refine scan_step ?_ | refine draw_step ?_ | refine each_step ?_ | refine sl_step ?_ | refine hp_step ?_ | refine guard_no (by decide) ?_ | refine guard_go ?_ | refine guard_old ?_ | apply cut_auto | with_reducible exact CutS.mk (Or.inl ⟨rfl, rfl, rfl⟩) | refine CutS.mk (Or.inr (Or.inl (sub_auto ?_))) | exact trivial | refine And.intro ?_ ?_ | (refine cond_split ?_ ?_ <;> intro _ <;> first | (exfalso; first | omega | (simp only [decide_eq_true_eq, decide_eq_false_iff_not, Bool.not_eq_true', Bool.not_eq_false', ne_eq, Bool.not_true, Bool.not_false, cond_true, cond_false, Bool.true_eq_false, Bool.false_eq_true, Bool.and_eq_true, Bool.and_eq_false_iff] at *; omega)) | skip) | apply guess | apply FnIs.useF (k_bLen true _) | apply FnIs.useF (k_bString true _ ⟨hne, by omega, numsOf_by _⟩) | exact Or.inl rfl | exact Or.inr rfl | exact Side.mk trivial | exact Side.mk (fun h => h) | exact Side.mk (fun h => ⟨h, h⟩) | with_reducible exact Side.mk rfl | with_reducible exact Side.mk ⟨rfl, rfl⟩ | with_reducible exact Side.mk (by assumption) | with_reducible rfl | intro _)
          all_goals try (conv => whnf)
          all_goals try dsimp only at *
          all_goals try (refine Side.mk ?_; first | (intros; omega) | (intro h1_ h2_; rw [h1_, h2_]; rfl) | (show List.length (_ ++ _) ≤ _; simp only [List.length_append, List.length_cons, List.length_nil, List.length_replicate, List.length_take]; omega) | (simp_all; done) | (simp_all; omega))
          all_goals first | rfl | trace_state
end Go.Sx.U
