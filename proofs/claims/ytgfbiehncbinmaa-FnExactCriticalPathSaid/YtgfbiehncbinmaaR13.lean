/-
  FnExactCriticalPath, as a contract.
-/
import Derived.Test.YtgfbiehncbinmaaR12
import Derived.Test.YtgfbiehncbinmaaK9
set_option linter.unusedSimpArgs false
namespace Go.Sx.U
set_option linter.unusedVariables false
set_option linter.unusedSimpArgs false
set_option maxRecDepth 100000
set_option maxHeartbeats 8000000
open Go Go.Sx Go.Proofs Go.Sx.M9

theorem exIs {P : Program} {f : Nat} {args : List AV} {N : Nat} {G : Heap} {α : Type} {p : α → Prop} {v : α → AV} {n : Nat} {g : α → Heap} (h : FnEx P f args N G p v n g) (a0 : α) (hu : ∀ a, p a → a = a0) : FnIs P f args N G (v a0) n (g a0) :=
  ⟨h.call.mono fun _ _ _ ⟨a, ha, e1, e2, e3⟩ => by rw [← hu a ha]; exact ⟨e1, e2, e3⟩⟩
theorem exTo {P : Program} {f : Nat} {args : List AV} {N : Nat} {G : Heap} {α β : Type} {p : α → Prop} {v : α → AV} {n : Nat} {g : α → Heap} (h : FnEx P f args N G p v n g) {q : β → Prop} {v' : β → AV} {g' : β → Heap} (hp : ∀ a, p a → ∃ b, q b ∧ v a = v' b ∧ g a = g' b) : FnEx P f args N G q v' n g' :=
  ⟨h.call.mono fun _ _ _ ⟨a, ha, e1, e2, e3⟩ => by
    obtain ⟨b, hb, q1, q2⟩ := hp a ha
    exact ⟨b, hb, e1.trans q1, e2, e3.trans q2⟩⟩
theorem critF_len {rs : List R3} {tk : List Int} {S T : Int → Bool} {n : Nat} (hn : ∀ u v, edgeK rs tk u v = true → 0 ≤ v ∧ v < n) (hS : ∀ v, S v = true → 0 ≤ v ∧ v < n) :
    ∀ (f L : Nat) (LS : List (List Int)), Lvl (edgeK rs tk) S L LS → (critF rs tk T n f LS).length ≤ n
  | 0, _, _, _ => by simp [critF]
  | f + 1, L, LS, h => by
    simp only [critF]
    split
    · simp
    · next h0 =>
      split
      · next h1 =>
        have hb := finT_best (T := T) (LS := LS) (fun l hl e => by have := (h.way l hl).1.one; rw [e] at this; simp at this) LS.length (Nat.le_refl _)
        rcases hb.mem with h2 | ⟨j, hj, e, _⟩
        · exact absurd h2 h1
        · rw [← e, (h.way _ (getD_mem hj)).2.1]
          exact h.small hn hS h0
      · exact critF_len hn hS f (L + 1) _ (h.next hn)
theorem critV_len (p : Int) (rs : List R3) : (critV p rs).length ≤ 16 := by
  unfold critV
  cases hl : least? p rs with
  | none => simp
  | some pl =>
    obtain ⟨_, _, _, hP⟩ := press_ok hl
    have := critF_len (T := finB pl) (fun u v he => (edge_rng hP he).2) (fun v hv => src_rng hP hv) (p.toNat + 1) 0 _ (Lvl.start (E := edgeK rs (tkL rs pl)) (S := srcB pl) (n := p.toNat) fun v hv => src_rng hP hv)
    have := hP.par
    show (critL p.toNat rs pl).length ≤ 16
    unfold critL
    omega
theorem k_CritSpec0 (p : Int) (rs : List R3) (h : Side (inI64 p ∧ rs.length ≤ 1048577)) (hx : critV p rs = []) : FnIs Try.prog 17 [.agg [.int .i64 p, .sl 0 []]] 1 [(0, .flat false (.r3 rs))] (.tuple [.nilsl, .bool false]) 2 [] :=
  exIs (k_CritSpec p rs h) none fun a ha => by
    cases a with
    | none => rfl
    | some a => exact absurd hx ha.2.2.1
theorem k_CritImpl0 (p : Int) (rs : List R3) (h : Side (inI64 p ∧ rs.length ≤ 1048577)) (hx : critV p rs = []) : FnIs Try.prog 18 [.agg [.int .i64 p, .sl 0 []]] 1 [(0, .flat false (.r3 rs))] (.tuple [.nilsl, .bool false]) 2 [] :=
  exIs (k_CritImpl p rs h) none fun a ha => by
    cases a with
    | none => rfl
    | some a => exact absurd hx ha.2
theorem k_CritImpl1 (p : Int) (rs : List R3) (h : Side (inI64 p ∧ rs.length ≤ 1048577)) (hx : critV p rs ≠ []) : FnIs Try.prog 18 [.agg [.int .i64 p, .sl 0 []]] 1 [(0, .flat false (.r3 rs))] (.tuple [.sl 1 [], .bool true]) 2 [(1, .flat true (.ints .i64 (critV p rs)))] :=
  exIs (k_CritImpl p rs h) (some (critV p rs)) fun a ha => by
    cases a with
    | none => exact absurd ha hx
    | some a => exact congrArg some ha.1
theorem k_CritSpec1 (p : Int) (rs : List R3) (h : Side (inI64 p ∧ rs.length ≤ 1048577)) (hx : critV p rs ≠ []) : FnEx Try.prog 17 [.agg [.int .i64 p, .sl 0 []]] 1 [(0, .flat false (.r3 rs))] (fun a : List (List Int) × Nat => a.2 < a.1.length ∧ a.1.getD a.2 [] = critV p rs) (fun a => .tuple [.sl 1 [a.2], .bool true]) 2 (fun a => [(1, .nestI true .i64 a.1)]) :=
  exTo (k_CritSpec p rs h) fun a ha => by
    cases a with
    | none => exact absurd ha hx
    | some a => exact ⟨a, ⟨ha.1, ha.2.1⟩, rfl, rfl⟩
theorem k_FnExactCriticalPath (p : Int) (xs : List R3) (hp : Side (inI64 p ∧ xs.length ≤ 9223372036854775807)) : FnIs Try.prog 4 [.agg [.int .i64 p, .sl 0 []]] 1 [(0, .flat false (.r3 xs))] (.bool true) 1 [] := by
  have hpp := hp.h
  by_cases hl : xs.length ≤ 1048576
  · have e : (if (1048576 : Int) - xs.length < 0 then (-1 : Int) else 1048576 - xs.length) = 1048576 - xs.length := if_neg (by omega)
    have hm := critV_len p xs
    by_cases hx : critV p xs = []
    · have ks := k_CritSpec0 p xs ⟨by omega, by omega⟩ hx
      have ki := k_CritImpl0 p xs ⟨by omega, by omega⟩ hx
      refine fn_of_ev tok Try.func4 rfl rfl rfl ?_
      repeat' ((conv => whnf); first | done | refine ev_step ?_ | refine ops_step ?_ | refine scan_step ?_ | refine draw_step ?_ | refine each_step ?_ | refine sl_step ?_ | refine hp_step ?_ | refine guard_no (by decide) ?_ | refine guard_go ?_ | refine guard_old ?_ | apply cut_auto | with_reducible exact CutS.mk (Or.inl ⟨rfl, rfl, rfl⟩) | refine CutS.mk (Or.inr (Or.inl (sub_auto ?_))) | exact trivial | refine And.intro ?_ ?_ | (refine cond_split ?_ ?_ <;> intro _ <;> first | (exfalso; first | omega | (simp_all; done) | (simp_all; omega)) | skip) | apply guess | apply FnIs.useF (c19 _ _ _ _) | apply FnIs.useF (c21 _ _ _) | apply FnIs.useF (ks) | apply FnIs.useF (ki) | apply FnIs.useF (k_eqInt64S_nil) | apply FnIs.useF (k_markInt64S_nil _) | apply FnIs.useF (k_heldInt64S_nil _) | apply FnIs.useF (c23s _ _ _) | apply FnIs.useF (c30 _ _ _ _) | exact Or.inl rfl | exact Or.inr rfl | exact Side.mk trivial | exact Side.mk (fun h => h) | exact Side.mk (fun h => ⟨h, h⟩) | with_reducible exact Side.mk rfl | with_reducible exact Side.mk ⟨rfl, rfl⟩ | with_reducible exact Side.mk (by assumption) | with_reducible rfl | intro _)
      all_goals try (conv => whnf)
      all_goals try (refine Side.mk ?_; first | (intros; omega) | (intro h1_ h2_; rw [h1_, h2_]; rfl) | (show List.length (_ ++ _) ≤ _; simp only [List.length_append, List.length_cons, List.length_nil, List.length_replicate, List.length_take]; omega) | (simp_all; done) | (simp_all; omega))
      all_goals trace_state
    · have ks := k_CritSpec1 p xs ⟨by omega, by omega⟩ hx
      have ki := k_CritImpl1 p xs ⟨by omega, by omega⟩ hx
      generalize critV p xs = crit at *
      refine fn_of_ev tok Try.func4 rfl rfl rfl ?_
      repeat' ((conv => whnf); first | done | refine ev_step ?_ | refine ops_step ?_ | refine scan_step ?_ | refine draw_step ?_ | refine each_step ?_ | refine sl_step ?_ | refine hp_step ?_ | refine guard_no (by decide) ?_ | refine guard_go ?_ | refine guard_old ?_ | apply cut_auto | with_reducible exact CutS.mk (Or.inl ⟨rfl, rfl, rfl⟩) | refine CutS.mk (Or.inr (Or.inl (sub_auto ?_))) | exact trivial | refine And.intro ?_ ?_ | (refine cond_split ?_ ?_ <;> intro _ <;> first | (exfalso; first | omega | (simp_all; done) | (simp_all; omega)) | skip) | apply guess | apply FnIs.useF (c19 _ _ _ _) | apply FnIs.useF (c21 _ _ _) | apply FnEx.useF (ks) | exact Or.inl rfl | exact Or.inr rfl | exact Side.mk trivial | exact Side.mk (fun h => h) | exact Side.mk (fun h => ⟨h, h⟩) | with_reducible exact Side.mk rfl | with_reducible exact Side.mk ⟨rfl, rfl⟩ | with_reducible exact Side.mk (by assumption) | with_reducible rfl | intro _)
      all_goals try (conv => whnf)
      all_goals try (refine Side.mk ?_; first | (intros; omega) | (intro h1_ h2_; rw [h1_, h2_]; rfl) | (show List.length (_ ++ _) ≤ _; simp only [List.length_append, List.length_cons, List.length_nil, List.length_replicate, List.length_take]; omega) | (simp_all; done) | (simp_all; omega))
      rename_i a ha
      obtain ⟨LS, j⟩ := a
      obtain ⟨h1, h2⟩ := ha
      dsimp only at h1 h2 ⊢
      subst h2
      have ke := c27s (LS.getD j []) ⟨by omega⟩
      have hg : decide ((1 : Int) + 3 * (xs.length : Int) < 0) = false := decide_eq_false (by omega)
      repeat' ((conv => whnf); first | done | refine ev_step ?_ | refine ops_step ?_ | refine scan_step ?_ | refine draw_step ?_ | refine each_step ?_ | refine sl_step ?_ | refine hp_step ?_ | refine guard_yes hg ?_ | refine guard_no (by decide) ?_ | refine guard_go ?_ | refine guard_old ?_ | apply cut_auto | with_reducible exact CutS.mk (Or.inl ⟨rfl, rfl, rfl⟩) | refine CutS.mk (Or.inr (Or.inl (sub_auto ?_))) | exact trivial | refine And.intro ?_ ?_ | (refine cond_split ?_ ?_ <;> intro _ <;> first | (exfalso; first | omega | (simp_all; done) | (simp_all; omega)) | skip) | apply guess | apply FnIs.useF (c21 _ _ _) | apply FnIs.useF (ki) | apply FnIs.useF (ke) | apply FnIs.useF (c23s _ _ _) | apply FnIs.useF (c30 _ _ _ _) | apply FnIs.useF (c31 _ _ _) | apply FnIs.useF (c32 _ _ _) | exact Or.inl rfl | exact Or.inr rfl | exact Side.mk trivial | exact Side.mk (fun h => h) | exact Side.mk (fun h => ⟨h, h⟩) | with_reducible exact Side.mk rfl | with_reducible exact Side.mk ⟨rfl, rfl⟩ | with_reducible exact Side.mk (by assumption) | with_reducible rfl | intro _)
      all_goals try (conv => whnf)
      all_goals try (refine Side.mk ?_; first | (intros; omega) | (intro h1_ h2_; rw [h1_, h2_]; rfl) | (show List.length (_ ++ _) ≤ _; simp only [List.length_append, List.length_cons, List.length_nil, List.length_replicate, List.length_take]; omega) | (simp_all; done) | (simp_all; omega))
      all_goals trace_state
  · have e : (if (1048576 : Int) - xs.length < 0 then (-1 : Int) else 1048576 - xs.length) = -1 := if_pos (by omega)
    refine fn_of_ev tok Try.func4 rfl rfl rfl ?_
    repeat' ((conv => whnf); first | done | refine ev_step ?_ | refine ops_step ?_ | refine scan_step ?_ | refine draw_step ?_ | refine each_step ?_ | refine sl_step ?_ | refine hp_step ?_ | refine guard_no (by decide) ?_ | refine guard_go ?_ | refine guard_old ?_ | apply cut_auto | with_reducible exact CutS.mk (Or.inl ⟨rfl, rfl, rfl⟩) | refine CutS.mk (Or.inr (Or.inl (sub_auto ?_))) | exact trivial | refine And.intro ?_ ?_ | (refine cond_split ?_ ?_ <;> intro _ <;> first | (exfalso; first | omega | (simp_all; done) | (simp_all; omega)) | skip) | apply guess | apply FnIs.useF (c19 _ _ _ _) | exact Or.inl rfl | exact Or.inr rfl | exact Side.mk trivial | exact Side.mk (fun h => h) | exact Side.mk (fun h => ⟨h, h⟩) | with_reducible exact Side.mk rfl | with_reducible exact Side.mk ⟨rfl, rfl⟩ | with_reducible exact Side.mk (by assumption) | with_reducible rfl | intro _)
    all_goals try (conv => whnf)
    all_goals try (refine Side.mk ?_; first | (intros; omega) | (intro h1_ h2_; rw [h1_, h2_]; rfl) | (show List.length (_ ++ _) ≤ _; simp only [List.length_append, List.length_cons, List.length_nil, List.length_replicate, List.length_take]; omega) | (simp_all; done) | (simp_all; omega))
    all_goals trace_state
end Go.Sx.U
