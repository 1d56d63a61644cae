/-
  Chapter 10: the next states of the program's search for the first order.
-/
import Derived.Test.YtjojnolcohjebaaC17
namespace Go.Sx.U
set_option linter.unusedVariables false
set_option linter.unusedSimpArgs false
set_option maxRecDepth 100000
set_option maxHeartbeats 8000000
open Go Go.Sx Go.Proofs Go.Sx.M0

/-- The states behind one wire: the least wire of those that were found, and all its keys. -/
structure NX (W : List (List Int)) (e : Int) (m : Nat) (P : Nat → Nat → Prop) (wv : Nat) (nk : List (R3 × Int × Nat)) : Prop where
  top : wv ≤ W.length
  le : ∀ w k, P w k → wv ≤ w
  hit : wv < W.length → ∃ k, P wv k
  inn : ∀ x ∈ nk, ∃ k : Nat, P wv k ∧ x.1 = ⟨((m ||| 2 ^ wv : Nat) : Int), (wv : Int), (k : Int)⟩ ∧ x.2.1 = Lt W e (m ||| 2 ^ wv) wv k
  all : ∀ k : Nat, P wv k → ∃ x ∈ nk, x.1 = ⟨((m ||| 2 ^ wv : Nat) : Int), (wv : Int), (k : Int)⟩
theorem mput_has {κ α : Type} [DecidableEq κ] {k : κ} {u : α} : ∀ {kvs : List (κ × α)}, ∃ x ∈ mput kvs k u, x.1 = k
  | [] => ⟨(k, u), by simp [mput], rfl⟩
  | y :: r => by
    simp only [mput]
    split
    · exact ⟨_, List.mem_cons_self, rfl⟩
    · obtain ⟨x, h1, h2⟩ := mput_has (k := k) (u := u) (kvs := r)
      exact ⟨x, List.mem_cons_of_mem _ h1, h2⟩
theorem mput_old {κ α : Type} [DecidableEq κ] {k : κ} {u : α} : ∀ {kvs : List (κ × α)} {y : κ × α}, y ∈ kvs → ∃ x ∈ mput kvs k u, x.1 = y.1
  | [], y, h => by cases h
  | z :: r, y, h => by
    simp only [mput]
    split
    · next he =>
      rcases List.mem_cons.1 h with h | h
      · exact ⟨_, List.mem_cons_self, by rw [h]; first | exact he | exact he.symm⟩
      · exact ⟨y, List.mem_cons_of_mem _ h, rfl⟩
    · rcases List.mem_cons.1 h with h | h
      · exact ⟨z, List.mem_cons_self, by rw [h]⟩
      · obtain ⟨x, h1, h2⟩ := mput_old (k := k) (u := u) h
        exact ⟨x, List.mem_cons_of_mem _ h1, h2⟩
theorem NX.same {W : List (List Int)} {e : Int} {m wv : Nat} {P P' : Nat → Nat → Prop} {nk : List (R3 × Int × Nat)} (h : NX W e m P wv nk) (hP : ∀ a b, P' a b ↔ P a b) : NX W e m P' wv nk :=
  ⟨h.top, fun w k hp => h.le w k ((hP w k).1 hp), fun hl => by obtain ⟨k, hk⟩ := h.hit hl; exact ⟨k, (hP _ _).2 hk⟩,
    fun x hx => by obtain ⟨k, h1, h2⟩ := h.inn x hx; exact ⟨k, (hP _ _).2 h1, h2⟩, fun k hp => h.all k ((hP _ _).1 hp)⟩
theorem NX.gt {W : List (List Int)} {e : Int} {m wv w k' : Nat} {P P' : Nat → Nat → Prop} {nk : List (R3 × Int × Nat)} {Q : Prop} (h : NX W e m P wv nk) (hP : ∀ a b, P' a b ↔ P a b ∨ (a = w ∧ b = k' ∧ Q)) (hw : wv < w) : NX W e m P' wv nk :=
  ⟨h.top, fun a k hp => by rcases (hP a k).1 hp with hp | ⟨rfl, _, _⟩; · exact h.le a k hp
                           · omega,
    fun hl => by obtain ⟨k, hk⟩ := h.hit hl; exact ⟨k, (hP _ _).2 (.inl hk)⟩,
    fun x hx => by obtain ⟨k, h1, h2⟩ := h.inn x hx; exact ⟨k, (hP _ _).2 (.inl h1), h2⟩,
    fun k hp => by rcases (hP _ k).1 hp with hp | ⟨h1, _, _⟩; · exact h.all k hp
                   · omega⟩
theorem NX.eq {W : List (List Int)} {e : Int} {m wv k' c : Nat} {P P' : Nat → Nat → Prop} {nk : List (R3 × Int × Nat)} (h : NX W e m P wv nk) (hP : ∀ a b, P' a b ↔ P a b ∨ (a = wv ∧ b = k')) : NX W e m P' wv (put3 c nk ⟨((m ||| 2 ^ wv : Nat) : Int), (wv : Int), (k' : Int)⟩ (Lt W e (m ||| 2 ^ wv) wv k')) :=
  ⟨h.top, fun a k hp => by rcases (hP a k).1 hp with hp | ⟨rfl, _⟩; · exact h.le a k hp
                           · exact Nat.le_refl _,
    fun _ => ⟨k', (hP _ _).2 (.inr ⟨rfl, rfl⟩)⟩,
    fun x hx => by
      rcases mput_mem hx with rfl | hx
      · exact ⟨k', (hP _ _).2 (.inr ⟨rfl, rfl⟩), rfl, rfl⟩
      · obtain ⟨k, h1, h2⟩ := h.inn x hx; exact ⟨k, (hP _ _).2 (.inl h1), h2⟩,
    fun k hp => by
      rcases (hP _ k).1 hp with hp | ⟨_, rfl⟩
      · obtain ⟨y, h1, h2⟩ := h.all k hp
        obtain ⟨x, h3, h4⟩ := mput_old (k := (⟨((m ||| 2 ^ wv : Nat) : Int), (wv : Int), (k' : Int)⟩ : R3)) (u := (Lt W e (m ||| 2 ^ wv) wv k', ((mlk nk ⟨((m ||| 2 ^ wv : Nat) : Int), (wv : Int), (k' : Int)⟩).map (·.2)).getD c)) h1
        exact ⟨x, h3, h4.trans h2⟩
      · exact mput_has⟩
theorem NX.lt {W : List (List Int)} {e : Int} {m wv w k' c : Nat} {P P' : Nat → Nat → Prop} {nk : List (R3 × Int × Nat)} (h : NX W e m P wv nk) (hP : ∀ a b, P' a b ↔ P a b ∨ (a = w ∧ b = k')) (hw : w < wv) : NX W e m P' w (put3 c [] ⟨((m ||| 2 ^ w : Nat) : Int), (w : Int), (k' : Int)⟩ (Lt W e (m ||| 2 ^ w) w k')) :=
  ⟨by have := h.top; omega,
    fun a k hp => by
      rcases (hP a k).1 hp with hp | ⟨rfl, _⟩
      · have := h.le a k hp
        omega
      · exact Nat.le_refl _,
    fun _ => ⟨k', (hP _ _).2 (.inr ⟨rfl, rfl⟩)⟩,
    fun x hx => by
      rcases mput_mem hx with rfl | hx
      · exact ⟨k', (hP _ _).2 (.inr ⟨rfl, rfl⟩), rfl, rfl⟩
      · exact (List.not_mem_nil hx).elim,
    fun k hp => by
      rcases (hP _ k).1 hp with hp | ⟨_, rfl⟩
      · have := h.le _ k hp
        omega
      · exact mput_has⟩
abbrev ordHp (W : List (List Int)) (e : Int) (c : Nat) (kvs : List (R3 × Int × Nat)) (wv : Nat) (want : Int) (cn : Nat) (nk : List (R3 × Int × Nat)) : Heap := planH W e c kvs ++ [(5, .flat false (.gen 1 [[.ptr 3 [] 0 0]])), (6, .flat true (.gen 1 [[.int .i64 wv]])), (7, .flat false (.gen 1 [[.int .i64 want]])), (8, .flat false (.gen 1 [[.map 9]])), (9, .mp (.r3 cn nk))]
/-- One way on from a state. -/
theorem k_ord1 (W : List (List Int)) (hW : okW W) (e : Int) (f : Nat) (m : Nat) (P P' : Nat → Nat → Prop) (w k c wv cn : Nat) (kvs nk : List (R3 × Int × Nat)) (cost want : Int) (hd : m ||| 2 ^ w < 2 ^ W.length) (hw : w < W.length) (hk : k ≤ 8) (hu : unb W.length (m ||| 2 ^ w) = f) (hM : MemoOk W e kvs) (hc : 0 ≤ cost ∧ cost ≤ 1000) (hN : NX W e m P wv nk)
    (hP : ∀ a b, P' a b ↔ P a b ∨ (a = w ∧ b = k ∧ 0 ≤ Lt W e (m ||| 2 ^ w) w k ∧ Lt W e (m ||| 2 ^ w) w k + cost = want)) :
    FnEx Try.prog 89 [.int .i64 w, .int .i64 cost, tsk (m ||| 2 ^ w) w k, .ptr 6 [] 0 0, .ptr 5 [] 0 0, .ptr 7 [] 0 0, .ptr 8 [] 0 0] 10 (ordHp W e c kvs wv want cn nk) (fun a : (Nat × List (R3 × Int × Nat)) × Nat × Nat × List (R3 × Int × Nat) => MemoOk W e a.1.2 ∧ NX W e m P' a.2.1 a.2.2.2) (fun _ => .tuple []) 10 (fun a => [(4, .mp (.r3 a.1.1 a.1.2)), (6, .flat true (.gen 1 [[.int .i64 a.2.1]])), (9, .mp (.r3 a.2.2.1 a.2.2.2))]) := by
  have k1 := fun c kvs => k_left W hW e f (m ||| 2 ^ w) w k c kvs hd hw hk hu
  have hr := Lt_bd9 hW (e := e) (m := m ||| 2 ^ w) (k := k) hw
  have hn := hW.1
  have hP9 := pow9 hn.2
  have hks : ok64 ((m ||| 2 ^ w : Nat) : Int) ∧ ok64 (w : Int) ∧ ok64 (k : Int) := by unfold ok64; omega
  refine ex_of_evk [0, 1, 2, 3, 4, 5, 6, 9, 27, 30] tok Try.func89 rfl rfl rfl ?_
  by_cases hA : wv < w
  · have hg3 : decide ((wv : Int) < (w : Int)) = true := by rw [decide_eq_true_eq]; omega
    have hg3n : ¬ decide ((wv : Int) < (w : Int)) = false := by rw [hg3]; simp
    repeat' ((conv => whnf); first | done | refine ev_step ?_ | refine ops_step ?_ | refine scan_step ?_ | refine draw_step ?_ | refine each_step ?_ | refine sl_step ?_ | refine hp_step ?_ | refine guard_no (by decide) ?_ | refine guard_go ?_ | refine guard_old ?_ | with_reducible exact CutS.mk (Or.inl ⟨rfl, rfl, rfl⟩) | refine CutS.mk (Or.inr (sub_auto ?_)) | exact trivial | refine And.intro ?_ ?_ | (refine cond_split ?_ ?_ <;> intro hq_ <;> first | (exfalso; first | omega | (simp only [hg3, cond_true, cond_false, Bool.not_true, Bool.not_false, Bool.and_true, Bool.true_and, Bool.and_false, Bool.false_and, Bool.or_true, Bool.true_or, Bool.or_false, Bool.false_or, Bool.true_eq_false, Bool.false_eq_true, decide_true, decide_false, reduceCtorEq] at hq_; done) | (rw [decide_eq_false_iff_not] at hq_; omega) | (rw [decide_eq_true_eq] at hq_; omega) | (simp only [hg3, reduceCtorEq] at hq_; done) | exact Bool.noConfusion (Eq.trans (Eq.symm hg3) hq_)) | skip) | apply guess | exact Or.inl rfl | exact Or.inr rfl | exact Side.mk trivial | exact Side.mk (fun h => h) | exact Side.mk (fun h => ⟨h, h⟩) | with_reducible exact Side.mk rfl | with_reducible exact Side.mk ⟨rfl, rfl⟩ | with_reducible exact Side.mk (by assumption) | with_reducible rfl | intro _)
    conv => whnf
    refine CutG.mk (Or.inl ?_)
    have hg9n : ¬ (bif decide ((wv : Int) < (w : Int)) then true else false) = false := by rw [hg3]; simp
    repeat' ((conv => whnf); first | done | refine ev_step ?_ | refine ops_step ?_ | refine scan_step ?_ | refine draw_step ?_ | refine each_step ?_ | refine sl_step ?_ | refine hp_step ?_ | refine guard_no hg3n ?_ | refine guard_no hg9n ?_ | refine guard_no (by decide) ?_ | refine guard_go ?_ | refine guard_old ?_ | with_reducible exact CutS.mk (Or.inl ⟨rfl, rfl, rfl⟩) | refine CutS.mk (Or.inr (sub_auto ?_)) | exact trivial | refine And.intro ?_ ?_ | (refine cond_split ?_ ?_ <;> intro hq_ <;> first | (exfalso; first | omega | (simp only [hg3, cond_true, cond_false, Bool.not_true, Bool.not_false, Bool.and_true, Bool.true_and, Bool.and_false, Bool.false_and, Bool.or_true, Bool.true_or, Bool.or_false, Bool.false_or, Bool.true_eq_false, Bool.false_eq_true, decide_true, decide_false, reduceCtorEq] at hq_; done) | (rw [decide_eq_false_iff_not] at hq_; omega) | (rw [decide_eq_true_eq] at hq_; omega) | (simp only [hg3, reduceCtorEq] at hq_; done) | exact Bool.noConfusion (Eq.trans (Eq.symm hg3) hq_)) | skip) | apply guess | exact Or.inl rfl | exact Or.inr rfl | exact Side.mk trivial | exact Side.mk (fun h => h) | exact Side.mk (fun h => ⟨h, h⟩) | with_reducible exact Side.mk rfl | with_reducible exact Side.mk ⟨rfl, rfl⟩ | with_reducible exact Side.mk (by assumption) | with_reducible rfl | intro _)
    all_goals try (refine Side.mk ?_; first | (intros; omega) | (intro h1_ h2_; rw [h1_, h2_]; rfl) | (show List.length (_ ++ _) ≤ _; simp only [List.length_append, List.length_cons, List.length_nil, List.length_replicate, List.length_take]; omega) | (simp_all; done) | (simp_all; omega))
    refine ⟨((c, kvs), wv, cn, nk), ⟨hM, hN.gt hP hA⟩, ?_⟩
    repeat' ((conv => whnf); first | done | refine ev_step ?_ | refine ops_step ?_ | refine scan_step ?_ | refine draw_step ?_ | refine each_step ?_ | refine sl_step ?_ | refine hp_step ?_ | refine guard_no (by decide) ?_ | refine guard_go ?_ | refine guard_old ?_ | apply cut_auto | with_reducible exact CutS.mk (Or.inl ⟨rfl, rfl, rfl⟩) | refine CutS.mk (Or.inr (sub_auto ?_)) | exact trivial | refine And.intro ?_ ?_ | refine cond_split ?_ ?_ | apply guess | exact Or.inl rfl | exact Or.inr rfl | exact Side.mk trivial | exact Side.mk (fun h => h) | exact Side.mk (fun h => ⟨h, h⟩) | with_reducible exact Side.mk rfl | with_reducible exact Side.mk ⟨rfl, rfl⟩ | with_reducible exact Side.mk (by assumption) | with_reducible rfl | intro _)
    all_goals try (conv => whnf)
    all_goals first | rfl | omega | trace_state
  · have hg3 : decide ((wv : Int) < (w : Int)) = false := by rw [decide_eq_false_iff_not]; omega
    repeat' ((conv => whnf); first | done | refine ev_step ?_ | refine ops_step ?_ | refine scan_step ?_ | refine draw_step ?_ | refine each_step ?_ | refine sl_step ?_ | refine hp_step ?_ | refine guard_no (by decide) ?_ | refine guard_go ?_ | refine guard_old ?_ | with_reducible exact CutS.mk (Or.inl ⟨rfl, rfl, rfl⟩) | refine CutS.mk (Or.inr (sub_auto ?_)) | exact trivial | refine And.intro ?_ ?_ | (refine cond_split ?_ ?_ <;> intro hq_ <;> first | (exfalso; first | omega | (simp only [hg3, cond_true, cond_false, Bool.not_true, Bool.not_false, Bool.and_true, Bool.true_and, Bool.and_false, Bool.false_and, Bool.or_true, Bool.true_or, Bool.or_false, Bool.false_or, Bool.true_eq_false, Bool.false_eq_true, decide_true, decide_false, reduceCtorEq] at hq_; done) | (rw [decide_eq_false_iff_not] at hq_; omega) | (rw [decide_eq_true_eq] at hq_; omega) | (simp only [hg3, reduceCtorEq] at hq_; done) | exact Bool.noConfusion (Eq.trans (Eq.symm hg3) hq_)) | skip) | apply guess | exact Or.inl rfl | exact Or.inr rfl | exact Side.mk trivial | exact Side.mk (fun h => h) | exact Side.mk (fun h => ⟨h, h⟩) | with_reducible exact Side.mk rfl | with_reducible exact Side.mk ⟨rfl, rfl⟩ | with_reducible exact Side.mk (by assumption) | with_reducible rfl | intro _)
    conv => whnf
    refine CutG.mk (Or.inl ?_)
    have k2 := k1 c kvs hM
    by_cases hB : Lt W e (m ||| 2 ^ w) w k < 0
    · have hB1 := decide_eq_true hB
      have hg9 : ¬ (bif decide ((wv : Int) < (w : Int)) then true else decide (Lt W e (m ||| 2 ^ w) w k < 0)) = false := by rw [hg3, hB1]; simp
      repeat' ((conv => whnf); first | done | refine ev_step ?_ | refine ops_step ?_ | refine scan_step ?_ | refine draw_step ?_ | refine each_step ?_ | refine sl_step ?_ | refine hp_step ?_ | refine guard_yes hg3 ?_ | refine guard_no hg9 ?_ | refine guard_no (by decide) ?_ | refine guard_go ?_ | refine guard_old ?_ | with_reducible exact CutS.mk (Or.inl ⟨rfl, rfl, rfl⟩) | refine CutS.mk (Or.inr (sub_auto ?_)) | exact trivial | refine And.intro ?_ ?_ | (refine cond_split ?_ ?_ <;> intro hq_ <;> first | (exfalso; first | omega | (simp only [hg3, hB1, cond_true, cond_false, Bool.not_true, Bool.not_false, Bool.and_true, Bool.true_and, Bool.and_false, Bool.false_and, Bool.or_true, Bool.true_or, Bool.or_false, Bool.false_or, Bool.true_eq_false, Bool.false_eq_true, decide_true, decide_false, reduceCtorEq] at hq_; done) | (rw [decide_eq_false_iff_not] at hq_; omega) | (rw [decide_eq_true_eq] at hq_; omega) | (simp only [hg3, hB1, reduceCtorEq] at hq_; done) | exact Bool.noConfusion (Eq.trans (Eq.symm hg3) hq_) | exact Bool.noConfusion (Eq.trans (Eq.symm hB1) hq_)) | skip) | apply guess | apply FnEx.useF (k2) | exact Or.inl rfl | exact Or.inr rfl | exact Side.mk trivial | exact Side.mk (fun h => h) | exact Side.mk (fun h => ⟨h, h⟩) | with_reducible exact Side.mk rfl | with_reducible exact Side.mk ⟨rfl, rfl⟩ | with_reducible exact Side.mk (by assumption) | with_reducible rfl | intro _)
      all_goals try (refine Side.mk ?_; first | (intros; omega) | (intro h1_ h2_; rw [h1_, h2_]; rfl) | (show List.length (_ ++ _) ≤ _; simp only [List.length_append, List.length_cons, List.length_nil, List.length_replicate, List.length_take]; omega) | (simp_all; done) | (simp_all; omega))
      rename_i a ha
      refine ⟨(a, wv, cn, nk), ⟨ha, hN.same fun x y => ⟨fun h => by rcases (hP x y).1 h with h | ⟨_, _, h, _⟩; exact h; omega, fun h => (hP x y).2 (.inl h)⟩⟩, ?_⟩
      repeat' ((conv => whnf); first | done | refine ev_step ?_ | refine ops_step ?_ | refine scan_step ?_ | refine draw_step ?_ | refine each_step ?_ | refine sl_step ?_ | refine hp_step ?_ | refine guard_no (by decide) ?_ | refine guard_go ?_ | refine guard_old ?_ | apply cut_auto | with_reducible exact CutS.mk (Or.inl ⟨rfl, rfl, rfl⟩) | refine CutS.mk (Or.inr (sub_auto ?_)) | exact trivial | refine And.intro ?_ ?_ | refine cond_split ?_ ?_ | apply guess | exact Or.inl rfl | exact Or.inr rfl | exact Side.mk trivial | exact Side.mk (fun h => h) | exact Side.mk (fun h => ⟨h, h⟩) | with_reducible exact Side.mk rfl | with_reducible exact Side.mk ⟨rfl, rfl⟩ | with_reducible exact Side.mk (by assumption) | with_reducible rfl | intro _)
      all_goals try (conv => whnf)
      all_goals first | rfl | omega | trace_state
    · have hB1 : decide (Lt W e (m ||| 2 ^ w) w k < 0) = false := decide_eq_false hB
      have hg9 : (bif decide ((wv : Int) < (w : Int)) then true else decide (Lt W e (m ||| 2 ^ w) w k < 0)) = false := by rw [hg3, hB1]; rfl
      repeat' ((conv => whnf); first | done | refine ev_step ?_ | refine ops_step ?_ | refine scan_step ?_ | refine draw_step ?_ | refine each_step ?_ | refine sl_step ?_ | refine hp_step ?_ | refine guard_yes hg3 ?_ | refine guard_yes hg9 ?_ | refine guard_no (by decide) ?_ | refine guard_go ?_ | refine guard_old ?_ | with_reducible exact CutS.mk (Or.inl ⟨rfl, rfl, rfl⟩) | refine CutS.mk (Or.inr (sub_auto ?_)) | exact trivial | refine And.intro ?_ ?_ | (refine cond_split ?_ ?_ <;> intro hq_ <;> first | (exfalso; first | omega | (simp only [hg3, hB1, cond_true, cond_false, Bool.not_true, Bool.not_false, Bool.and_true, Bool.true_and, Bool.and_false, Bool.false_and, Bool.or_true, Bool.true_or, Bool.or_false, Bool.false_or, Bool.true_eq_false, Bool.false_eq_true, decide_true, decide_false, reduceCtorEq] at hq_; done) | (rw [decide_eq_false_iff_not] at hq_; omega) | (rw [decide_eq_true_eq] at hq_; omega) | (simp only [hg3, hB1, reduceCtorEq] at hq_; done) | exact Bool.noConfusion (Eq.trans (Eq.symm hg3) hq_) | exact Bool.noConfusion (Eq.trans (Eq.symm hB1) hq_)) | skip) | apply guess | exact Or.inl rfl | exact Or.inr rfl | exact Side.mk trivial | exact Side.mk (fun h => h) | exact Side.mk (fun h => ⟨h, h⟩) | with_reducible exact Side.mk rfl | with_reducible exact Side.mk ⟨rfl, rfl⟩ | with_reducible exact Side.mk (by assumption) | with_reducible rfl | intro _)
      all_goals try (refine Side.mk ?_; first | (intros; omega) | (intro h1_ h2_; rw [h1_, h2_]; rfl) | (show List.length (_ ++ _) ≤ _; simp only [List.length_append, List.length_cons, List.length_nil, List.length_replicate, List.length_take]; omega) | (simp_all; done) | (simp_all; omega))
      apply FnEx.useF k2
      repeat' ((conv => whnf); first | done | refine ev_step ?_ | refine ops_step ?_ | refine scan_step ?_ | refine draw_step ?_ | refine each_step ?_ | refine sl_step ?_ | refine hp_step ?_ | refine guard_yes hg3 ?_ | refine guard_yes hg9 ?_ | refine guard_no (by decide) ?_ | refine guard_go ?_ | refine guard_old ?_ | with_reducible exact CutS.mk (Or.inl ⟨rfl, rfl, rfl⟩) | refine CutS.mk (Or.inr (sub_auto ?_)) | exact trivial | refine And.intro ?_ ?_ | (refine cond_split ?_ ?_ <;> intro hq_ <;> first | (exfalso; first | omega | (simp only [hg3, hB1, cond_true, cond_false, Bool.not_true, Bool.not_false, Bool.and_true, Bool.true_and, Bool.and_false, Bool.false_and, Bool.or_true, Bool.true_or, Bool.or_false, Bool.false_or, Bool.true_eq_false, Bool.false_eq_true, decide_true, decide_false, reduceCtorEq] at hq_; done) | (rw [decide_eq_false_iff_not] at hq_; omega) | (rw [decide_eq_true_eq] at hq_; omega) | (simp only [hg3, hB1, reduceCtorEq] at hq_; done) | exact Bool.noConfusion (Eq.trans (Eq.symm hg3) hq_) | exact Bool.noConfusion (Eq.trans (Eq.symm hB1) hq_)) | skip) | apply guess | exact Or.inl rfl | exact Or.inr rfl | exact Side.mk trivial | exact Side.mk (fun h => h) | exact Side.mk (fun h => ⟨h, h⟩) | with_reducible exact Side.mk rfl | with_reducible exact Side.mk ⟨rfl, rfl⟩ | with_reducible exact Side.mk (by assumption) | with_reducible rfl | intro _)
      all_goals try (refine Side.mk ?_; first | (intros; omega) | (intro h1_ h2_; rw [h1_, h2_]; rfl) | (show List.length (_ ++ _) ≤ _; simp only [List.length_append, List.length_cons, List.length_nil, List.length_replicate, List.length_take]; omega) | (simp_all; done) | (simp_all; omega))
      rename_i a ha
      have k3 := k1 a.1 a.2 ha
      try conv => whnf
      apply FnEx.useF k3
      repeat' ((conv => whnf); first | done | refine ev_step ?_ | refine ops_step ?_ | refine scan_step ?_ | refine draw_step ?_ | refine each_step ?_ | refine sl_step ?_ | refine hp_step ?_ | refine guard_yes hg3 ?_ | refine guard_yes hg9 ?_ | refine guard_no (by decide) ?_ | refine guard_go ?_ | refine guard_old ?_ | with_reducible exact CutS.mk (Or.inl ⟨rfl, rfl, rfl⟩) | refine CutS.mk (Or.inr (sub_auto ?_)) | exact trivial | refine And.intro ?_ ?_ | (refine cond_split ?_ ?_ <;> intro hq_ <;> first | (exfalso; first | omega | (simp only [hg3, hB1, cond_true, cond_false, Bool.not_true, Bool.not_false, Bool.and_true, Bool.true_and, Bool.and_false, Bool.false_and, Bool.or_true, Bool.true_or, Bool.or_false, Bool.false_or, Bool.true_eq_false, Bool.false_eq_true, decide_true, decide_false, reduceCtorEq] at hq_; done) | (rw [decide_eq_false_iff_not] at hq_; omega) | (rw [decide_eq_true_eq] at hq_; omega) | (simp only [hg3, hB1, reduceCtorEq] at hq_; done) | exact Bool.noConfusion (Eq.trans (Eq.symm hg3) hq_) | exact Bool.noConfusion (Eq.trans (Eq.symm hB1) hq_)) | skip) | apply guess | exact Or.inl rfl | exact Or.inr rfl | exact Side.mk trivial | exact Side.mk (fun h => h) | exact Side.mk (fun h => ⟨h, h⟩) | with_reducible exact Side.mk rfl | with_reducible exact Side.mk ⟨rfl, rfl⟩ | with_reducible exact Side.mk (by assumption) | with_reducible rfl | intro _)
      all_goals try (refine Side.mk ?_; first | (intros; omega) | (intro h1_ h2_; rw [h1_, h2_]; rfl) | (show List.length (_ ++ _) ≤ _; simp only [List.length_append, List.length_cons, List.length_nil, List.length_replicate, List.length_take]; omega) | (simp_all; done) | (simp_all; omega))
      · have hC : ¬ Lt W e (m ||| 2 ^ w) w k + cost = want := fun h => by
          rw [hg9, cond_false, h] at hq_
          simp at hq_
        rename_i a2 ha2
        refine ⟨(a2, wv, cn, nk), ⟨ha2, hN.same fun x y => ⟨fun h => by rcases (hP x y).1 h with h | ⟨_, _, _, h⟩; exact h; exact absurd h hC, fun h => (hP x y).2 (.inl h)⟩⟩, ?_⟩
        repeat' ((conv => whnf); first | done | refine ev_step ?_ | refine ops_step ?_ | refine scan_step ?_ | refine draw_step ?_ | refine each_step ?_ | refine sl_step ?_ | refine hp_step ?_ | refine guard_no (by decide) ?_ | refine guard_go ?_ | refine guard_old ?_ | apply cut_auto | with_reducible exact CutS.mk (Or.inl ⟨rfl, rfl, rfl⟩) | refine CutS.mk (Or.inr (sub_auto ?_)) | exact trivial | refine And.intro ?_ ?_ | refine cond_split ?_ ?_ | apply guess | exact Or.inl rfl | exact Or.inr rfl | exact Side.mk trivial | exact Side.mk (fun h => h) | exact Side.mk (fun h => ⟨h, h⟩) | with_reducible exact Side.mk rfl | with_reducible exact Side.mk ⟨rfl, rfl⟩ | with_reducible exact Side.mk (by assumption) | with_reducible rfl | intro _)
        all_goals try (conv => whnf)
        all_goals first | rfl | omega | trace_state
      · rename_i a2 ha2 h27
        have hC : Lt W e (m ||| 2 ^ w) w k + cost = want := by
          rw [hg9, cond_false] at h27
          simpa using h27
        have hD : w < wv := by simpa using hq_
        have hP2 : ∀ a b, P' a b ↔ P a b ∨ (a = w ∧ b = k) := fun x y => by
          rw [hP x y]
          exact ⟨fun h => h.imp id fun h => ⟨h.1, h.2.1⟩, fun h => h.imp id fun h => ⟨h.1, h.2, by omega, hC⟩⟩
        have k4 := k1 a2.1 a2.2 ha2
        conv => whnf
        refine CutG.mk (Or.inl ?_)
        repeat' ((conv => whnf); first | done | refine ev_step ?_ | refine ops_step ?_ | refine scan_step ?_ | refine draw_step ?_ | refine each_step ?_ | refine sl_step ?_ | refine hp_step ?_ | refine guard_no (by decide) ?_ | refine guard_go ?_ | refine guard_old ?_ | with_reducible exact CutS.mk (Or.inl ⟨rfl, rfl, rfl⟩) | refine CutS.mk (Or.inr (sub_auto ?_)) | exact trivial | refine And.intro ?_ ?_ | (refine cond_split ?_ ?_ <;> intro hq_ <;> first | (exfalso; first | omega | (simp only [hg3, cond_true, cond_false, Bool.not_true, Bool.not_false, Bool.and_true, Bool.true_and, Bool.and_false, Bool.false_and, Bool.or_true, Bool.true_or, Bool.or_false, Bool.false_or, Bool.true_eq_false, Bool.false_eq_true, decide_true, decide_false, reduceCtorEq] at hq_; done) | (rw [decide_eq_false_iff_not] at hq_; omega) | (rw [decide_eq_true_eq] at hq_; omega) | (simp only [hg3, reduceCtorEq] at hq_; done) | exact Bool.noConfusion (Eq.trans (Eq.symm hg3) hq_)) | skip) | apply guess | apply FnEx.useF (k4) | exact Or.inl rfl | exact Or.inr rfl | exact Side.mk trivial | exact Side.mk (fun h => h) | exact Side.mk (fun h => ⟨h, h⟩) | with_reducible exact Side.mk rfl | with_reducible exact Side.mk ⟨rfl, rfl⟩ | with_reducible exact Side.mk (by assumption) | with_reducible rfl | intro _)
        all_goals try (first | exact Side.mk hks | exact hks)
        all_goals try (refine Side.mk ?_; first | (intros; omega) | (intro h1_ h2_; rw [h1_, h2_]; rfl) | (show List.length (_ ++ _) ≤ _; simp only [List.length_append, List.length_cons, List.length_nil, List.length_replicate, List.length_take]; omega) | (simp_all; done) | (simp_all; omega))
        rename_i a3 ha3
        refine ⟨(a3, w, clk3 cn [] ⟨((m ||| 2 ^ w : Nat) : Int), (w : Int), (k : Int)⟩, put3 cn [] ⟨((m ||| 2 ^ w : Nat) : Int), (w : Int), (k : Int)⟩ (Lt W e (m ||| 2 ^ w) w k)), ⟨ha3, hN.lt hP2 hD⟩, ?_⟩
        repeat' ((conv => whnf); first | done | refine ev_step ?_ | refine ops_step ?_ | refine scan_step ?_ | refine draw_step ?_ | refine each_step ?_ | refine sl_step ?_ | refine hp_step ?_ | refine guard_no (by decide) ?_ | refine guard_go ?_ | refine guard_old ?_ | apply cut_auto | with_reducible exact CutS.mk (Or.inl ⟨rfl, rfl, rfl⟩) | refine CutS.mk (Or.inr (sub_auto ?_)) | exact trivial | refine And.intro ?_ ?_ | refine cond_split ?_ ?_ | apply guess | exact Or.inl rfl | exact Or.inr rfl | exact Side.mk trivial | exact Side.mk (fun h => h) | exact Side.mk (fun h => ⟨h, h⟩) | with_reducible exact Side.mk rfl | with_reducible exact Side.mk ⟨rfl, rfl⟩ | with_reducible exact Side.mk (by assumption) | with_reducible rfl | intro _)
        all_goals try (conv => whnf)
        all_goals first | rfl | omega | trace_state
      · rename_i a2 ha2 h27
        have hC : Lt W e (m ||| 2 ^ w) w k + cost = want := by
          rw [hg9, cond_false] at h27
          simpa using h27
        have hD : ¬ w < wv := by simpa using hq_
        have hP2 : ∀ a b, P' a b ↔ P a b ∨ (a = w ∧ b = k) := fun x y => by
          rw [hP x y]
          exact ⟨fun h => h.imp id fun h => ⟨h.1, h.2.1⟩, fun h => h.imp id fun h => ⟨h.1, h.2, by omega, hC⟩⟩
        obtain rfl : w = wv := by omega
        have k4 := k1 a2.1 a2.2 ha2
        conv => whnf
        refine CutG.mk (Or.inl ?_)
        repeat' ((conv => whnf); first | done | refine ev_step ?_ | refine ops_step ?_ | refine scan_step ?_ | refine draw_step ?_ | refine each_step ?_ | refine sl_step ?_ | refine hp_step ?_ | refine guard_no (by decide) ?_ | refine guard_go ?_ | refine guard_old ?_ | with_reducible exact CutS.mk (Or.inl ⟨rfl, rfl, rfl⟩) | refine CutS.mk (Or.inr (sub_auto ?_)) | exact trivial | refine And.intro ?_ ?_ | (refine cond_split ?_ ?_ <;> intro hq_ <;> first | (exfalso; first | omega | (simp only [hg3, cond_true, cond_false, Bool.not_true, Bool.not_false, Bool.and_true, Bool.true_and, Bool.and_false, Bool.false_and, Bool.or_true, Bool.true_or, Bool.or_false, Bool.false_or, Bool.true_eq_false, Bool.false_eq_true, decide_true, decide_false, reduceCtorEq] at hq_; done) | (rw [decide_eq_false_iff_not] at hq_; omega) | (rw [decide_eq_true_eq] at hq_; omega) | (simp only [hg3, reduceCtorEq] at hq_; done) | exact Bool.noConfusion (Eq.trans (Eq.symm hg3) hq_)) | skip) | apply guess | apply FnEx.useF (k4) | exact Or.inl rfl | exact Or.inr rfl | exact Side.mk trivial | exact Side.mk (fun h => h) | exact Side.mk (fun h => ⟨h, h⟩) | with_reducible exact Side.mk rfl | with_reducible exact Side.mk ⟨rfl, rfl⟩ | with_reducible exact Side.mk (by assumption) | with_reducible rfl | intro _)
        all_goals try (first | exact Side.mk hks | exact hks)
        all_goals try (refine Side.mk ?_; first | (intros; omega) | (intro h1_ h2_; rw [h1_, h2_]; rfl) | (show List.length (_ ++ _) ≤ _; simp only [List.length_append, List.length_cons, List.length_nil, List.length_replicate, List.length_take]; omega) | (simp_all; done) | (simp_all; omega))
        rename_i a3 ha3
        refine ⟨(a3, w, clk3 cn nk ⟨((m ||| 2 ^ w : Nat) : Int), (w : Int), (k : Int)⟩, put3 cn nk ⟨((m ||| 2 ^ w : Nat) : Int), (w : Int), (k : Int)⟩ (Lt W e (m ||| 2 ^ w) w k)), ⟨ha3, hN.eq hP2⟩, ?_⟩
        repeat' ((conv => whnf); first | done | refine ev_step ?_ | refine ops_step ?_ | refine scan_step ?_ | refine draw_step ?_ | refine each_step ?_ | refine sl_step ?_ | refine hp_step ?_ | refine guard_no (by decide) ?_ | refine guard_go ?_ | refine guard_old ?_ | apply cut_auto | with_reducible exact CutS.mk (Or.inl ⟨rfl, rfl, rfl⟩) | refine CutS.mk (Or.inr (sub_auto ?_)) | exact trivial | refine And.intro ?_ ?_ | refine cond_split ?_ ?_ | apply guess | exact Or.inl rfl | exact Or.inr rfl | exact Side.mk trivial | exact Side.mk (fun h => h) | exact Side.mk (fun h => ⟨h, h⟩) | with_reducible exact Side.mk rfl | with_reducible exact Side.mk ⟨rfl, rfl⟩ | with_reducible exact Side.mk (by assumption) | with_reducible rfl | intro _)
        all_goals try (conv => whnf)
        all_goals first | rfl | omega | trace_state
end Go.Sx.U
