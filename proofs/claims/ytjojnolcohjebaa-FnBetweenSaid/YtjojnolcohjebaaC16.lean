/-
  Chapter 10: the program's memory of what is left (contracts of functions that call one another).
-/
import Derived.Test.YtjojnolcohjebaaK7
import Derived.Test.YtjojnolcohjebaaM0X
import Derived.Test.YtjojnolcohjebaaC15A
import Derived.Test.YtjojnolcohjebaaC0
import Derived.Test.YtjojnolcohjebaaKH
namespace Go.Sx.U
set_option linter.unusedVariables false
set_option linter.unusedSimpArgs false
set_option maxRecDepth 100000
set_option maxHeartbeats 8000000
open Go Go.Sx Go.Proofs Go.Sx.M0

/-- What the memory holds is right. -/
def MemoOk (W : List (List Int)) (e : Int) (kvs : List (R3 × Int × Nat)) : Prop := ∀ x ∈ kvs, ∃ m l k : Nat, x.1 = ⟨m, l, k⟩ ∧ x.2.1 = Lt W e m l k
theorem mlk_mem {κ α : Type} [DecidableEq κ] : ∀ {kvs : List (κ × α)} {k : κ} {u : α}, mlk kvs k = some u → (k, u) ∈ kvs
  | [], _, _, h => by cases h
  | x :: r, k, u, h => by
    simp only [mlk] at h
    split at h
    · next he =>
      injection h with h
      subst he h
      exact List.mem_cons_self
    · exact List.mem_cons_of_mem _ (mlk_mem h)
theorem mput_mem {κ α : Type} [DecidableEq κ] : ∀ {kvs : List (κ × α)} {k : κ} {u : α} {x : κ × α}, x ∈ mput kvs k u → x = (k, u) ∨ x ∈ kvs
  | [], _, _, x, h => by simp [mput] at h; exact .inl h
  | y :: r, k, u, x, h => by
    simp only [mput] at h
    split at h
    · rcases List.mem_cons.1 h with h | h
      · exact .inl h
      · exact .inr (List.mem_cons_of_mem _ h)
    · rcases List.mem_cons.1 h with h | h
      · exact .inr (by rw [h]; exact List.mem_cons_self)
      · rcases mput_mem h with h | h
        · exact .inl h
        · exact .inr (List.mem_cons_of_mem _ h)
theorem memo_get {W : List (List Int)} {e : Int} {kvs : List (R3 × Int × Nat)} (h : MemoOk W e kvs) {m l k : Nat} (hh : mhas kvs ⟨m, l, k⟩ = true) : mg3 kvs ⟨m, l, k⟩ = Lt W e m l k := by
  unfold mhas at hh
  cases hq : mlk kvs ⟨(m : Int), (l : Int), (k : Int)⟩ with
  | none => rw [hq] at hh; cases hh
  | some u =>
    obtain ⟨m', l', k', h1, h2⟩ := h _ (mlk_mem hq)
    injection h1 with e1 e2 e3
    have := Int.ofNat_inj.1 e1
    have := Int.ofNat_inj.1 e2
    have := Int.ofNat_inj.1 e3
    subst_vars
    simp only [mg3, hq, Option.getD_some]
    exact h2
theorem memo_put {W : List (List Int)} {e : Int} {c : Nat} {kvs : List (R3 × Int × Nat)} (h : MemoOk W e kvs) (m l k : Nat) : MemoOk W e (put3 c kvs ⟨m, l, k⟩ (Lt W e m l k)) := fun x hx => by
  rcases mput_mem hx with rfl | hx
  · exact ⟨m, l, k, rfl, rfl⟩
  · exact h x hx
abbrev planH (W : List (List Int)) (e : Int) (c : Nat) (kvs : List (R3 × Int × Nat)) : Heap := [(0, .flat false (.gen 1 [[.sl 2 []]])), (2, .flat false (.rows 1 0 W.length)), (1, .nestI false .i64 W), (3, .flat false (.gen 3 [[.ptr 0 [] 0 0, .int .i64 e, .map 4]])), (4, .mp (.r3 c kvs))]
abbrev tsk (m l k : Nat) : AV := .agg [.int .i64 m, .int .i64 l, .int .i64 k]
abbrev LeftIs (W : List (List Int)) (e : Int) (f : Nat) : Prop := ∀ (m l k c : Nat) (kvs : List (R3 × Int × Nat)), m < 2 ^ W.length → l < W.length → k ≤ 8 → unb W.length m = f → MemoOk W e kvs →
  FnEx Try.prog 87 [.ptr 3 [] 0 0, tsk m l k] 5 (planH W e c kvs) (fun a : Nat × List (R3 × Int × Nat) => MemoOk W e a.2) (fun _ => .int .i64 (Lt W e m l k)) 5 (fun a => [(4, .mp (.r3 a.1 a.2))])
/-- The step of the search for the least: one way. -/
theorem k_left1 (W : List (List Int)) (hW : okW W) (e : Int) (f : Nat) (hL : LeftIs W e f) (m l k c w : Nat) (kvs : List (R3 × Int × Nat)) (cost b : Int) (hm : m < 2 ^ W.length) (hl : l < W.length) (hk : k ≤ 8) (hu : unb W.length m = f) (hM : MemoOk W e kvs) (hc : 0 ≤ cost ∧ cost ≤ 1000) (hb : -1 ≤ b ∧ b ≤ 10000) :
    FnEx Try.prog 94 [.int .i64 w, .int .i64 cost, tsk m l k, .ptr 5 [] 0 0, .ptr 6 [] 0 0] 7 (planH W e c kvs ++ [(5, .flat false (.gen 1 [[.ptr 3 [] 0 0]])), (6, .flat true (.gen 1 [[.int .i64 b]]))]) (fun a : Nat × List (R3 × Int × Nat) => MemoOk W e a.2) (fun _ => .tuple []) 7 (fun a => [(4, .mp (.r3 a.1 a.2)), (6, .flat true (.gen 1 [[.int .i64 (minO b (candO (Lt W e m l k) cost))]]))]) := by
  have k1 := hL m l k c kvs hm hl hk hu hM
  have hr := Lt_bd9 hW (e := e) (m := m) (k := k) hl
  generalize Lt W e m l k = r at k1 hr ⊢
  refine ex_of_evk [] tok Try.func94 rfl rfl rfl ?_
  have hcv : (bif decide (0 ≤ r) then bif decide (b < 0) then true else decide (r + cost < b) else false) = decide (0 ≤ r ∧ (b < 0 ∨ r + cost < b)) := by
    by_cases h1 : 0 ≤ r <;> by_cases h2 : b < 0 <;> simp [h1, h2]
  by_cases hq : 0 ≤ r ∧ (b < 0 ∨ r + cost < b)
  · rw [decide_eq_true hq] at hcv
    have hv : minO b (candO r cost) = r + cost := by rw [candO, if_neg (by omega), minO, if_neg (by omega), if_pos hq.2]
    rw [hv]
    repeat' ((conv => whnf); first | done | refine ev_step ?_ | refine ops_step ?_ | refine scan_step ?_ | refine draw_step ?_ | refine each_step ?_ | refine sl_step ?_ | refine hp_step ?_ | refine guard_no (by decide) ?_ | refine guard_go ?_ | refine guard_old ?_ | apply cut_auto | with_reducible exact CutS.mk (Or.inl ⟨rfl, rfl, rfl⟩) | refine CutS.mk (Or.inr (sub_auto ?_)) | exact trivial | refine And.intro ?_ ?_ | (refine cond_split ?_ ?_ <;> intro hq_ <;> first | (exfalso; first | omega | (simp only [hcv, cond_true, cond_false, Bool.not_true, Bool.not_false, Bool.and_true, Bool.true_and, Bool.and_false, Bool.false_and, Bool.or_true, Bool.true_or, Bool.or_false, Bool.false_or, Bool.true_eq_false, Bool.false_eq_true, decide_true, decide_false, reduceCtorEq] at hq_; done) | (rw [decide_eq_false_iff_not] at hq_; omega) | (rw [decide_eq_true_eq] at hq_; omega) | (simp only [hcv, reduceCtorEq] at hq_; done) | exact Bool.noConfusion (Eq.trans (Eq.symm hcv) hq_)) | skip) | apply guess | apply FnEx.useF (k1) | exact Or.inl rfl | exact Or.inr rfl | exact Side.mk trivial | exact Side.mk (fun h => h) | exact Side.mk (fun h => ⟨h, h⟩) | with_reducible exact Side.mk rfl | with_reducible exact Side.mk ⟨rfl, rfl⟩ | with_reducible exact Side.mk (by assumption) | with_reducible rfl | intro _)
    all_goals try (conv => whnf)
    all_goals try (refine Side.mk ?_; first | (intros; omega) | (intro h1_ h2_; rw [h1_, h2_]; rfl) | (show List.length (_ ++ _) ≤ _; simp only [List.length_append, List.length_cons, List.length_nil, List.length_replicate, List.length_take]; omega) | (simp_all; done) | (simp_all; omega))
    rename_i a ha
    refine ⟨a, ha, ?_⟩
    repeat' ((conv => whnf); first | done | refine ev_step ?_ | refine ops_step ?_ | refine scan_step ?_ | refine draw_step ?_ | refine each_step ?_ | refine sl_step ?_ | refine hp_step ?_ | refine guard_no (by decide) ?_ | refine guard_go ?_ | refine guard_old ?_ | apply cut_auto | with_reducible exact CutS.mk (Or.inl ⟨rfl, rfl, rfl⟩) | refine CutS.mk (Or.inr (sub_auto ?_)) | exact trivial | refine And.intro ?_ ?_ | refine cond_split ?_ ?_ | apply guess | exact Or.inl rfl | exact Or.inr rfl | exact Side.mk trivial | exact Side.mk (fun h => h) | exact Side.mk (fun h => ⟨h, h⟩) | with_reducible exact Side.mk rfl | with_reducible exact Side.mk ⟨rfl, rfl⟩ | with_reducible exact Side.mk (by assumption) | with_reducible rfl | intro _)
    all_goals try (conv => whnf)
    all_goals first | rfl | trace_state
  · rw [decide_eq_false hq] at hcv
    have hv : minO b (candO r cost) = b := by
      unfold candO minO
      repeat' split
      all_goals first | rfl | omega
    rw [hv]
    repeat' ((conv => whnf); first | done | refine ev_step ?_ | refine ops_step ?_ | refine scan_step ?_ | refine draw_step ?_ | refine each_step ?_ | refine sl_step ?_ | refine hp_step ?_ | refine guard_no (by decide) ?_ | refine guard_go ?_ | refine guard_old ?_ | apply cut_auto | with_reducible exact CutS.mk (Or.inl ⟨rfl, rfl, rfl⟩) | refine CutS.mk (Or.inr (sub_auto ?_)) | exact trivial | refine And.intro ?_ ?_ | (refine cond_split ?_ ?_ <;> intro hq_ <;> first | (exfalso; first | omega | (simp only [hcv, cond_true, cond_false, Bool.not_true, Bool.not_false, Bool.and_true, Bool.true_and, Bool.and_false, Bool.false_and, Bool.or_true, Bool.true_or, Bool.or_false, Bool.false_or, Bool.true_eq_false, Bool.false_eq_true, decide_true, decide_false, reduceCtorEq] at hq_; done) | (rw [decide_eq_false_iff_not] at hq_; omega) | (rw [decide_eq_true_eq] at hq_; omega) | (simp only [hcv, reduceCtorEq] at hq_; done) | exact Bool.noConfusion (Eq.trans (Eq.symm hcv) hq_)) | skip) | apply guess | apply FnEx.useF (k1) | exact Or.inl rfl | exact Or.inr rfl | exact Side.mk trivial | exact Side.mk (fun h => h) | exact Side.mk (fun h => ⟨h, h⟩) | with_reducible exact Side.mk rfl | with_reducible exact Side.mk ⟨rfl, rfl⟩ | with_reducible exact Side.mk (by assumption) | with_reducible rfl | intro _)
    all_goals try (conv => whnf)
    all_goals try (refine Side.mk ?_; first | (intros; omega) | (intro h1_ h2_; rw [h1_, h2_]; rfl) | (show List.length (_ ++ _) ≤ _; simp only [List.length_append, List.length_cons, List.length_nil, List.length_replicate, List.length_take]; omega) | (simp_all; done) | (simp_all; omega))
    rename_i a ha
    refine ⟨a, ha, ?_⟩
    repeat' ((conv => whnf); first | done | refine ev_step ?_ | refine ops_step ?_ | refine scan_step ?_ | refine draw_step ?_ | refine each_step ?_ | refine sl_step ?_ | refine hp_step ?_ | refine guard_no (by decide) ?_ | refine guard_go ?_ | refine guard_old ?_ | apply cut_auto | with_reducible exact CutS.mk (Or.inl ⟨rfl, rfl, rfl⟩) | refine CutS.mk (Or.inr (sub_auto ?_)) | exact trivial | refine And.intro ?_ ?_ | refine cond_split ?_ ?_ | apply guess | exact Or.inl rfl | exact Or.inr rfl | exact Side.mk trivial | exact Side.mk (fun h => h) | exact Side.mk (fun h => ⟨h, h⟩) | with_reducible exact Side.mk rfl | with_reducible exact Side.mk ⟨rfl, rfl⟩ | with_reducible exact Side.mk (by assumption) | with_reducible rfl | intro _)
    all_goals try (conv => whnf)
    all_goals first | rfl | trace_state
theorem condSkip (a b c : Prop) [Decidable a] [Decidable b] [Decidable c] : (bif decide ((0 : Int) = 1) then true else bif decide a then !(decide b == decide c) else false) = decide (a ∧ (b ↔ ¬ c)) := by
  rw [decide_eq_false (show ¬ (0 : Int) = 1 by omega), cond_false]
  by_cases ha : a <;> by_cases hb : b <;> by_cases hc : c <;> simp [ha, hb, hc]
theorem k_left1G (W : List (List Int)) (hW : okW W) (e : Int) (f : Nat) (hL : LeftIs W e f) (d l sh w cost b : Int) (c : Nat) (kvs : List (R3 × Int × Nat)) (h : Side (True ∧ 0 ≤ d ∧ d.toNat < 2 ^ W.length ∧ unb W.length d.toNat = f ∧ 0 ≤ l ∧ l < W.length ∧ 0 ≤ sh ∧ sh ≤ 8 ∧ 0 ≤ w ∧ MemoOk W e kvs ∧ (0 ≤ cost ∧ cost ≤ 1000) ∧ -1 ≤ b ∧ b ≤ 10000)) :
    FnEx Try.prog 94 [.int .i64 w, .int .i64 cost, .agg [.int .i64 d, .int .i64 l, .int .i64 sh], .ptr 5 [] 0 0, .ptr 6 [] 0 0] 7 (planH W e c kvs ++ [(5, .flat false (.gen 1 [[.ptr 3 [] 0 0]])), (6, .flat true (.gen 1 [[.int .i64 b]]))]) (fun a : Nat × List (R3 × Int × Nat) => MemoOk W e a.2) (fun _ => .tuple []) 7 (fun a => [(4, .mp (.r3 a.1 a.2)), (6, .flat true (.gen 1 [[.int .i64 (minO b (candO (Lt W e d.toNat l.toNat sh.toNat) cost))]]))]) := by
  obtain ⟨_, h1, h2, h3, h4, h5, h6, h7, h8, h9, h10, h11⟩ := h.h
  have k := k_left1 W hW e f hL d.toNat l.toNat sh.toNat c w.toNat kvs cost b h2 (by omega) (by omega) h3 h9 h10 h11
  rw [show ((w.toNat : Nat) : Int) = w by omega] at k
  unfold tsk at k
  rw [show ((d.toNat : Nat) : Int) = d by omega, show ((l.toNat : Nat) : Int) = l by omega, show ((sh.toNat : Nat) : Int) = sh by omega] at k
  exact k
/-- All ways on. -/
theorem k_choicesL (W : List (List Int)) (hW : okW W) (e : Int) (f : Nat) (hL : LeftIs W e f) (m l k c : Nat) (kvs : List (R3 × Int × Nat)) (hm : m < 2 ^ W.length) (hl : l < W.length) (hk : k ≤ 8) (hu : unb W.length m = f + 1) (hM : MemoOk W e kvs) :
    FnEx Try.prog 88 [.ptr 3 [] 0 0, tsk m l k, .func 94 [.ptr 5 [] 0 0, .ptr 6 [] 0 0]] 7 (planH W e c kvs ++ [(5, .flat false (.gen 1 [[.ptr 3 [] 0 0]])), (6, .flat true (.gen 1 [[.int .i64 (-1)]]))]) (fun a : Nat × List (R3 × Int × Nat) => MemoOk W e a.2) (fun _ => .tuple []) 7 (fun a => [(4, .mp (.r3 a.1 a.2)), (6, .flat true (.gen 1 [[.int .i64 (Lt W e m l k)]]))]) := by
  have hn := hW.1
  have hP := pow9 hn.2
  have hsn := b_shl hn.2
  rw [Lt_step (by omega)]
  refine ex_of_evk [0, 1, 2, 4, 6, 7, 8, 17, 18, 19, 52, 81] tok Try.func88 rfl rfl rfl ?_
  repeat' ((conv => whnf); first | done | refine ev_step ?_ | refine ops_step ?_ | refine scan_step ?_ | refine draw_step ?_ | refine each_step ?_ | refine sl_step ?_ | refine hp_step ?_ | refine guard_no (by decide) ?_ | refine guard_go ?_ | refine guard_old ?_ | apply cut_auto | with_reducible exact CutS.mk (Or.inl ⟨rfl, rfl, rfl⟩) | refine CutS.mk (Or.inr (sub_auto ?_)) | exact trivial | refine And.intro ?_ ?_ | (refine cond_split ?_ ?_ <;> intro _ <;> first | (exfalso; first | omega | (simp only [decide_eq_true_eq, decide_eq_false_iff_not, Bool.not_eq_true', Bool.not_eq_false', ne_eq, Bool.not_true, Bool.not_false, cond_true, cond_false, Bool.true_eq_false, Bool.false_eq_true, Bool.and_eq_true, Bool.and_eq_false_iff] at *; omega)) | skip) | apply guess | exact Or.inl rfl | exact Or.inr rfl | exact Side.mk trivial | exact Side.mk (fun h => h) | exact Side.mk (fun h => ⟨h, h⟩) | with_reducible exact Side.mk rfl | with_reducible exact Side.mk ⟨rfl, rfl⟩ | with_reducible exact Side.mk (by assumption) | with_reducible rfl | intro _)
  all_goals try (conv => whnf)
  all_goals try (refine Side.mk ?_; first | (intros; omega) | (intro h1_ h2_; rw [h1_, h2_]; rfl) | (show List.length (_ ++ _) ≤ _; simp only [List.length_append, List.length_cons, List.length_nil, List.length_replicate, List.length_take]; omega) | (simp_all; done) | (simp_all; omega))
  refine loop_at (fun a : Nat × Nat × List (R3 × Int × Nat) => a.1 ≤ W.length ∧ MemoOk W e a.2.2) 8 (fun a => [(18, .int .i64 a.1)]) (fun a => [(4, .mp (.r3 a.2.1 a.2.2)), (6, .flat true (.gen 1 [[.int .i64 (LtT W e m l k a.1)]]))]) (fun a => W.length - a.1) (0, c, kvs) ⟨Nat.zero_le _, hM⟩ ?_ (fun a ha => ?_)
  · repeat' ((conv => whnf); first | done | refine ev_step ?_ | refine ops_step ?_ | refine scan_step ?_ | refine draw_step ?_ | refine each_step ?_ | refine sl_step ?_ | refine hp_step ?_ | refine guard_no (by decide) ?_ | refine guard_go ?_ | refine guard_old ?_ | apply cut_auto | with_reducible exact CutS.mk (Or.inl ⟨rfl, rfl, rfl⟩) | refine CutS.mk (Or.inr (sub_auto ?_)) | exact trivial | refine And.intro ?_ ?_ | refine cond_split ?_ ?_ | apply guess | exact Or.inl rfl | exact Or.inr rfl | exact Side.mk trivial | exact Side.mk (fun h => h) | exact Side.mk (fun h => ⟨h, h⟩) | with_reducible exact Side.mk rfl | with_reducible exact Side.mk ⟨rfl, rfl⟩ | with_reducible exact Side.mk (by assumption) | with_reducible rfl | intro _)
    all_goals try (conv => whnf)
    all_goals first | rfl | trace_state
  · obtain ⟨j, c2, kvs2⟩ := a
    obtain ⟨hj, hM2⟩ := ha
    dsimp only at hj hM2 ⊢
    have hb := LtT_bd9 hW (e := e) (m := m) (k := k) hl hj
    by_cases hj2 : j < W.length
    · have hbq := b_bit (m := m) (w := j) (by omega) (by omega)
      have hor := b_or (m := m) (w := j) (by omega) (by omega)
      have hwt := wt_nn hW hl hj2
      have lw := hW.2.1 l hl
      cases hbf : m.testBit j with
      | true =>
        rw [hbf, if_pos rfl] at hbq
        have hsk := LtT_skip (W := W) (e := e) (l := l) (k := k) hbf
        have hcc : ∀ X : Bool, (bif decide (andI .i64 (shrI .i64 (m : Int) (j : Int)) 1 = 1) then true else X) = true := fun X => by rw [decide_eq_true hbq]; rfl
        repeat' ((conv => whnf); first | done | refine ev_step ?_ | refine ops_step ?_ | refine scan_step ?_ | refine draw_step ?_ | refine each_step ?_ | refine sl_step ?_ | refine hp_step ?_ | refine guard_no (by decide) ?_ | refine guard_go ?_ | refine guard_old ?_ | apply cut_auto | with_reducible exact CutS.mk (Or.inl ⟨rfl, rfl, rfl⟩) | refine CutS.mk (Or.inr (sub_auto ?_)) | exact trivial | refine And.intro ?_ ?_ | (refine cond_split ?_ ?_ <;> intro hq_ <;> first | (exfalso; first | omega | (simp only [hcc, cond_true, cond_false, Bool.not_true, Bool.not_false, Bool.and_true, Bool.true_and, Bool.and_false, Bool.false_and, Bool.or_true, Bool.true_or, Bool.or_false, Bool.false_or, Bool.true_eq_false, Bool.false_eq_true, decide_true, decide_false, reduceCtorEq] at hq_; done) | (rw [decide_eq_false_iff_not] at hq_; omega) | (rw [decide_eq_true_eq] at hq_; omega) | (simp only [hcc, reduceCtorEq] at hq_; done) | exact Bool.noConfusion (Eq.trans (Eq.symm hcc) hq_)) | skip) | apply guess | exact Or.inl rfl | exact Or.inr rfl | exact Side.mk trivial | exact Side.mk (fun h => h) | exact Side.mk (fun h => ⟨h, h⟩) | with_reducible exact Side.mk rfl | with_reducible exact Side.mk ⟨rfl, rfl⟩ | with_reducible exact Side.mk (by assumption) | with_reducible rfl | intro _)
        all_goals try (conv => whnf)
        all_goals try (refine Side.mk ?_; first | (intros; omega) | (intro h1_ h2_; rw [h1_, h2_]; rfl) | (show List.length (_ ++ _) ≤ _; simp only [List.length_append, List.length_cons, List.length_nil, List.length_replicate, List.length_take]; omega) | (simp_all; done) | (simp_all; omega))
        all_goals try omega
        refine ⟨(j + 1, c2, kvs2), ⟨by dsimp only; omega, hM2⟩, by dsimp only; omega, ?_⟩
        repeat' ((conv => whnf); first | done | refine ev_step ?_ | refine ops_step ?_ | refine scan_step ?_ | refine draw_step ?_ | refine each_step ?_ | refine sl_step ?_ | refine hp_step ?_ | refine guard_no (by decide) ?_ | refine guard_go ?_ | refine guard_old ?_ | apply cut_auto | with_reducible exact CutS.mk (Or.inl ⟨rfl, rfl, rfl⟩) | refine CutS.mk (Or.inr (sub_auto ?_)) | exact trivial | refine And.intro ?_ ?_ | refine cond_split ?_ ?_ | apply guess | exact Or.inl rfl | exact Or.inr rfl | exact Side.mk trivial | exact Side.mk (fun h => h) | exact Side.mk (fun h => ⟨h, h⟩) | with_reducible exact Side.mk rfl | with_reducible exact Side.mk ⟨rfl, rfl⟩ | with_reducible exact Side.mk (by assumption) | with_reducible rfl | intro _)
        all_goals try (conv => whnf)
        all_goals first | rfl | omega | (rw [hsk]; done) | trace_state
      | false =>
        rw [hbf, if_neg (by simp)] at hbq
        have hS2 := add_lt hm hj2
        have hu2 := unb_add hbf hj2
        have hLs : LtT W e m l k (j + 1) = if 0 < k then minO (minO (LtT W e m l k j) (candO (Lt W e (m ||| 2 ^ j) j k) (wt W l j))) (candO (Lt W e (m ||| 2 ^ j) j (k - 1)) 0) else minO (LtT W e m l k j) (candO (Lt W e (m ||| 2 ^ j) j k) (wt W l j)) := by
          rw [LtT_succ, M0.stepG, if_neg (by rw [hbf]; simp)]
        have hallq : decide (orI .i64 (m : Int) (shlI .i64 1 (j : Int)) = shlI .i64 1 (W.length : Int) - 1) = decide (m ||| 2 ^ j = 2 ^ W.length - 1) := by
          rw [hor, hsn, decide_eq_decide]; omega
        have hcv : (bif decide (andI .i64 (shrI .i64 (m : Int) (j : Int)) 1 = 1) then true else bif decide (0 ≤ e) then !(decide ((j : Int) = e) == decide (orI .i64 (m : Int) (shlI .i64 1 (j : Int)) = shlI .i64 1 (W.length : Int) - 1)) else false) = decide (0 ≤ e ∧ (((j : Int) = e) ↔ ¬ (m ||| 2 ^ j = 2 ^ W.length - 1))) := by
          rw [hallq, hbq]
          exact condSkip _ _ _
        by_cases hq : 0 ≤ e ∧ (((j : Int) = e) ↔ ¬ (m ||| 2 ^ j = 2 ^ W.length - 1))
        · rw [decide_eq_true hq] at hcv
          have h1 := fun k' => Lt_skip hW hq.1 hm hj2 hbf hq.2 k'
          have hsk : LtT W e m l k (j + 1) = LtT W e m l k j := by
            rw [hLs, h1, h1]
            have : ∀ b c : Int, minO b (candO (-1) c) = b := fun b c => by rw [candO, if_pos (by omega), minO, if_pos (by omega)]
            rw [this, this]; split <;> rfl
          repeat' ((conv => whnf); first | done | refine ev_step ?_ | refine ops_step ?_ | refine scan_step ?_ | refine draw_step ?_ | refine each_step ?_ | refine sl_step ?_ | refine hp_step ?_ | refine guard_no (by decide) ?_ | refine guard_go ?_ | refine guard_old ?_ | apply cut_auto | with_reducible exact CutS.mk (Or.inl ⟨rfl, rfl, rfl⟩) | refine CutS.mk (Or.inr (sub_auto ?_)) | exact trivial | refine And.intro ?_ ?_ | (refine cond_split ?_ ?_ <;> intro hq_ <;> first | (exfalso; first | omega | (simp only [hcv, cond_true, cond_false, Bool.not_true, Bool.not_false, Bool.and_true, Bool.true_and, Bool.and_false, Bool.false_and, Bool.or_true, Bool.true_or, Bool.or_false, Bool.false_or, Bool.true_eq_false, Bool.false_eq_true, decide_true, decide_false, reduceCtorEq] at hq_; done) | (rw [decide_eq_false_iff_not] at hq_; omega) | (rw [decide_eq_true_eq] at hq_; omega) | (simp only [hcv, reduceCtorEq] at hq_; done) | exact Bool.noConfusion (Eq.trans (Eq.symm hcv) hq_)) | skip) | apply guess | exact Or.inl rfl | exact Or.inr rfl | exact Side.mk trivial | exact Side.mk (fun h => h) | exact Side.mk (fun h => ⟨h, h⟩) | with_reducible exact Side.mk rfl | with_reducible exact Side.mk ⟨rfl, rfl⟩ | with_reducible exact Side.mk (by assumption) | with_reducible rfl | intro _)
          all_goals try (conv => whnf)
          all_goals try (refine Side.mk ?_; first | (intros; omega) | (intro h1_ h2_; rw [h1_, h2_]; rfl) | (show List.length (_ ++ _) ≤ _; simp only [List.length_append, List.length_cons, List.length_nil, List.length_replicate, List.length_take]; omega) | (simp_all; done) | (simp_all; omega))
          all_goals try omega
          refine ⟨(j + 1, c2, kvs2), ⟨by dsimp only; omega, hM2⟩, by dsimp only; omega, ?_⟩
          repeat' ((conv => whnf); first | done | refine ev_step ?_ | refine ops_step ?_ | refine scan_step ?_ | refine draw_step ?_ | refine each_step ?_ | refine sl_step ?_ | refine hp_step ?_ | refine guard_no (by decide) ?_ | refine guard_go ?_ | refine guard_old ?_ | apply cut_auto | with_reducible exact CutS.mk (Or.inl ⟨rfl, rfl, rfl⟩) | refine CutS.mk (Or.inr (sub_auto ?_)) | exact trivial | refine And.intro ?_ ?_ | refine cond_split ?_ ?_ | apply guess | exact Or.inl rfl | exact Or.inr rfl | exact Side.mk trivial | exact Side.mk (fun h => h) | exact Side.mk (fun h => ⟨h, h⟩) | with_reducible exact Side.mk rfl | with_reducible exact Side.mk ⟨rfl, rfl⟩ | with_reducible exact Side.mk (by assumption) | with_reducible rfl | intro _)
          all_goals try (conv => whnf)
          all_goals first | rfl | omega | (rw [hsk]; done) | trace_state
        · rw [decide_eq_false hq] at hcv
          have hdn : (orI .i64 (m : Int) (shlI .i64 1 (j : Int))).toNat = m ||| 2 ^ j := by rw [hor]; rfl
          have hd0 : 0 ≤ orI .i64 (m : Int) (shlI .i64 1 (j : Int)) := by rw [hor]; omega
          have lw2 : (W.getD (l : Int).toNat []).length = W.length := lw
          have hwt2 : 0 ≤ (W.getD (l : Int).toNat []).getD (j : Int).toNat 0 ∧ (W.getD (l : Int).toNat []).getD (j : Int).toNat 0 ≤ 1000 := hwt
          have hb2 : -1 ≤ minO (LtT W e m l k j) (candO (Lt W e (m ||| 2 ^ j) j k) (wt W l j)) ∧ minO (LtT W e m l k j) (candO (Lt W e (m ||| 2 ^ j) j k) (wt W l j)) ≤ 10000 := by
            have hr := Lt_bd9 hW (e := e) (m := m ||| 2 ^ j) (k := k) hj2
            unfold minO candO
            repeat' split
            all_goals omega
          have hS1 : ∀ kvs', MemoOk W e kvs' → (True ∧ 0 ≤ orI .i64 (m : Int) (shlI .i64 1 (j : Int)) ∧ (orI .i64 (m : Int) (shlI .i64 1 (j : Int))).toNat < 2 ^ W.length ∧ unb W.length (orI .i64 (m : Int) (shlI .i64 1 (j : Int))).toNat = f ∧ 0 ≤ (j : Int) ∧ (j : Int) < W.length ∧ 0 ≤ (k : Int) ∧ (k : Int) ≤ 8 ∧ 0 ≤ (j : Int) ∧ MemoOk W e kvs' ∧ (0 ≤ (W.getD (l : Int).toNat []).getD (j : Int).toNat 0 ∧ (W.getD (l : Int).toNat []).getD (j : Int).toNat 0 ≤ 1000) ∧ -1 ≤ LtT W e m l k j ∧ LtT W e m l k j ≤ 10000) := fun kvs' h =>
            ⟨trivial, hd0, by rw [hdn]; exact hS2, by rw [hdn]; omega, by omega, by omega, by omega, by omega, by omega, h, hwt2, hb⟩
          by_cases hk0 : 0 < k
          · rw [if_pos hk0] at hLs
            have hk1 : ((k : Int) - 1).toNat = k - 1 := by omega
            have hS3 : ∀ kvs', MemoOk W e kvs' → (True ∧ 0 ≤ orI .i64 (m : Int) (shlI .i64 1 (j : Int)) ∧ (orI .i64 (m : Int) (shlI .i64 1 (j : Int))).toNat < 2 ^ W.length ∧ unb W.length (orI .i64 (m : Int) (shlI .i64 1 (j : Int))).toNat = f ∧ 0 ≤ (j : Int) ∧ (j : Int) < W.length ∧ 0 ≤ (k : Int) - 1 ∧ (k : Int) - 1 ≤ 8 ∧ 0 ≤ (j : Int) ∧ MemoOk W e kvs' ∧ (0 ≤ (0 : Int) ∧ (0 : Int) ≤ 1000) ∧ -1 ≤ minO (LtT W e m l k j) (candO (Lt W e (orI .i64 (m : Int) (shlI .i64 1 (j : Int))).toNat (j : Int).toNat (k : Int).toNat) ((W.getD (l : Int).toNat []).getD (j : Int).toNat 0)) ∧ minO (LtT W e m l k j) (candO (Lt W e (orI .i64 (m : Int) (shlI .i64 1 (j : Int))).toNat (j : Int).toNat (k : Int).toNat) ((W.getD (l : Int).toNat []).getD (j : Int).toNat 0)) ≤ 10000) := fun kvs' h =>
              ⟨trivial, hd0, by rw [hdn]; exact hS2, by rw [hdn]; omega, by omega, by omega, by omega, by omega, by omega, h, ⟨by omega, by omega⟩, by rw [hdn]; exact hb2⟩
            have k1 := k_left1G W hW e f hL _ _ _ _ _ _ c2 kvs2 (Side.mk (hS1 kvs2 hM2))
            repeat' ((conv => whnf); first | done | refine ev_step ?_ | refine ops_step ?_ | refine scan_step ?_ | refine draw_step ?_ | refine each_step ?_ | refine sl_step ?_ | refine hp_step ?_ | refine guard_no (by decide) ?_ | refine guard_go ?_ | refine guard_old ?_ | with_reducible exact CutS.mk (Or.inl ⟨rfl, rfl, rfl⟩) | refine CutS.mk (Or.inr (sub_auto ?_)) | exact trivial | refine And.intro ?_ ?_ | (refine cond_split ?_ ?_ <;> intro hq_ <;> first | (exfalso; first | omega | (simp only [hcv, cond_true, cond_false, Bool.not_true, Bool.not_false, Bool.and_true, Bool.true_and, Bool.and_false, Bool.false_and, Bool.or_true, Bool.true_or, Bool.or_false, Bool.false_or, Bool.true_eq_false, Bool.false_eq_true, decide_true, decide_false, reduceCtorEq] at hq_; done) | (rw [decide_eq_false_iff_not] at hq_; omega) | (rw [decide_eq_true_eq] at hq_; omega) | (simp only [hcv, reduceCtorEq] at hq_; done) | exact Bool.noConfusion (Eq.trans (Eq.symm hcv) hq_)) | skip) | apply guess | exact Or.inl rfl | exact Or.inr rfl | exact Side.mk trivial | exact Side.mk (fun h => h) | exact Side.mk (fun h => ⟨h, h⟩) | with_reducible exact Side.mk rfl | with_reducible exact Side.mk ⟨rfl, rfl⟩ | with_reducible exact Side.mk (by assumption) | with_reducible rfl | intro _)
            apply cut_auto
            repeat' ((conv => whnf); first | done | refine ev_step ?_ | refine ops_step ?_ | refine scan_step ?_ | refine draw_step ?_ | refine each_step ?_ | refine sl_step ?_ | refine hp_step ?_ | refine guard_no (by decide) ?_ | refine guard_go ?_ | refine guard_old ?_ | with_reducible exact CutS.mk (Or.inl ⟨rfl, rfl, rfl⟩) | refine CutS.mk (Or.inr (sub_auto ?_)) | exact trivial | refine And.intro ?_ ?_ | (refine cond_split ?_ ?_ <;> intro hq_ <;> first | (exfalso; first | omega | (simp only [hcv, cond_true, cond_false, Bool.not_true, Bool.not_false, Bool.and_true, Bool.true_and, Bool.and_false, Bool.false_and, Bool.or_true, Bool.true_or, Bool.or_false, Bool.false_or, Bool.true_eq_false, Bool.false_eq_true, decide_true, decide_false, reduceCtorEq] at hq_; done) | (rw [decide_eq_false_iff_not] at hq_; omega) | (rw [decide_eq_true_eq] at hq_; omega) | (simp only [hcv, reduceCtorEq] at hq_; done) | exact Bool.noConfusion (Eq.trans (Eq.symm hcv) hq_)) | skip) | apply guess | exact Or.inl rfl | exact Or.inr rfl | exact Side.mk trivial | exact Side.mk (fun h => h) | exact Side.mk (fun h => ⟨h, h⟩) | with_reducible exact Side.mk rfl | with_reducible exact Side.mk ⟨rfl, rfl⟩ | with_reducible exact Side.mk (by assumption) | with_reducible rfl | intro _)
            all_goals try (refine Side.mk ?_; first | (intros; omega) | (intro h1_ h2_; rw [h1_, h2_]; rfl) | (show List.length (_ ++ _) ≤ _; simp only [List.length_append, List.length_cons, List.length_nil, List.length_replicate, List.length_take]; omega) | (simp_all; done) | (simp_all; omega))
            all_goals try omega
            conv => whnf
            refine CutG.mk (Or.inl ?_)
            repeat' ((conv => whnf); first | done | refine ev_step ?_ | refine ops_step ?_ | refine scan_step ?_ | refine draw_step ?_ | refine each_step ?_ | refine sl_step ?_ | refine hp_step ?_ | refine guard_no (by decide) ?_ | refine guard_go ?_ | refine guard_old ?_ | with_reducible exact CutS.mk (Or.inl ⟨rfl, rfl, rfl⟩) | refine CutS.mk (Or.inr (sub_auto ?_)) | exact trivial | refine And.intro ?_ ?_ | (refine cond_split ?_ ?_ <;> intro hq_ <;> first | (exfalso; first | omega | (simp only [hcv, cond_true, cond_false, Bool.not_true, Bool.not_false, Bool.and_true, Bool.true_and, Bool.and_false, Bool.false_and, Bool.or_true, Bool.true_or, Bool.or_false, Bool.false_or, Bool.true_eq_false, Bool.false_eq_true, decide_true, decide_false, reduceCtorEq] at hq_; done) | (rw [decide_eq_false_iff_not] at hq_; omega) | (rw [decide_eq_true_eq] at hq_; omega) | (simp only [hcv, reduceCtorEq] at hq_; done) | exact Bool.noConfusion (Eq.trans (Eq.symm hcv) hq_)) | skip) | apply guess | apply FnEx.useF (k1) | exact Or.inl rfl | exact Or.inr rfl | exact Side.mk trivial | exact Side.mk (fun h => h) | exact Side.mk (fun h => ⟨h, h⟩) | with_reducible exact Side.mk rfl | with_reducible exact Side.mk ⟨rfl, rfl⟩ | with_reducible exact Side.mk (by assumption) | with_reducible rfl | intro _)
            all_goals try (refine Side.mk ?_; first | (intros; omega) | (intro h1_ h2_; rw [h1_, h2_]; rfl) | (show List.length (_ ++ _) ≤ _; simp only [List.length_append, List.length_cons, List.length_nil, List.length_replicate, List.length_take]; omega) | (simp_all; done) | (simp_all; omega))
            all_goals try omega
            rename_i a ha
            have k2 := k_left1G W hW e f hL _ _ _ _ _ _ a.1 a.2 (Side.mk (hS3 _ ha))
            conv => whnf
            refine CutG.mk (Or.inl ?_)
            repeat' ((conv => whnf); first | done | refine ev_step ?_ | refine ops_step ?_ | refine scan_step ?_ | refine draw_step ?_ | refine each_step ?_ | refine sl_step ?_ | refine hp_step ?_ | refine guard_no (by decide) ?_ | refine guard_go ?_ | refine guard_old ?_ | with_reducible exact CutS.mk (Or.inl ⟨rfl, rfl, rfl⟩) | refine CutS.mk (Or.inr (sub_auto ?_)) | exact trivial | refine And.intro ?_ ?_ | (refine cond_split ?_ ?_ <;> intro hq_ <;> first | (exfalso; first | omega | (simp only [hcv, cond_true, cond_false, Bool.not_true, Bool.not_false, Bool.and_true, Bool.true_and, Bool.and_false, Bool.false_and, Bool.or_true, Bool.true_or, Bool.or_false, Bool.false_or, Bool.true_eq_false, Bool.false_eq_true, decide_true, decide_false, reduceCtorEq] at hq_; done) | (rw [decide_eq_false_iff_not] at hq_; omega) | (rw [decide_eq_true_eq] at hq_; omega) | (simp only [hcv, reduceCtorEq] at hq_; done) | exact Bool.noConfusion (Eq.trans (Eq.symm hcv) hq_)) | skip) | apply guess | apply FnEx.useF (k2) | exact Or.inl rfl | exact Or.inr rfl | exact Side.mk trivial | exact Side.mk (fun h => h) | exact Side.mk (fun h => ⟨h, h⟩) | with_reducible exact Side.mk rfl | with_reducible exact Side.mk ⟨rfl, rfl⟩ | with_reducible exact Side.mk (by assumption) | with_reducible rfl | intro _)
            all_goals try (refine Side.mk ?_; first | (intros; omega) | (intro h1_ h2_; rw [h1_, h2_]; rfl) | (show List.length (_ ++ _) ≤ _; simp only [List.length_append, List.length_cons, List.length_nil, List.length_replicate, List.length_take]; omega) | (simp_all; done) | (simp_all; omega))
            all_goals try omega
            rename_i a2 ha2
            refine ⟨(j + 1, a2.1, a2.2), ⟨by dsimp only; omega, ha2⟩, by dsimp only; omega, ?_⟩
            repeat' ((conv => whnf); first | done | refine ev_step ?_ | refine ops_step ?_ | refine scan_step ?_ | refine draw_step ?_ | refine each_step ?_ | refine sl_step ?_ | refine hp_step ?_ | refine guard_no (by decide) ?_ | refine guard_go ?_ | refine guard_old ?_ | apply cut_auto | with_reducible exact CutS.mk (Or.inl ⟨rfl, rfl, rfl⟩) | refine CutS.mk (Or.inr (sub_auto ?_)) | exact trivial | refine And.intro ?_ ?_ | refine cond_split ?_ ?_ | apply guess | exact Or.inl rfl | exact Or.inr rfl | exact Side.mk trivial | exact Side.mk (fun h => h) | exact Side.mk (fun h => ⟨h, h⟩) | with_reducible exact Side.mk rfl | with_reducible exact Side.mk ⟨rfl, rfl⟩ | with_reducible exact Side.mk (by assumption) | with_reducible rfl | intro _)
            all_goals try (conv => whnf)
            all_goals first | rfl | omega | (rw [hLs, hdn, hk1]; rfl) | trace_state
          · rw [if_neg hk0] at hLs
            have k1 := k_left1G W hW e f hL _ _ _ _ _ _ c2 kvs2 (Side.mk (hS1 kvs2 hM2))
            repeat' ((conv => whnf); first | done | refine ev_step ?_ | refine ops_step ?_ | refine scan_step ?_ | refine draw_step ?_ | refine each_step ?_ | refine sl_step ?_ | refine hp_step ?_ | refine guard_no (by decide) ?_ | refine guard_go ?_ | refine guard_old ?_ | with_reducible exact CutS.mk (Or.inl ⟨rfl, rfl, rfl⟩) | refine CutS.mk (Or.inr (sub_auto ?_)) | exact trivial | refine And.intro ?_ ?_ | (refine cond_split ?_ ?_ <;> intro hq_ <;> first | (exfalso; first | omega | (simp only [hcv, cond_true, cond_false, Bool.not_true, Bool.not_false, Bool.and_true, Bool.true_and, Bool.and_false, Bool.false_and, Bool.or_true, Bool.true_or, Bool.or_false, Bool.false_or, Bool.true_eq_false, Bool.false_eq_true, decide_true, decide_false, reduceCtorEq] at hq_; done) | (rw [decide_eq_false_iff_not] at hq_; omega) | (rw [decide_eq_true_eq] at hq_; omega) | (simp only [hcv, reduceCtorEq] at hq_; done) | exact Bool.noConfusion (Eq.trans (Eq.symm hcv) hq_)) | skip) | apply guess | exact Or.inl rfl | exact Or.inr rfl | exact Side.mk trivial | exact Side.mk (fun h => h) | exact Side.mk (fun h => ⟨h, h⟩) | with_reducible exact Side.mk rfl | with_reducible exact Side.mk ⟨rfl, rfl⟩ | with_reducible exact Side.mk (by assumption) | with_reducible rfl | intro _)
            apply cut_auto
            repeat' ((conv => whnf); first | done | refine ev_step ?_ | refine ops_step ?_ | refine scan_step ?_ | refine draw_step ?_ | refine each_step ?_ | refine sl_step ?_ | refine hp_step ?_ | refine guard_no (by decide) ?_ | refine guard_go ?_ | refine guard_old ?_ | with_reducible exact CutS.mk (Or.inl ⟨rfl, rfl, rfl⟩) | refine CutS.mk (Or.inr (sub_auto ?_)) | exact trivial | refine And.intro ?_ ?_ | (refine cond_split ?_ ?_ <;> intro hq_ <;> first | (exfalso; first | omega | (simp only [hcv, cond_true, cond_false, Bool.not_true, Bool.not_false, Bool.and_true, Bool.true_and, Bool.and_false, Bool.false_and, Bool.or_true, Bool.true_or, Bool.or_false, Bool.false_or, Bool.true_eq_false, Bool.false_eq_true, decide_true, decide_false, reduceCtorEq] at hq_; done) | (rw [decide_eq_false_iff_not] at hq_; omega) | (rw [decide_eq_true_eq] at hq_; omega) | (simp only [hcv, reduceCtorEq] at hq_; done) | exact Bool.noConfusion (Eq.trans (Eq.symm hcv) hq_)) | skip) | apply guess | exact Or.inl rfl | exact Or.inr rfl | exact Side.mk trivial | exact Side.mk (fun h => h) | exact Side.mk (fun h => ⟨h, h⟩) | with_reducible exact Side.mk rfl | with_reducible exact Side.mk ⟨rfl, rfl⟩ | with_reducible exact Side.mk (by assumption) | with_reducible rfl | intro _)
            all_goals try (refine Side.mk ?_; first | (intros; omega) | (intro h1_ h2_; rw [h1_, h2_]; rfl) | (show List.length (_ ++ _) ≤ _; simp only [List.length_append, List.length_cons, List.length_nil, List.length_replicate, List.length_take]; omega) | (simp_all; done) | (simp_all; omega))
            all_goals try omega
            conv => whnf
            refine CutG.mk (Or.inl ?_)
            repeat' ((conv => whnf); first | done | refine ev_step ?_ | refine ops_step ?_ | refine scan_step ?_ | refine draw_step ?_ | refine each_step ?_ | refine sl_step ?_ | refine hp_step ?_ | refine guard_no (by decide) ?_ | refine guard_go ?_ | refine guard_old ?_ | with_reducible exact CutS.mk (Or.inl ⟨rfl, rfl, rfl⟩) | refine CutS.mk (Or.inr (sub_auto ?_)) | exact trivial | refine And.intro ?_ ?_ | (refine cond_split ?_ ?_ <;> intro hq_ <;> first | (exfalso; first | omega | (simp only [hcv, cond_true, cond_false, Bool.not_true, Bool.not_false, Bool.and_true, Bool.true_and, Bool.and_false, Bool.false_and, Bool.or_true, Bool.true_or, Bool.or_false, Bool.false_or, Bool.true_eq_false, Bool.false_eq_true, decide_true, decide_false, reduceCtorEq] at hq_; done) | (rw [decide_eq_false_iff_not] at hq_; omega) | (rw [decide_eq_true_eq] at hq_; omega) | (simp only [hcv, reduceCtorEq] at hq_; done) | exact Bool.noConfusion (Eq.trans (Eq.symm hcv) hq_)) | skip) | apply guess | apply FnEx.useF (k1) | exact Or.inl rfl | exact Or.inr rfl | exact Side.mk trivial | exact Side.mk (fun h => h) | exact Side.mk (fun h => ⟨h, h⟩) | with_reducible exact Side.mk rfl | with_reducible exact Side.mk ⟨rfl, rfl⟩ | with_reducible exact Side.mk (by assumption) | with_reducible rfl | intro _)
            all_goals try (refine Side.mk ?_; first | (intros; omega) | (intro h1_ h2_; rw [h1_, h2_]; rfl) | (show List.length (_ ++ _) ≤ _; simp only [List.length_append, List.length_cons, List.length_nil, List.length_replicate, List.length_take]; omega) | (simp_all; done) | (simp_all; omega))
            all_goals try omega
            rename_i a ha
            refine ⟨(j + 1, a.1, a.2), ⟨by dsimp only; omega, ha⟩, by dsimp only; omega, ?_⟩
            repeat' ((conv => whnf); first | done | refine ev_step ?_ | refine ops_step ?_ | refine scan_step ?_ | refine draw_step ?_ | refine each_step ?_ | refine sl_step ?_ | refine hp_step ?_ | refine guard_no (by decide) ?_ | refine guard_go ?_ | refine guard_old ?_ | apply cut_auto | with_reducible exact CutS.mk (Or.inl ⟨rfl, rfl, rfl⟩) | refine CutS.mk (Or.inr (sub_auto ?_)) | exact trivial | refine And.intro ?_ ?_ | refine cond_split ?_ ?_ | apply guess | exact Or.inl rfl | exact Or.inr rfl | exact Side.mk trivial | exact Side.mk (fun h => h) | exact Side.mk (fun h => ⟨h, h⟩) | with_reducible exact Side.mk rfl | with_reducible exact Side.mk ⟨rfl, rfl⟩ | with_reducible exact Side.mk (by assumption) | with_reducible rfl | intro _)
            all_goals try (conv => whnf)
            all_goals first | rfl | omega | (rw [hLs, hdn]; rfl) | trace_state
    · obtain rfl : j = W.length := by omega
      repeat' ((conv => whnf); first | done | refine ev_step ?_ | refine ops_step ?_ | refine scan_step ?_ | refine draw_step ?_ | refine each_step ?_ | refine sl_step ?_ | refine hp_step ?_ | refine guard_no (by decide) ?_ | refine guard_go ?_ | refine guard_old ?_ | apply cut_auto | with_reducible exact CutS.mk (Or.inl ⟨rfl, rfl, rfl⟩) | refine CutS.mk (Or.inr (sub_auto ?_)) | exact trivial | refine And.intro ?_ ?_ | (refine cond_split ?_ ?_ <;> intro _ <;> first | (exfalso; first | omega | (simp only [decide_eq_true_eq, decide_eq_false_iff_not, Bool.not_eq_true', Bool.not_eq_false', ne_eq, Bool.not_true, Bool.not_false, cond_true, cond_false, Bool.true_eq_false, Bool.false_eq_true, Bool.and_eq_true, Bool.and_eq_false_iff] at *; omega)) | skip) | apply guess | exact Or.inl rfl | exact Or.inr rfl | exact Side.mk trivial | exact Side.mk (fun h => h) | exact Side.mk (fun h => ⟨h, h⟩) | with_reducible exact Side.mk rfl | with_reducible exact Side.mk ⟨rfl, rfl⟩ | with_reducible exact Side.mk (by assumption) | with_reducible rfl | intro _)
      all_goals try (conv => whnf)
      all_goals try (refine Side.mk ?_; first | (intros; omega) | (intro h1_ h2_; rw [h1_, h2_]; rfl) | (show List.length (_ ++ _) ≤ _; simp only [List.length_append, List.length_cons, List.length_nil, List.length_replicate, List.length_take]; omega) | (simp_all; done) | (simp_all; omega))
      refine ⟨(c2, kvs2), hM2, ?_⟩
      repeat' ((conv => whnf); first | done | refine ev_step ?_ | refine ops_step ?_ | refine scan_step ?_ | refine draw_step ?_ | refine each_step ?_ | refine sl_step ?_ | refine hp_step ?_ | refine guard_no (by decide) ?_ | refine guard_go ?_ | refine guard_old ?_ | apply cut_auto | with_reducible exact CutS.mk (Or.inl ⟨rfl, rfl, rfl⟩) | refine CutS.mk (Or.inr (sub_auto ?_)) | exact trivial | refine And.intro ?_ ?_ | refine cond_split ?_ ?_ | apply guess | exact Or.inl rfl | exact Or.inr rfl | exact Side.mk trivial | exact Side.mk (fun h => h) | exact Side.mk (fun h => ⟨h, h⟩) | with_reducible exact Side.mk rfl | with_reducible exact Side.mk ⟨rfl, rfl⟩ | with_reducible exact Side.mk (by assumption) | with_reducible rfl | intro _)
      all_goals try (conv => whnf)
      all_goals first | rfl | trace_state
end Go.Sx.U
