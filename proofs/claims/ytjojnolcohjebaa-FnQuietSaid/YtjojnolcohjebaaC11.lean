/-
  FnQuiet, as a contract.
-/
import Derived.Test.YtjojnolcohjebaaM0T
import Derived.Test.YtjojnolcohjebaaK7
import Derived.Test.YtjojnolcohjebaaKR2
import Derived.Test.YtjojnolcohjebaaC8
set_option linter.unusedSimpArgs false
namespace Go.Sx
set_option linter.unusedVariables false
set_option linter.unusedSimpArgs false
set_option maxRecDepth 100000
set_option maxHeartbeats 8000000
open Go
def inH (k : Nat) (o : AObj) : Heap → Prop
  | [] => False
  | (k', o') :: r => bif Nat.beq k' k then o' = o else inH k o r
def subH : Heap → Heap → Prop
  | [], _ => True
  | (k, o) :: r, g => inH k o g ∧ subH r g
theorem inH_get {k : Nat} {o : AObj} : ∀ {g : Heap}, inH k o g → hget g k = some o
  | [], h => by simp only [inH] at h
  | (k', o') :: r, h => by
    simp only [inH] at h
    simp only [hget]
    cases hb : Nat.beq k' k with
    | true => rw [hb] at h; simp only [cond_true] at h ⊢; rw [h]
    | false => rw [hb] at h; simp only [cond_false] at h ⊢; exact inH_get h
theorem subH_get : ∀ {G g : Heap}, subH G g → ∀ i o, hget G i = some o → hget g i = some o
  | [], _, _, i, o, h => by simp [hget] at h
  | (k, x) :: r, g, hs, i, o, h => by
    simp only [subH] at hs
    simp only [hget] at h
    cases hb : Nat.beq k i with
    | true =>
      rw [hb] at h
      simp only [cond_true, Option.some.injEq] at h
      have := Nat.eq_of_beq_eq_true hb
      subst this h
      exact inH_get hs.1
    | false => rw [hb] at h; simp only [cond_false] at h; exact subH_get hs.2 i o h
theorem ACall.subG {P : Program} {f : Nat} {args : List AV} {N : Nat} {G : Heap} {K K' : AV → Nat → Heap → Prop} (h : ACall P f args N G K) (hk : ∀ a n g, K a n g → ∃ g', (∀ i o, hget g' i = some o → hget g i = some o) ∧ K' a n g') : ACall P f args N G K' :=
  ⟨h.1, fun ρ w cargs hH hv => (h.2 ρ w cargs hH hv).mono fun _ _ ⟨v, he, ho⟩ => ⟨v, he, by
    obtain ⟨av, ρ', N', G', h1, h2, h3, h4, h5, h6, h7⟩ := ho.ex
    obtain ⟨g', s1, s2⟩ := hk _ _ _ h1
    refine ⟨⟨av, ρ', N', g', s2, h2, h3.sub s1, h4, h5, h6, fun b hb => h7 b ?_⟩⟩
    obtain ⟨id, p, nd, hn, ht⟩ := hb
    obtain ⟨o, q1, q2⟩ := hn.ex
    exact ⟨id, p, nd, ⟨⟨o, s1 _ _ q1, q2⟩⟩, ht⟩⟩⟩
/-- A call that changes nothing leaves the caller's heap as it stands. -/
theorem FnIs.useS {P : Program} {f : Nat} {args0 : List AV} {N0 : Nat} {G0 : Heap} {v : AV} {n : Nat} {g : Heap} (h : FnIs P f args0 N0 G0 v n g) {args : List AV} {N : Nat} {G : Heap} {K : AV → Nat → Heap → Prop}
    (hu : Go.Sx.useF args0 N0 G0 (isR N0 G0 v n g) [] args0 args N G fun a n g => subH G g ∧ K a n G) : ACall P f args N G K := (h.useF hu).subG fun _ _ _ ⟨h1, h2⟩ => ⟨_, subH_get h1, h2⟩
end Go.Sx
namespace Go.Sx.U
open Go Go.Sx Go.Proofs Go.Sx.M0

theorem k_r8Greatest (xs : List Int) (h : Side (xs.length ≤ 1048577)) : FnIs Try.prog 38 [.sl 0 []] 1 [(0, .flat false (.ints .i64 xs))] (.int .i64 (greatI xs)) 1 [] := by
  have h := h.h
  refine fn_of_ev tok Try.func38 rfl rfl rfl ?_
  repeat' ((conv => whnf); first | done | refine ev_step ?_ | refine ops_step ?_ | refine scan_step ?_ | refine draw_step ?_ | refine each_step ?_ | refine sl_step ?_ | refine hp_step ?_ | refine guard_no (by decide) ?_ | refine guard_go ?_ | apply cut_auto | with_reducible exact CutS.mk (Or.inl ⟨rfl, rfl, rfl⟩) | refine CutS.mk (Or.inr (sub_auto ?_)) | exact trivial | refine And.intro ?_ ?_ | refine cond_split ?_ ?_ | apply guess | exact Or.inl rfl | exact Or.inr rfl | exact Side.mk trivial | exact Side.mk (fun h => h) | exact Side.mk (fun h => ⟨h, h⟩) | with_reducible exact Side.mk rfl | with_reducible exact Side.mk ⟨rfl, rfl⟩ | with_reducible exact Side.mk (by assumption) | with_reducible rfl | intro _)
  all_goals try (conv => whnf)
  refine loop_at (fun i : Nat => i ≤ xs.length) 4 (fun i => [(3, .int .i64 (greatT xs i)), (4, .int .i64 i)]) (fun i => []) (fun i => xs.length - i) 0 (Nat.zero_le _) ?_ (fun i hi => ?_)
  · repeat' ((conv => whnf); first | done | refine ev_step ?_ | refine ops_step ?_ | refine scan_step ?_ | refine draw_step ?_ | refine each_step ?_ | refine sl_step ?_ | refine hp_step ?_ | refine guard_no (by decide) ?_ | refine guard_go ?_ | apply cut_auto | with_reducible exact CutS.mk (Or.inl ⟨rfl, rfl, rfl⟩) | refine CutS.mk (Or.inr (sub_auto ?_)) | exact trivial | refine And.intro ?_ ?_ | refine cond_split ?_ ?_ | apply guess | exact Or.inl rfl | exact Or.inr rfl | exact Side.mk trivial | exact Side.mk (fun h => h) | exact Side.mk (fun h => ⟨h, h⟩) | with_reducible exact Side.mk rfl | with_reducible exact Side.mk ⟨rfl, rfl⟩ | with_reducible exact Side.mk (by assumption) | with_reducible rfl | intro _)
    all_goals try (conv => whnf)
    all_goals first | rfl | trace_state
  · by_cases hlt : i < xs.length
    · have e := greatT_succ hlt
      repeat' ((conv => whnf); first | done | refine ev_step ?_ | refine ops_step ?_ | refine scan_step ?_ | refine draw_step ?_ | refine each_step ?_ | refine sl_step ?_ | refine hp_step ?_ | refine guard_no (by decide) ?_ | refine guard_go ?_ | apply cut_auto | with_reducible exact CutS.mk (Or.inl ⟨rfl, rfl, rfl⟩) | refine CutS.mk (Or.inr (sub_auto ?_)) | exact trivial | refine And.intro ?_ ?_ | (refine cond_split ?_ ?_ <;> intro _ <;> first | (exfalso; first | omega | (simp only [decide_eq_true_eq, decide_eq_false_iff_not, Bool.not_eq_true', Bool.not_eq_false', ne_eq, Bool.not_true, Bool.not_false, cond_true, cond_false, Bool.true_eq_false, Bool.false_eq_true, Bool.and_eq_true, Bool.and_eq_false_iff] at *; omega)) | skip) | apply guess | exact Or.inl rfl | exact Or.inr rfl | exact Side.mk trivial | exact Side.mk (fun h => h) | exact Side.mk (fun h => ⟨h, h⟩) | with_reducible exact Side.mk rfl | with_reducible exact Side.mk ⟨rfl, rfl⟩ | with_reducible exact Side.mk (by assumption) | with_reducible rfl | intro _)
      all_goals try (conv => whnf)
      all_goals try (refine Side.mk ?_; first | (intros; omega) | (show List.length (_ ++ _) ≤ _; simp only [List.length_append, List.length_cons, List.length_nil, List.length_replicate, List.length_take]; omega) | (simp_all; done) | (simp_all; omega))
      all_goals try omega
      all_goals simp only [Int.toNat_natCast, decide_eq_true_eq, decide_eq_false_iff_not] at *
      · rename_i hg
        rw [if_pos hg] at e
        refine ⟨i + 1, by omega, by omega, ?_⟩
        repeat' ((conv => whnf); first | done | refine ev_step ?_ | refine ops_step ?_ | refine scan_step ?_ | refine draw_step ?_ | refine each_step ?_ | refine sl_step ?_ | refine hp_step ?_ | refine guard_no (by decide) ?_ | refine guard_go ?_ | apply cut_auto | with_reducible exact CutS.mk (Or.inl ⟨rfl, rfl, rfl⟩) | refine CutS.mk (Or.inr (sub_auto ?_)) | exact trivial | refine And.intro ?_ ?_ | refine cond_split ?_ ?_ | apply guess | exact Or.inl rfl | exact Or.inr rfl | exact Side.mk trivial | exact Side.mk (fun h => h) | exact Side.mk (fun h => ⟨h, h⟩) | with_reducible exact Side.mk rfl | with_reducible exact Side.mk ⟨rfl, rfl⟩ | with_reducible exact Side.mk (by assumption) | with_reducible rfl | intro _)
        all_goals try (conv => whnf)
        all_goals first | rfl | omega | exact e | exact e.symm | trace_state
      · rename_i hg
        rw [if_neg hg] at e
        refine ⟨i + 1, by omega, by omega, ?_⟩
        repeat' ((conv => whnf); first | done | refine ev_step ?_ | refine ops_step ?_ | refine scan_step ?_ | refine draw_step ?_ | refine each_step ?_ | refine sl_step ?_ | refine hp_step ?_ | refine guard_no (by decide) ?_ | refine guard_go ?_ | apply cut_auto | with_reducible exact CutS.mk (Or.inl ⟨rfl, rfl, rfl⟩) | refine CutS.mk (Or.inr (sub_auto ?_)) | exact trivial | refine And.intro ?_ ?_ | refine cond_split ?_ ?_ | apply guess | exact Or.inl rfl | exact Or.inr rfl | exact Side.mk trivial | exact Side.mk (fun h => h) | exact Side.mk (fun h => ⟨h, h⟩) | with_reducible exact Side.mk rfl | with_reducible exact Side.mk ⟨rfl, rfl⟩ | with_reducible exact Side.mk (by assumption) | with_reducible rfl | intro _)
        all_goals try (conv => whnf)
        all_goals first | rfl | omega | exact e | exact e.symm | trace_state
    · obtain rfl : i = xs.length := by omega
      have e : greatT xs xs.length = greatI xs := by unfold greatT; rw [List.take_length]
      rw [← e]
      repeat' ((conv => whnf); first | done | refine ev_step ?_ | refine ops_step ?_ | refine scan_step ?_ | refine draw_step ?_ | refine each_step ?_ | refine sl_step ?_ | refine hp_step ?_ | refine guard_no (by decide) ?_ | refine guard_go ?_ | apply cut_auto | with_reducible exact CutS.mk (Or.inl ⟨rfl, rfl, rfl⟩) | refine CutS.mk (Or.inr (sub_auto ?_)) | exact trivial | refine And.intro ?_ ?_ | (refine cond_split ?_ ?_ <;> intro _ <;> first | (exfalso; first | omega | (simp only [decide_eq_true_eq, decide_eq_false_iff_not, Bool.not_eq_true', Bool.not_eq_false', ne_eq, Bool.not_true, Bool.not_false, cond_true, cond_false, Bool.true_eq_false, Bool.false_eq_true, Bool.and_eq_true, Bool.and_eq_false_iff] at *; omega)) | skip) | apply guess | exact Or.inl rfl | exact Or.inr rfl | exact Side.mk trivial | exact Side.mk (fun h => h) | exact Side.mk (fun h => ⟨h, h⟩) | with_reducible exact Side.mk rfl | with_reducible exact Side.mk ⟨rfl, rfl⟩ | with_reducible exact Side.mk (by assumption) | with_reducible rfl | intro _)
      all_goals try (conv => whnf)
      all_goals try (refine Side.mk ?_; first | (intros; omega) | (show List.length (_ ++ _) ≤ _; simp only [List.length_append, List.length_cons, List.length_nil, List.length_replicate, List.length_take]; omega) | (simp_all; done) | (simp_all; omega))
      all_goals first | rfl | omega | trace_state
theorem k_r8Sum (xs : List Int) (h : Side (xs.length ≤ 1048577 ∧ ∀ k, k < xs.length → 0 ≤ xs.getD k 0 ∧ xs.getD k 0 ≤ 16000)) : FnIs Try.prog 39 [.sl 0 []] 1 [(0, .flat false (.ints .i64 xs))] (.int .i64 (sumL xs)) 1 [] := by
  obtain ⟨h, hb⟩ := h.h
  refine fn_of_ev tok Try.func39 rfl rfl rfl ?_
  repeat' ((conv => whnf); first | done | refine ev_step ?_ | refine ops_step ?_ | refine scan_step ?_ | refine draw_step ?_ | refine each_step ?_ | refine sl_step ?_ | refine hp_step ?_ | refine guard_no (by decide) ?_ | refine guard_go ?_ | apply cut_auto | with_reducible exact CutS.mk (Or.inl ⟨rfl, rfl, rfl⟩) | refine CutS.mk (Or.inr (sub_auto ?_)) | exact trivial | refine And.intro ?_ ?_ | refine cond_split ?_ ?_ | apply guess | exact Or.inl rfl | exact Or.inr rfl | exact Side.mk trivial | exact Side.mk (fun h => h) | exact Side.mk (fun h => ⟨h, h⟩) | with_reducible exact Side.mk rfl | with_reducible exact Side.mk ⟨rfl, rfl⟩ | with_reducible exact Side.mk (by assumption) | with_reducible rfl | intro _)
  all_goals try (conv => whnf)
  refine loop_at (fun i : Nat => i ≤ xs.length) 4 (fun i => [(3, .int .i64 (sumL (xs.take i))), (4, .int .i64 i)]) (fun i => []) (fun i => xs.length - i) 0 (Nat.zero_le _) ?_ (fun i hi => ?_)
  · repeat' ((conv => whnf); first | done | refine ev_step ?_ | refine ops_step ?_ | refine scan_step ?_ | refine draw_step ?_ | refine each_step ?_ | refine sl_step ?_ | refine hp_step ?_ | refine guard_no (by decide) ?_ | refine guard_go ?_ | apply cut_auto | with_reducible exact CutS.mk (Or.inl ⟨rfl, rfl, rfl⟩) | refine CutS.mk (Or.inr (sub_auto ?_)) | exact trivial | refine And.intro ?_ ?_ | refine cond_split ?_ ?_ | apply guess | exact Or.inl rfl | exact Or.inr rfl | exact Side.mk trivial | exact Side.mk (fun h => h) | exact Side.mk (fun h => ⟨h, h⟩) | with_reducible exact Side.mk rfl | with_reducible exact Side.mk ⟨rfl, rfl⟩ | with_reducible exact Side.mk (by assumption) | with_reducible rfl | intro _)
    all_goals try (conv => whnf)
    all_goals first | rfl | trace_state
  · have hs := sumL_bd hb i hi
    by_cases hlt : i < xs.length
    · have e := sumL_take hlt
      have hk := hb i hlt
      repeat' ((conv => whnf); first | done | refine ev_step ?_ | refine ops_step ?_ | refine scan_step ?_ | refine draw_step ?_ | refine each_step ?_ | refine sl_step ?_ | refine hp_step ?_ | refine guard_no (by decide) ?_ | refine guard_go ?_ | apply cut_auto | with_reducible exact CutS.mk (Or.inl ⟨rfl, rfl, rfl⟩) | refine CutS.mk (Or.inr (sub_auto ?_)) | exact trivial | refine And.intro ?_ ?_ | (refine cond_split ?_ ?_ <;> intro _ <;> first | (exfalso; first | omega | (simp only [decide_eq_true_eq, decide_eq_false_iff_not, Bool.not_eq_true', Bool.not_eq_false', ne_eq, Bool.not_true, Bool.not_false, cond_true, cond_false, Bool.true_eq_false, Bool.false_eq_true, Bool.and_eq_true, Bool.and_eq_false_iff] at *; omega)) | skip) | apply guess | exact Or.inl rfl | exact Or.inr rfl | exact Side.mk trivial | exact Side.mk (fun h => h) | exact Side.mk (fun h => ⟨h, h⟩) | with_reducible exact Side.mk rfl | with_reducible exact Side.mk ⟨rfl, rfl⟩ | with_reducible exact Side.mk (by assumption) | with_reducible rfl | intro _)
      all_goals try (conv => whnf)
      all_goals try (refine Side.mk ?_; first | (intros; omega) | (show List.length (_ ++ _) ≤ _; simp only [List.length_append, List.length_cons, List.length_nil, List.length_replicate, List.length_take]; omega) | (simp_all; done) | (simp_all; omega))
      all_goals try omega
      all_goals try simp only [Int.toNat_natCast] at *
      all_goals try omega
      · refine Side.mk ?_
        unfold inI64
        omega
      refine ⟨i + 1, by omega, by omega, ?_⟩
      repeat' ((conv => whnf); first | done | refine ev_step ?_ | refine ops_step ?_ | refine scan_step ?_ | refine draw_step ?_ | refine each_step ?_ | refine sl_step ?_ | refine hp_step ?_ | refine guard_no (by decide) ?_ | refine guard_go ?_ | apply cut_auto | with_reducible exact CutS.mk (Or.inl ⟨rfl, rfl, rfl⟩) | refine CutS.mk (Or.inr (sub_auto ?_)) | exact trivial | refine And.intro ?_ ?_ | refine cond_split ?_ ?_ | apply guess | exact Or.inl rfl | exact Or.inr rfl | exact Side.mk trivial | exact Side.mk (fun h => h) | exact Side.mk (fun h => ⟨h, h⟩) | with_reducible exact Side.mk rfl | with_reducible exact Side.mk ⟨rfl, rfl⟩ | with_reducible exact Side.mk (by assumption) | with_reducible rfl | intro _)
      all_goals try (conv => whnf)
      all_goals first | rfl | omega | (rw [e]; rfl) | trace_state
    · obtain rfl : i = xs.length := by omega
      have e : sumL (xs.take xs.length) = sumL xs := by rw [List.take_length]
      rw [← e]
      repeat' ((conv => whnf); first | done | refine ev_step ?_ | refine ops_step ?_ | refine scan_step ?_ | refine draw_step ?_ | refine each_step ?_ | refine sl_step ?_ | refine hp_step ?_ | refine guard_no (by decide) ?_ | refine guard_go ?_ | apply cut_auto | with_reducible exact CutS.mk (Or.inl ⟨rfl, rfl, rfl⟩) | refine CutS.mk (Or.inr (sub_auto ?_)) | exact trivial | refine And.intro ?_ ?_ | (refine cond_split ?_ ?_ <;> intro _ <;> first | (exfalso; first | omega | (simp only [decide_eq_true_eq, decide_eq_false_iff_not, Bool.not_eq_true', Bool.not_eq_false', ne_eq, Bool.not_true, Bool.not_false, cond_true, cond_false, Bool.true_eq_false, Bool.false_eq_true, Bool.and_eq_true, Bool.and_eq_false_iff] at *; omega)) | skip) | apply guess | exact Or.inl rfl | exact Or.inr rfl | exact Side.mk trivial | exact Side.mk (fun h => h) | exact Side.mk (fun h => ⟨h, h⟩) | with_reducible exact Side.mk rfl | with_reducible exact Side.mk ⟨rfl, rfl⟩ | with_reducible exact Side.mk (by assumption) | with_reducible rfl | intro _)
      all_goals try (conv => whnf)
      all_goals try (refine Side.mk ?_; first | (intros; omega) | (show List.length (_ ++ _) ≤ _; simp only [List.length_append, List.length_cons, List.length_nil, List.length_replicate, List.length_take]; omega) | (simp_all; done) | (simp_all; omega))
      all_goals first | rfl | omega | trace_state
theorem layOk_nil' {W : List (List Int)} {o : List Int} (h1 : okB W = true) (h2 : isOB W.length o = true) : layOk W o [] = true := by
  simp only [layOk, h1, h2, Bool.true_and]
  exact risesB_iff.2 (fun i hi => by simp at hi)
theorem k_CoupOk (W : List (List Int)) (o : List Int) (h : Side (okB W = true ∧ isOB W.length o = true)) : FnIs Try.prog 37 [.agg [.sl 1 []], .sl 2 [], .sl 3 []] 4 [(1, .flat false (.rows 0 0 W.length)), (0, .nestI false .i64 W), (2, .flat false (.ints .i64 o)), (3, .flat false (.ints .i64 []))] (.tuple [.int .i64 (coup W o []), .bool true]) 4 [] := by
  obtain ⟨h1, h2⟩ := h.h
  have := (okB_iff.1 h1).1
  have := (isOB_iff.1 h2).1
  have k := k_CouplingOf W o [] ⟨⟨by omega, by omega, by simp⟩⟩
  rw [layOk_nil' h1 h2, if_pos rfl] at k
  exact k
theorem k_NoiseOk (W : List (List Int)) (o : List Int) (h : Side (okB W = true ∧ isOB W.length o = true)) : FnIs Try.prog 35 [.agg [.sl 1 []], .sl 2 [], .sl 3 []] 4 [(1, .flat false (.rows 0 0 W.length)), (0, .nestI false .i64 W), (2, .flat false (.ints .i64 o)), (3, .flat false (.ints .i64 []))] (.tuple [.sl 4 [], .bool true]) 5 [(4, .flat true (.ints .i64 (noise W o [])))] := by
  obtain ⟨h1, h2⟩ := h.h
  have := (okB_iff.1 h1).1
  have := (isOB_iff.1 h2).1
  have k := k_NoiseOf W o [] ⟨⟨by omega, by omega, by simp⟩⟩
  rw [layOk_nil' h1 h2, if_pos rfl] at k
  exact k
theorem k_QuietOk (W : List (List Int)) (h : Side (okB W = true)) : FnIs Try.prog 21 [.agg [.sl 1 []]] 2 [(1, .flat false (.rows 0 0 W.length)), (0, .nestI false .i64 W)] (.tuple [.sl 2 [], .int .i64 (quietV W).2, .bool true]) 3 [(2, .flat true (.ints .i64 (quietV W).1))] :=
  k_QuietOrder W ⟨by have := (okB_iff.1 h.h).1; omega⟩ h.h
abbrev NoiseP (W : List (List Int)) (o b : List Int) : Prop := b.length = W.length ∧ greatI b = loud W o ∧ sumL b = 2 * coup W o [] ∧ (∀ k, k < b.length → 0 ≤ b.getD k 0 ∧ b.getD k 0 ≤ 16000) ∧ 0 ≤ coup W o [] ∧ coup W o [] ≤ 8000
theorem noiseP {W : List (List Int)} {o : List Int} (h1 : okB W = true) (h2 : isOB W.length o = true) : NoiseP W o (noise W o []) := by
  have hW := okB_iff.1 h1
  have ho := isOB_iff.1 h2
  have hn := hW.1
  have hl := ho.1
  refine ⟨by rw [← hl]; exact noiseT_len W o [] _, noise_great hW ho, noise_sum ho (o.length - 1) (by omega), fun k _ => ?_, coup_bd hW ho []⟩
  have := noiseT_bd hW ho.2.1 [] (j := o.length - 1) (by omega) k
  unfold noise
  omega
theorem k_NoiseEx (W : List (List Int)) (o : List Int) (h : Side (okB W = true ∧ isOB W.length o = true)) : FnEx Try.prog 35 [.agg [.sl 1 []], .sl 2 [], .sl 3 []] 4 [(1, .flat false (.rows 0 0 W.length)), (0, .nestI false .i64 W), (2, .flat false (.ints .i64 o)), (3, .flat false (.ints .i64 []))] (fun b : List Int => NoiseP W o b) (fun _ => .tuple [.sl 4 [], .bool true]) 5 (fun b => [(4, .flat true (.ints .i64 b))]) :=
  (k_NoiseOk W o h).ex (noise W o []) (noiseP h.h.1 h.h.2)
theorem k_QuietEx (W : List (List Int)) (h : Side (okB W = true)) : FnEx Try.prog 21 [.agg [.sl 1 []]] 2 [(1, .flat false (.rows 0 0 W.length)), (0, .nestI false .i64 W)] (fun q : List Int × Int => isOB W.length q.1 = true ∧ q.2 = loud W q.1 ∧ ∀ x, isOB W.length x = true → q.2 ≤ loud W x) (fun q => .tuple [.sl 2 [], .int .i64 q.2, .bool true]) 3 (fun q => [(2, .flat true (.ints .i64 q.1))]) :=
  (k_QuietOk W h).ex (quietV W) (by
    obtain ⟨h1, h2, h3⟩ := quiet_isO W
    exact ⟨isOB_iff.2 h1, h2, fun x hx => h3 x (isOB_iff.1 hx)⟩)
theorem k_FnQuiet (bs cs : List Int) (hp : Side ((bs.length ≤ 9223372036854775807 ∧ ∀ k ∈ bs, 0 ≤ k ∧ k ≤ 255) ∧ cs.length ≤ 9223372036854775807 ∧ ∀ k ∈ cs, 0 ≤ k ∧ k ≤ 255)) : FnIs Try.prog 9 [.sl 0 [], .sl 1 []] 2 [(1, .flat false (.ints .u8 cs)), (0, .flat false (.ints .u8 bs))] (.bool true) 2 [] := by
  obtain ⟨⟨b1, b2⟩, c1, c2⟩ := hp.h
  have k0 := k_r8Long bs cs ⟨⟨b1, c1⟩⟩
  refine fn_of_evk [0, 1, 4, 5, 6, 7, 8, 9, 10, 11, 12, 13, 14, 15, 16, 19, 92] tok Try.func9 rfl rfl rfl ?_
  by_cases hl : bs.length ≤ 48 ∧ cs.length ≤ 48
  · rw [show (decide (48 < (bs.length : Int)) || decide (48 < (cs.length : Int))) = false by rw [Bool.or_eq_false_iff, decide_eq_false_iff_not, decide_eq_false_iff_not]; omega] at k0
    have hb : bytesOk bs := ⟨hl.1, b2⟩
    have hc : bytesOk cs := ⟨hl.2, c2⟩
    repeat' ((conv => whnf); first | done | refine ev_step ?_ | refine ops_step ?_ | refine scan_step ?_ | refine draw_step ?_ | refine each_step ?_ | refine sl_step ?_ | refine hp_step ?_ | refine guard_no (by decide) ?_ | refine guard_go ?_ | apply cut_auto | with_reducible exact CutS.mk (Or.inl ⟨rfl, rfl, rfl⟩) | refine CutS.mk (Or.inr (sub_auto ?_)) | exact trivial | refine And.intro ?_ ?_ | (refine cond_split ?_ ?_ <;> intro _ <;> first | (exfalso; first | omega | (simp only [decide_eq_true_eq, decide_eq_false_iff_not, Bool.not_eq_true', Bool.not_eq_false', ne_eq, Bool.not_true, Bool.not_false, cond_true, cond_false, Bool.true_eq_false, Bool.false_eq_true, Bool.and_eq_true, Bool.and_eq_false_iff] at *; omega)) | skip) | apply guess | apply FnIs.useF (k0) | apply FnEx.useF (k_R8Bundle bs ⟨hb⟩) | apply FnEx.useF (k_QuietEx _ _) | apply FnEx.useF (k_NoiseEx _ _ _) | exact Or.inl rfl | exact Or.inr rfl | exact Side.mk trivial | exact Side.mk (fun h => h) | exact Side.mk (fun h => ⟨h, h⟩) | with_reducible exact Side.mk rfl | with_reducible exact Side.mk ⟨rfl, rfl⟩ | with_reducible exact Side.mk (by assumption) | with_reducible rfl | intro _)
    all_goals try (conv => whnf)
    all_goals try exact Side.mk (by assumption : okB _ = true ∧ _).1
    all_goals try exact Side.mk ⟨(by assumption : okB _ = true ∧ _).1, (by assumption : isOB _ _ = true ∧ _).1⟩
    rename_i W hW q hq b hbn
    repeat' ((conv => whnf); first | done | refine ev_step ?_ | refine ops_step ?_ | refine scan_step ?_ | refine draw_step ?_ | refine each_step ?_ | refine sl_step ?_ | refine hp_step ?_ | refine guard_no (by decide) ?_ | refine guard_go ?_ | apply cut_auto | with_reducible exact CutS.mk (Or.inl ⟨rfl, rfl, rfl⟩) | refine CutS.mk (Or.inr (sub_auto ?_)) | exact trivial | refine And.intro ?_ ?_ | (refine cond_split ?_ ?_ <;> intro _ <;> first | (exfalso; first | omega | (simp only [decide_eq_true_eq, decide_eq_false_iff_not, Bool.not_eq_true', Bool.not_eq_false', ne_eq, Bool.not_true, Bool.not_false, cond_true, cond_false, Bool.true_eq_false, Bool.false_eq_true, Bool.and_eq_true, Bool.and_eq_false_iff] at *; omega)) | skip) | apply guess | apply FnEx.useF (k_R8Order cs _ _) | apply FnEx.useF (k_NoiseEx _ _ _) | exact Or.inl rfl | exact Or.inr rfl | exact Side.mk trivial | exact Side.mk (fun h => h) | exact Side.mk (fun h => ⟨h, h⟩) | with_reducible exact Side.mk rfl | with_reducible exact Side.mk ⟨rfl, rfl⟩ | with_reducible exact Side.mk (by assumption) | with_reducible rfl | intro _)
    all_goals try (conv => whnf)
    all_goals try exact Side.mk ⟨hW.1, by assumption⟩
    all_goals try exact Side.mk ⟨hc, by omega, by omega⟩
    rename_i o ho c hcn
    have f1 : decide ((b.length : Int) ≠ (W.length : Int)) = false := decide_eq_false (by have := hbn.1; omega)
    have f2 : decide ((c.length : Int) ≠ (W.length : Int)) = false := decide_eq_false (by have := hcn.1; omega)
    have f3 : decide (greatI b ≠ q.2) = false := decide_eq_false (by have := hbn.2.1; have := hq.2.1; omega)
    have f4 : decide (greatI c < q.2) = false := decide_eq_false (by have := hcn.2.1; have := hq.2.2 o ho; omega)
    have g1 : b.length ≤ 1048577 := by have := hbn.1; omega
    have g2 : c.length ≤ 1048577 := by have := hcn.1; omega
    have g3 := hcn.2.2.2
    have g4 : sumL c = 2 * coup W o [] := hcn.2.2.1
    repeat' ((conv => whnf); first | done | refine ev_step ?_ | refine ops_step ?_ | refine scan_step ?_ | refine draw_step ?_ | refine each_step ?_ | refine sl_step ?_ | refine hp_step ?_ | refine guard_no (by decide) ?_ | refine guard_go ?_ | apply cut_auto | with_reducible exact CutS.mk (Or.inl ⟨rfl, rfl, rfl⟩) | refine CutS.mk (Or.inr (sub_auto ?_)) | exact trivial | refine And.intro ?_ ?_ | (refine cond_split ?_ ?_ <;> intro hq_ <;> first | (exfalso; first | omega | (simp only [f1, f2, f3, f4, cond_true, cond_false, Bool.not_true, Bool.not_false, Bool.and_true, Bool.true_and, Bool.and_false, Bool.false_and, Bool.or_true, Bool.true_or, Bool.or_false, Bool.false_or, Bool.true_eq_false, Bool.false_eq_true, decide_true, decide_false, reduceCtorEq] at hq_; done) | (rw [decide_eq_false_iff_not] at hq_; omega) | (rw [decide_eq_true_eq] at hq_; omega) | (simp only [f1, f2, f3, f4, reduceCtorEq] at hq_; done) | exact Bool.noConfusion (Eq.trans (Eq.symm f1) hq_) | exact Bool.noConfusion (Eq.trans (Eq.symm f2) hq_) | exact Bool.noConfusion (Eq.trans (Eq.symm f3) hq_) | exact Bool.noConfusion (Eq.trans (Eq.symm f4) hq_)) | skip) | apply guess | apply FnIs.useF (k_CoupOk _ _ _) | apply FnIs.useS (k_r8Greatest _ _) | apply FnIs.useF (k_r8Sum _ _) | exact Or.inl rfl | exact Or.inr rfl | exact Side.mk trivial | exact Side.mk (fun h => h) | exact Side.mk (fun h => ⟨h, h⟩) | with_reducible exact Side.mk rfl | with_reducible exact Side.mk ⟨rfl, rfl⟩ | with_reducible exact Side.mk (by assumption) | with_reducible rfl | intro _)
    all_goals try (conv => whnf)
    all_goals try exact Side.mk ⟨hW.1, ho⟩
    all_goals try exact Side.mk g1
    all_goals try exact Side.mk g2
    all_goals try exact Side.mk ⟨g2, g3.1⟩
    all_goals try (refine Side.mk ?_; unfold inI64; omega)
    all_goals try (rw [g4]; simp)
    all_goals trace_state
  · rw [show (decide (48 < (bs.length : Int)) || decide (48 < (cs.length : Int))) = true by rw [Bool.or_eq_true, decide_eq_true_eq, decide_eq_true_eq]; omega] at k0
    repeat' ((conv => whnf); first | done | refine ev_step ?_ | refine ops_step ?_ | refine scan_step ?_ | refine draw_step ?_ | refine each_step ?_ | refine sl_step ?_ | refine hp_step ?_ | refine guard_no (by decide) ?_ | refine guard_go ?_ | apply cut_auto | with_reducible exact CutS.mk (Or.inl ⟨rfl, rfl, rfl⟩) | refine CutS.mk (Or.inr (sub_auto ?_)) | exact trivial | refine And.intro ?_ ?_ | (refine cond_split ?_ ?_ <;> intro _ <;> first | (exfalso; first | omega | (simp only [decide_eq_true_eq, decide_eq_false_iff_not, Bool.not_eq_true', Bool.not_eq_false', ne_eq, Bool.not_true, Bool.not_false, cond_true, cond_false, Bool.true_eq_false, Bool.false_eq_true, Bool.and_eq_true, Bool.and_eq_false_iff] at *; omega)) | skip) | apply guess | apply FnIs.useF (k0) | exact Or.inl rfl | exact Or.inr rfl | exact Side.mk trivial | exact Side.mk (fun h => h) | exact Side.mk (fun h => ⟨h, h⟩) | with_reducible exact Side.mk rfl | with_reducible exact Side.mk ⟨rfl, rfl⟩ | with_reducible exact Side.mk (by assumption) | with_reducible rfl | intro _)
    all_goals try (conv => whnf)
    all_goals first | rfl | trace_state
end Go.Sx.U
