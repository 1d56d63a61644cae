/-
  Chapter 10: the reference follows its table (contract).
-/
import Derived.Test.YtjojnolcohjebaaC13
import Derived.Test.YtjojnolcohjebaaM0X
import Derived.Test.YtjojnolcohjebaaKH
namespace Go.Sx.U
set_option linter.unusedVariables false
set_option linter.unusedSimpArgs false
set_option maxRecDepth 100000
set_option maxHeartbeats 8000000
open Go Go.Sx Go.Proofs Go.Sx.M0

def natL (K : List Nat) : List Int := K.map fun (k : Nat) => (k : Int)
theorem natL_get {K : List Nat} {i : Nat} (h : i < K.length) : (natL K).getD i 0 = ((K.getD i 0 : Nat) : Int) := by
  simp [natL, List.getD, List.getElem?_eq_getElem h]
theorem natL_len (K : List Nat) : (natL K).length = K.length := by simp [natL]
theorem natL_mem {K : List Nat} {k : Nat} : (k : Int) ∈ natL K ↔ k ∈ K := by
  unfold natL
  rw [List.mem_map]
  exact ⟨fun ⟨x, h1, h2⟩ => by have : x = k := by omega
                               subst this; exact h1, fun h => ⟨k, h, rfl⟩⟩
theorem natL_snoc (K : List Nat) (k : Nat) : natL (K ++ [k]) = natL K ++ [(k : Int)] := by simp [natL]
def ltsL (W : List (List Int)) (e : Int) (m l : Nat) (K : List Nat) : List Int := K.map fun k => Lt W e m l k
theorem ltsL_get {W : List (List Int)} {e : Int} {m l : Nat} {K : List Nat} {i : Nat} (h : i < K.length) : (ltsL W e m l K).getD i 0 = Lt W e m l (K.getD i 0) := by
  simp [ltsL, List.getD, List.getElem?_eq_getElem h]
theorem ltsL_len (W : List (List Int)) (e : Int) (m l : Nat) (K : List Nat) : (ltsL W e m l K).length = K.length := by simp [ltsL]
theorem ltsL_snoc (W : List (List Int)) (e : Int) (m l : Nat) (K : List Nat) (k : Nat) : ltsL W e m l (K ++ [k]) = ltsL W e m l K ++ [Lt W e m l k] := by simp [ltsL]
theorem tabL_len (W : List (List Int)) (e : Int) (cnt : Nat) : (tabL W e cnt).length = 2 ^ W.length * 81 := by simp [tabL]
theorem tabL_get {W : List (List Int)} {e : Int} {cnt s l k : Nat} (hs : s < 2 ^ W.length) (hl : l < 9) (hk : k < 9) (hb : s.testBit l = true) (hc : k ≤ cnt) : (tabL W e cnt).getD ((s * 9 + l) * 9 + k) 0 = Lt W e s l k := by
  have hlt : (s * 9 + l) * 9 + k < 2 ^ W.length * 81 := by omega
  have h1 := ent_at W e cnt (s := s) hl hk
  rw [if_pos ⟨hb, hc⟩] at h1
  rw [← h1]
  simp [tabL, List.getD, hlt]
/-- What a scan over shields has taken. -/
structure NxP (acc : Nat → Nat → Prop) (cnt : Nat) (K : List Nat) (i sh : Nat) (nx : List Nat) : Prop where
  mem : ∀ x, x ∈ nx ↔ ∃ j s, j < K.length ∧ (j < i ∨ (j = i ∧ s < sh)) ∧ s ≤ min 1 (K.getD j 0) ∧ acc (K.getD j 0) s ∧ x = K.getD j 0 - s
  nd : nx.Nodup
theorem NxP.zero (acc : Nat → Nat → Prop) (cnt : Nat) (K : List Nat) : NxP acc cnt K 0 0 [] :=
  ⟨fun x => ⟨fun h => (List.not_mem_nil h).elim, fun ⟨j, s, _, h, _⟩ => by omega⟩, by simp⟩
theorem NxP.take {acc : Nat → Nat → Prop} {cnt : Nat} {K : List Nat} {i sh : Nat} {nx : List Nat} (h : NxP acc cnt K i sh nx) (hi : i < K.length) (hs : sh ≤ min 1 (K.getD i 0)) (ha : acc (K.getD i 0) sh) (hn : K.getD i 0 - sh ∉ nx) : NxP acc cnt K i (sh + 1) (nx ++ [K.getD i 0 - sh]) := by
  refine ⟨fun x => ?_, ?_⟩
  · rw [List.mem_append, List.mem_singleton, h.mem]
    constructor
    · rintro (⟨j, s, h1, h2, h3⟩ | rfl)
      · exact ⟨j, s, h1, by omega, h3⟩
      · exact ⟨i, sh, hi, by omega, hs, ha, rfl⟩
    · rintro ⟨j, s, h1, h2, h3, h4, h5⟩
      by_cases e : j = i ∧ s = sh
      · obtain ⟨rfl, rfl⟩ := e
        exact .inr h5
      · exact .inl ⟨j, s, h1, by omega, h3, h4, h5⟩
  · rw [List.nodup_append]
    refine ⟨h.nd, by simp, fun a ha b hb => ?_⟩
    rw [List.mem_singleton.1 hb]
    intro e1; subst e1; exact hn ha
theorem NxP.pass {acc : Nat → Nat → Prop} {cnt : Nat} {K : List Nat} {i sh : Nat} {nx : List Nat} (h : NxP acc cnt K i sh nx) (hp : sh ≤ min 1 (K.getD i 0) → acc (K.getD i 0) sh → K.getD i 0 - sh ∈ nx) : NxP acc cnt K i (sh + 1) nx := by
  refine ⟨fun x => ?_, h.nd⟩
  rw [h.mem]
  constructor
  · rintro ⟨j, s, h1, h2, h3⟩
    exact ⟨j, s, h1, by omega, h3⟩
  · rintro ⟨j, s, h1, h2, h3, h4, h5⟩
    by_cases e : j = i ∧ s = sh
    · obtain ⟨rfl, rfl⟩ := e
      rw [h5]
      exact (h.mem _).1 (hp h3 h4)
    · exact ⟨j, s, h1, by omega, h3, h4, h5⟩
theorem NxP.down {acc : Nat → Nat → Prop} {cnt : Nat} {K : List Nat} {i sh : Nat} {nx : List Nat} (h : NxP acc cnt K i sh nx) (hs : min 1 (K.getD i 0) < sh) : NxP acc cnt K (i + 1) 0 nx := by
  refine ⟨fun x => ?_, h.nd⟩
  rw [h.mem]
  constructor
  · rintro ⟨j, s, h1, h2, h3⟩
    exact ⟨j, s, h1, by omega, h3⟩
  · rintro ⟨j, s, h1, h2, h3, h4, h5⟩
    refine ⟨j, s, h1, ?_, h3, h4, h5⟩
    by_cases e : j = i
    · subst e; omega
    · omega
/-- All of them. -/
theorem NxP.all {W : List (List Int)} {e : Int} {cnt : Nat} {K : List Nat} {m l w : Nat} (hw : w < W.length) (hn : m.testBit w = false) (hK9 : ∀ k ∈ K, k ≤ 8) {nx : List Nat} (h : NxP (fun k sh => Cd W e m l k w sh (Lt W e m l k)) cnt K K.length 0 nx) : ∀ x, x ∈ nx ↔ x ∈ nxtK W e K m l w := fun x => by
  rw [h.mem, nxtK_mem]
  constructor
  · rintro ⟨j, s, h1, _, h3, h4, rfl⟩
    have hm : K.getD j 0 ∈ K := by rw [List.getD, List.getElem?_eq_getElem h1]; exact List.getElem_mem h1
    have := hK9 _ hm
    exact ⟨by omega, _, hm, (nx_iff hw hn).2 ⟨s, h4, rfl⟩⟩
  · rintro ⟨_, k, hk, hx⟩
    obtain ⟨s, hs, rfl⟩ := (nx_iff hw hn).1 hx
    obtain ⟨j, hj, rfl⟩ := List.getElem_of_mem hk
    have e1 : K.getD j 0 = K[j] := by rw [List.getD, List.getElem?_eq_getElem hj]; rfl
    have h1 := hs.sh1
    have h2 := hs.shk
    exact ⟨j, s, hj, .inl hj, by rw [e1]; omega, by rw [e1]; exact hs, by rw [e1]⟩

theorem begT_bd {W : List (List Int)} (hW : okW W) {e : Int} {cnt : Nat} {first : Int} {j : Nat} (hj : j ≤ W.length) : -1 ≤ begT W e cnt first j ∧ begT W e cnt first j ≤ 9000 := by
  rcases begT_is W e cnt first j with ⟨h1, _⟩ | ⟨h0, ⟨w, h1, _, h3⟩, _⟩
  · omega
  · have := Lt_bd9 hW (e := e) (m := 2 ^ w) (k := cnt) (show w < W.length by omega); omega
theorem condT (g r : Int) (c : Prop) [Decidable c] : (bif bif decide (g < 0) then true else decide (r ≠ g) then true else decide c) = !decide ((0 ≤ g ∧ r = g) ∧ ¬ c) := by
  by_cases h1 : g < 0 <;> by_cases h2 : r = g <;> by_cases h3 : c <;> simp [h1, h2, h3] <;> omega
theorem begT_step {W : List (List Int)} {e : Int} {cnt : Nat} {first : Int} {j : Nat} {C : Bool} (hC : (bif bif decide (0 ≤ Lt W e (2 ^ j) j cnt) then bif decide (first < 0) then true else decide ((j : Int) = first) else false then bif decide (begT W e cnt first j < 0) then true else decide (Lt W e (2 ^ j) j cnt < begT W e cnt first j) else false) = C) : begT W e cnt first (j + 1) = bif C then Lt W e (2 ^ j) j cnt else begT W e cnt first j := by
  subst hC
  rw [begT]
  by_cases ha : first < 0 ∨ (j : Int) = first
  · rw [if_pos ha]
    have h2 : (bif decide (first < 0) then true else decide ((j : Int) = first)) = true := by
      by_cases h3 : first < 0
      · rw [decide_eq_true h3]; rfl
      · rw [decide_eq_false h3, cond_false]; exact decide_eq_true (ha.resolve_left h3)
    rw [h2, minO]
    by_cases hn : Lt W e (2 ^ j) j cnt < 0
    · rw [if_pos hn, decide_eq_false (by omega)]; rfl
    · rw [if_neg hn, decide_eq_true (by omega), cond_true, cond_true, condOr]
      by_cases hq : begT W e cnt first j < 0 ∨ Lt W e (2 ^ j) j cnt < begT W e cnt first j
      · rw [if_pos hq, decide_eq_true hq]; rfl
      · rw [if_neg hq, decide_eq_false hq]; rfl
  · rw [if_neg ha]
    have h2 : (bif decide (first < 0) then true else decide ((j : Int) = first)) = false := by
      rw [decide_eq_false (fun h => ha (.inl h)), cond_false]; exact decide_eq_false (fun h => ha (.inr h))
    rw [h2]
    cases decide (0 ≤ Lt W e (2 ^ j) j cnt) <;> rfl
/-- The data of the search for one place. -/
inductive FolS (W : List (List Int)) (e : Int) (cnt : Nat) (first : Int) : List Int → Nat → Nat → List Nat → List Int → Prop
  | beg (l : Nat) : FolS W e cnt first [] 0 l [cnt] [begL W e cnt first]
  | on {o : List Int} {m l : Nat} {K : List Nat} : FolP W e cnt (folO W e cnt first) o m l K → FolS W e cnt first o m l K (ltsL W e m l K)

set_option maxHeartbeats 80000000 in
theorem k_l10Follow (W : List (List Int)) (cnt : Nat) (e first : Int) (hW : okW W) (hc : cnt ≤ 8) (h0 : 0 ≤ begL W e cnt first) : FnIs Try.prog 70 [.ptr 0 [] 0 0, .int .i64 cnt, .int .i64 first, .int .i64 e] 3 [(0, .flat false (.gen 1 [[.sl 2 []]])), (2, .flat false (.rows 1 0 W.length)), (1, .nestI false .i64 W)] (.tuple [.sl 3 [], .int .i64 (begL W e cnt first)]) 4 [(3, .flat true (.ints .i64 (folO W e cnt first)))] := by
  have hn := hW.1
  have hP := pow9 hn.2
  have hwn := b_wrap (w := W.length) (by omega)
  have k1 := k_l10Left W cnt e hW hc
  have htl := tabL_len W e cnt
  have htg := fun (s l k : Nat) h1 h2 h3 h4 h5 => tabL_get (W := W) (e := e) (cnt := cnt) (s := s) (l := l) (k := k) h1 h2 h3 h4 h5
  generalize tabL W e cnt = TB at k1 htl htg
  refine fn_of_evk [0, 1, 2, 3, 8, 9, 10, 11, 12, 13, 14, 15, 16, 17, 18, 19, 20, 21, 22, 23, 24, 25, 26, 38, 72, 82, 89, 111, 126, 135, 144, 146, 148, 192, 208] tok Try.func70 rfl rfl rfl ?_
  repeat' ((conv => whnf); first | done | refine ev_step ?_ | refine ops_step ?_ | refine scan_step ?_ | refine draw_step ?_ | refine each_step ?_ | refine sl_step ?_ | refine hp_step ?_ | refine guard_no (by decide) ?_ | refine guard_go ?_ | refine guard_old ?_ | apply cut_auto | with_reducible exact CutS.mk (Or.inl ⟨rfl, rfl, rfl⟩) | refine CutS.mk (Or.inr (sub_auto ?_)) | exact trivial | refine And.intro ?_ ?_ | (refine cond_split ?_ ?_ <;> intro _ <;> first | (exfalso; first | omega | (simp only [decide_eq_true_eq, decide_eq_false_iff_not, Bool.not_eq_true', Bool.not_eq_false', ne_eq, Bool.not_true, Bool.not_false, cond_true, cond_false, Bool.true_eq_false, Bool.false_eq_true, Bool.and_eq_true, Bool.and_eq_false_iff] at *; omega)) | skip) | apply guess | apply FnIs.useF (k1) | exact Or.inl rfl | exact Or.inr rfl | exact Side.mk trivial | exact Side.mk (fun h => h) | exact Side.mk (fun h => ⟨h, h⟩) | with_reducible exact Side.mk rfl | with_reducible exact Side.mk ⟨rfl, rfl⟩ | with_reducible exact Side.mk (by assumption) | with_reducible rfl | intro _)
  all_goals try (conv => whnf)
  all_goals try (refine Side.mk ?_; first | (intros; omega) | (show List.length (_ ++ _) ≤ _; simp only [List.length_append, List.length_cons, List.length_nil, List.length_replicate, List.length_take]; omega) | (simp_all; done) | (simp_all; omega))
  refine loop_at (fun j : Nat => j ≤ W.length) 4 (fun j => [(13, .int .i64 j), (12, .int .i64 (begT W e cnt first j))]) (fun _ => []) (fun j => W.length - j) 0 (Nat.zero_le _) ?_ (fun j hj => ?_)
  · repeat' ((conv => whnf); first | done | refine ev_step ?_ | refine ops_step ?_ | refine scan_step ?_ | refine draw_step ?_ | refine each_step ?_ | refine sl_step ?_ | refine hp_step ?_ | refine guard_no (by decide) ?_ | refine guard_go ?_ | refine guard_old ?_ | apply cut_auto | with_reducible exact CutS.mk (Or.inl ⟨rfl, rfl, rfl⟩) | refine CutS.mk (Or.inr (sub_auto ?_)) | exact trivial | refine And.intro ?_ ?_ | refine cond_split ?_ ?_ | apply guess | exact Or.inl rfl | exact Or.inr rfl | exact Side.mk trivial | exact Side.mk (fun h => h) | exact Side.mk (fun h => ⟨h, h⟩) | with_reducible exact Side.mk rfl | with_reducible exact Side.mk ⟨rfl, rfl⟩ | with_reducible exact Side.mk (by assumption) | with_reducible rfl | intro _)
    all_goals try (conv => whnf)
    all_goals first | rfl | trace_state
  · have hbb := begT_bd hW (e := e) (cnt := cnt) (first := first) hj
    by_cases hj2 : j < W.length
    · have hwj := b_wrap (w := j) (by omega)
      have hsh : shlI .i64 1 (IntKind.u64.wrap (j : Int)) = ((2 ^ j : Nat) : Int) := by rw [hwj]; exact b_shl (by omega)
      have hpj : 2 ^ j < 2 ^ W.length := Nat.pow_lt_pow_right (by omega) hj2
      have hX : ((shlI .i64 1 (IntKind.u64.wrap (j : Int)) * 9 + j) * 9 + cnt).toNat = (2 ^ j * 9 + j) * 9 + cnt := by rw [hsh]; omega
      have hread : TB.getD ((shlI .i64 1 (IntKind.u64.wrap (j : Int)) * 9 + j) * 9 + cnt).toNat 0 = Lt W e (2 ^ j) j cnt := by
        rw [hX]; exact htg _ _ _ hpj (by omega) (by omega) (by rw [Nat.testBit_two_pow, decide_eq_true rfl]) (Nat.le_refl _)
      have hrb := Lt_bd9 hW (e := e) (m := 2 ^ j) (k := cnt) hj2
      repeat' ((conv => whnf); first | done | refine ev_step ?_ | refine ops_step ?_ | refine scan_step ?_ | refine draw_step ?_ | refine each_step ?_ | refine sl_step ?_ | refine hp_step ?_ | refine guard_no (by decide) ?_ | refine guard_go ?_ | refine guard_old ?_ | apply cut_auto | with_reducible exact CutS.mk (Or.inl ⟨rfl, rfl, rfl⟩) | refine CutS.mk (Or.inr (sub_auto ?_)) | exact trivial | refine And.intro ?_ ?_ | (refine cond_split ?_ ?_ <;> intro _ <;> first | (exfalso; first | omega | (simp only [decide_eq_true_eq, decide_eq_false_iff_not, Bool.not_eq_true', Bool.not_eq_false', ne_eq, Bool.not_true, Bool.not_false, cond_true, cond_false, Bool.true_eq_false, Bool.false_eq_true, Bool.and_eq_true, Bool.and_eq_false_iff] at *; omega)) | skip) | apply guess | exact Or.inl rfl | exact Or.inr rfl | exact Side.mk trivial | exact Side.mk (fun h => h) | exact Side.mk (fun h => ⟨h, h⟩) | with_reducible exact Side.mk rfl | with_reducible exact Side.mk ⟨rfl, rfl⟩ | with_reducible exact Side.mk (by assumption) | with_reducible rfl | intro _)
      all_goals try (conv => whnf)
      all_goals try (refine Side.mk ?_; first | (intros; omega) | (show List.length (_ ++ _) ≤ _; simp only [List.length_append, List.length_cons, List.length_nil, List.length_replicate, List.length_take]; omega) | (simp_all; done) | (simp_all; omega))
      · rename_i hq
        rw [hread] at hq
        have hb1 := begT_step hq
        refine ⟨j + 1, by omega, by omega, ?_⟩
        repeat' ((conv => whnf); first | done | refine ev_step ?_ | refine ops_step ?_ | refine scan_step ?_ | refine draw_step ?_ | refine each_step ?_ | refine sl_step ?_ | refine hp_step ?_ | refine guard_no (by decide) ?_ | refine guard_go ?_ | refine guard_old ?_ | apply cut_auto | with_reducible exact CutS.mk (Or.inl ⟨rfl, rfl, rfl⟩) | refine CutS.mk (Or.inr (sub_auto ?_)) | exact trivial | refine And.intro ?_ ?_ | refine cond_split ?_ ?_ | apply guess | exact Or.inl rfl | exact Or.inr rfl | exact Side.mk trivial | exact Side.mk (fun h => h) | exact Side.mk (fun h => ⟨h, h⟩) | with_reducible exact Side.mk rfl | with_reducible exact Side.mk ⟨rfl, rfl⟩ | with_reducible exact Side.mk (by assumption) | with_reducible rfl | intro _)
        all_goals try (conv => whnf)
        all_goals first | rfl | omega | (rw [hb1, hread]; rfl) | trace_state
      · rename_i hq
        rw [hread] at hq
        have hb1 := begT_step hq
        refine ⟨j + 1, by omega, by omega, ?_⟩
        repeat' ((conv => whnf); first | done | refine ev_step ?_ | refine ops_step ?_ | refine scan_step ?_ | refine draw_step ?_ | refine each_step ?_ | refine sl_step ?_ | refine hp_step ?_ | refine guard_no (by decide) ?_ | refine guard_go ?_ | refine guard_old ?_ | apply cut_auto | with_reducible exact CutS.mk (Or.inl ⟨rfl, rfl, rfl⟩) | refine CutS.mk (Or.inr (sub_auto ?_)) | exact trivial | refine And.intro ?_ ?_ | refine cond_split ?_ ?_ | apply guess | exact Or.inl rfl | exact Or.inr rfl | exact Side.mk trivial | exact Side.mk (fun h => h) | exact Side.mk (fun h => ⟨h, h⟩) | with_reducible exact Side.mk rfl | with_reducible exact Side.mk ⟨rfl, rfl⟩ | with_reducible exact Side.mk (by assumption) | with_reducible rfl | intro _)
        all_goals try (conv => whnf)
        all_goals first | rfl | omega | (rw [hb1]; rfl) | trace_state
    · obtain rfl : j = W.length := by omega
      rw [show begT W e cnt first W.length = begL W e cnt first from rfl] at hbb ⊢
      repeat' ((conv => whnf); first | done | refine ev_step ?_ | refine ops_step ?_ | refine scan_step ?_ | refine draw_step ?_ | refine each_step ?_ | refine sl_step ?_ | refine hp_step ?_ | refine guard_no (by decide) ?_ | refine guard_go ?_ | refine guard_old ?_ | apply cut_auto | with_reducible exact CutS.mk (Or.inl ⟨rfl, rfl, rfl⟩) | refine CutS.mk (Or.inr (sub_auto ?_)) | exact trivial | refine And.intro ?_ ?_ | (refine cond_split ?_ ?_ <;> intro _ <;> first | (exfalso; first | omega | (simp only [decide_eq_true_eq, decide_eq_false_iff_not, Bool.not_eq_true', Bool.not_eq_false', ne_eq, Bool.not_true, Bool.not_false, cond_true, cond_false, Bool.true_eq_false, Bool.false_eq_true, Bool.and_eq_true, Bool.and_eq_false_iff] at *; omega)) | skip) | apply guess | exact Or.inl rfl | exact Or.inr rfl | exact Side.mk trivial | exact Side.mk (fun h => h) | exact Side.mk (fun h => ⟨h, h⟩) | with_reducible exact Side.mk rfl | with_reducible exact Side.mk ⟨rfl, rfl⟩ | with_reducible exact Side.mk (by assumption) | with_reducible rfl | intro _)
      all_goals try (conv => whnf)
      all_goals try (refine Side.mk ?_; first | (intros; omega) | (show List.length (_ ++ _) ≤ _; simp only [List.length_append, List.length_cons, List.length_nil, List.length_replicate, List.length_take]; omega) | (simp_all; done) | (simp_all; omega))
      refine loop_at (fun a : List Int × Nat × Nat × List Nat × List Int => FolS W e cnt first a.1 a.2.1 a.2.2.1 a.2.2.2.1 a.2.2.2.2) 7 (fun a => [(15, .sl 4 []), (16, .sl 5 []), (17, .sl 6 []), (18, .int .i64 a.2.1), (74, .top), (76, .top), (78, .top)]) (fun a => [(4, .flat true (.ints .i64 a.1)), (5, .flat true (.ints .i64 (natL a.2.2.2.1))), (6, .flat true (.ints .i64 a.2.2.2.2))]) (fun a => W.length - a.1.length) ([], 0, 0, [cnt], [begL W e cnt first]) (.beg 0) ?_ (fun a ha => ?_)
      · repeat' ((conv => whnf); first | done | refine ev_step ?_ | refine ops_step ?_ | refine scan_step ?_ | refine draw_step ?_ | refine each_step ?_ | refine sl_step ?_ | refine hp_step ?_ | refine guard_no (by decide) ?_ | refine guard_go ?_ | refine guard_old ?_ | apply cut_auto | with_reducible exact CutS.mk (Or.inl ⟨rfl, rfl, rfl⟩) | refine CutS.mk (Or.inr (sub_auto ?_)) | exact trivial | refine And.intro ?_ ?_ | refine cond_split ?_ ?_ | apply guess | exact Or.inl rfl | exact Or.inr rfl | exact Side.mk trivial | exact Side.mk (fun h => h) | exact Side.mk (fun h => ⟨h, h⟩) | with_reducible exact Side.mk rfl | with_reducible exact Side.mk ⟨rfl, rfl⟩ | with_reducible exact Side.mk (by assumption) | with_reducible rfl | intro _)
        all_goals try (conv => whnf)
        all_goals first | rfl | trace_state
      · obtain ⟨o, m, l, K, gs⟩ := a
        dsimp only at ha ⊢
        -- what is common to the first place and the others
        have hcom : m < 2 ^ W.length ∧ o.length ≤ W.length ∧ K.Nodup ∧ (∀ k ∈ K, k ≤ cnt) ∧ K ≠ [] ∧ gs.length = K.length ∧ (∀ g ∈ gs, -1 ≤ g ∧ g ≤ 9000) ∧ (o ≠ [] → l < W.length ∧ o.getD (o.length - 1) 0 = (l : Int)) := by
          cases ha with
          | beg => exact ⟨by omega, by simp, by simp, by simp, by simp, rfl, by simp; omega, fun h => absurd rfl h⟩
          | on h => exact ⟨h.hm, by have := h.len; omega, h.Knd, fun k hk => (h.Kle k hk).1, h.Kne, ltsL_len _ _ _ _ _, fun g hg => by
              obtain ⟨k, _, rfl⟩ := List.mem_map.1 hg
              exact Lt_bd9 hW h.hl, fun _ => ⟨h.hl, h.last⟩⟩
        obtain ⟨hm, hol, hKd, hKc, hKe, hgl, hgb, hlast⟩ := hcom
        have hKn : (natL K).length = K.length := natL_len K
        have hK9 : K.length ≤ 9 := nodup_nat 9 hKd fun k hk => by have := hKc k hk; omega
        by_cases hlt : o.length < W.length
        · repeat' ((conv => whnf); first | done | refine ev_step ?_ | refine ops_step ?_ | refine scan_step ?_ | refine draw_step ?_ | refine each_step ?_ | refine sl_step ?_ | refine hp_step ?_ | refine guard_no (by decide) ?_ | refine guard_go ?_ | refine guard_old ?_ | apply cut_auto | with_reducible exact CutS.mk (Or.inl ⟨rfl, rfl, rfl⟩) | refine CutS.mk (Or.inr (sub_auto ?_)) | exact trivial | refine And.intro ?_ ?_ | (refine cond_split ?_ ?_ <;> intro _ <;> first | (exfalso; first | omega | (simp only [decide_eq_true_eq, decide_eq_false_iff_not, Bool.not_eq_true', Bool.not_eq_false', ne_eq, Bool.not_true, Bool.not_false, cond_true, cond_false, Bool.true_eq_false, Bool.false_eq_true, Bool.and_eq_true, Bool.and_eq_false_iff] at *; omega)) | skip) | apply guess | exact Or.inl rfl | exact Or.inr rfl | exact Side.mk trivial | exact Side.mk (fun h => h) | exact Side.mk (fun h => ⟨h, h⟩) | with_reducible exact Side.mk rfl | with_reducible exact Side.mk ⟨rfl, rfl⟩ | with_reducible exact Side.mk (by assumption) | with_reducible rfl | intro _)
          all_goals try (conv => whnf)
          all_goals try (refine Side.mk ?_; first | (intros; omega) | (show List.length (_ ++ _) ≤ _; simp only [List.length_append, List.length_cons, List.length_nil, List.length_replicate, List.length_take]; omega) | (simp_all; done) | (simp_all; omega))
          -- what a scan of the wires has found
          refine loop_at (fun b : Nat × Bool × (List Int × Nat × Nat × List Nat × List Int) => b.1 ≤ W.length ∧ (b.2.1 = false → b.2.2 = (o, m, l, K, gs) ∧ ∀ v, v < b.1 → (if o = [] then begB W e cnt first v else goodW W e K m l v) = false) ∧ (b.2.1 = true → FolS W e cnt first b.2.2.1 b.2.2.2.1 b.2.2.2.2.1 b.2.2.2.2.2.1 b.2.2.2.2.2.2 ∧ b.2.2.1.length = o.length + 1)) 7 (fun b => [(20, .int .i64 b.1), (19, .bool b.2.1), (15, .sl 4 []), (16, .sl 5 []), (17, .sl 6 []), (18, .int .i64 b.2.2.2.1), (79, .top)]) (fun b => [(4, .flat true (.ints .i64 b.2.2.1)), (5, .flat true (.ints .i64 (natL b.2.2.2.2.2.1))), (6, .flat true (.ints .i64 b.2.2.2.2.2.2))]) (fun b => W.length - b.1) (0, false, (o, m, l, K, gs)) ⟨Nat.zero_le _, fun _ => ⟨rfl, fun v h => absurd h (Nat.not_lt_zero v)⟩, fun h => by cases h⟩ ?_ (fun b hb => ?_)
          · repeat' ((conv => whnf); first | done | refine ev_step ?_ | refine ops_step ?_ | refine scan_step ?_ | refine draw_step ?_ | refine each_step ?_ | refine sl_step ?_ | refine hp_step ?_ | refine guard_no (by decide) ?_ | refine guard_go ?_ | refine guard_old ?_ | apply cut_auto | with_reducible exact CutS.mk (Or.inl ⟨rfl, rfl, rfl⟩) | refine CutS.mk (Or.inr (sub_auto ?_)) | exact trivial | refine And.intro ?_ ?_ | refine cond_split ?_ ?_ | apply guess | exact Or.inl rfl | exact Or.inr rfl | exact Side.mk trivial | exact Side.mk (fun h => h) | exact Side.mk (fun h => ⟨h, h⟩) | with_reducible exact Side.mk rfl | with_reducible exact Side.mk ⟨rfl, rfl⟩ | with_reducible exact Side.mk (by assumption) | with_reducible rfl | intro _)
            all_goals try (conv => whnf)
            all_goals first | rfl | trace_state
          · obtain ⟨w, fnd, o2, m2, l2, K2, gs2⟩ := b
            obtain ⟨hw, hb1, hb2⟩ := hb
            dsimp only at hw hb1 hb2 ⊢
            cases fnd with
            | true =>
              obtain ⟨hb3, hb4⟩ := hb2 rfl
              have hq : (bif decide ((w : Int) < W.length) then !true else false) = false := by cases decide ((w : Int) < W.length) <;> rfl
              repeat' ((conv => whnf); first | done | refine ev_step ?_ | refine ops_step ?_ | refine scan_step ?_ | refine draw_step ?_ | refine each_step ?_ | refine sl_step ?_ | refine hp_step ?_ | refine guard_no (by decide) ?_ | refine guard_go ?_ | refine guard_old ?_ | apply cut_auto | with_reducible exact CutS.mk (Or.inl ⟨rfl, rfl, rfl⟩) | refine CutS.mk (Or.inr (sub_auto ?_)) | exact trivial | refine And.intro ?_ ?_ | (refine cond_split ?_ ?_ <;> intro hq_ <;> first | (exfalso; first | omega | (simp only [hq, cond_true, cond_false, Bool.not_true, Bool.not_false, Bool.and_true, Bool.true_and, Bool.and_false, Bool.false_and, Bool.or_true, Bool.true_or, Bool.or_false, Bool.false_or, Bool.true_eq_false, Bool.false_eq_true, decide_true, decide_false, reduceCtorEq] at hq_; done) | (rw [decide_eq_false_iff_not] at hq_; omega) | (rw [decide_eq_true_eq] at hq_; omega) | (simp only [hq, reduceCtorEq] at hq_; done) | exact Bool.noConfusion (Eq.trans (Eq.symm hq) hq_)) | skip) | apply guess | exact Or.inl rfl | exact Or.inr rfl | exact Side.mk trivial | exact Side.mk (fun h => h) | exact Side.mk (fun h => ⟨h, h⟩) | with_reducible exact Side.mk rfl | with_reducible exact Side.mk ⟨rfl, rfl⟩ | with_reducible exact Side.mk (by assumption) | with_reducible rfl | intro _)
              all_goals try (conv => whnf)
              all_goals try (refine Side.mk ?_; first | (intros; omega) | (show List.length (_ ++ _) ≤ _; simp only [List.length_append, List.length_cons, List.length_nil, List.length_replicate, List.length_take]; omega) | (simp_all; done) | (simp_all; omega))
              refine ⟨(o2, m2, l2, K2, gs2), hb3, by dsimp only; omega, ?_⟩
              repeat' ((conv => whnf); first | done | refine ev_step ?_ | refine ops_step ?_ | refine scan_step ?_ | refine draw_step ?_ | refine each_step ?_ | refine sl_step ?_ | refine hp_step ?_ | refine guard_no (by decide) ?_ | refine guard_go ?_ | refine guard_old ?_ | apply cut_auto | with_reducible exact CutS.mk (Or.inl ⟨rfl, rfl, rfl⟩) | refine CutS.mk (Or.inr (sub_auto ?_)) | exact trivial | refine And.intro ?_ ?_ | refine cond_split ?_ ?_ | apply guess | exact Or.inl rfl | exact Or.inr rfl | exact Side.mk trivial | exact Side.mk (fun h => h) | exact Side.mk (fun h => ⟨h, h⟩) | with_reducible exact Side.mk rfl | with_reducible exact Side.mk ⟨rfl, rfl⟩ | with_reducible exact Side.mk (by assumption) | with_reducible rfl | intro _)
              all_goals try (conv => whnf)
              all_goals first | rfl | trace_state
            | false =>
              obtain ⟨hb3, hb4⟩ := hb1 rfl
              clear hb1 hb2
              injection hb3 with e1 e2
              injection e2 with e2 e3
              injection e3 with e3 e4
              injection e4 with e4 e5
              subst e1 e2 e3 e4 e5
              by_cases hw2 : w < W.length
              · have hq : (bif decide ((w : Int) < W.length) then !false else false) = true := by rw [decide_eq_true (by omega)]; rfl
                have hwj0 := b_wrap (w := w) (by omega)
                cases ha with
                | beg =>
                  by_cases hal : first < 0 ∨ (w : Int) = first
                  · have hskq : (bif decide (andI .i64 (shrI .i64 ((0 : Nat) : Int) (IntKind.u64.wrap (w : Int))) 1 = 1) then true else bif bif decide ((([] : List Int).length : Int) = 0) then decide (0 ≤ first) else false then decide ((w : Int) ≠ first) else false) = false := by
                      rw [hwj0, b_bit (by omega) (by omega), if_neg (by simp)]
                      rcases hal with h1 | h1
                      · rw [decide_eq_false (show ¬ 0 ≤ first by omega)]; rfl
                      · rw [decide_eq_false (show ¬ (w : Int) ≠ first from fun h => h h1)]
                        cases decide (0 ≤ first) <;> rfl
                    have hwj := b_wrap (w := w) (by omega)
                    have hor : orI .i64 (((0 : Nat) : Nat) : Int) (shlI .i64 1 (IntKind.u64.wrap (w : Int))) = (((0 : Nat) ||| 2 ^ w : Nat) : Int) := by rw [hwj]; exact b_or (by omega) (by omega)
                    have hS2 := add_lt hm hw2
                    have hbb2 : ((0 : Nat) ||| 2 ^ w).testBit w = true := by rw [bit_add, decide_eq_true rfl, Bool.or_true]
                    have hnl : ∀ nx : List Nat, (natL nx).length = nx.length := natL_len
                    repeat' ((conv => whnf); first | done | refine ev_step ?_ | refine ops_step ?_ | refine scan_step ?_ | refine draw_step ?_ | refine each_step ?_ | refine sl_step ?_ | refine hp_step ?_ | refine guard_no (by decide) ?_ | refine guard_go ?_ | refine guard_old ?_ | apply cut_auto | with_reducible exact CutS.mk (Or.inl ⟨rfl, rfl, rfl⟩) | refine CutS.mk (Or.inr (sub_auto ?_)) | exact trivial | refine And.intro ?_ ?_ | (refine cond_split ?_ ?_ <;> intro hq_ <;> first | (exfalso; first | omega | (simp only [hq, hskq, cond_true, cond_false, Bool.not_true, Bool.not_false, Bool.and_true, Bool.true_and, Bool.and_false, Bool.false_and, Bool.or_true, Bool.true_or, Bool.or_false, Bool.false_or, Bool.true_eq_false, Bool.false_eq_true, decide_true, decide_false, reduceCtorEq] at hq_; done) | (rw [decide_eq_false_iff_not] at hq_; omega) | (rw [decide_eq_true_eq] at hq_; omega) | (simp only [hq, hskq, reduceCtorEq] at hq_; done) | exact Bool.noConfusion (Eq.trans (Eq.symm hq) hq_) | exact Bool.noConfusion (Eq.trans (Eq.symm hskq) hq_)) | skip) | apply guess | exact Or.inl rfl | exact Or.inr rfl | exact Side.mk trivial | exact Side.mk (fun h => h) | exact Side.mk (fun h => ⟨h, h⟩) | with_reducible exact Side.mk rfl | with_reducible exact Side.mk ⟨rfl, rfl⟩ | with_reducible exact Side.mk (by assumption) | with_reducible rfl | intro _)
                    all_goals try (conv => whnf)
                    all_goals try (refine Side.mk ?_; first | (intros; omega) | (show List.length (_ ++ _) ≤ _; simp only [List.length_append, List.length_cons, List.length_nil, List.length_replicate, List.length_take]; omega) | (simp_all; done) | (simp_all; omega))
                    all_goals try exact Side.mk (fun h1 h2 => by rw [h1, h2]; rfl)
                    refine loop_at (fun c : Nat × List Nat => c.1 ≤ ([cnt] : List Nat).length ∧ NxP (fun k sh => sh = 0 ∧ Lt W e ((0 : Nat) ||| 2 ^ w) w k = begL W e cnt first) cnt [cnt] c.1 0 c.2 ∧ ∀ x ∈ c.2, x ≤ cnt) 9 (fun c => [(24, .int .i64 c.1), (21, .sl 7 []), (22, .sl 8 []), (112, .top), (113, .top)]) (fun c => [(7, .flat true (.ints .i64 (natL c.2))), (8, .flat true (.ints .i64 (ltsL W e ((0 : Nat) ||| 2 ^ w) w c.2)))]) (fun c => 20 - c.1) (0, []) ⟨Nat.zero_le _, NxP.zero _ _ _, by simp⟩ ?_ (fun c hc2 => ?_)
                    · repeat' ((conv => whnf); first | done | refine ev_step ?_ | refine ops_step ?_ | refine scan_step ?_ | refine draw_step ?_ | refine each_step ?_ | refine sl_step ?_ | refine hp_step ?_ | refine guard_no (by decide) ?_ | refine guard_go ?_ | refine guard_old ?_ | apply cut_auto | with_reducible exact CutS.mk (Or.inl ⟨rfl, rfl, rfl⟩) | refine CutS.mk (Or.inr (sub_auto ?_)) | exact trivial | refine And.intro ?_ ?_ | refine cond_split ?_ ?_ | apply guess | exact Or.inl rfl | exact Or.inr rfl | exact Side.mk trivial | exact Side.mk (fun h => h) | exact Side.mk (fun h => ⟨h, h⟩) | with_reducible exact Side.mk rfl | with_reducible exact Side.mk ⟨rfl, rfl⟩ | with_reducible exact Side.mk (by assumption) | with_reducible rfl | intro _)
                      all_goals try (conv => whnf)
                      all_goals first | rfl | trace_state
                    · obtain ⟨i, nx⟩ := c
                      obtain ⟨hi, hN, hnc⟩ := hc2
                      dsimp only at hi hN hnc ⊢
                      have hn9 : nx.length ≤ 9 := nodup_nat 9 hN.nd fun k hk => by have := hnc k hk; omega
                      by_cases hi2 : i < ([cnt] : List Nat).length
                      · have hKi : (natL [cnt]).getD (i : Int).toNat 0 = ((([cnt] : List Nat).getD i 0 : Nat) : Int) := natL_get hi2
                        have hKm : ([cnt] : List Nat).getD i 0 ≤ cnt := hKc _ (by rw [List.getD, List.getElem?_eq_getElem hi2]; exact List.getElem_mem hi2)
                        have hi0 : i = 0 := by simp at hi2; omega
                        have hG : ([begL W e cnt first]).getD (i : Int).toNat 0 = begL W e cnt first := by rw [hi0]; rfl
                        have hK0 : ([cnt] : List Nat).getD i 0 = cnt := by rw [hi0]; rfl
                        have hmin := k_l00MinI 1 ((natL [cnt]).getD (i : Int).toNat 0)
                        repeat' ((conv => whnf); first | done | refine ev_step ?_ | refine ops_step ?_ | refine scan_step ?_ | refine draw_step ?_ | refine each_step ?_ | refine sl_step ?_ | refine hp_step ?_ | refine guard_no (by decide) ?_ | refine guard_go ?_ | refine guard_old ?_ | apply cut_auto | with_reducible exact CutS.mk (Or.inl ⟨rfl, rfl, rfl⟩) | refine CutS.mk (Or.inr (sub_auto ?_)) | exact trivial | refine And.intro ?_ ?_ | (refine cond_split ?_ ?_ <;> intro _ <;> first | (exfalso; first | omega | (simp only [decide_eq_true_eq, decide_eq_false_iff_not, Bool.not_eq_true', Bool.not_eq_false', ne_eq, Bool.not_true, Bool.not_false, cond_true, cond_false, Bool.true_eq_false, Bool.false_eq_true, Bool.and_eq_true, Bool.and_eq_false_iff] at *; omega)) | skip) | apply guess | apply FnIs.useF (hmin) | exact Or.inl rfl | exact Or.inr rfl | exact Side.mk trivial | exact Side.mk (fun h => h) | exact Side.mk (fun h => ⟨h, h⟩) | with_reducible exact Side.mk rfl | with_reducible exact Side.mk ⟨rfl, rfl⟩ | with_reducible exact Side.mk (by assumption) | with_reducible rfl | intro _)
                        all_goals try (conv => whnf)
                        all_goals try (refine Side.mk ?_; first | (intros; omega) | (show List.length (_ ++ _) ≤ _; simp only [List.length_append, List.length_cons, List.length_nil, List.length_replicate, List.length_take]; omega) | (simp_all; done) | (simp_all; omega))
                        refine loop_at (fun d : Nat × List Nat => d.1 ≤ 2 ∧ NxP (fun k sh => sh = 0 ∧ Lt W e ((0 : Nat) ||| 2 ^ w) w k = begL W e cnt first) cnt [cnt] i d.1 d.2 ∧ ∀ x ∈ d.2, x ≤ cnt) 9 (fun d => [(25, .int .i64 d.1), (21, .sl 7 []), (22, .sl 8 [])]) (fun d => [(7, .flat true (.ints .i64 (natL d.2))), (8, .flat true (.ints .i64 (ltsL W e ((0 : Nat) ||| 2 ^ w) w d.2)))]) (fun d => 20 - d.1) (0, nx) ⟨by omega, hN, hnc⟩ ?_ (fun d hd => ?_)
                        · repeat' ((conv => whnf); first | done | refine ev_step ?_ | refine ops_step ?_ | refine scan_step ?_ | refine draw_step ?_ | refine each_step ?_ | refine sl_step ?_ | refine hp_step ?_ | refine guard_no (by decide) ?_ | refine guard_go ?_ | refine guard_old ?_ | apply cut_auto | with_reducible exact CutS.mk (Or.inl ⟨rfl, rfl, rfl⟩) | refine CutS.mk (Or.inr (sub_auto ?_)) | exact trivial | refine And.intro ?_ ?_ | refine cond_split ?_ ?_ | apply guess | exact Or.inl rfl | exact Or.inr rfl | exact Side.mk trivial | exact Side.mk (fun h => h) | exact Side.mk (fun h => ⟨h, h⟩) | with_reducible exact Side.mk rfl | with_reducible exact Side.mk ⟨rfl, rfl⟩ | with_reducible exact Side.mk (by assumption) | with_reducible rfl | intro _)
                          all_goals try (conv => whnf)
                          all_goals first | rfl | trace_state
                        · obtain ⟨sh, nx2⟩ := d
                          obtain ⟨hsh, hN2, hnc2⟩ := hd
                          dsimp only at hsh hN2 hnc2 ⊢
                          have hn92 : nx2.length ≤ 9 := nodup_nat 9 hN2.nd fun k hk => by have := hnc2 k hk; omega
                          have hnl2 := natL_len nx2
                          have hll2 := ltsL_len W e ((0 : Nat) ||| 2 ^ w) w nx2
                          by_cases hsh2 : sh ≤ min 1 (([cnt] : List Nat).getD i 0)
                          · have hX : (((orI .i64 (((0 : Nat) : Nat) : Int) (shlI .i64 1 (IntKind.u64.wrap (w : Int)))) * 9 + w) * 9 + (natL [cnt]).getD (i : Int).toNat 0 - sh).toNat = (((0 : Nat) ||| 2 ^ w) * 9 + w) * 9 + (([cnt] : List Nat).getD i 0 - sh) := by rw [hor, hKi]; omega
                            have hread : TB.getD (((orI .i64 ((0 : Nat) : Int) (shlI .i64 1 (IntKind.u64.wrap (w : Int)))) * 9 + w) * 9 + (natL [cnt]).getD (i : Int).toNat 0 - sh).toNat 0 = Lt W e ((0 : Nat) ||| 2 ^ w) w (([cnt] : List Nat).getD i 0 - sh) := by rw [hX]; exact htg _ _ _ hS2 (by omega) (by omega) hbb2 (by omega)
                            have hrb := Lt_bd9 hW (e := e) (m := (0 : Nat) ||| 2 ^ w) (k := ([cnt] : List Nat).getD i 0 - sh) hw2
                            have hsub : (natL [cnt]).getD (i : Int).toNat 0 - sh = (((([cnt] : List Nat).getD i 0 - sh : Nat)) : Int) := by rw [hKi]; omega
                            have kh := k_l00Has (natL nx2) ((natL [cnt]).getD (i : Int).toNat 0 - sh) ⟨by omega⟩
                            have hmemq : decide ((natL [cnt]).getD (i : Int).toNat 0 - sh ∈ natL nx2) = decide (([cnt] : List Nat).getD i 0 - sh ∈ nx2) := by rw [hsub, decide_eq_decide]; exact natL_mem
                            by_cases hs1 : sh = 0
                            · have hgv : ([begL W e cnt first]).getD (i : Int).toNat 0 = begL W e cnt first := hG
                              have hs0 : decide ((sh : Int) = 1) = false := decide_eq_false (by omega)
                              have hai : (sh = 0 ∧ Lt W e ((0 : Nat) ||| 2 ^ w) w (([cnt] : List Nat).getD i 0) = begL W e cnt first) ↔ (0 ≤ begL W e cnt first ∧ Lt W e ((0 : Nat) ||| 2 ^ w) w (([cnt] : List Nat).getD i 0 - sh) = begL W e cnt first) := by
                                rw [hs1, Nat.sub_zero]; exact ⟨fun h => ⟨h0, h.2⟩, fun h => ⟨rfl, h.2⟩⟩
                              have hcv : (bif bif decide (([begL W e cnt first]).getD (i : Int).toNat 0 < 0) then true else decide (TB.getD (((orI .i64 ((0 : Nat) : Int) (shlI .i64 1 (IntKind.u64.wrap (w : Int)))) * 9 + w) * 9 + (natL [cnt]).getD (i : Int).toNat 0 - sh).toNat 0 ≠ ([begL W e cnt first]).getD (i : Int).toNat 0) then true else decide ((natL [cnt]).getD (i : Int).toNat 0 - sh ∈ natL nx2)) = !decide ((0 ≤ begL W e cnt first ∧ Lt W e ((0 : Nat) ||| 2 ^ w) w (([cnt] : List Nat).getD i 0 - sh) = begL W e cnt first) ∧ ([cnt] : List Nat).getD i 0 - sh ∉ nx2) := by
                                rw [hmemq, hread, hgv]; exact condT _ _ _
                              by_cases htk : (0 ≤ begL W e cnt first ∧ Lt W e ((0 : Nat) ||| 2 ^ w) w (([cnt] : List Nat).getD i 0 - sh) = begL W e cnt first) ∧ ([cnt] : List Nat).getD i 0 - sh ∉ nx2
                              · rw [decide_eq_true htk] at hcv
                                obtain ⟨hac, hnm⟩ := htk
                                have hacc := hai.2 hac
                                repeat' ((conv => whnf); first | done | refine ev_step ?_ | refine ops_step ?_ | refine scan_step ?_ | refine draw_step ?_ | refine each_step ?_ | refine sl_step ?_ | refine hp_step ?_ | refine guard_no (by decide) ?_ | refine guard_go ?_ | refine guard_old ?_ | apply cut_auto | with_reducible exact CutS.mk (Or.inl ⟨rfl, rfl, rfl⟩) | refine CutS.mk (Or.inr (sub_auto ?_)) | exact trivial | refine And.intro ?_ ?_ | (refine cond_split ?_ ?_ <;> intro hq_ <;> first | (exfalso; first | omega | (simp only [hcv, hs0, cond_true, cond_false, Bool.not_true, Bool.not_false, Bool.and_true, Bool.true_and, Bool.and_false, Bool.false_and, Bool.or_true, Bool.true_or, Bool.or_false, Bool.false_or, Bool.true_eq_false, Bool.false_eq_true, decide_true, decide_false, reduceCtorEq] at hq_; done) | (rw [decide_eq_false_iff_not] at hq_; omega) | (rw [decide_eq_true_eq] at hq_; omega) | (simp only [hcv, hs0, reduceCtorEq] at hq_; done) | exact Bool.noConfusion (Eq.trans (Eq.symm hcv) hq_) | exact Bool.noConfusion (Eq.trans (Eq.symm hs0) hq_)) | skip) | apply guess | apply FnIs.useF (hmin) | apply FnIs.useS (kh) | exact Or.inl rfl | exact Or.inr rfl | exact Side.mk trivial | exact Side.mk (fun h => h) | exact Side.mk (fun h => ⟨h, h⟩) | with_reducible exact Side.mk rfl | with_reducible exact Side.mk ⟨rfl, rfl⟩ | with_reducible exact Side.mk (by assumption) | with_reducible rfl | intro _)
                                all_goals try (conv => whnf)
                                all_goals try (refine Side.mk ?_; first | (intros; omega) | (show List.length (_ ++ _) ≤ _; simp only [List.length_append, List.length_cons, List.length_nil, List.length_replicate, List.length_take]; omega) | (simp_all; done) | (simp_all; omega))
                                all_goals try omega
                                refine ⟨(sh + 1, nx2 ++ [([cnt] : List Nat).getD i 0 - sh]), ⟨by dsimp only; omega, hN2.take hi2 hsh2 hacc hnm, fun x hx => ?_⟩, by dsimp only; omega, ?_⟩
                                · rcases List.mem_append.1 hx with hx | hx
                                  · exact hnc2 x hx
                                  · rw [List.mem_singleton.1 hx]; omega
                                · repeat' ((conv => whnf); first | done | refine ev_step ?_ | refine ops_step ?_ | refine scan_step ?_ | refine draw_step ?_ | refine each_step ?_ | refine sl_step ?_ | refine hp_step ?_ | refine guard_no (by decide) ?_ | refine guard_go ?_ | refine guard_old ?_ | apply cut_auto | with_reducible exact CutS.mk (Or.inl ⟨rfl, rfl, rfl⟩) | refine CutS.mk (Or.inr (sub_auto ?_)) | exact trivial | refine And.intro ?_ ?_ | refine cond_split ?_ ?_ | apply guess | exact Or.inl rfl | exact Or.inr rfl | exact Side.mk trivial | exact Side.mk (fun h => h) | exact Side.mk (fun h => ⟨h, h⟩) | with_reducible exact Side.mk rfl | with_reducible exact Side.mk ⟨rfl, rfl⟩ | with_reducible exact Side.mk (by assumption) | with_reducible rfl | intro _)
                                  all_goals try (conv => whnf)
                                  all_goals first | rfl | omega | (rw [natL_snoc, hsub]; done) | (rw [natL_snoc, hsub]; rfl) | (rw [ltsL_snoc, hgv, ← hac.2]; done) | (rw [ltsL_snoc, hgv, ← hac.2]; rfl) | trace_state
                              · rw [decide_eq_false htk] at hcv
                                repeat' ((conv => whnf); first | done | refine ev_step ?_ | refine ops_step ?_ | refine scan_step ?_ | refine draw_step ?_ | refine each_step ?_ | refine sl_step ?_ | refine hp_step ?_ | refine guard_no (by decide) ?_ | refine guard_go ?_ | refine guard_old ?_ | apply cut_auto | with_reducible exact CutS.mk (Or.inl ⟨rfl, rfl, rfl⟩) | refine CutS.mk (Or.inr (sub_auto ?_)) | exact trivial | refine And.intro ?_ ?_ | (refine cond_split ?_ ?_ <;> intro hq_ <;> first | (exfalso; first | omega | (simp only [hcv, hs0, cond_true, cond_false, Bool.not_true, Bool.not_false, Bool.and_true, Bool.true_and, Bool.and_false, Bool.false_and, Bool.or_true, Bool.true_or, Bool.or_false, Bool.false_or, Bool.true_eq_false, Bool.false_eq_true, decide_true, decide_false, reduceCtorEq] at hq_; done) | (rw [decide_eq_false_iff_not] at hq_; omega) | (rw [decide_eq_true_eq] at hq_; omega) | (simp only [hcv, hs0, reduceCtorEq] at hq_; done) | exact Bool.noConfusion (Eq.trans (Eq.symm hcv) hq_) | exact Bool.noConfusion (Eq.trans (Eq.symm hs0) hq_)) | skip) | apply guess | apply FnIs.useF (hmin) | apply FnIs.useS (kh) | exact Or.inl rfl | exact Or.inr rfl | exact Side.mk trivial | exact Side.mk (fun h => h) | exact Side.mk (fun h => ⟨h, h⟩) | with_reducible exact Side.mk rfl | with_reducible exact Side.mk ⟨rfl, rfl⟩ | with_reducible exact Side.mk (by assumption) | with_reducible rfl | intro _)
                                all_goals try (conv => whnf)
                                all_goals try (refine Side.mk ?_; first | (intros; omega) | (show List.length (_ ++ _) ≤ _; simp only [List.length_append, List.length_cons, List.length_nil, List.length_replicate, List.length_take]; omega) | (simp_all; done) | (simp_all; omega))
                                all_goals try omega
                                refine ⟨(sh + 1, nx2), ⟨by dsimp only; omega, hN2.pass (fun _ ha => Classical.byContradiction fun hnm => htk ⟨hai.1 ha, hnm⟩), hnc2⟩, by dsimp only; omega, ?_⟩
                                repeat' ((conv => whnf); first | done | refine ev_step ?_ | refine ops_step ?_ | refine scan_step ?_ | refine draw_step ?_ | refine each_step ?_ | refine sl_step ?_ | refine hp_step ?_ | refine guard_no (by decide) ?_ | refine guard_go ?_ | refine guard_old ?_ | apply cut_auto | with_reducible exact CutS.mk (Or.inl ⟨rfl, rfl, rfl⟩) | refine CutS.mk (Or.inr (sub_auto ?_)) | exact trivial | refine And.intro ?_ ?_ | refine cond_split ?_ ?_ | apply guess | exact Or.inl rfl | exact Or.inr rfl | exact Side.mk trivial | exact Side.mk (fun h => h) | exact Side.mk (fun h => ⟨h, h⟩) | with_reducible exact Side.mk rfl | with_reducible exact Side.mk ⟨rfl, rfl⟩ | with_reducible exact Side.mk (by assumption) | with_reducible rfl | intro _)
                                all_goals try (conv => whnf)
                                all_goals first | rfl | omega | trace_state
                            · have hs0 : decide ((sh : Int) = 1) = true := decide_eq_true (by omega)
                              repeat' ((conv => whnf); first | done | refine ev_step ?_ | refine ops_step ?_ | refine scan_step ?_ | refine draw_step ?_ | refine each_step ?_ | refine sl_step ?_ | refine hp_step ?_ | refine guard_no (by decide) ?_ | refine guard_go ?_ | refine guard_old ?_ | apply cut_auto | with_reducible exact CutS.mk (Or.inl ⟨rfl, rfl, rfl⟩) | refine CutS.mk (Or.inr (sub_auto ?_)) | exact trivial | refine And.intro ?_ ?_ | (refine cond_split ?_ ?_ <;> intro hq_ <;> first | (exfalso; first | omega | (simp only [hs0, cond_true, cond_false, Bool.not_true, Bool.not_false, Bool.and_true, Bool.true_and, Bool.and_false, Bool.false_and, Bool.or_true, Bool.true_or, Bool.or_false, Bool.false_or, Bool.true_eq_false, Bool.false_eq_true, decide_true, decide_false, reduceCtorEq] at hq_; done) | (rw [decide_eq_false_iff_not] at hq_; omega) | (rw [decide_eq_true_eq] at hq_; omega) | (simp only [hs0, reduceCtorEq] at hq_; done) | exact Bool.noConfusion (Eq.trans (Eq.symm hs0) hq_)) | skip) | apply guess | apply FnIs.useF (hmin) | exact Or.inl rfl | exact Or.inr rfl | exact Side.mk trivial | exact Side.mk (fun h => h) | exact Side.mk (fun h => ⟨h, h⟩) | with_reducible exact Side.mk rfl | with_reducible exact Side.mk ⟨rfl, rfl⟩ | with_reducible exact Side.mk (by assumption) | with_reducible rfl | intro _)
                              all_goals try (conv => whnf)
                              all_goals try (refine Side.mk ?_; first | (intros; omega) | (show List.length (_ ++ _) ≤ _; simp only [List.length_append, List.length_cons, List.length_nil, List.length_replicate, List.length_take]; omega) | (simp_all; done) | (simp_all; omega))
                              all_goals try omega
                              refine ⟨(sh + 1, nx2), ⟨by dsimp only; omega, hN2.pass (fun _ ha => absurd ha.1 hs1), hnc2⟩, by dsimp only; omega, ?_⟩
                              repeat' ((conv => whnf); first | done | refine ev_step ?_ | refine ops_step ?_ | refine scan_step ?_ | refine draw_step ?_ | refine each_step ?_ | refine sl_step ?_ | refine hp_step ?_ | refine guard_no (by decide) ?_ | refine guard_go ?_ | refine guard_old ?_ | apply cut_auto | with_reducible exact CutS.mk (Or.inl ⟨rfl, rfl, rfl⟩) | refine CutS.mk (Or.inr (sub_auto ?_)) | exact trivial | refine And.intro ?_ ?_ | refine cond_split ?_ ?_ | apply guess | exact Or.inl rfl | exact Or.inr rfl | exact Side.mk trivial | exact Side.mk (fun h => h) | exact Side.mk (fun h => ⟨h, h⟩) | with_reducible exact Side.mk rfl | with_reducible exact Side.mk ⟨rfl, rfl⟩ | with_reducible exact Side.mk (by assumption) | with_reducible rfl | intro _)
                              all_goals try (conv => whnf)
                              all_goals first | rfl | omega | trace_state
                          · repeat' ((conv => whnf); first | done | refine ev_step ?_ | refine ops_step ?_ | refine scan_step ?_ | refine draw_step ?_ | refine each_step ?_ | refine sl_step ?_ | refine hp_step ?_ | refine guard_no (by decide) ?_ | refine guard_go ?_ | refine guard_old ?_ | apply cut_auto | with_reducible exact CutS.mk (Or.inl ⟨rfl, rfl, rfl⟩) | refine CutS.mk (Or.inr (sub_auto ?_)) | exact trivial | refine And.intro ?_ ?_ | (refine cond_split ?_ ?_ <;> intro _ <;> first | (exfalso; first | omega | (simp only [decide_eq_true_eq, decide_eq_false_iff_not, Bool.not_eq_true', Bool.not_eq_false', ne_eq, Bool.not_true, Bool.not_false, cond_true, cond_false, Bool.true_eq_false, Bool.false_eq_true, Bool.and_eq_true, Bool.and_eq_false_iff] at *; omega)) | skip) | apply guess | apply FnIs.useF (hmin) | exact Or.inl rfl | exact Or.inr rfl | exact Side.mk trivial | exact Side.mk (fun h => h) | exact Side.mk (fun h => ⟨h, h⟩) | with_reducible exact Side.mk rfl | with_reducible exact Side.mk ⟨rfl, rfl⟩ | with_reducible exact Side.mk (by assumption) | with_reducible rfl | intro _)
                            all_goals try (conv => whnf)
                            all_goals try (refine Side.mk ?_; first | (intros; omega) | (show List.length (_ ++ _) ≤ _; simp only [List.length_append, List.length_cons, List.length_nil, List.length_replicate, List.length_take]; omega) | (simp_all; done) | (simp_all; omega))
                            all_goals try omega
                            refine ⟨(i + 1, nx2), ⟨by dsimp only; omega, hN2.down (by omega), hnc2⟩, by dsimp only; omega, ?_⟩
                            repeat' ((conv => whnf); first | done | refine ev_step ?_ | refine ops_step ?_ | refine scan_step ?_ | refine draw_step ?_ | refine each_step ?_ | refine sl_step ?_ | refine hp_step ?_ | refine guard_no (by decide) ?_ | refine guard_go ?_ | refine guard_old ?_ | apply cut_auto | with_reducible exact CutS.mk (Or.inl ⟨rfl, rfl, rfl⟩) | refine CutS.mk (Or.inr (sub_auto ?_)) | exact trivial | refine And.intro ?_ ?_ | refine cond_split ?_ ?_ | apply guess | exact Or.inl rfl | exact Or.inr rfl | exact Side.mk trivial | exact Side.mk (fun h => h) | exact Side.mk (fun h => ⟨h, h⟩) | with_reducible exact Side.mk rfl | with_reducible exact Side.mk ⟨rfl, rfl⟩ | with_reducible exact Side.mk (by assumption) | with_reducible rfl | intro _)
                            all_goals try (conv => whnf)
                            all_goals first | rfl | omega | trace_state
                      · have hie : i = ([cnt] : List Nat).length := by omega
                        rw [hie] at hN
                        have hnl2 := natL_len nx
                        have hbg : nx ≠ [] ↔ begB W e cnt first w = true := by
                          unfold begB
                          rw [decide_eq_true hal, Bool.true_and, decide_eq_true_eq]
                          constructor
                          · intro h1
                            obtain ⟨x, hx⟩ := List.exists_mem_of_ne_nil _ h1
                            obtain ⟨j, s, h1, _, _, ⟨_, h3⟩, _⟩ := (hN.mem x).1 hx
                            have hj0 : j = 0 := by simp at h1; omega
                            rw [hj0, Nat.zero_or] at h3; exact h3
                          · intro h1 h2
                            have := (hN.mem cnt).2 ⟨0, 0, by simp, .inl (by simp), by omega, ⟨rfl, by rw [Nat.zero_or]; exact h1⟩, rfl⟩
                            rw [h2] at this; cases this
                        by_cases hnil : nx = []
                        · have hl0 : nx.length = 0 := by rw [hnil]; rfl
                          repeat' ((conv => whnf); first | done | refine ev_step ?_ | refine ops_step ?_ | refine scan_step ?_ | refine draw_step ?_ | refine each_step ?_ | refine sl_step ?_ | refine hp_step ?_ | refine guard_no (by decide) ?_ | refine guard_go ?_ | refine guard_old ?_ | apply cut_auto | with_reducible exact CutS.mk (Or.inl ⟨rfl, rfl, rfl⟩) | refine CutS.mk (Or.inr (sub_auto ?_)) | exact trivial | refine And.intro ?_ ?_ | (refine cond_split ?_ ?_ <;> intro _ <;> first | (exfalso; first | omega | (simp only [decide_eq_true_eq, decide_eq_false_iff_not, Bool.not_eq_true', Bool.not_eq_false', ne_eq, Bool.not_true, Bool.not_false, cond_true, cond_false, Bool.true_eq_false, Bool.false_eq_true, Bool.and_eq_true, Bool.and_eq_false_iff] at *; omega)) | skip) | apply guess | exact Or.inl rfl | exact Or.inr rfl | exact Side.mk trivial | exact Side.mk (fun h => h) | exact Side.mk (fun h => ⟨h, h⟩) | with_reducible exact Side.mk rfl | with_reducible exact Side.mk ⟨rfl, rfl⟩ | with_reducible exact Side.mk (by assumption) | with_reducible rfl | intro _)
                          all_goals try (conv => whnf)
                          all_goals try (refine Side.mk ?_; first | (intros; omega) | (show List.length (_ ++ _) ≤ _; simp only [List.length_append, List.length_cons, List.length_nil, List.length_replicate, List.length_take]; omega) | (simp_all; done) | (simp_all; omega))
                          all_goals try omega
                          refine ⟨(w + 1, false, (([] : List Int), (0 : Nat), l2, [cnt], [begL W e cnt first])), ⟨by dsimp only; omega, fun _ => ⟨rfl, fun v hv => ?_⟩, fun h => nomatch h⟩, by dsimp only; omega, ?_⟩
                          · by_cases hvw : v = w
                            · subst hvw
                              rw [if_pos rfl]
                              exact Bool.eq_false_iff.2 fun h2 => hbg.2 h2 hnil
                            · exact hb4 v (by dsimp only at hv; omega)
                          · repeat' ((conv => whnf); first | done | refine ev_step ?_ | refine ops_step ?_ | refine scan_step ?_ | refine draw_step ?_ | refine each_step ?_ | refine sl_step ?_ | refine hp_step ?_ | refine guard_no (by decide) ?_ | refine guard_go ?_ | refine guard_old ?_ | apply cut_auto | with_reducible exact CutS.mk (Or.inl ⟨rfl, rfl, rfl⟩) | refine CutS.mk (Or.inr (sub_auto ?_)) | exact trivial | refine And.intro ?_ ?_ | refine cond_split ?_ ?_ | apply guess | exact Or.inl rfl | exact Or.inr rfl | exact Side.mk trivial | exact Side.mk (fun h => h) | exact Side.mk (fun h => ⟨h, h⟩) | with_reducible exact Side.mk rfl | with_reducible exact Side.mk ⟨rfl, rfl⟩ | with_reducible exact Side.mk (by assumption) | with_reducible rfl | intro _)
                            all_goals try (conv => whnf)
                            all_goals first | rfl | omega | trace_state
                        · have hl0 : 0 < nx.length := List.length_pos_iff.2 hnil
                          have hnx : nx = [cnt] := by
                            have h1 : ∀ x ∈ nx, x = cnt := fun x hx => by
                              obtain ⟨j, s, h1, _, _, ⟨h3, _⟩, h4⟩ := (hN.mem x).1 hx
                              have hj0 : j = 0 := by simp at h1; omega
                              rw [h4, h3, hj0]; rfl
                            have h2 := nodup_nat (cnt + 1) hN.nd fun x hx => by have := h1 x hx; omega
                            cases hq2 : nx with
                            | nil => exact absurd hq2 hnil
                            | cons a r =>
                              have ha := h1 a (by rw [hq2]; simp)
                              subst ha
                              cases r with
                              | nil => rfl
                              | cons b r =>
                                have hb := h1 b (by rw [hq2]; simp)
                                have := hN.nd
                                rw [hq2, hb] at this
                                simp at this
                          have hP2 : FolP W e cnt (folO W e cnt first) [(w : Int)] (2 ^ w) w [cnt] := FolP.start h0 hw2 (hbg.1 hnil) fun v hv => by have := hb4 v hv; rwa [if_pos rfl] at this
                          rw [← hnx, ← Nat.zero_or (2 ^ w)] at hP2
                          repeat' ((conv => whnf); first | done | refine ev_step ?_ | refine ops_step ?_ | refine scan_step ?_ | refine draw_step ?_ | refine each_step ?_ | refine sl_step ?_ | refine hp_step ?_ | refine guard_no (by decide) ?_ | refine guard_go ?_ | refine guard_old ?_ | apply cut_auto | with_reducible exact CutS.mk (Or.inl ⟨rfl, rfl, rfl⟩) | refine CutS.mk (Or.inr (sub_auto ?_)) | exact trivial | refine And.intro ?_ ?_ | (refine cond_split ?_ ?_ <;> intro _ <;> first | (exfalso; first | omega | (simp only [decide_eq_true_eq, decide_eq_false_iff_not, Bool.not_eq_true', Bool.not_eq_false', ne_eq, Bool.not_true, Bool.not_false, cond_true, cond_false, Bool.true_eq_false, Bool.false_eq_true, Bool.and_eq_true, Bool.and_eq_false_iff] at *; omega)) | skip) | apply guess | exact Or.inl rfl | exact Or.inr rfl | exact Side.mk trivial | exact Side.mk (fun h => h) | exact Side.mk (fun h => ⟨h, h⟩) | with_reducible exact Side.mk rfl | with_reducible exact Side.mk ⟨rfl, rfl⟩ | with_reducible exact Side.mk (by assumption) | with_reducible rfl | intro _)
                          all_goals try (conv => whnf)
                          all_goals try (refine Side.mk ?_; first | (intros; omega) | (show List.length (_ ++ _) ≤ _; simp only [List.length_append, List.length_cons, List.length_nil, List.length_replicate, List.length_take]; omega) | (simp_all; done) | (simp_all; omega))
                          all_goals try omega
                          refine ⟨(w + 1, true, (([] : List Int) ++ [(w : Int)], (0 : Nat) ||| 2 ^ w, w, nx, ltsL W e ((0 : Nat) ||| 2 ^ w) w nx)), ⟨by dsimp only; omega, (fun h => nomatch h), fun _ => ⟨.on hP2, by dsimp only; simp⟩⟩, by dsimp only; omega, ?_⟩
                          repeat' ((conv => whnf); first | done | refine ev_step ?_ | refine ops_step ?_ | refine scan_step ?_ | refine draw_step ?_ | refine each_step ?_ | refine sl_step ?_ | refine hp_step ?_ | refine guard_no (by decide) ?_ | refine guard_go ?_ | refine guard_old ?_ | apply cut_auto | with_reducible exact CutS.mk (Or.inl ⟨rfl, rfl, rfl⟩) | refine CutS.mk (Or.inr (sub_auto ?_)) | exact trivial | refine And.intro ?_ ?_ | refine cond_split ?_ ?_ | apply guess | exact Or.inl rfl | exact Or.inr rfl | exact Side.mk trivial | exact Side.mk (fun h => h) | exact Side.mk (fun h => ⟨h, h⟩) | with_reducible exact Side.mk rfl | with_reducible exact Side.mk ⟨rfl, rfl⟩ | with_reducible exact Side.mk (by assumption) | with_reducible rfl | intro _)
                          all_goals try (conv => whnf)
                          all_goals first | rfl | omega | exact hor | exact hor.symm | trace_state
                  · have hskq : (bif decide (andI .i64 (shrI .i64 ((0 : Nat) : Int) (IntKind.u64.wrap (w : Int))) 1 = 1) then true else bif bif decide ((([] : List Int).length : Int) = 0) then decide (0 ≤ first) else false then decide ((w : Int) ≠ first) else false) = true := by
                      rw [hwj0, b_bit (by omega) (by omega), if_neg (by simp), decide_eq_true (show 0 ≤ first by omega), decide_eq_true (show (w : Int) ≠ first by omega)]
                      rfl
                    repeat' ((conv => whnf); first | done | refine ev_step ?_ | refine ops_step ?_ | refine scan_step ?_ | refine draw_step ?_ | refine each_step ?_ | refine sl_step ?_ | refine hp_step ?_ | refine guard_no (by decide) ?_ | refine guard_go ?_ | refine guard_old ?_ | apply cut_auto | with_reducible exact CutS.mk (Or.inl ⟨rfl, rfl, rfl⟩) | refine CutS.mk (Or.inr (sub_auto ?_)) | exact trivial | refine And.intro ?_ ?_ | (refine cond_split ?_ ?_ <;> intro hq_ <;> first | (exfalso; first | omega | (simp only [hq, hskq, cond_true, cond_false, Bool.not_true, Bool.not_false, Bool.and_true, Bool.true_and, Bool.and_false, Bool.false_and, Bool.or_true, Bool.true_or, Bool.or_false, Bool.false_or, Bool.true_eq_false, Bool.false_eq_true, decide_true, decide_false, reduceCtorEq] at hq_; done) | (rw [decide_eq_false_iff_not] at hq_; omega) | (rw [decide_eq_true_eq] at hq_; omega) | (simp only [hq, hskq, reduceCtorEq] at hq_; done) | exact Bool.noConfusion (Eq.trans (Eq.symm hq) hq_) | exact Bool.noConfusion (Eq.trans (Eq.symm hskq) hq_)) | skip) | apply guess | exact Or.inl rfl | exact Or.inr rfl | exact Side.mk trivial | exact Side.mk (fun h => h) | exact Side.mk (fun h => ⟨h, h⟩) | with_reducible exact Side.mk rfl | with_reducible exact Side.mk ⟨rfl, rfl⟩ | with_reducible exact Side.mk (by assumption) | with_reducible rfl | intro _)
                    all_goals try (conv => whnf)
                    all_goals try (refine Side.mk ?_; first | (intros; omega) | (show List.length (_ ++ _) ≤ _; simp only [List.length_append, List.length_cons, List.length_nil, List.length_replicate, List.length_take]; omega) | (simp_all; done) | (simp_all; omega))
                    all_goals try exact Side.mk (fun h1 h2 => by rw [h1, h2]; rfl)
                    all_goals try omega
                    refine ⟨(w + 1, false, ([], 0, l2, [cnt], [begL W e cnt first])), ⟨by dsimp only; omega, fun _ => ⟨rfl, fun v hv => ?_⟩, fun h => nomatch h⟩, by dsimp only; omega, ?_⟩
                    · by_cases hvw : v = w
                      · subst hvw
                        rw [if_pos rfl]
                        unfold begB
                        rw [decide_eq_false hal]; rfl
                      · exact hb4 v (by dsimp only at hv; omega)
                    · repeat' ((conv => whnf); first | done | refine ev_step ?_ | refine ops_step ?_ | refine scan_step ?_ | refine draw_step ?_ | refine each_step ?_ | refine sl_step ?_ | refine hp_step ?_ | refine guard_no (by decide) ?_ | refine guard_go ?_ | refine guard_old ?_ | apply cut_auto | with_reducible exact CutS.mk (Or.inl ⟨rfl, rfl, rfl⟩) | refine CutS.mk (Or.inr (sub_auto ?_)) | exact trivial | refine And.intro ?_ ?_ | refine cond_split ?_ ?_ | apply guess | exact Or.inl rfl | exact Or.inr rfl | exact Side.mk trivial | exact Side.mk (fun h => h) | exact Side.mk (fun h => ⟨h, h⟩) | with_reducible exact Side.mk rfl | with_reducible exact Side.mk ⟨rfl, rfl⟩ | with_reducible exact Side.mk (by assumption) | with_reducible rfl | intro _)
                      all_goals try (conv => whnf)
                      all_goals first | rfl | omega | trace_state
                | on h =>
                  have hon : ¬ ((o2.length : Int) = 0) := fun h1 => h.ne (List.eq_nil_of_length_eq_zero (by omega))
                  have hbq := b_bit (m := m2) (w := w) (by omega) (by omega)
                  cases hbf : m2.testBit w with
                  | true =>
                    have hskq : (bif decide (andI .i64 (shrI .i64 (m2 : Int) (IntKind.u64.wrap (w : Int))) 1 = 1) then true else bif bif decide ((o2.length : Int) = 0) then decide (0 ≤ first) else false then decide ((w : Int) ≠ first) else false) = true := by
                      rw [hwj0, hbq, hbf]; rfl
                    repeat' ((conv => whnf); first | done | refine ev_step ?_ | refine ops_step ?_ | refine scan_step ?_ | refine draw_step ?_ | refine each_step ?_ | refine sl_step ?_ | refine hp_step ?_ | refine guard_no (by decide) ?_ | refine guard_go ?_ | refine guard_old ?_ | apply cut_auto | with_reducible exact CutS.mk (Or.inl ⟨rfl, rfl, rfl⟩) | refine CutS.mk (Or.inr (sub_auto ?_)) | exact trivial | refine And.intro ?_ ?_ | (refine cond_split ?_ ?_ <;> intro hq_ <;> first | (exfalso; first | omega | (simp only [hq, hskq, cond_true, cond_false, Bool.not_true, Bool.not_false, Bool.and_true, Bool.true_and, Bool.and_false, Bool.false_and, Bool.or_true, Bool.true_or, Bool.or_false, Bool.false_or, Bool.true_eq_false, Bool.false_eq_true, decide_true, decide_false, reduceCtorEq] at hq_; done) | (rw [decide_eq_false_iff_not] at hq_; omega) | (rw [decide_eq_true_eq] at hq_; omega) | (simp only [hq, hskq, reduceCtorEq] at hq_; done) | exact Bool.noConfusion (Eq.trans (Eq.symm hq) hq_) | exact Bool.noConfusion (Eq.trans (Eq.symm hskq) hq_)) | skip) | apply guess | exact Or.inl rfl | exact Or.inr rfl | exact Side.mk trivial | exact Side.mk (fun h => h) | exact Side.mk (fun h => ⟨h, h⟩) | with_reducible exact Side.mk rfl | with_reducible exact Side.mk ⟨rfl, rfl⟩ | with_reducible exact Side.mk (by assumption) | with_reducible rfl | intro _)
                    all_goals try (conv => whnf)
                    all_goals try (refine Side.mk ?_; first | (intros; omega) | (show List.length (_ ++ _) ≤ _; simp only [List.length_append, List.length_cons, List.length_nil, List.length_replicate, List.length_take]; omega) | (simp_all; done) | (simp_all; omega))
                    all_goals try exact Side.mk (fun h1 h2 => by rw [h1, h2]; rfl)
                    all_goals try omega
                    refine ⟨(w + 1, false, (o2, m2, l2, K2, ltsL W e m2 l2 K2)), ⟨by dsimp only; omega, fun _ => ⟨rfl, fun v hv => ?_⟩, fun h => nomatch h⟩, by dsimp only; omega, ?_⟩
                    · by_cases hvw : v = w
                      · subst hvw
                        rw [if_neg h.ne]
                        unfold goodW
                        rw [hbf]; rfl
                      · exact hb4 v (by dsimp only at hv; omega)
                    · repeat' ((conv => whnf); first | done | refine ev_step ?_ | refine ops_step ?_ | refine scan_step ?_ | refine draw_step ?_ | refine each_step ?_ | refine sl_step ?_ | refine hp_step ?_ | refine guard_no (by decide) ?_ | refine guard_go ?_ | refine guard_old ?_ | apply cut_auto | with_reducible exact CutS.mk (Or.inl ⟨rfl, rfl, rfl⟩) | refine CutS.mk (Or.inr (sub_auto ?_)) | exact trivial | refine And.intro ?_ ?_ | refine cond_split ?_ ?_ | apply guess | exact Or.inl rfl | exact Or.inr rfl | exact Side.mk trivial | exact Side.mk (fun h => h) | exact Side.mk (fun h => ⟨h, h⟩) | with_reducible exact Side.mk rfl | with_reducible exact Side.mk ⟨rfl, rfl⟩ | with_reducible exact Side.mk (by assumption) | with_reducible rfl | intro _)
                      all_goals try (conv => whnf)
                      all_goals first | rfl | omega | trace_state
                  | false =>
                    have hskq : (bif decide (andI .i64 (shrI .i64 (m2 : Int) (IntKind.u64.wrap (w : Int))) 1 = 1) then true else bif bif decide ((o2.length : Int) = 0) then decide (0 ≤ first) else false then decide ((w : Int) ≠ first) else false) = false := by
                      rw [hwj0, hbq, hbf, decide_eq_false hon]; rfl
                    have hwj := b_wrap (w := w) (by omega)
                    have hor : orI .i64 ((m2 : Nat) : Int) (shlI .i64 1 (IntKind.u64.wrap (w : Int))) = ((m2 ||| 2 ^ w : Nat) : Int) := by rw [hwj]; exact b_or (by omega) (by omega)
                    have hS2 := add_lt hm hw2
                    have hbb2 : (m2 ||| 2 ^ w).testBit w = true := by rw [bit_add, decide_eq_true rfl, Bool.or_true]
                    have hnl : ∀ nx : List Nat, (natL nx).length = nx.length := natL_len
                    repeat' ((conv => whnf); first | done | refine ev_step ?_ | refine ops_step ?_ | refine scan_step ?_ | refine draw_step ?_ | refine each_step ?_ | refine sl_step ?_ | refine hp_step ?_ | refine guard_no (by decide) ?_ | refine guard_go ?_ | refine guard_old ?_ | apply cut_auto | with_reducible exact CutS.mk (Or.inl ⟨rfl, rfl, rfl⟩) | refine CutS.mk (Or.inr (sub_auto ?_)) | exact trivial | refine And.intro ?_ ?_ | (refine cond_split ?_ ?_ <;> intro hq_ <;> first | (exfalso; first | omega | (simp only [hq, hskq, cond_true, cond_false, Bool.not_true, Bool.not_false, Bool.and_true, Bool.true_and, Bool.and_false, Bool.false_and, Bool.or_true, Bool.true_or, Bool.or_false, Bool.false_or, Bool.true_eq_false, Bool.false_eq_true, decide_true, decide_false, reduceCtorEq] at hq_; done) | (rw [decide_eq_false_iff_not] at hq_; omega) | (rw [decide_eq_true_eq] at hq_; omega) | (simp only [hq, hskq, reduceCtorEq] at hq_; done) | exact Bool.noConfusion (Eq.trans (Eq.symm hq) hq_) | exact Bool.noConfusion (Eq.trans (Eq.symm hskq) hq_)) | skip) | apply guess | exact Or.inl rfl | exact Or.inr rfl | exact Side.mk trivial | exact Side.mk (fun h => h) | exact Side.mk (fun h => ⟨h, h⟩) | with_reducible exact Side.mk rfl | with_reducible exact Side.mk ⟨rfl, rfl⟩ | with_reducible exact Side.mk (by assumption) | with_reducible rfl | intro _)
                    all_goals try (conv => whnf)
                    all_goals try (refine Side.mk ?_; first | (intros; omega) | (show List.length (_ ++ _) ≤ _; simp only [List.length_append, List.length_cons, List.length_nil, List.length_replicate, List.length_take]; omega) | (simp_all; done) | (simp_all; omega))
                    all_goals try exact Side.mk (fun h1 h2 => by rw [h1, h2]; rfl)
                    refine loop_at (fun c : Nat × List Nat => c.1 ≤ (K2 : List Nat).length ∧ NxP (fun k sh => Cd W e m2 l2 k w sh (Lt W e m2 l2 k)) cnt K2 c.1 0 c.2 ∧ ∀ x ∈ c.2, x ≤ cnt) 9 (fun c => [(24, .int .i64 c.1), (21, .sl 7 []), (22, .sl 8 []), (112, .top), (113, .top)]) (fun c => [(7, .flat true (.ints .i64 (natL c.2))), (8, .flat true (.ints .i64 (ltsL W e (m2 ||| 2 ^ w) w c.2)))]) (fun c => 20 - c.1) (0, []) ⟨Nat.zero_le _, NxP.zero _ _ _, by simp⟩ ?_ (fun c hc2 => ?_)
                    · repeat' ((conv => whnf); first | done | refine ev_step ?_ | refine ops_step ?_ | refine scan_step ?_ | refine draw_step ?_ | refine each_step ?_ | refine sl_step ?_ | refine hp_step ?_ | refine guard_no (by decide) ?_ | refine guard_go ?_ | refine guard_old ?_ | apply cut_auto | with_reducible exact CutS.mk (Or.inl ⟨rfl, rfl, rfl⟩) | refine CutS.mk (Or.inr (sub_auto ?_)) | exact trivial | refine And.intro ?_ ?_ | refine cond_split ?_ ?_ | apply guess | exact Or.inl rfl | exact Or.inr rfl | exact Side.mk trivial | exact Side.mk (fun h => h) | exact Side.mk (fun h => ⟨h, h⟩) | with_reducible exact Side.mk rfl | with_reducible exact Side.mk ⟨rfl, rfl⟩ | with_reducible exact Side.mk (by assumption) | with_reducible rfl | intro _)
                      all_goals try (conv => whnf)
                      all_goals first | rfl | trace_state
                    · obtain ⟨i, nx⟩ := c
                      obtain ⟨hi, hN, hnc⟩ := hc2
                      dsimp only at hi hN hnc ⊢
                      have hn9 : nx.length ≤ 9 := nodup_nat 9 hN.nd fun k hk => by have := hnc k hk; omega
                      by_cases hi2 : i < (K2 : List Nat).length
                      · have hKi : (natL K2).getD (i : Int).toNat 0 = (((K2 : List Nat).getD i 0 : Nat) : Int) := natL_get hi2
                        have hKm : (K2 : List Nat).getD i 0 ≤ cnt := hKc _ (by rw [List.getD, List.getElem?_eq_getElem hi2]; exact List.getElem_mem hi2)
                        have hG : ((ltsL W e m2 l2 K2)).getD (i : Int).toNat 0 = Lt W e m2 l2 (K2.getD i 0) := ltsL_get hi2
                        have hGb := Lt_bd9 hW (e := e) (m := m2) (l := l2) (k := K2.getD i 0) h.hl
                        have hG0 := (h.Kle _ (show K2.getD i 0 ∈ K2 by rw [List.getD, List.getElem?_eq_getElem hi2]; exact List.getElem_mem hi2)).2
                        have e1 : ((o2.length : Int) - 1).toNat = o2.length - 1 := by omega
                        have hla : o2.getD ((o2.length : Int) - 1).toNat 0 = (l2 : Int) := by rw [e1]; exact h.last
                        have hwt := wt_nn hW h.hl hw2
                        have lw : (W.getD (o2.getD ((o2.length : Int) - 1).toNat 0).toNat []).length = W.length := by rw [hla]; exact hW.2.1 l2 h.hl
                        have hwe : (W.getD (o2.getD ((o2.length : Int) - 1).toNat 0).toNat []).getD (w : Int).toNat 0 = wt W l2 w := by rw [hla]; rfl
                        have hmin := k_l00MinI 1 ((natL K2).getD (i : Int).toNat 0)
                        repeat' ((conv => whnf); first | done | refine ev_step ?_ | refine ops_step ?_ | refine scan_step ?_ | refine draw_step ?_ | refine each_step ?_ | refine sl_step ?_ | refine hp_step ?_ | refine guard_no (by decide) ?_ | refine guard_go ?_ | refine guard_old ?_ | apply cut_auto | with_reducible exact CutS.mk (Or.inl ⟨rfl, rfl, rfl⟩) | refine CutS.mk (Or.inr (sub_auto ?_)) | exact trivial | refine And.intro ?_ ?_ | (refine cond_split ?_ ?_ <;> intro _ <;> first | (exfalso; first | omega | (simp only [decide_eq_true_eq, decide_eq_false_iff_not, Bool.not_eq_true', Bool.not_eq_false', ne_eq, Bool.not_true, Bool.not_false, cond_true, cond_false, Bool.true_eq_false, Bool.false_eq_true, Bool.and_eq_true, Bool.and_eq_false_iff] at *; omega)) | skip) | apply guess | apply FnIs.useF (hmin) | exact Or.inl rfl | exact Or.inr rfl | exact Side.mk trivial | exact Side.mk (fun h => h) | exact Side.mk (fun h => ⟨h, h⟩) | with_reducible exact Side.mk rfl | with_reducible exact Side.mk ⟨rfl, rfl⟩ | with_reducible exact Side.mk (by assumption) | with_reducible rfl | intro _)
                        all_goals try (conv => whnf)
                        all_goals try (refine Side.mk ?_; first | (intros; omega) | (show List.length (_ ++ _) ≤ _; simp only [List.length_append, List.length_cons, List.length_nil, List.length_replicate, List.length_take]; omega) | (simp_all; done) | (simp_all; omega))
                        refine loop_at (fun d : Nat × List Nat => d.1 ≤ 2 ∧ NxP (fun k sh => Cd W e m2 l2 k w sh (Lt W e m2 l2 k)) cnt K2 i d.1 d.2 ∧ ∀ x ∈ d.2, x ≤ cnt) 9 (fun d => [(25, .int .i64 d.1), (21, .sl 7 []), (22, .sl 8 [])]) (fun d => [(7, .flat true (.ints .i64 (natL d.2))), (8, .flat true (.ints .i64 (ltsL W e (m2 ||| 2 ^ w) w d.2)))]) (fun d => 20 - d.1) (0, nx) ⟨by omega, hN, hnc⟩ ?_ (fun d hd => ?_)
                        · repeat' ((conv => whnf); first | done | refine ev_step ?_ | refine ops_step ?_ | refine scan_step ?_ | refine draw_step ?_ | refine each_step ?_ | refine sl_step ?_ | refine hp_step ?_ | refine guard_no (by decide) ?_ | refine guard_go ?_ | refine guard_old ?_ | apply cut_auto | with_reducible exact CutS.mk (Or.inl ⟨rfl, rfl, rfl⟩) | refine CutS.mk (Or.inr (sub_auto ?_)) | exact trivial | refine And.intro ?_ ?_ | refine cond_split ?_ ?_ | apply guess | exact Or.inl rfl | exact Or.inr rfl | exact Side.mk trivial | exact Side.mk (fun h => h) | exact Side.mk (fun h => ⟨h, h⟩) | with_reducible exact Side.mk rfl | with_reducible exact Side.mk ⟨rfl, rfl⟩ | with_reducible exact Side.mk (by assumption) | with_reducible rfl | intro _)
                          all_goals try (conv => whnf)
                          all_goals first | rfl | trace_state
                        · obtain ⟨sh, nx2⟩ := d
                          obtain ⟨hsh, hN2, hnc2⟩ := hd
                          dsimp only at hsh hN2 hnc2 ⊢
                          have hn92 : nx2.length ≤ 9 := nodup_nat 9 hN2.nd fun k hk => by have := hnc2 k hk; omega
                          have hnl2 := natL_len nx2
                          have hll2 := ltsL_len W e (m2 ||| 2 ^ w) w nx2
                          by_cases hsh2 : sh ≤ min 1 ((K2 : List Nat).getD i 0)
                          · have hX : (((orI .i64 ((m2 : Nat) : Int) (shlI .i64 1 (IntKind.u64.wrap (w : Int)))) * 9 + w) * 9 + (natL K2).getD (i : Int).toNat 0 - sh).toNat = ((m2 ||| 2 ^ w) * 9 + w) * 9 + ((K2 : List Nat).getD i 0 - sh) := by rw [hor, hKi]; omega
                            have hread : TB.getD (((orI .i64 (m2 : Int) (shlI .i64 1 (IntKind.u64.wrap (w : Int)))) * 9 + w) * 9 + (natL K2).getD (i : Int).toNat 0 - sh).toNat 0 = Lt W e (m2 ||| 2 ^ w) w ((K2 : List Nat).getD i 0 - sh) := by rw [hX]; exact htg _ _ _ hS2 (by omega) (by omega) hbb2 (by omega)
                            have hrb := Lt_bd9 hW (e := e) (m := m2 ||| 2 ^ w) (k := (K2 : List Nat).getD i 0 - sh) hw2
                            have hsub : (natL K2).getD (i : Int).toNat 0 - sh = ((((K2 : List Nat).getD i 0 - sh : Nat)) : Int) := by rw [hKi]; omega
                            have kh := k_l00Has (natL nx2) ((natL K2).getD (i : Int).toNat 0 - sh) ⟨by omega⟩
                            have hmemq : decide ((natL K2).getD (i : Int).toNat 0 - sh ∈ natL nx2) = decide ((K2 : List Nat).getD i 0 - sh ∈ nx2) := by rw [hsub, decide_eq_decide]; exact natL_mem
                            by_cases hs1 : sh = 0
                            · have hgv : ((ltsL W e m2 l2 K2)).getD (i : Int).toNat 0 - (W.getD (o2.getD ((o2.length : Int) - 1).toNat 0).toNat []).getD (w : Int).toNat 0 = Lt W e m2 l2 (K2.getD i 0) - wt W l2 w := by rw [hG, hwe]
                              have hs0 : decide ((sh : Int) = 0) = true := decide_eq_true (by omega)
                              have hai : Cd W e m2 l2 (K2.getD i 0) w sh (Lt W e m2 l2 (K2.getD i 0)) ↔ (0 ≤ Lt W e m2 l2 (K2.getD i 0) - wt W l2 w ∧ Lt W e (m2 ||| 2 ^ w) w (K2.getD i 0 - sh) = Lt W e m2 l2 (K2.getD i 0) - wt W l2 w) := by
                                constructor
                                · intro hcd
                                  have h1 := hcd.val
                                  have h2 := hcd.ok
                                  rw [if_pos hs1] at h1
                                  exact ⟨by omega, by omega⟩
                                · rintro ⟨h1, h2⟩
                                  exact ⟨hw2, hbf, by omega, by omega, by omega, by rw [if_pos hs1]; omega⟩
                              have hcv : (bif bif decide ((((ltsL W e m2 l2 K2)).getD (i : Int).toNat 0 - (W.getD (o2.getD ((o2.length : Int) - 1).toNat 0).toNat []).getD (w : Int).toNat 0) < 0) then true else decide (TB.getD (((orI .i64 (m2 : Int) (shlI .i64 1 (IntKind.u64.wrap (w : Int)))) * 9 + w) * 9 + (natL K2).getD (i : Int).toNat 0 - sh).toNat 0 ≠ (((ltsL W e m2 l2 K2)).getD (i : Int).toNat 0 - (W.getD (o2.getD ((o2.length : Int) - 1).toNat 0).toNat []).getD (w : Int).toNat 0)) then true else decide ((natL K2).getD (i : Int).toNat 0 - sh ∈ natL nx2)) = !decide ((0 ≤ (Lt W e m2 l2 (K2.getD i 0) - wt W l2 w) ∧ Lt W e (m2 ||| 2 ^ w) w ((K2 : List Nat).getD i 0 - sh) = (Lt W e m2 l2 (K2.getD i 0) - wt W l2 w)) ∧ (K2 : List Nat).getD i 0 - sh ∉ nx2) := by
                                rw [hmemq, hread, hgv]; exact condT _ _ _
                              by_cases htk : (0 ≤ (Lt W e m2 l2 (K2.getD i 0) - wt W l2 w) ∧ Lt W e (m2 ||| 2 ^ w) w ((K2 : List Nat).getD i 0 - sh) = (Lt W e m2 l2 (K2.getD i 0) - wt W l2 w)) ∧ (K2 : List Nat).getD i 0 - sh ∉ nx2
                              · rw [decide_eq_true htk] at hcv
                                obtain ⟨hac, hnm⟩ := htk
                                have hacc := hai.2 hac
                                repeat' ((conv => whnf); first | done | refine ev_step ?_ | refine ops_step ?_ | refine scan_step ?_ | refine draw_step ?_ | refine each_step ?_ | refine sl_step ?_ | refine hp_step ?_ | refine guard_no (by decide) ?_ | refine guard_go ?_ | refine guard_old ?_ | apply cut_auto | with_reducible exact CutS.mk (Or.inl ⟨rfl, rfl, rfl⟩) | refine CutS.mk (Or.inr (sub_auto ?_)) | exact trivial | refine And.intro ?_ ?_ | (refine cond_split ?_ ?_ <;> intro hq_ <;> first | (exfalso; first | omega | (simp only [hcv, hs0, cond_true, cond_false, Bool.not_true, Bool.not_false, Bool.and_true, Bool.true_and, Bool.and_false, Bool.false_and, Bool.or_true, Bool.true_or, Bool.or_false, Bool.false_or, Bool.true_eq_false, Bool.false_eq_true, decide_true, decide_false, reduceCtorEq] at hq_; done) | (rw [decide_eq_false_iff_not] at hq_; omega) | (rw [decide_eq_true_eq] at hq_; omega) | (simp only [hcv, hs0, reduceCtorEq] at hq_; done) | exact Bool.noConfusion (Eq.trans (Eq.symm hcv) hq_) | exact Bool.noConfusion (Eq.trans (Eq.symm hs0) hq_)) | skip) | apply guess | apply FnIs.useF (hmin) | apply FnIs.useS (kh) | exact Or.inl rfl | exact Or.inr rfl | exact Side.mk trivial | exact Side.mk (fun h => h) | exact Side.mk (fun h => ⟨h, h⟩) | with_reducible exact Side.mk rfl | with_reducible exact Side.mk ⟨rfl, rfl⟩ | with_reducible exact Side.mk (by assumption) | with_reducible rfl | intro _)
                                all_goals try (conv => whnf)
                                all_goals try (refine Side.mk ?_; first | (intros; omega) | (show List.length (_ ++ _) ≤ _; simp only [List.length_append, List.length_cons, List.length_nil, List.length_replicate, List.length_take]; omega) | (simp_all; done) | (simp_all; omega))
                                all_goals try omega
                                refine ⟨(sh + 1, nx2 ++ [(K2 : List Nat).getD i 0 - sh]), ⟨by dsimp only; omega, hN2.take hi2 hsh2 hacc hnm, fun x hx => ?_⟩, by dsimp only; omega, ?_⟩
                                · rcases List.mem_append.1 hx with hx | hx
                                  · exact hnc2 x hx
                                  · rw [List.mem_singleton.1 hx]; omega
                                · repeat' ((conv => whnf); first | done | refine ev_step ?_ | refine ops_step ?_ | refine scan_step ?_ | refine draw_step ?_ | refine each_step ?_ | refine sl_step ?_ | refine hp_step ?_ | refine guard_no (by decide) ?_ | refine guard_go ?_ | refine guard_old ?_ | apply cut_auto | with_reducible exact CutS.mk (Or.inl ⟨rfl, rfl, rfl⟩) | refine CutS.mk (Or.inr (sub_auto ?_)) | exact trivial | refine And.intro ?_ ?_ | refine cond_split ?_ ?_ | apply guess | exact Or.inl rfl | exact Or.inr rfl | exact Side.mk trivial | exact Side.mk (fun h => h) | exact Side.mk (fun h => ⟨h, h⟩) | with_reducible exact Side.mk rfl | with_reducible exact Side.mk ⟨rfl, rfl⟩ | with_reducible exact Side.mk (by assumption) | with_reducible rfl | intro _)
                                  all_goals try (conv => whnf)
                                  all_goals first | rfl | omega | (rw [natL_snoc, hsub]; done) | (rw [natL_snoc, hsub]; rfl) | (rw [ltsL_snoc, hgv, ← hac.2]; done) | (rw [ltsL_snoc, hgv, ← hac.2]; rfl) | trace_state
                              · rw [decide_eq_false htk] at hcv
                                repeat' ((conv => whnf); first | done | refine ev_step ?_ | refine ops_step ?_ | refine scan_step ?_ | refine draw_step ?_ | refine each_step ?_ | refine sl_step ?_ | refine hp_step ?_ | refine guard_no (by decide) ?_ | refine guard_go ?_ | refine guard_old ?_ | apply cut_auto | with_reducible exact CutS.mk (Or.inl ⟨rfl, rfl, rfl⟩) | refine CutS.mk (Or.inr (sub_auto ?_)) | exact trivial | refine And.intro ?_ ?_ | (refine cond_split ?_ ?_ <;> intro hq_ <;> first | (exfalso; first | omega | (simp only [hcv, hs0, cond_true, cond_false, Bool.not_true, Bool.not_false, Bool.and_true, Bool.true_and, Bool.and_false, Bool.false_and, Bool.or_true, Bool.true_or, Bool.or_false, Bool.false_or, Bool.true_eq_false, Bool.false_eq_true, decide_true, decide_false, reduceCtorEq] at hq_; done) | (rw [decide_eq_false_iff_not] at hq_; omega) | (rw [decide_eq_true_eq] at hq_; omega) | (simp only [hcv, hs0, reduceCtorEq] at hq_; done) | exact Bool.noConfusion (Eq.trans (Eq.symm hcv) hq_) | exact Bool.noConfusion (Eq.trans (Eq.symm hs0) hq_)) | skip) | apply guess | apply FnIs.useF (hmin) | apply FnIs.useS (kh) | exact Or.inl rfl | exact Or.inr rfl | exact Side.mk trivial | exact Side.mk (fun h => h) | exact Side.mk (fun h => ⟨h, h⟩) | with_reducible exact Side.mk rfl | with_reducible exact Side.mk ⟨rfl, rfl⟩ | with_reducible exact Side.mk (by assumption) | with_reducible rfl | intro _)
                                all_goals try (conv => whnf)
                                all_goals try (refine Side.mk ?_; first | (intros; omega) | (show List.length (_ ++ _) ≤ _; simp only [List.length_append, List.length_cons, List.length_nil, List.length_replicate, List.length_take]; omega) | (simp_all; done) | (simp_all; omega))
                                all_goals try omega
                                refine ⟨(sh + 1, nx2), ⟨by dsimp only; omega, hN2.pass (fun _ ha => Classical.byContradiction fun hnm => htk ⟨hai.1 ha, hnm⟩), hnc2⟩, by dsimp only; omega, ?_⟩
                                repeat' ((conv => whnf); first | done | refine ev_step ?_ | refine ops_step ?_ | refine scan_step ?_ | refine draw_step ?_ | refine each_step ?_ | refine sl_step ?_ | refine hp_step ?_ | refine guard_no (by decide) ?_ | refine guard_go ?_ | refine guard_old ?_ | apply cut_auto | with_reducible exact CutS.mk (Or.inl ⟨rfl, rfl, rfl⟩) | refine CutS.mk (Or.inr (sub_auto ?_)) | exact trivial | refine And.intro ?_ ?_ | refine cond_split ?_ ?_ | apply guess | exact Or.inl rfl | exact Or.inr rfl | exact Side.mk trivial | exact Side.mk (fun h => h) | exact Side.mk (fun h => ⟨h, h⟩) | with_reducible exact Side.mk rfl | with_reducible exact Side.mk ⟨rfl, rfl⟩ | with_reducible exact Side.mk (by assumption) | with_reducible rfl | intro _)
                                all_goals try (conv => whnf)
                                all_goals first | rfl | omega | trace_state
                            · have hgv : ((ltsL W e m2 l2 K2)).getD (i : Int).toNat 0 = Lt W e m2 l2 (K2.getD i 0) := hG
                              have hs0 : decide ((sh : Int) = 0) = false := decide_eq_false (by omega)
                              have hai : Cd W e m2 l2 (K2.getD i 0) w sh (Lt W e m2 l2 (K2.getD i 0)) ↔ (0 ≤ Lt W e m2 l2 (K2.getD i 0) ∧ Lt W e (m2 ||| 2 ^ w) w (K2.getD i 0 - sh) = Lt W e m2 l2 (K2.getD i 0)) := by
                                constructor
                                · intro hcd
                                  have h1 := hcd.val
                                  have h2 := hcd.ok
                                  rw [if_neg hs1] at h1
                                  exact ⟨by omega, by omega⟩
                                · rintro ⟨h1, h2⟩
                                  exact ⟨hw2, hbf, by omega, by omega, by omega, by rw [if_neg hs1]; omega⟩
                              have hcv : (bif bif decide (((ltsL W e m2 l2 K2)).getD (i : Int).toNat 0 < 0) then true else decide (TB.getD (((orI .i64 (m2 : Int) (shlI .i64 1 (IntKind.u64.wrap (w : Int)))) * 9 + w) * 9 + (natL K2).getD (i : Int).toNat 0 - sh).toNat 0 ≠ ((ltsL W e m2 l2 K2)).getD (i : Int).toNat 0) then true else decide ((natL K2).getD (i : Int).toNat 0 - sh ∈ natL nx2)) = !decide ((0 ≤ Lt W e m2 l2 (K2.getD i 0) ∧ Lt W e (m2 ||| 2 ^ w) w ((K2 : List Nat).getD i 0 - sh) = Lt W e m2 l2 (K2.getD i 0)) ∧ (K2 : List Nat).getD i 0 - sh ∉ nx2) := by
                                rw [hmemq, hread, hgv]; exact condT _ _ _
                              by_cases htk : (0 ≤ Lt W e m2 l2 (K2.getD i 0) ∧ Lt W e (m2 ||| 2 ^ w) w ((K2 : List Nat).getD i 0 - sh) = Lt W e m2 l2 (K2.getD i 0)) ∧ (K2 : List Nat).getD i 0 - sh ∉ nx2
                              · rw [decide_eq_true htk] at hcv
                                obtain ⟨hac, hnm⟩ := htk
                                have hacc := hai.2 hac
                                repeat' ((conv => whnf); first | done | refine ev_step ?_ | refine ops_step ?_ | refine scan_step ?_ | refine draw_step ?_ | refine each_step ?_ | refine sl_step ?_ | refine hp_step ?_ | refine guard_no (by decide) ?_ | refine guard_go ?_ | refine guard_old ?_ | apply cut_auto | with_reducible exact CutS.mk (Or.inl ⟨rfl, rfl, rfl⟩) | refine CutS.mk (Or.inr (sub_auto ?_)) | exact trivial | refine And.intro ?_ ?_ | (refine cond_split ?_ ?_ <;> intro hq_ <;> first | (exfalso; first | omega | (simp only [hcv, hs0, cond_true, cond_false, Bool.not_true, Bool.not_false, Bool.and_true, Bool.true_and, Bool.and_false, Bool.false_and, Bool.or_true, Bool.true_or, Bool.or_false, Bool.false_or, Bool.true_eq_false, Bool.false_eq_true, decide_true, decide_false, reduceCtorEq] at hq_; done) | (rw [decide_eq_false_iff_not] at hq_; omega) | (rw [decide_eq_true_eq] at hq_; omega) | (simp only [hcv, hs0, reduceCtorEq] at hq_; done) | exact Bool.noConfusion (Eq.trans (Eq.symm hcv) hq_) | exact Bool.noConfusion (Eq.trans (Eq.symm hs0) hq_)) | skip) | apply guess | apply FnIs.useF (hmin) | apply FnIs.useS (kh) | exact Or.inl rfl | exact Or.inr rfl | exact Side.mk trivial | exact Side.mk (fun h => h) | exact Side.mk (fun h => ⟨h, h⟩) | with_reducible exact Side.mk rfl | with_reducible exact Side.mk ⟨rfl, rfl⟩ | with_reducible exact Side.mk (by assumption) | with_reducible rfl | intro _)
                                all_goals try (conv => whnf)
                                all_goals try (refine Side.mk ?_; first | (intros; omega) | (show List.length (_ ++ _) ≤ _; simp only [List.length_append, List.length_cons, List.length_nil, List.length_replicate, List.length_take]; omega) | (simp_all; done) | (simp_all; omega))
                                all_goals try omega
                                refine ⟨(sh + 1, nx2 ++ [(K2 : List Nat).getD i 0 - sh]), ⟨by dsimp only; omega, hN2.take hi2 hsh2 hacc hnm, fun x hx => ?_⟩, by dsimp only; omega, ?_⟩
                                · rcases List.mem_append.1 hx with hx | hx
                                  · exact hnc2 x hx
                                  · rw [List.mem_singleton.1 hx]; omega
                                · repeat' ((conv => whnf); first | done | refine ev_step ?_ | refine ops_step ?_ | refine scan_step ?_ | refine draw_step ?_ | refine each_step ?_ | refine sl_step ?_ | refine hp_step ?_ | refine guard_no (by decide) ?_ | refine guard_go ?_ | refine guard_old ?_ | apply cut_auto | with_reducible exact CutS.mk (Or.inl ⟨rfl, rfl, rfl⟩) | refine CutS.mk (Or.inr (sub_auto ?_)) | exact trivial | refine And.intro ?_ ?_ | refine cond_split ?_ ?_ | apply guess | exact Or.inl rfl | exact Or.inr rfl | exact Side.mk trivial | exact Side.mk (fun h => h) | exact Side.mk (fun h => ⟨h, h⟩) | with_reducible exact Side.mk rfl | with_reducible exact Side.mk ⟨rfl, rfl⟩ | with_reducible exact Side.mk (by assumption) | with_reducible rfl | intro _)
                                  all_goals try (conv => whnf)
                                  all_goals first | rfl | omega | (rw [natL_snoc, hsub]; done) | (rw [natL_snoc, hsub]; rfl) | (rw [ltsL_snoc, hgv, ← hac.2]; done) | (rw [ltsL_snoc, hgv, ← hac.2]; rfl) | trace_state
                              · rw [decide_eq_false htk] at hcv
                                repeat' ((conv => whnf); first | done | refine ev_step ?_ | refine ops_step ?_ | refine scan_step ?_ | refine draw_step ?_ | refine each_step ?_ | refine sl_step ?_ | refine hp_step ?_ | refine guard_no (by decide) ?_ | refine guard_go ?_ | refine guard_old ?_ | apply cut_auto | with_reducible exact CutS.mk (Or.inl ⟨rfl, rfl, rfl⟩) | refine CutS.mk (Or.inr (sub_auto ?_)) | exact trivial | refine And.intro ?_ ?_ | (refine cond_split ?_ ?_ <;> intro hq_ <;> first | (exfalso; first | omega | (simp only [hcv, hs0, cond_true, cond_false, Bool.not_true, Bool.not_false, Bool.and_true, Bool.true_and, Bool.and_false, Bool.false_and, Bool.or_true, Bool.true_or, Bool.or_false, Bool.false_or, Bool.true_eq_false, Bool.false_eq_true, decide_true, decide_false, reduceCtorEq] at hq_; done) | (rw [decide_eq_false_iff_not] at hq_; omega) | (rw [decide_eq_true_eq] at hq_; omega) | (simp only [hcv, hs0, reduceCtorEq] at hq_; done) | exact Bool.noConfusion (Eq.trans (Eq.symm hcv) hq_) | exact Bool.noConfusion (Eq.trans (Eq.symm hs0) hq_)) | skip) | apply guess | apply FnIs.useF (hmin) | apply FnIs.useS (kh) | exact Or.inl rfl | exact Or.inr rfl | exact Side.mk trivial | exact Side.mk (fun h => h) | exact Side.mk (fun h => ⟨h, h⟩) | with_reducible exact Side.mk rfl | with_reducible exact Side.mk ⟨rfl, rfl⟩ | with_reducible exact Side.mk (by assumption) | with_reducible rfl | intro _)
                                all_goals try (conv => whnf)
                                all_goals try (refine Side.mk ?_; first | (intros; omega) | (show List.length (_ ++ _) ≤ _; simp only [List.length_append, List.length_cons, List.length_nil, List.length_replicate, List.length_take]; omega) | (simp_all; done) | (simp_all; omega))
                                all_goals try omega
                                refine ⟨(sh + 1, nx2), ⟨by dsimp only; omega, hN2.pass (fun _ ha => Classical.byContradiction fun hnm => htk ⟨hai.1 ha, hnm⟩), hnc2⟩, by dsimp only; omega, ?_⟩
                                repeat' ((conv => whnf); first | done | refine ev_step ?_ | refine ops_step ?_ | refine scan_step ?_ | refine draw_step ?_ | refine each_step ?_ | refine sl_step ?_ | refine hp_step ?_ | refine guard_no (by decide) ?_ | refine guard_go ?_ | refine guard_old ?_ | apply cut_auto | with_reducible exact CutS.mk (Or.inl ⟨rfl, rfl, rfl⟩) | refine CutS.mk (Or.inr (sub_auto ?_)) | exact trivial | refine And.intro ?_ ?_ | refine cond_split ?_ ?_ | apply guess | exact Or.inl rfl | exact Or.inr rfl | exact Side.mk trivial | exact Side.mk (fun h => h) | exact Side.mk (fun h => ⟨h, h⟩) | with_reducible exact Side.mk rfl | with_reducible exact Side.mk ⟨rfl, rfl⟩ | with_reducible exact Side.mk (by assumption) | with_reducible rfl | intro _)
                                all_goals try (conv => whnf)
                                all_goals first | rfl | omega | trace_state
                          · repeat' ((conv => whnf); first | done | refine ev_step ?_ | refine ops_step ?_ | refine scan_step ?_ | refine draw_step ?_ | refine each_step ?_ | refine sl_step ?_ | refine hp_step ?_ | refine guard_no (by decide) ?_ | refine guard_go ?_ | refine guard_old ?_ | apply cut_auto | with_reducible exact CutS.mk (Or.inl ⟨rfl, rfl, rfl⟩) | refine CutS.mk (Or.inr (sub_auto ?_)) | exact trivial | refine And.intro ?_ ?_ | (refine cond_split ?_ ?_ <;> intro _ <;> first | (exfalso; first | omega | (simp only [decide_eq_true_eq, decide_eq_false_iff_not, Bool.not_eq_true', Bool.not_eq_false', ne_eq, Bool.not_true, Bool.not_false, cond_true, cond_false, Bool.true_eq_false, Bool.false_eq_true, Bool.and_eq_true, Bool.and_eq_false_iff] at *; omega)) | skip) | apply guess | apply FnIs.useF (hmin) | exact Or.inl rfl | exact Or.inr rfl | exact Side.mk trivial | exact Side.mk (fun h => h) | exact Side.mk (fun h => ⟨h, h⟩) | with_reducible exact Side.mk rfl | with_reducible exact Side.mk ⟨rfl, rfl⟩ | with_reducible exact Side.mk (by assumption) | with_reducible rfl | intro _)
                            all_goals try (conv => whnf)
                            all_goals try (refine Side.mk ?_; first | (intros; omega) | (show List.length (_ ++ _) ≤ _; simp only [List.length_append, List.length_cons, List.length_nil, List.length_replicate, List.length_take]; omega) | (simp_all; done) | (simp_all; omega))
                            all_goals try omega
                            refine ⟨(i + 1, nx2), ⟨by dsimp only; omega, hN2.down (by omega), hnc2⟩, by dsimp only; omega, ?_⟩
                            repeat' ((conv => whnf); first | done | refine ev_step ?_ | refine ops_step ?_ | refine scan_step ?_ | refine draw_step ?_ | refine each_step ?_ | refine sl_step ?_ | refine hp_step ?_ | refine guard_no (by decide) ?_ | refine guard_go ?_ | refine guard_old ?_ | apply cut_auto | with_reducible exact CutS.mk (Or.inl ⟨rfl, rfl, rfl⟩) | refine CutS.mk (Or.inr (sub_auto ?_)) | exact trivial | refine And.intro ?_ ?_ | refine cond_split ?_ ?_ | apply guess | exact Or.inl rfl | exact Or.inr rfl | exact Side.mk trivial | exact Side.mk (fun h => h) | exact Side.mk (fun h => ⟨h, h⟩) | with_reducible exact Side.mk rfl | with_reducible exact Side.mk ⟨rfl, rfl⟩ | with_reducible exact Side.mk (by assumption) | with_reducible rfl | intro _)
                            all_goals try (conv => whnf)
                            all_goals first | rfl | omega | trace_state
                      · have hie : i = (K2 : List Nat).length := by omega
                        rw [hie] at hN
                        have hnl2 := natL_len nx
                        have hall := NxP.all hw2 hbf (fun k hk => by have := hKc k hk; omega) hN
                        have hbg : nx ≠ [] ↔ goodW W e K2 m2 l2 w = true := by
                          unfold goodW
                          rw [hbf]
                          constructor
                          · intro h1
                            obtain ⟨x, hx⟩ := List.exists_mem_of_ne_nil _ h1
                            have := (hall x).1 hx
                            cases hq2 : nxtK W e K2 m2 l2 w with
                            | nil => rw [hq2] at this; cases this
                            | cons _ _ => rfl
                          · intro h1 h2
                            cases hq2 : nxtK W e K2 m2 l2 w with
                            | nil => rw [hq2] at h1; cases h1
                            | cons a r =>
                              have := (hall a).2 (by rw [hq2]; exact List.mem_cons_self)
                              rw [h2] at this; cases this
                        by_cases hnil : nx = []
                        · have hl0 : nx.length = 0 := by rw [hnil]; rfl
                          repeat' ((conv => whnf); first | done | refine ev_step ?_ | refine ops_step ?_ | refine scan_step ?_ | refine draw_step ?_ | refine each_step ?_ | refine sl_step ?_ | refine hp_step ?_ | refine guard_no (by decide) ?_ | refine guard_go ?_ | refine guard_old ?_ | apply cut_auto | with_reducible exact CutS.mk (Or.inl ⟨rfl, rfl, rfl⟩) | refine CutS.mk (Or.inr (sub_auto ?_)) | exact trivial | refine And.intro ?_ ?_ | (refine cond_split ?_ ?_ <;> intro _ <;> first | (exfalso; first | omega | (simp only [decide_eq_true_eq, decide_eq_false_iff_not, Bool.not_eq_true', Bool.not_eq_false', ne_eq, Bool.not_true, Bool.not_false, cond_true, cond_false, Bool.true_eq_false, Bool.false_eq_true, Bool.and_eq_true, Bool.and_eq_false_iff] at *; omega)) | skip) | apply guess | exact Or.inl rfl | exact Or.inr rfl | exact Side.mk trivial | exact Side.mk (fun h => h) | exact Side.mk (fun h => ⟨h, h⟩) | with_reducible exact Side.mk rfl | with_reducible exact Side.mk ⟨rfl, rfl⟩ | with_reducible exact Side.mk (by assumption) | with_reducible rfl | intro _)
                          all_goals try (conv => whnf)
                          all_goals try (refine Side.mk ?_; first | (intros; omega) | (show List.length (_ ++ _) ≤ _; simp only [List.length_append, List.length_cons, List.length_nil, List.length_replicate, List.length_take]; omega) | (simp_all; done) | (simp_all; omega))
                          all_goals try omega
                          refine ⟨(w + 1, false, (o2, m2, l2, K2, (ltsL W e m2 l2 K2))), ⟨by dsimp only; omega, fun _ => ⟨rfl, fun v hv => ?_⟩, fun h => nomatch h⟩, by dsimp only; omega, ?_⟩
                          · by_cases hvw : v = w
                            · subst hvw
                              rw [if_neg h.ne]
                              exact Bool.eq_false_iff.2 fun h2 => hbg.2 h2 hnil
                            · exact hb4 v (by dsimp only at hv; omega)
                          · repeat' ((conv => whnf); first | done | refine ev_step ?_ | refine ops_step ?_ | refine scan_step ?_ | refine draw_step ?_ | refine each_step ?_ | refine sl_step ?_ | refine hp_step ?_ | refine guard_no (by decide) ?_ | refine guard_go ?_ | refine guard_old ?_ | apply cut_auto | with_reducible exact CutS.mk (Or.inl ⟨rfl, rfl, rfl⟩) | refine CutS.mk (Or.inr (sub_auto ?_)) | exact trivial | refine And.intro ?_ ?_ | refine cond_split ?_ ?_ | apply guess | exact Or.inl rfl | exact Or.inr rfl | exact Side.mk trivial | exact Side.mk (fun h => h) | exact Side.mk (fun h => ⟨h, h⟩) | with_reducible exact Side.mk rfl | with_reducible exact Side.mk ⟨rfl, rfl⟩ | with_reducible exact Side.mk (by assumption) | with_reducible rfl | intro _)
                            all_goals try (conv => whnf)
                            all_goals first | rfl | omega | trace_state
                        · have hl0 : 0 < nx.length := List.length_pos_iff.2 hnil
                          have hP2 := h.step hc hw2 hbf hall hnil hN.nd fun v hv => by have := hb4 v hv; rwa [if_neg h.ne] at this
                          repeat' ((conv => whnf); first | done | refine ev_step ?_ | refine ops_step ?_ | refine scan_step ?_ | refine draw_step ?_ | refine each_step ?_ | refine sl_step ?_ | refine hp_step ?_ | refine guard_no (by decide) ?_ | refine guard_go ?_ | refine guard_old ?_ | apply cut_auto | with_reducible exact CutS.mk (Or.inl ⟨rfl, rfl, rfl⟩) | refine CutS.mk (Or.inr (sub_auto ?_)) | exact trivial | refine And.intro ?_ ?_ | (refine cond_split ?_ ?_ <;> intro _ <;> first | (exfalso; first | omega | (simp only [decide_eq_true_eq, decide_eq_false_iff_not, Bool.not_eq_true', Bool.not_eq_false', ne_eq, Bool.not_true, Bool.not_false, cond_true, cond_false, Bool.true_eq_false, Bool.false_eq_true, Bool.and_eq_true, Bool.and_eq_false_iff] at *; omega)) | skip) | apply guess | exact Or.inl rfl | exact Or.inr rfl | exact Side.mk trivial | exact Side.mk (fun h => h) | exact Side.mk (fun h => ⟨h, h⟩) | with_reducible exact Side.mk rfl | with_reducible exact Side.mk ⟨rfl, rfl⟩ | with_reducible exact Side.mk (by assumption) | with_reducible rfl | intro _)
                          all_goals try (conv => whnf)
                          all_goals try (refine Side.mk ?_; first | (intros; omega) | (show List.length (_ ++ _) ≤ _; simp only [List.length_append, List.length_cons, List.length_nil, List.length_replicate, List.length_take]; omega) | (simp_all; done) | (simp_all; omega))
                          all_goals try omega
                          refine ⟨(w + 1, true, (o2 ++ [(w : Int)], m2 ||| 2 ^ w, w, nx, ltsL W e (m2 ||| 2 ^ w) w nx)), ⟨by dsimp only; omega, (fun h => nomatch h), fun _ => ⟨.on hP2, by dsimp only; simp⟩⟩, by dsimp only; omega, ?_⟩
                          repeat' ((conv => whnf); first | done | refine ev_step ?_ | refine ops_step ?_ | refine scan_step ?_ | refine draw_step ?_ | refine each_step ?_ | refine sl_step ?_ | refine hp_step ?_ | refine guard_no (by decide) ?_ | refine guard_go ?_ | refine guard_old ?_ | apply cut_auto | with_reducible exact CutS.mk (Or.inl ⟨rfl, rfl, rfl⟩) | refine CutS.mk (Or.inr (sub_auto ?_)) | exact trivial | refine And.intro ?_ ?_ | refine cond_split ?_ ?_ | apply guess | exact Or.inl rfl | exact Or.inr rfl | exact Side.mk trivial | exact Side.mk (fun h => h) | exact Side.mk (fun h => ⟨h, h⟩) | with_reducible exact Side.mk rfl | with_reducible exact Side.mk ⟨rfl, rfl⟩ | with_reducible exact Side.mk (by assumption) | with_reducible rfl | intro _)
                          all_goals try (conv => whnf)
                          all_goals first | rfl | omega | exact hor | exact hor.symm | trace_state
              · exfalso
                have hall : ∀ v, v < W.length → (if o2 = [] then begB W e cnt first v else goodW W e K2 m2 l2 v) = false := fun v hv => hb4 v (by omega)
                cases ha with
                | beg =>
                  obtain ⟨v, h1, h2⟩ := beg_some h0
                  have := hall v h1
                  rw [if_pos rfl, h2] at this
                  cases this
                | on h =>
                  refine h.next hW hc hlt fun v hv => ?_
                  have := hall v hv
                  rwa [if_neg h.ne] at this
        · have hfin : o = folO W e cnt first := by
            cases ha with
            | beg => simp only [List.length_nil] at hlt; omega
            | on h => exact h.fin (by omega)
          subst hfin
          repeat' ((conv => whnf); first | done | refine ev_step ?_ | refine ops_step ?_ | refine scan_step ?_ | refine draw_step ?_ | refine each_step ?_ | refine sl_step ?_ | refine hp_step ?_ | refine guard_no (by decide) ?_ | refine guard_go ?_ | refine guard_old ?_ | apply cut_auto | with_reducible exact CutS.mk (Or.inl ⟨rfl, rfl, rfl⟩) | refine CutS.mk (Or.inr (sub_auto ?_)) | exact trivial | refine And.intro ?_ ?_ | (refine cond_split ?_ ?_ <;> intro _ <;> first | (exfalso; first | omega | (simp only [decide_eq_true_eq, decide_eq_false_iff_not, Bool.not_eq_true', Bool.not_eq_false', ne_eq, Bool.not_true, Bool.not_false, cond_true, cond_false, Bool.true_eq_false, Bool.false_eq_true, Bool.and_eq_true, Bool.and_eq_false_iff] at *; omega)) | skip) | apply guess | exact Or.inl rfl | exact Or.inr rfl | exact Side.mk trivial | exact Side.mk (fun h => h) | exact Side.mk (fun h => ⟨h, h⟩) | with_reducible exact Side.mk rfl | with_reducible exact Side.mk ⟨rfl, rfl⟩ | with_reducible exact Side.mk (by assumption) | with_reducible rfl | intro _)
          all_goals try (conv => whnf)
          all_goals try (refine Side.mk ?_; first | (intros; omega) | (show List.length (_ ++ _) ≤ _; simp only [List.length_append, List.length_cons, List.length_nil, List.length_replicate, List.length_take]; omega) | (simp_all; done) | (simp_all; omega))
          all_goals first | rfl | trace_state
end Go.Sx.U
