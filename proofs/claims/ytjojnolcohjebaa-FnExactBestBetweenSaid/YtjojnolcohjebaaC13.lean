/-
  Chapter 10: the reference's table of what is left (contract).
-/
import Derived.Test.YtjojnolcohjebaaM0W
import Derived.Test.YtjojnolcohjebaaK7
namespace Go.Sx.U
set_option linter.unusedVariables false
set_option linter.unusedSimpArgs false
set_option maxRecDepth 100000
set_option maxHeartbeats 8000000
open Go Go.Sx Go.Proofs Go.Sx.M0

/-! ### Bits -/
theorem b_or {m w : Nat} (hm : m < 512) (hw : w < 9) : orI .i64 (m : Int) (shlI .i64 1 (w : Int)) = ((m ||| 2 ^ w : Nat) : Int) := by
  have h : ∀ m : Nat, m < 512 → ∀ w : Nat, w < 9 → orI .i64 (m : Int) (shlI .i64 1 (w : Int)) = ((m ||| 2 ^ w : Nat) : Int) := by decide +kernel
  exact h m hm w hw
theorem b_bit {m w : Nat} (hm : m < 512) (hw : w < 9) : andI .i64 (shrI .i64 (m : Int) (w : Int)) 1 = if m.testBit w = true then 1 else 0 := by
  have h : ∀ m : Nat, m < 512 → ∀ w : Nat, w < 9 → andI .i64 (shrI .i64 (m : Int) (w : Int)) 1 = if m.testBit w = true then 1 else 0 := by decide +kernel
  exact h m hm w hw
theorem b_shl {n : Nat} (h : n ≤ 9) : shlI .i64 1 (n : Int) = ((2 ^ n : Nat) : Int) := by
  have k : ∀ n : Nat, n < 10 → shlI .i64 1 (n : Int) = ((2 ^ n : Nat) : Int) := by decide +kernel
  exact k n (by omega)
theorem b_wrap {w : Nat} (h : w < 100) : IntKind.u64.wrap (w : Int) = w := by
  have k : ∀ w : Nat, w < 100 → IntKind.u64.wrap (w : Int) = w := by decide +kernel
  exact k w h
theorem pow9 {n : Nat} (h : n ≤ 9) : 1 ≤ 2 ^ n ∧ 2 ^ n ≤ 512 := ⟨Nat.one_le_two_pow, Nat.pow_le_pow_right (n := 2) (by omega) h⟩

/-! ### The table -/
def entL (W : List (List Int)) (e : Int) (cnt i : Nat) : Int := if (i / 81).testBit (i / 9 % 9) = true ∧ i % 9 ≤ cnt then Lt W e (i / 81) (i / 9 % 9) (i % 9) else -1
def tabL (W : List (List Int)) (e : Int) (cnt : Nat) : List Int := (List.range (2 ^ W.length * 81)).map fun i => entL W e cnt i
theorem ent_at (W : List (List Int)) (e : Int) (cnt : Nat) {s l k : Nat} (hl : l < 9) (hk : k < 9) : entL W e cnt ((s * 9 + l) * 9 + k) = if s.testBit l = true ∧ k ≤ cnt then Lt W e s l k else -1 := by
  unfold entL
  rw [show ((s * 9 + l) * 9 + k) / 81 = s by omega, show ((s * 9 + l) * 9 + k) / 9 % 9 = l by omega, show ((s * 9 + l) * 9 + k) % 9 = k by omega]
/-- How far the table is filled: all of the greater sets, and of one set up to a place. -/
structure TabP (W : List (List Int)) (e : Int) (cnt S c : Nat) (T : List Int) : Prop where
  len : T.length = 2 ^ W.length * 81
  get : ∀ i, i < T.length → T.getD i 0 = if (S + 1) * 81 ≤ i ∨ (S * 81 ≤ i ∧ i < c) then entL W e cnt i else -1
theorem TabP.adv {W : List (List Int)} {e : Int} {cnt S c c' : Nat} {T : List Int} (h : TabP W e cnt S c T) (hc : c ≤ c') (hn : ∀ i, c ≤ i → i < c' → entL W e cnt i = -1) : TabP W e cnt S c' T := by
  refine ⟨h.len, fun i hi => ?_⟩
  rw [h.get i hi]
  by_cases h1 : (S + 1) * 81 ≤ i ∨ (S * 81 ≤ i ∧ i < c)
  · rw [if_pos h1, if_pos (by omega)]
  · rw [if_neg h1]
    split
    · rw [hn i (by omega) (by omega)]
    · rfl
theorem TabP.put {W : List (List Int)} {e : Int} {cnt S c : Nat} {T : List Int} (h : TabP W e cnt S c T) (hc : S * 81 ≤ c) {v : Int} (hv : entL W e cnt c = v) : TabP W e cnt S (c + 1) (T.set c v) := by
  refine ⟨by rw [List.length_set]; exact h.len, fun i hi => ?_⟩
  rw [List.length_set] at hi
  by_cases hic : i = c
  · subst hic
    rw [getD_set' _ _ _ _ _ hi, if_pos rfl, if_pos (.inr ⟨hc, by omega⟩), hv]
  · have e1 : (T.set c v).getD i 0 = T.getD i 0 := by simp [List.getD, List.getElem?_set, Ne.symm hic]
    rw [e1, h.get i hi]
    by_cases h1 : (S + 1) * 81 ≤ i ∨ (S * 81 ≤ i ∧ i < c)
    · rw [if_pos h1, if_pos (by omega)]
    · rw [if_neg h1, if_neg (by omega)]
theorem TabP.down {W : List (List Int)} {e : Int} {cnt S : Nat} {T : List Int} (h : TabP W e cnt (S + 1) ((S + 1 + 1) * 81) T) : TabP W e cnt S (S * 81) T := by
  refine ⟨h.len, fun i hi => ?_⟩
  rw [h.get i hi]
  by_cases h1 : (S + 1) * 81 ≤ i
  · rw [if_pos (by omega), if_pos (.inl h1)]
  · rw [if_neg (by omega), if_neg (by omega)]
theorem TabP.done {W : List (List Int)} {e : Int} {cnt : Nat} {T : List Int} (h : TabP W e cnt 0 (0 * 81) T) : T = tabL W e cnt := by
  apply List.ext_getElem
  · simp [tabL, h.len]
  · intro i h1 h2
    have h3 := h.get i h1
    rw [List.getD, List.getElem?_eq_getElem h1, Option.getD_some] at h3
    rw [h3]
    simp only [tabL, List.getElem_map, List.getElem_range]
    by_cases h4 : 81 ≤ i
    · rw [if_pos (by omega)]
    · rw [if_neg (by omega)]
      unfold entL
      rw [show i / 81 = 0 by omega, if_neg (by simp)]
theorem TabP.init (W : List (List Int)) (e : Int) (cnt S : Nat) (hS : S + 1 = 2 ^ W.length) : TabP W e cnt S (S * 81) (List.replicate (2 ^ W.length * 81) (-1)) := by
  refine ⟨by simp, fun i hi => ?_⟩
  rw [List.length_replicate] at hi
  rw [if_neg (by omega)]
  simp [List.getD, hi]
theorem set_self {T : List Int} {c : Nat} {v : Int} (hc : c < T.length) (h : T.getD c 0 = v) : T.set c v = T := by
  apply List.ext_getElem
  · simp
  · intro i h1 h2
    rw [List.getElem_set]
    split
    · next he =>
      subst he
      rw [List.getD, List.getElem?_eq_getElem hc, Option.getD_some] at h
      exact h.symm
    · rfl
theorem TabP.cur {W : List (List Int)} {e : Int} {cnt S c : Nat} {T : List Int} (h : TabP W e cnt S c T) (hc : c < T.length) (hS : c < (S + 1) * 81) : T.getD c 0 = -1 := by
  rw [h.get c hc, if_neg (by omega)]
theorem fill_one {N i : Nat} (h : i < N) : (List.replicate i (-1 : Int) ++ List.replicate (N - i) 0).set i (-1) = List.replicate (i + 1) (-1) ++ List.replicate (N - (i + 1)) 0 := by
  rw [List.set_append_right _ _ (by simp), List.length_replicate, Nat.sub_self, show N - i = (N - (i + 1)) + 1 by omega, List.replicate_succ, List.set_cons_zero, List.replicate_succ', List.append_assoc]
  rfl

/-- The entry while the ways over one wire are looked at. -/
def vS (W : List (List Int)) (e : Int) (S l k j : Nat) : Nat → Int
  | 0 => LtT W e S l k j
  | 1 => minO (LtT W e S l k j) (candO (Lt W e (S ||| 2 ^ j) j k) (wt W l j))
  | _ + 2 => minO (minO (LtT W e S l k j) (candO (Lt W e (S ||| 2 ^ j) j k) (wt W l j))) (candO (Lt W e (S ||| 2 ^ j) j (k - 1)) 0)
def cS (W : List (List Int)) (l j sh : Nat) : Int := if sh = 0 then wt W l j else 0
theorem vS_succ (W : List (List Int)) (e : Int) (S l k j : Nat) {sh : Nat} (h : sh ≤ 1) : vS W e S l k j (sh + 1) = minO (vS W e S l k j sh) (candO (Lt W e (S ||| 2 ^ j) j (k - sh)) (cS W l j sh)) := by
  rcases (by omega : sh = 0 ∨ sh = 1) with rfl | rfl <;> simp [vS, cS]
theorem vS_end {W : List (List Int)} {e : Int} {S l k j : Nat} (hb : S.testBit j = false) : vS W e S l k j (min 1 k + 1) = LtT W e S l k (j + 1) := by
  rw [LtT_succ]
  unfold M0.stepG
  rw [if_neg (by rw [hb]; simp)]
  by_cases hk : 0 < k
  · rw [if_pos hk, show min 1 k + 1 = 2 by omega]; rfl
  · rw [if_neg hk, show min 1 k + 1 = 1 by omega]; rfl
theorem LtT_skip {W : List (List Int)} {e : Int} {S l k j : Nat} (hb : S.testBit j = true) : LtT W e S l k (j + 1) = LtT W e S l k j := by
  rw [LtT_succ]; unfold M0.stepG; rw [if_pos hb]
theorem vS_bd {W : List (List Int)} (hW : okW W) {e : Int} {S l k j : Nat} (hl : l < W.length) (hj : j < W.length) : ∀ sh, -1 ≤ vS W e S l k j sh ∧ vS W e S l k j sh ≤ 10000 := by
  have h0 := LtT_bd9 hW (e := e) (m := S) (k := k) hl (show j ≤ W.length by omega)
  have hc := wt_nn hW hl hj
  have hm : ∀ b r c : Int, -1 ≤ b ∧ b ≤ 10000 → -1 ≤ r ∧ r ≤ 9000 → 0 ≤ c ∧ c ≤ 1000 → -1 ≤ minO b (candO r c) ∧ minO b (candO r c) ≤ 10000 := fun b r c h1 h2 h3 => by
    unfold minO candO
    repeat' split
    all_goals omega
  have h1 := hm _ _ _ h0 (Lt_bd9 hW (e := e) (m := S ||| 2 ^ j) (l := j) (k := k) hj) hc
  intro sh
  match sh with
  | 0 => exact h0
  | 1 => exact h1
  | _ + 2 => exact hm _ _ _ h1 (Lt_bd9 hW (e := e) (m := S ||| 2 ^ j) (l := j) (k := k - 1) hj) ⟨by omega, by omega⟩

theorem condOr (a b : Prop) [Decidable a] [Decidable b] : (bif decide a then true else decide b) = decide (a ∨ b) := by
  by_cases h1 : a <;> by_cases h2 : b <;> simp [h1, h2]
theorem k_l00MinI (a b : Int) : FnIs Try.prog 86 [.int .i64 a, .int .i64 b] 0 [] (.int .i64 (min a b)) 0 [] := by
  refine fn_of_ev tok Try.func86 rfl rfl rfl ?_
  repeat' ((conv => whnf); first | done | refine ev_step ?_ | refine ops_step ?_ | refine scan_step ?_ | refine draw_step ?_ | refine each_step ?_ | refine sl_step ?_ | refine hp_step ?_ | refine guard_no (by decide) ?_ | refine guard_go ?_ | refine guard_old ?_ | apply cut_auto | with_reducible exact CutS.mk (Or.inl ⟨rfl, rfl, rfl⟩) | refine CutS.mk (Or.inr (sub_auto ?_)) | exact trivial | refine And.intro ?_ ?_ | (refine cond_split ?_ ?_ <;> intro _ <;> first | (exfalso; first | omega | (simp only [decide_eq_true_eq, decide_eq_false_iff_not, Bool.not_eq_true', Bool.not_eq_false', ne_eq, Bool.not_true, Bool.not_false, cond_true, cond_false, Bool.true_eq_false, Bool.false_eq_true, Bool.and_eq_true, Bool.and_eq_false_iff] at *; omega)) | skip) | apply guess | exact Or.inl rfl | exact Or.inr rfl | exact Side.mk trivial | exact Side.mk (fun h => h) | exact Side.mk (fun h => ⟨h, h⟩) | with_reducible exact Side.mk rfl | with_reducible exact Side.mk ⟨rfl, rfl⟩ | with_reducible exact Side.mk (by assumption) | with_reducible rfl | intro _)
  all_goals try (conv => whnf)
  all_goals first | rfl | (rename_i h; simp only [decide_eq_true_eq, decide_eq_false_iff_not] at h; omega) | trace_state

theorem k_l10Left (W : List (List Int)) (cnt : Nat) (e : Int) (hW : okW W) (hc : cnt ≤ 8) : FnIs Try.prog 85 [.ptr 0 [] 0 0, .int .i64 cnt, .int .i64 e] 3 [(0, .flat false (.gen 1 [[.sl 2 []]])), (2, .flat false (.rows 1 0 W.length)), (1, .nestI false .i64 W)] (.sl 3 []) 4 [(3, .flat true (.ints .i64 (tabL W e cnt)))] := by
  have hn := hW.1
  have hP := pow9 hn.2
  have hwn := b_wrap (w := W.length) (by omega)
  have hsh : shlI .i64 1 (IntKind.u64.wrap (W.length : Int)) = ((2 ^ W.length : Nat) : Int) := by rw [hwn]; exact b_shl hn.2
  refine fn_of_evk [0, 1, 2, 6, 7, 8, 9, 10, 11, 12, 13, 14, 15, 16, 17, 34, 42, 47, 55, 58, 70, 81, 87, 95, 99, 119, 121, 146] tok Try.func85 rfl rfl rfl ?_
  repeat' ((conv => whnf); first | done | refine ev_step ?_ | refine ops_step ?_ | refine scan_step ?_ | refine draw_step ?_ | refine each_step ?_ | refine sl_step ?_ | refine hp_step ?_ | refine guard_no (by decide) ?_ | refine guard_go ?_ | refine guard_old ?_ | apply cut_auto | with_reducible exact CutS.mk (Or.inl ⟨rfl, rfl, rfl⟩) | refine CutS.mk (Or.inr (sub_auto ?_)) | exact trivial | refine And.intro ?_ ?_ | (refine cond_split ?_ ?_ <;> intro _ <;> first | (exfalso; first | omega | (simp only [decide_eq_true_eq, decide_eq_false_iff_not, Bool.not_eq_true', Bool.not_eq_false', ne_eq, Bool.not_true, Bool.not_false, cond_true, cond_false, Bool.true_eq_false, Bool.false_eq_true, Bool.and_eq_true, Bool.and_eq_false_iff] at *; omega)) | skip) | apply guess | exact Or.inl rfl | exact Or.inr rfl | exact Side.mk trivial | exact Side.mk (fun h => h) | exact Side.mk (fun h => ⟨h, h⟩) | with_reducible exact Side.mk rfl | with_reducible exact Side.mk ⟨rfl, rfl⟩ | with_reducible exact Side.mk (by assumption) | with_reducible rfl | intro _)
  all_goals try (conv => whnf)
  all_goals try (refine Side.mk ?_; first | (intros; omega) | (show List.length (_ ++ _) ≤ _; simp only [List.length_append, List.length_cons, List.length_nil, List.length_replicate, List.length_take]; omega) | (simp_all; done) | (simp_all; omega))
  refine loop_at (fun i : Nat => i ≤ 2 ^ W.length * 81) 4 (fun i => [(10, .int .i64 i)]) (fun i => [(3, .flat true (.ints .i64 (List.replicate i (-1) ++ List.replicate (2 ^ W.length * 81 - i) 0)))]) (fun i => 2 ^ W.length * 81 - i) 0 (Nat.zero_le _) ?_ (fun i hi => ?_)
  · repeat' ((conv => whnf); first | done | refine ev_step ?_ | refine ops_step ?_ | refine scan_step ?_ | refine draw_step ?_ | refine each_step ?_ | refine sl_step ?_ | refine hp_step ?_ | refine guard_no (by decide) ?_ | refine guard_go ?_ | refine guard_old ?_ | apply cut_auto | with_reducible exact CutS.mk (Or.inl ⟨rfl, rfl, rfl⟩) | refine CutS.mk (Or.inr (sub_auto ?_)) | exact trivial | refine And.intro ?_ ?_ | refine cond_split ?_ ?_ | apply guess | exact Or.inl rfl | exact Or.inr rfl | exact Side.mk trivial | exact Side.mk (fun h => h) | exact Side.mk (fun h => ⟨h, h⟩) | with_reducible exact Side.mk rfl | with_reducible exact Side.mk ⟨rfl, rfl⟩ | with_reducible exact Side.mk (by assumption) | with_reducible rfl | intro _)
    all_goals try (conv => whnf)
    all_goals first | rfl | (rw [hsh, List.replicate_zero, List.nil_append]; congr 1; omega) | trace_state
  · have hlen : (List.replicate i (-1 : Int) ++ List.replicate (2 ^ W.length * 81 - i) 0).length = 2 ^ W.length * 81 := by simp; omega
    by_cases hlt : i < 2 ^ W.length * 81
    · repeat' ((conv => whnf); first | done | refine ev_step ?_ | refine ops_step ?_ | refine scan_step ?_ | refine draw_step ?_ | refine each_step ?_ | refine sl_step ?_ | refine hp_step ?_ | refine guard_no (by decide) ?_ | refine guard_go ?_ | refine guard_old ?_ | apply cut_auto | with_reducible exact CutS.mk (Or.inl ⟨rfl, rfl, rfl⟩) | refine CutS.mk (Or.inr (sub_auto ?_)) | exact trivial | refine And.intro ?_ ?_ | (refine cond_split ?_ ?_ <;> intro _ <;> first | (exfalso; first | omega | (simp only [decide_eq_true_eq, decide_eq_false_iff_not, Bool.not_eq_true', Bool.not_eq_false', ne_eq, Bool.not_true, Bool.not_false, cond_true, cond_false, Bool.true_eq_false, Bool.false_eq_true, Bool.and_eq_true, Bool.and_eq_false_iff] at *; omega)) | skip) | apply guess | exact Or.inl rfl | exact Or.inr rfl | exact Side.mk trivial | exact Side.mk (fun h => h) | exact Side.mk (fun h => ⟨h, h⟩) | with_reducible exact Side.mk rfl | with_reducible exact Side.mk ⟨rfl, rfl⟩ | with_reducible exact Side.mk (by assumption) | with_reducible rfl | intro _)
      all_goals try (conv => whnf)
      all_goals try (refine Side.mk ?_; first | (intros; omega) | (show List.length (_ ++ _) ≤ _; simp only [List.length_append, List.length_cons, List.length_nil, List.length_replicate, List.length_take]; omega) | (simp_all; done) | (simp_all; omega))
      all_goals try omega
      refine ⟨i + 1, by omega, by omega, ?_⟩
      repeat' ((conv => whnf); first | done | refine ev_step ?_ | refine ops_step ?_ | refine scan_step ?_ | refine draw_step ?_ | refine each_step ?_ | refine sl_step ?_ | refine hp_step ?_ | refine guard_no (by decide) ?_ | refine guard_go ?_ | refine guard_old ?_ | apply cut_auto | with_reducible exact CutS.mk (Or.inl ⟨rfl, rfl, rfl⟩) | refine CutS.mk (Or.inr (sub_auto ?_)) | exact trivial | refine And.intro ?_ ?_ | refine cond_split ?_ ?_ | apply guess | exact Or.inl rfl | exact Or.inr rfl | exact Side.mk trivial | exact Side.mk (fun h => h) | exact Side.mk (fun h => ⟨h, h⟩) | with_reducible exact Side.mk rfl | with_reducible exact Side.mk ⟨rfl, rfl⟩ | with_reducible exact Side.mk (by assumption) | with_reducible rfl | intro _)
      all_goals try (conv => whnf)
      all_goals first | rfl | omega | exact (fill_one hlt).symm | exact fill_one hlt | trace_state
    · have hz : 2 ^ W.length * 81 - i = 0 := by omega
      have hT : List.replicate i (-1 : Int) ++ List.replicate (2 ^ W.length * 81 - i) 0 = List.replicate (2 ^ W.length * 81) (-1) := by
        rw [hz, List.replicate_zero, List.append_nil]; congr 1; omega
      repeat' ((conv => whnf); first | done | refine ev_step ?_ | refine ops_step ?_ | refine scan_step ?_ | refine draw_step ?_ | refine each_step ?_ | refine sl_step ?_ | refine hp_step ?_ | refine guard_no (by decide) ?_ | refine guard_go ?_ | refine guard_old ?_ | apply cut_auto | with_reducible exact CutS.mk (Or.inl ⟨rfl, rfl, rfl⟩) | refine CutS.mk (Or.inr (sub_auto ?_)) | exact trivial | refine And.intro ?_ ?_ | (refine cond_split ?_ ?_ <;> intro _ <;> first | (exfalso; first | omega | (simp only [decide_eq_true_eq, decide_eq_false_iff_not, Bool.not_eq_true', Bool.not_eq_false', ne_eq, Bool.not_true, Bool.not_false, cond_true, cond_false, Bool.true_eq_false, Bool.false_eq_true, Bool.and_eq_true, Bool.and_eq_false_iff] at *; omega)) | skip) | apply guess | exact Or.inl rfl | exact Or.inr rfl | exact Side.mk trivial | exact Side.mk (fun h => h) | exact Side.mk (fun h => ⟨h, h⟩) | with_reducible exact Side.mk rfl | with_reducible exact Side.mk ⟨rfl, rfl⟩ | with_reducible exact Side.mk (by assumption) | with_reducible rfl | intro _)
      all_goals try (conv => whnf)
      all_goals try (refine Side.mk ?_; first | (intros; omega) | (show List.length (_ ++ _) ≤ _; simp only [List.length_append, List.length_cons, List.length_nil, List.length_replicate, List.length_take]; omega) | (simp_all; done) | (simp_all; omega))
      refine loop_at (fun a : Nat × List Int => a.1 < 2 ^ W.length ∧ TabP W e cnt a.1 (a.1 * 81) a.2) 4 (fun a => [(11, .int .i64 a.1)]) (fun a => [(3, .flat true (.ints .i64 a.2))]) (fun a => a.1) (2 ^ W.length - 1, List.replicate (2 ^ W.length * 81) (-1)) ⟨by dsimp only; omega, TabP.init W e cnt _ (by omega)⟩ ?_ (fun a ha => ?_)
      · repeat' ((conv => whnf); first | done | refine ev_step ?_ | refine ops_step ?_ | refine scan_step ?_ | refine draw_step ?_ | refine each_step ?_ | refine sl_step ?_ | refine hp_step ?_ | refine guard_no (by decide) ?_ | refine guard_go ?_ | refine guard_old ?_ | apply cut_auto | with_reducible exact CutS.mk (Or.inl ⟨rfl, rfl, rfl⟩) | refine CutS.mk (Or.inr (sub_auto ?_)) | exact trivial | refine And.intro ?_ ?_ | refine cond_split ?_ ?_ | apply guess | exact Or.inl rfl | exact Or.inr rfl | exact Side.mk trivial | exact Side.mk (fun h => h) | exact Side.mk (fun h => ⟨h, h⟩) | with_reducible exact Side.mk rfl | with_reducible exact Side.mk ⟨rfl, rfl⟩ | with_reducible exact Side.mk (by assumption) | with_reducible rfl | intro _)
        all_goals try (conv => whnf)
        all_goals first | rfl | exact hT.symm | exact hT | (dsimp only; omega) | trace_state
      · obtain ⟨S, T⟩ := a
        obtain ⟨hS, hT2⟩ := ha
        dsimp only at hS hT2 ⊢
        by_cases hS0 : 0 < S
        · repeat' ((conv => whnf); first | done | refine ev_step ?_ | refine ops_step ?_ | refine scan_step ?_ | refine draw_step ?_ | refine each_step ?_ | refine sl_step ?_ | refine hp_step ?_ | refine guard_no (by decide) ?_ | refine guard_go ?_ | refine guard_old ?_ | apply cut_auto | with_reducible exact CutS.mk (Or.inl ⟨rfl, rfl, rfl⟩) | refine CutS.mk (Or.inr (sub_auto ?_)) | exact trivial | refine And.intro ?_ ?_ | (refine cond_split ?_ ?_ <;> intro _ <;> first | (exfalso; first | omega | (simp only [decide_eq_true_eq, decide_eq_false_iff_not, Bool.not_eq_true', Bool.not_eq_false', ne_eq, Bool.not_true, Bool.not_false, cond_true, cond_false, Bool.true_eq_false, Bool.false_eq_true, Bool.and_eq_true, Bool.and_eq_false_iff] at *; omega)) | skip) | apply guess | exact Or.inl rfl | exact Or.inr rfl | exact Side.mk trivial | exact Side.mk (fun h => h) | exact Side.mk (fun h => ⟨h, h⟩) | with_reducible exact Side.mk rfl | with_reducible exact Side.mk ⟨rfl, rfl⟩ | with_reducible exact Side.mk (by assumption) | with_reducible rfl | intro _)
          all_goals try (conv => whnf)
          all_goals try (refine Side.mk ?_; first | (intros; omega) | (show List.length (_ ++ _) ≤ _; simp only [List.length_append, List.length_cons, List.length_nil, List.length_replicate, List.length_take]; omega) | (simp_all; done) | (simp_all; omega))
          refine loop_at (fun a : Nat × List Int => a.1 ≤ W.length ∧ TabP W e cnt S ((S * 9 + a.1) * 9) a.2) 4 (fun a => [(12, .int .i64 a.1)]) (fun a => [(3, .flat true (.ints .i64 a.2))]) (fun a => W.length - a.1) (0, T) ⟨Nat.zero_le _, by dsimp only; rw [show (S * 9 + 0) * 9 = S * 81 by omega]; exact hT2⟩ ?_ (fun a ha => ?_)
          · repeat' ((conv => whnf); first | done | refine ev_step ?_ | refine ops_step ?_ | refine scan_step ?_ | refine draw_step ?_ | refine each_step ?_ | refine sl_step ?_ | refine hp_step ?_ | refine guard_no (by decide) ?_ | refine guard_go ?_ | refine guard_old ?_ | apply cut_auto | with_reducible exact CutS.mk (Or.inl ⟨rfl, rfl, rfl⟩) | refine CutS.mk (Or.inr (sub_auto ?_)) | exact trivial | refine And.intro ?_ ?_ | refine cond_split ?_ ?_ | apply guess | exact Or.inl rfl | exact Or.inr rfl | exact Side.mk trivial | exact Side.mk (fun h => h) | exact Side.mk (fun h => ⟨h, h⟩) | with_reducible exact Side.mk rfl | with_reducible exact Side.mk ⟨rfl, rfl⟩ | with_reducible exact Side.mk (by assumption) | with_reducible rfl | intro _)
            all_goals try (conv => whnf)
            all_goals first | rfl | trace_state
          · obtain ⟨l, T1⟩ := a
            obtain ⟨hl, hT3⟩ := ha
            dsimp only at hl hT3 ⊢
            by_cases hl2 : l < W.length
            · have hwl := b_wrap (w := l) (by omega)
              have hbit : andI .i64 (shrI .i64 (S : Int) (IntKind.u64.wrap (l : Int))) 1 = if S.testBit l = true then 1 else 0 := by rw [hwl]; exact b_bit (by omega) (by omega)
              cases hb : S.testBit l with
              | false =>
                rw [hb, if_neg (by simp)] at hbit
                repeat' ((conv => whnf); first | done | refine ev_step ?_ | refine ops_step ?_ | refine scan_step ?_ | refine draw_step ?_ | refine each_step ?_ | refine sl_step ?_ | refine hp_step ?_ | refine guard_no (by decide) ?_ | refine guard_go ?_ | refine guard_old ?_ | apply cut_auto | with_reducible exact CutS.mk (Or.inl ⟨rfl, rfl, rfl⟩) | refine CutS.mk (Or.inr (sub_auto ?_)) | exact trivial | refine And.intro ?_ ?_ | (refine cond_split ?_ ?_ <;> intro _ <;> first | (exfalso; first | omega | (simp only [decide_eq_true_eq, decide_eq_false_iff_not, Bool.not_eq_true', Bool.not_eq_false', ne_eq, Bool.not_true, Bool.not_false, cond_true, cond_false, Bool.true_eq_false, Bool.false_eq_true, Bool.and_eq_true, Bool.and_eq_false_iff] at *; omega)) | skip) | apply guess | exact Or.inl rfl | exact Or.inr rfl | exact Side.mk trivial | exact Side.mk (fun h => h) | exact Side.mk (fun h => ⟨h, h⟩) | with_reducible exact Side.mk rfl | with_reducible exact Side.mk ⟨rfl, rfl⟩ | with_reducible exact Side.mk (by assumption) | with_reducible rfl | intro _)
                all_goals try (conv => whnf)
                all_goals try (refine Side.mk ?_; first | (intros; omega) | (show List.length (_ ++ _) ≤ _; simp only [List.length_append, List.length_cons, List.length_nil, List.length_replicate, List.length_take]; omega) | (simp_all; done) | (simp_all; omega))
                all_goals try omega
                refine ⟨(l + 1, T1), ⟨by dsimp only; omega, ?_⟩, by dsimp only; omega, ?_⟩
                · dsimp only
                  refine hT3.adv (by omega) fun i h1 h2 => ?_
                  have : i = (S * 9 + l) * 9 + (i - (S * 9 + l) * 9) := by omega
                  rw [this, ent_at W e cnt (by omega) (by omega), hb, if_neg (by simp)]
                · repeat' ((conv => whnf); first | done | refine ev_step ?_ | refine ops_step ?_ | refine scan_step ?_ | refine draw_step ?_ | refine each_step ?_ | refine sl_step ?_ | refine hp_step ?_ | refine guard_no (by decide) ?_ | refine guard_go ?_ | refine guard_old ?_ | apply cut_auto | with_reducible exact CutS.mk (Or.inl ⟨rfl, rfl, rfl⟩) | refine CutS.mk (Or.inr (sub_auto ?_)) | exact trivial | refine And.intro ?_ ?_ | refine cond_split ?_ ?_ | apply guess | exact Or.inl rfl | exact Or.inr rfl | exact Side.mk trivial | exact Side.mk (fun h => h) | exact Side.mk (fun h => ⟨h, h⟩) | with_reducible exact Side.mk rfl | with_reducible exact Side.mk ⟨rfl, rfl⟩ | with_reducible exact Side.mk (by assumption) | with_reducible rfl | intro _)
                  all_goals try (conv => whnf)
                  all_goals first | rfl | omega | trace_state
              | true =>
                rw [hb, if_pos rfl] at hbit
                repeat' ((conv => whnf); first | done | refine ev_step ?_ | refine ops_step ?_ | refine scan_step ?_ | refine draw_step ?_ | refine each_step ?_ | refine sl_step ?_ | refine hp_step ?_ | refine guard_no (by decide) ?_ | refine guard_go ?_ | refine guard_old ?_ | apply cut_auto | with_reducible exact CutS.mk (Or.inl ⟨rfl, rfl, rfl⟩) | refine CutS.mk (Or.inr (sub_auto ?_)) | exact trivial | refine And.intro ?_ ?_ | (refine cond_split ?_ ?_ <;> intro _ <;> first | (exfalso; first | omega | (simp only [decide_eq_true_eq, decide_eq_false_iff_not, Bool.not_eq_true', Bool.not_eq_false', ne_eq, Bool.not_true, Bool.not_false, cond_true, cond_false, Bool.true_eq_false, Bool.false_eq_true, Bool.and_eq_true, Bool.and_eq_false_iff] at *; omega)) | skip) | apply guess | exact Or.inl rfl | exact Or.inr rfl | exact Side.mk trivial | exact Side.mk (fun h => h) | exact Side.mk (fun h => ⟨h, h⟩) | with_reducible exact Side.mk rfl | with_reducible exact Side.mk ⟨rfl, rfl⟩ | with_reducible exact Side.mk (by assumption) | with_reducible rfl | intro _)
                all_goals try (conv => whnf)
                all_goals try (refine Side.mk ?_; first | (intros; omega) | (show List.length (_ ++ _) ≤ _; simp only [List.length_append, List.length_cons, List.length_nil, List.length_replicate, List.length_take]; omega) | (simp_all; done) | (simp_all; omega))
                refine loop_at (fun a : Nat × List Int => a.1 ≤ cnt + 1 ∧ TabP W e cnt S ((S * 9 + l) * 9 + a.1) a.2) 4 (fun a => [(13, .int .i64 a.1)]) (fun a => [(3, .flat true (.ints .i64 a.2))]) (fun a => 20 - a.1) (0, T1) ⟨Nat.zero_le _, hT3⟩ ?_ (fun a ha => ?_)
                · repeat' ((conv => whnf); first | done | refine ev_step ?_ | refine ops_step ?_ | refine scan_step ?_ | refine draw_step ?_ | refine each_step ?_ | refine sl_step ?_ | refine hp_step ?_ | refine guard_no (by decide) ?_ | refine guard_go ?_ | refine guard_old ?_ | apply cut_auto | with_reducible exact CutS.mk (Or.inl ⟨rfl, rfl, rfl⟩) | refine CutS.mk (Or.inr (sub_auto ?_)) | exact trivial | refine And.intro ?_ ?_ | refine cond_split ?_ ?_ | apply guess | exact Or.inl rfl | exact Or.inr rfl | exact Side.mk trivial | exact Side.mk (fun h => h) | exact Side.mk (fun h => ⟨h, h⟩) | with_reducible exact Side.mk rfl | with_reducible exact Side.mk ⟨rfl, rfl⟩ | with_reducible exact Side.mk (by assumption) | with_reducible rfl | intro _)
                  all_goals try (conv => whnf)
                  all_goals first | rfl | trace_state
                · obtain ⟨k, T2⟩ := a
                  obtain ⟨hk, hT4⟩ := ha
                  dsimp only at hk hT4 ⊢
                  by_cases hk2 : k ≤ cnt
                  · have hA : (((S : Int) * 9 + l) * 9 + k).toNat = (S * 9 + l) * 9 + k := by omega
                    have hent := ent_at W e cnt (s := S) (l := l) (k := k) (by omega) (by omega)
                    rw [if_pos ⟨hb, hk2⟩] at hent
                    have hlen2 := hT4.len
                    have hcur := hT4.cur (show (S * 9 + l) * 9 + k < T2.length by omega) (by omega)
                    have hfull := full_iff (n := W.length) hS
                    by_cases hall : (S : Int) = shlI .i64 1 (IntKind.u64.wrap (W.length : Int)) - 1
                    · have hu : unb W.length S = 0 := hfull.2 (by omega)
                      rw [Lt_base hu] at hent
                      have hq : (bif decide ((k : Int) = 0) then bif decide (e < 0) then true else decide ((l : Int) = e) else false) = decide (k = 0 ∧ (e < 0 ∨ (l : Int) = e)) := by
                        by_cases h1 : k = 0 <;> by_cases h2 : e < 0 <;> simp [h1, h2]
                      by_cases hbase : k = 0 ∧ (e < 0 ∨ (l : Int) = e)
                      · rw [decide_eq_true hbase] at hq
                        rw [baseL, if_pos hbase] at hent
                        repeat' ((conv => whnf); first | done | refine ev_step ?_ | refine ops_step ?_ | refine scan_step ?_ | refine draw_step ?_ | refine each_step ?_ | refine sl_step ?_ | refine hp_step ?_ | refine guard_no (by decide) ?_ | refine guard_go ?_ | refine guard_old ?_ | apply cut_auto | with_reducible exact CutS.mk (Or.inl ⟨rfl, rfl, rfl⟩) | refine CutS.mk (Or.inr (sub_auto ?_)) | exact trivial | refine And.intro ?_ ?_ | (refine cond_split ?_ ?_ <;> intro hq_ <;> first | (exfalso; first | omega | (simp only [hq, cond_true, cond_false, Bool.not_true, Bool.not_false, Bool.and_true, Bool.true_and, Bool.and_false, Bool.false_and, Bool.or_true, Bool.true_or, Bool.or_false, Bool.false_or, Bool.true_eq_false, Bool.false_eq_true, decide_true, decide_false, reduceCtorEq] at hq_; done) | (rw [decide_eq_false_iff_not] at hq_; omega) | (rw [decide_eq_true_eq] at hq_; omega) | (simp only [hq, reduceCtorEq] at hq_; done) | exact Bool.noConfusion (Eq.trans (Eq.symm hq) hq_)) | skip) | apply guess | exact Or.inl rfl | exact Or.inr rfl | exact Side.mk trivial | exact Side.mk (fun h => h) | exact Side.mk (fun h => ⟨h, h⟩) | with_reducible exact Side.mk rfl | with_reducible exact Side.mk ⟨rfl, rfl⟩ | with_reducible exact Side.mk (by assumption) | with_reducible rfl | intro _)
                        all_goals try (conv => whnf)
                        all_goals try (refine Side.mk ?_; first | (intros; omega) | (show List.length (_ ++ _) ≤ _; simp only [List.length_append, List.length_cons, List.length_nil, List.length_replicate, List.length_take]; omega) | (simp_all; done) | (simp_all; omega))
                        all_goals try omega
                        refine ⟨(k + 1, T2.set ((S * 9 + l) * 9 + k) 0), ⟨by dsimp only; omega, ?_⟩, by dsimp only; omega, ?_⟩
                        · dsimp only
                          rw [← Nat.add_assoc]
                          exact hT4.put (by omega) hent
                        · repeat' ((conv => whnf); first | done | refine ev_step ?_ | refine ops_step ?_ | refine scan_step ?_ | refine draw_step ?_ | refine each_step ?_ | refine sl_step ?_ | refine hp_step ?_ | refine guard_no (by decide) ?_ | refine guard_go ?_ | refine guard_old ?_ | apply cut_auto | with_reducible exact CutS.mk (Or.inl ⟨rfl, rfl, rfl⟩) | refine CutS.mk (Or.inr (sub_auto ?_)) | exact trivial | refine And.intro ?_ ?_ | refine cond_split ?_ ?_ | apply guess | exact Or.inl rfl | exact Or.inr rfl | exact Side.mk trivial | exact Side.mk (fun h => h) | exact Side.mk (fun h => ⟨h, h⟩) | with_reducible exact Side.mk rfl | with_reducible exact Side.mk ⟨rfl, rfl⟩ | with_reducible exact Side.mk (by assumption) | with_reducible rfl | intro _)
                          all_goals try (conv => whnf)
                          all_goals first | rfl | omega | (rw [hA]; done) | trace_state
                      · rw [decide_eq_false hbase] at hq
                        rw [baseL, if_neg hbase] at hent
                        repeat' ((conv => whnf); first | done | refine ev_step ?_ | refine ops_step ?_ | refine scan_step ?_ | refine draw_step ?_ | refine each_step ?_ | refine sl_step ?_ | refine hp_step ?_ | refine guard_no (by decide) ?_ | refine guard_go ?_ | refine guard_old ?_ | apply cut_auto | with_reducible exact CutS.mk (Or.inl ⟨rfl, rfl, rfl⟩) | refine CutS.mk (Or.inr (sub_auto ?_)) | exact trivial | refine And.intro ?_ ?_ | (refine cond_split ?_ ?_ <;> intro hq_ <;> first | (exfalso; first | omega | (simp only [hq, cond_true, cond_false, Bool.not_true, Bool.not_false, Bool.and_true, Bool.true_and, Bool.and_false, Bool.false_and, Bool.or_true, Bool.true_or, Bool.or_false, Bool.false_or, Bool.true_eq_false, Bool.false_eq_true, decide_true, decide_false, reduceCtorEq] at hq_; done) | (rw [decide_eq_false_iff_not] at hq_; omega) | (rw [decide_eq_true_eq] at hq_; omega) | (simp only [hq, reduceCtorEq] at hq_; done) | exact Bool.noConfusion (Eq.trans (Eq.symm hq) hq_)) | skip) | apply guess | exact Or.inl rfl | exact Or.inr rfl | exact Side.mk trivial | exact Side.mk (fun h => h) | exact Side.mk (fun h => ⟨h, h⟩) | with_reducible exact Side.mk rfl | with_reducible exact Side.mk ⟨rfl, rfl⟩ | with_reducible exact Side.mk (by assumption) | with_reducible rfl | intro _)
                        all_goals try (conv => whnf)
                        all_goals try (refine Side.mk ?_; first | (intros; omega) | (show List.length (_ ++ _) ≤ _; simp only [List.length_append, List.length_cons, List.length_nil, List.length_replicate, List.length_take]; omega) | (simp_all; done) | (simp_all; omega))
                        all_goals try omega
                        refine ⟨(k + 1, T2), ⟨by dsimp only; omega, ?_⟩, by dsimp only; omega, ?_⟩
                        · dsimp only
                          exact hT4.adv (by omega) fun i h1 h2 => by rw [show i = (S * 9 + l) * 9 + k by omega]; exact hent
                        · repeat' ((conv => whnf); first | done | refine ev_step ?_ | refine ops_step ?_ | refine scan_step ?_ | refine draw_step ?_ | refine each_step ?_ | refine sl_step ?_ | refine hp_step ?_ | refine guard_no (by decide) ?_ | refine guard_go ?_ | refine guard_old ?_ | apply cut_auto | with_reducible exact CutS.mk (Or.inl ⟨rfl, rfl, rfl⟩) | refine CutS.mk (Or.inr (sub_auto ?_)) | exact trivial | refine And.intro ?_ ?_ | refine cond_split ?_ ?_ | apply guess | exact Or.inl rfl | exact Or.inr rfl | exact Side.mk trivial | exact Side.mk (fun h => h) | exact Side.mk (fun h => ⟨h, h⟩) | with_reducible exact Side.mk rfl | with_reducible exact Side.mk ⟨rfl, rfl⟩ | with_reducible exact Side.mk (by assumption) | with_reducible rfl | intro _)
                          all_goals try (conv => whnf)
                          all_goals first | rfl | omega | trace_state
                    · have hu : unb W.length S ≠ 0 := fun h => by have := hfull.1 h; omega
                      rw [Lt_step hu] at hent
                      have hset0 := set_self (show (S * 9 + l) * 9 + k < T2.length by omega) hcur
                      repeat' ((conv => whnf); first | done | refine ev_step ?_ | refine ops_step ?_ | refine scan_step ?_ | refine draw_step ?_ | refine each_step ?_ | refine sl_step ?_ | refine hp_step ?_ | refine guard_no (by decide) ?_ | refine guard_go ?_ | refine guard_old ?_ | apply cut_auto | with_reducible exact CutS.mk (Or.inl ⟨rfl, rfl, rfl⟩) | refine CutS.mk (Or.inr (sub_auto ?_)) | exact trivial | refine And.intro ?_ ?_ | (refine cond_split ?_ ?_ <;> intro _ <;> first | (exfalso; first | omega | (simp only [decide_eq_true_eq, decide_eq_false_iff_not, Bool.not_eq_true', Bool.not_eq_false', ne_eq, Bool.not_true, Bool.not_false, cond_true, cond_false, Bool.true_eq_false, Bool.false_eq_true, Bool.and_eq_true, Bool.and_eq_false_iff] at *; omega)) | skip) | apply guess | exact Or.inl rfl | exact Or.inr rfl | exact Side.mk trivial | exact Side.mk (fun h => h) | exact Side.mk (fun h => ⟨h, h⟩) | with_reducible exact Side.mk rfl | with_reducible exact Side.mk ⟨rfl, rfl⟩ | with_reducible exact Side.mk (by assumption) | with_reducible rfl | intro _)
                      all_goals try (conv => whnf)
                      all_goals try (refine Side.mk ?_; first | (intros; omega) | (show List.length (_ ++ _) ≤ _; simp only [List.length_append, List.length_cons, List.length_nil, List.length_replicate, List.length_take]; omega) | (simp_all; done) | (simp_all; omega))
                      refine loop_at (fun j : Nat => j ≤ W.length) 4 (fun j => [(15, .int .i64 j)]) (fun j => [(3, .flat true (.ints .i64 (T2.set ((S * 9 + l) * 9 + k) (LtT W e S l k j))))]) (fun j => W.length - j) 0 (Nat.zero_le _) ?_ (fun j hj => ?_)
                      · repeat' ((conv => whnf); first | done | refine ev_step ?_ | refine ops_step ?_ | refine scan_step ?_ | refine draw_step ?_ | refine each_step ?_ | refine sl_step ?_ | refine hp_step ?_ | refine guard_no (by decide) ?_ | refine guard_go ?_ | refine guard_old ?_ | apply cut_auto | with_reducible exact CutS.mk (Or.inl ⟨rfl, rfl, rfl⟩) | refine CutS.mk (Or.inr (sub_auto ?_)) | exact trivial | refine And.intro ?_ ?_ | refine cond_split ?_ ?_ | apply guess | exact Or.inl rfl | exact Or.inr rfl | exact Side.mk trivial | exact Side.mk (fun h => h) | exact Side.mk (fun h => ⟨h, h⟩) | with_reducible exact Side.mk rfl | with_reducible exact Side.mk ⟨rfl, rfl⟩ | with_reducible exact Side.mk (by assumption) | with_reducible rfl | intro _)
                        all_goals try (conv => whnf)
                        all_goals first | rfl | (rw [LtT_zero]; exact hset0) | (rw [LtT_zero]; exact hset0.symm) | trace_state
                      · by_cases hj2 : j < W.length
                        · have hwj := b_wrap (w := j) (by omega)
                          have hbj : andI .i64 (shrI .i64 (S : Int) (IntKind.u64.wrap (j : Int))) 1 = if S.testBit j = true then 1 else 0 := by rw [hwj]; exact b_bit (by omega) (by omega)
                          cases hjb : S.testBit j with
                          | true =>
                            rw [hjb, if_pos rfl] at hbj
                            have hsk := LtT_skip (W := W) (e := e) (S := S) (l := l) (k := k) hjb
                            repeat' ((conv => whnf); first | done | refine ev_step ?_ | refine ops_step ?_ | refine scan_step ?_ | refine draw_step ?_ | refine each_step ?_ | refine sl_step ?_ | refine hp_step ?_ | refine guard_no (by decide) ?_ | refine guard_go ?_ | refine guard_old ?_ | apply cut_auto | with_reducible exact CutS.mk (Or.inl ⟨rfl, rfl, rfl⟩) | refine CutS.mk (Or.inr (sub_auto ?_)) | exact trivial | refine And.intro ?_ ?_ | (refine cond_split ?_ ?_ <;> intro _ <;> first | (exfalso; first | omega | (simp only [decide_eq_true_eq, decide_eq_false_iff_not, Bool.not_eq_true', Bool.not_eq_false', ne_eq, Bool.not_true, Bool.not_false, cond_true, cond_false, Bool.true_eq_false, Bool.false_eq_true, Bool.and_eq_true, Bool.and_eq_false_iff] at *; omega)) | skip) | apply guess | exact Or.inl rfl | exact Or.inr rfl | exact Side.mk trivial | exact Side.mk (fun h => h) | exact Side.mk (fun h => ⟨h, h⟩) | with_reducible exact Side.mk rfl | with_reducible exact Side.mk ⟨rfl, rfl⟩ | with_reducible exact Side.mk (by assumption) | with_reducible rfl | intro _)
                            all_goals try (conv => whnf)
                            all_goals try (refine Side.mk ?_; first | (intros; omega) | (show List.length (_ ++ _) ≤ _; simp only [List.length_append, List.length_cons, List.length_nil, List.length_replicate, List.length_take]; omega) | (simp_all; done) | (simp_all; omega))
                            all_goals try omega
                            refine ⟨j + 1, by omega, by omega, ?_⟩
                            repeat' ((conv => whnf); first | done | refine ev_step ?_ | refine ops_step ?_ | refine scan_step ?_ | refine draw_step ?_ | refine each_step ?_ | refine sl_step ?_ | refine hp_step ?_ | refine guard_no (by decide) ?_ | refine guard_go ?_ | refine guard_old ?_ | apply cut_auto | with_reducible exact CutS.mk (Or.inl ⟨rfl, rfl, rfl⟩) | refine CutS.mk (Or.inr (sub_auto ?_)) | exact trivial | refine And.intro ?_ ?_ | refine cond_split ?_ ?_ | apply guess | exact Or.inl rfl | exact Or.inr rfl | exact Side.mk trivial | exact Side.mk (fun h => h) | exact Side.mk (fun h => ⟨h, h⟩) | with_reducible exact Side.mk rfl | with_reducible exact Side.mk ⟨rfl, rfl⟩ | with_reducible exact Side.mk (by assumption) | with_reducible rfl | intro _)
                            all_goals try (conv => whnf)
                            all_goals first | rfl | omega | (rw [hsk]; done) | trace_state
                          | false =>
                            rw [hjb, if_neg (by simp)] at hbj
                            have hor : orI .i64 (S : Int) (shlI .i64 1 (IntKind.u64.wrap (j : Int))) = ((S ||| 2 ^ j : Nat) : Int) := by rw [hwj]; exact b_or (by omega) (by omega)
                            have hS2 := add_lt hS hj2
                            have hgt := add_gt hjb
                            have hmin := k_l00MinI 1 (k : Int)
                            have hend := vS_end (W := W) (e := e) (S := S) (l := l) (k := k) hjb
                            repeat' ((conv => whnf); first | done | refine ev_step ?_ | refine ops_step ?_ | refine scan_step ?_ | refine draw_step ?_ | refine each_step ?_ | refine sl_step ?_ | refine hp_step ?_ | refine guard_no (by decide) ?_ | refine guard_go ?_ | refine guard_old ?_ | apply cut_auto | with_reducible exact CutS.mk (Or.inl ⟨rfl, rfl, rfl⟩) | refine CutS.mk (Or.inr (sub_auto ?_)) | exact trivial | refine And.intro ?_ ?_ | (refine cond_split ?_ ?_ <;> intro _ <;> first | (exfalso; first | omega | (simp only [decide_eq_true_eq, decide_eq_false_iff_not, Bool.not_eq_true', Bool.not_eq_false', ne_eq, Bool.not_true, Bool.not_false, cond_true, cond_false, Bool.true_eq_false, Bool.false_eq_true, Bool.and_eq_true, Bool.and_eq_false_iff] at *; omega)) | skip) | apply guess | exact Or.inl rfl | exact Or.inr rfl | exact Side.mk trivial | exact Side.mk (fun h => h) | exact Side.mk (fun h => ⟨h, h⟩) | with_reducible exact Side.mk rfl | with_reducible exact Side.mk ⟨rfl, rfl⟩ | with_reducible exact Side.mk (by assumption) | with_reducible rfl | intro _)
                            all_goals try (conv => whnf)
                            all_goals try (refine Side.mk ?_; first | (intros; omega) | (show List.length (_ ++ _) ≤ _; simp only [List.length_append, List.length_cons, List.length_nil, List.length_replicate, List.length_take]; omega) | (simp_all; done) | (simp_all; omega))
                            refine loop_at (fun sh : Nat => sh ≤ min 1 k + 1) 4 (fun sh => [(16, .int .i64 sh)]) (fun sh => [(3, .flat true (.ints .i64 (T2.set ((S * 9 + l) * 9 + k) (vS W e S l k j sh))))]) (fun sh => 5 - sh) 0 (Nat.zero_le _) ?_ (fun sh hsh => ?_)
                            · repeat' ((conv => whnf); first | done | refine ev_step ?_ | refine ops_step ?_ | refine scan_step ?_ | refine draw_step ?_ | refine each_step ?_ | refine sl_step ?_ | refine hp_step ?_ | refine guard_no (by decide) ?_ | refine guard_go ?_ | refine guard_old ?_ | apply cut_auto | with_reducible exact CutS.mk (Or.inl ⟨rfl, rfl, rfl⟩) | refine CutS.mk (Or.inr (sub_auto ?_)) | exact trivial | refine And.intro ?_ ?_ | refine cond_split ?_ ?_ | apply guess | exact Or.inl rfl | exact Or.inr rfl | exact Side.mk trivial | exact Side.mk (fun h => h) | exact Side.mk (fun h => ⟨h, h⟩) | with_reducible exact Side.mk rfl | with_reducible exact Side.mk ⟨rfl, rfl⟩ | with_reducible exact Side.mk (by assumption) | with_reducible rfl | intro _)
                              all_goals try (conv => whnf)
                              all_goals first | rfl | trace_state
                            · have hvb := vS_bd hW (e := e) (S := S) (k := k) hl2 hj2 sh
                              have hlen3 : (T2.set ((S * 9 + l) * 9 + k) (vS W e S l k j sh)).length = 2 ^ W.length * 81 := by rw [List.length_set]; exact hlen2
                              by_cases hsh2 : sh ≤ min 1 k
                              · have hsu := vS_succ W e S l k j (sh := sh) (by omega)
                                have hX : (((orI .i64 (S : Int) (shlI .i64 1 (IntKind.u64.wrap (j : Int)))) * 9 + j) * 9 + k - sh).toNat = ((S ||| 2 ^ j) * 9 + j) * 9 + (k - sh) := by rw [hor]; omega
                                have hread : (T2.set ((S * 9 + l) * 9 + k) (vS W e S l k j sh)).getD (((orI .i64 (S : Int) (shlI .i64 1 (IntKind.u64.wrap (j : Int)))) * 9 + j) * 9 + k - sh).toNat 0 = Lt W e (S ||| 2 ^ j) j (k - sh) := by
                                  rw [hX]
                                  have e1 : (T2.set ((S * 9 + l) * 9 + k) (vS W e S l k j sh)).getD (((S ||| 2 ^ j) * 9 + j) * 9 + (k - sh)) 0 = T2.getD (((S ||| 2 ^ j) * 9 + j) * 9 + (k - sh)) 0 := by
                                    simp only [List.getD, List.getElem?_set, if_neg (show ¬ (S * 9 + l) * 9 + k = ((S ||| 2 ^ j) * 9 + j) * 9 + (k - sh) by omega)]
                                  rw [e1, hT4.get _ (by omega), if_pos (.inl (by omega)), ent_at W e cnt (by omega) (by omega), if_pos ⟨by rw [bit_add, decide_eq_true rfl, Bool.or_true], by omega⟩]
                                have hrb := Lt_bd9 hW (e := e) (m := S ||| 2 ^ j) (l := j) (k := k - sh) hj2
                                have hwt := wt_nn hW hl2 hj2
                                have hcur2 : (T2.set ((S * 9 + l) * 9 + k) (vS W e S l k j sh)).getD (((S : Int) * 9 + l) * 9 + k).toNat 0 = vS W e S l k j sh := by
                                  rw [hA, getD_set' _ _ _ _ _ (by omega), if_pos rfl]
                                have lw := hW.2.1 l hl2
                                by_cases hr : Lt W e (S ||| 2 ^ j) j (k - sh) < 0
                                · have hv : vS W e S l k j (sh + 1) = vS W e S l k j sh := by
                                    rw [hsu, candO, if_pos hr, minO, if_pos (by omega)]
                                  rw [← hread] at hr
                                  repeat' ((conv => whnf); first | done | refine ev_step ?_ | refine ops_step ?_ | refine scan_step ?_ | refine draw_step ?_ | refine each_step ?_ | refine sl_step ?_ | refine hp_step ?_ | refine guard_no (by decide) ?_ | refine guard_go ?_ | refine guard_old ?_ | apply cut_auto | with_reducible exact CutS.mk (Or.inl ⟨rfl, rfl, rfl⟩) | refine CutS.mk (Or.inr (sub_auto ?_)) | exact trivial | refine And.intro ?_ ?_ | (refine cond_split ?_ ?_ <;> intro _ <;> first | (exfalso; first | omega | (simp only [decide_eq_true_eq, decide_eq_false_iff_not, Bool.not_eq_true', Bool.not_eq_false', ne_eq, Bool.not_true, Bool.not_false, cond_true, cond_false, Bool.true_eq_false, Bool.false_eq_true, Bool.and_eq_true, Bool.and_eq_false_iff] at *; omega)) | skip) | apply guess | apply FnIs.useF (hmin) | exact Or.inl rfl | exact Or.inr rfl | exact Side.mk trivial | exact Side.mk (fun h => h) | exact Side.mk (fun h => ⟨h, h⟩) | with_reducible exact Side.mk rfl | with_reducible exact Side.mk ⟨rfl, rfl⟩ | with_reducible exact Side.mk (by assumption) | with_reducible rfl | intro _)
                                  all_goals try (conv => whnf)
                                  all_goals try (refine Side.mk ?_; first | (intros; omega) | (show List.length (_ ++ _) ≤ _; simp only [List.length_append, List.length_cons, List.length_nil, List.length_replicate, List.length_take]; omega) | (simp_all; done) | (simp_all; omega))
                                  all_goals try omega
                                  refine ⟨sh + 1, by omega, by omega, ?_⟩
                                  repeat' ((conv => whnf); first | done | refine ev_step ?_ | refine ops_step ?_ | refine scan_step ?_ | refine draw_step ?_ | refine each_step ?_ | refine sl_step ?_ | refine hp_step ?_ | refine guard_no (by decide) ?_ | refine guard_go ?_ | refine guard_old ?_ | apply cut_auto | with_reducible exact CutS.mk (Or.inl ⟨rfl, rfl, rfl⟩) | refine CutS.mk (Or.inr (sub_auto ?_)) | exact trivial | refine And.intro ?_ ?_ | refine cond_split ?_ ?_ | apply guess | exact Or.inl rfl | exact Or.inr rfl | exact Side.mk trivial | exact Side.mk (fun h => h) | exact Side.mk (fun h => ⟨h, h⟩) | with_reducible exact Side.mk rfl | with_reducible exact Side.mk ⟨rfl, rfl⟩ | with_reducible exact Side.mk (by assumption) | with_reducible rfl | intro _)
                                  all_goals try (conv => whnf)
                                  all_goals first | rfl | omega | (rw [hv]; done) | trace_state
                                · by_cases hs0 : sh = 0
                                  · have hcand : candO (Lt W e (S ||| 2 ^ j) j (k - sh)) (cS W l j sh) = Lt W e (S ||| 2 ^ j) j (k - sh) + wt W l j := by
                                      rw [candO, if_neg hr, cS, if_pos hs0]
                                    have hq : (bif decide ((T2.set ((S * 9 + l) * 9 + k) (vS W e S l k j sh)).getD (((S : Int) * 9 + l) * 9 + k).toNat 0 < 0) then true else decide ((T2.set ((S * 9 + l) * 9 + k) (vS W e S l k j sh)).getD (((orI .i64 (S : Int) (shlI .i64 1 (IntKind.u64.wrap (j : Int)))) * 9 + j) * 9 + k - sh).toNat 0 + (W.getD (l : Int).toNat []).getD (j : Int).toNat 0 < (T2.set ((S * 9 + l) * 9 + k) (vS W e S l k j sh)).getD (((S : Int) * 9 + l) * 9 + k).toNat 0)) = decide (vS W e S l k j sh < 0 ∨ Lt W e (S ||| 2 ^ j) j (k - sh) + wt W l j < vS W e S l k j sh) := by
                                      rw [hcur2, hread]; exact condOr _ _
                                    have hr2 : ¬ (T2.set ((S * 9 + l) * 9 + k) (vS W e S l k j sh)).getD (((orI .i64 (S : Int) (shlI .i64 1 (IntKind.u64.wrap (j : Int)))) * 9 + j) * 9 + k - sh).toNat 0 < 0 := by rw [hread]; exact hr
                                    by_cases hlt2 : vS W e S l k j sh < 0 ∨ Lt W e (S ||| 2 ^ j) j (k - sh) + wt W l j < vS W e S l k j sh
                                    · rw [decide_eq_true hlt2] at hq
                                      have hv : vS W e S l k j (sh + 1) = Lt W e (S ||| 2 ^ j) j (k - sh) + wt W l j := by rw [hsu, hcand, minO, if_neg (by omega), if_pos hlt2]
                                      repeat' ((conv => whnf); first | done | refine ev_step ?_ | refine ops_step ?_ | refine scan_step ?_ | refine draw_step ?_ | refine each_step ?_ | refine sl_step ?_ | refine hp_step ?_ | refine guard_no (by decide) ?_ | refine guard_go ?_ | refine guard_old ?_ | apply cut_auto | with_reducible exact CutS.mk (Or.inl ⟨rfl, rfl, rfl⟩) | refine CutS.mk (Or.inr (sub_auto ?_)) | exact trivial | refine And.intro ?_ ?_ | (refine cond_split ?_ ?_ <;> intro hq_ <;> first | (exfalso; first | omega | (simp only [hq, cond_true, cond_false, Bool.not_true, Bool.not_false, Bool.and_true, Bool.true_and, Bool.and_false, Bool.false_and, Bool.or_true, Bool.true_or, Bool.or_false, Bool.false_or, Bool.true_eq_false, Bool.false_eq_true, decide_true, decide_false, reduceCtorEq] at hq_; done) | (rw [decide_eq_false_iff_not] at hq_; omega) | (rw [decide_eq_true_eq] at hq_; omega) | (simp only [hq, reduceCtorEq] at hq_; done) | exact Bool.noConfusion (Eq.trans (Eq.symm hq) hq_)) | skip) | apply guess | apply FnIs.useF (hmin) | exact Or.inl rfl | exact Or.inr rfl | exact Side.mk trivial | exact Side.mk (fun h => h) | exact Side.mk (fun h => ⟨h, h⟩) | with_reducible exact Side.mk rfl | with_reducible exact Side.mk ⟨rfl, rfl⟩ | with_reducible exact Side.mk (by assumption) | with_reducible rfl | intro _)
                                      all_goals try (conv => whnf)
                                      all_goals try (refine Side.mk ?_; first | (intros; omega) | (show List.length (_ ++ _) ≤ _; simp only [List.length_append, List.length_cons, List.length_nil, List.length_replicate, List.length_take]; omega) | (simp_all; done) | (simp_all; omega))
                                      all_goals try omega
                                      refine ⟨sh + 1, by omega, by omega, ?_⟩
                                      repeat' ((conv => whnf); first | done | refine ev_step ?_ | refine ops_step ?_ | refine scan_step ?_ | refine draw_step ?_ | refine each_step ?_ | refine sl_step ?_ | refine hp_step ?_ | refine guard_no (by decide) ?_ | refine guard_go ?_ | refine guard_old ?_ | apply cut_auto | with_reducible exact CutS.mk (Or.inl ⟨rfl, rfl, rfl⟩) | refine CutS.mk (Or.inr (sub_auto ?_)) | exact trivial | refine And.intro ?_ ?_ | refine cond_split ?_ ?_ | apply guess | exact Or.inl rfl | exact Or.inr rfl | exact Side.mk trivial | exact Side.mk (fun h => h) | exact Side.mk (fun h => ⟨h, h⟩) | with_reducible exact Side.mk rfl | with_reducible exact Side.mk ⟨rfl, rfl⟩ | with_reducible exact Side.mk (by assumption) | with_reducible rfl | intro _)
                                      all_goals try (conv => whnf)
                                      all_goals first | rfl | omega | (rw [hv, hA, List.set_set, hread]; done) | (rw [hv, hA, List.set_set, hread]; rfl) | trace_state
                                    · rw [decide_eq_false hlt2] at hq
                                      have hv : vS W e S l k j (sh + 1) = vS W e S l k j sh := by rw [hsu, hcand, minO, if_neg (by omega), if_neg hlt2]
                                      repeat' ((conv => whnf); first | done | refine ev_step ?_ | refine ops_step ?_ | refine scan_step ?_ | refine draw_step ?_ | refine each_step ?_ | refine sl_step ?_ | refine hp_step ?_ | refine guard_no (by decide) ?_ | refine guard_go ?_ | refine guard_old ?_ | apply cut_auto | with_reducible exact CutS.mk (Or.inl ⟨rfl, rfl, rfl⟩) | refine CutS.mk (Or.inr (sub_auto ?_)) | exact trivial | refine And.intro ?_ ?_ | (refine cond_split ?_ ?_ <;> intro hq_ <;> first | (exfalso; first | omega | (simp only [hq, cond_true, cond_false, Bool.not_true, Bool.not_false, Bool.and_true, Bool.true_and, Bool.and_false, Bool.false_and, Bool.or_true, Bool.true_or, Bool.or_false, Bool.false_or, Bool.true_eq_false, Bool.false_eq_true, decide_true, decide_false, reduceCtorEq] at hq_; done) | (rw [decide_eq_false_iff_not] at hq_; omega) | (rw [decide_eq_true_eq] at hq_; omega) | (simp only [hq, reduceCtorEq] at hq_; done) | exact Bool.noConfusion (Eq.trans (Eq.symm hq) hq_)) | skip) | apply guess | apply FnIs.useF (hmin) | exact Or.inl rfl | exact Or.inr rfl | exact Side.mk trivial | exact Side.mk (fun h => h) | exact Side.mk (fun h => ⟨h, h⟩) | with_reducible exact Side.mk rfl | with_reducible exact Side.mk ⟨rfl, rfl⟩ | with_reducible exact Side.mk (by assumption) | with_reducible rfl | intro _)
                                      all_goals try (conv => whnf)
                                      all_goals try (refine Side.mk ?_; first | (intros; omega) | (show List.length (_ ++ _) ≤ _; simp only [List.length_append, List.length_cons, List.length_nil, List.length_replicate, List.length_take]; omega) | (simp_all; done) | (simp_all; omega))
                                      all_goals try omega
                                      refine ⟨sh + 1, by omega, by omega, ?_⟩
                                      repeat' ((conv => whnf); first | done | refine ev_step ?_ | refine ops_step ?_ | refine scan_step ?_ | refine draw_step ?_ | refine each_step ?_ | refine sl_step ?_ | refine hp_step ?_ | refine guard_no (by decide) ?_ | refine guard_go ?_ | refine guard_old ?_ | apply cut_auto | with_reducible exact CutS.mk (Or.inl ⟨rfl, rfl, rfl⟩) | refine CutS.mk (Or.inr (sub_auto ?_)) | exact trivial | refine And.intro ?_ ?_ | refine cond_split ?_ ?_ | apply guess | exact Or.inl rfl | exact Or.inr rfl | exact Side.mk trivial | exact Side.mk (fun h => h) | exact Side.mk (fun h => ⟨h, h⟩) | with_reducible exact Side.mk rfl | with_reducible exact Side.mk ⟨rfl, rfl⟩ | with_reducible exact Side.mk (by assumption) | with_reducible rfl | intro _)
                                      all_goals try (conv => whnf)
                                      all_goals first | rfl | omega | (rw [hv]; done) | trace_state
                                  · have hcand : candO (Lt W e (S ||| 2 ^ j) j (k - sh)) (cS W l j sh) = Lt W e (S ||| 2 ^ j) j (k - sh) := by
                                      rw [candO, if_neg hr, cS, if_neg hs0]; omega
                                    have hq : (bif decide ((T2.set ((S * 9 + l) * 9 + k) (vS W e S l k j sh)).getD (((S : Int) * 9 + l) * 9 + k).toNat 0 < 0) then true else decide ((T2.set ((S * 9 + l) * 9 + k) (vS W e S l k j sh)).getD (((orI .i64 (S : Int) (shlI .i64 1 (IntKind.u64.wrap (j : Int)))) * 9 + j) * 9 + k - sh).toNat 0 < (T2.set ((S * 9 + l) * 9 + k) (vS W e S l k j sh)).getD (((S : Int) * 9 + l) * 9 + k).toNat 0)) = decide (vS W e S l k j sh < 0 ∨ Lt W e (S ||| 2 ^ j) j (k - sh) < vS W e S l k j sh) := by
                                      rw [hcur2, hread]; exact condOr _ _
                                    have hr2 : ¬ (T2.set ((S * 9 + l) * 9 + k) (vS W e S l k j sh)).getD (((orI .i64 (S : Int) (shlI .i64 1 (IntKind.u64.wrap (j : Int)))) * 9 + j) * 9 + k - sh).toNat 0 < 0 := by rw [hread]; exact hr
                                    by_cases hlt2 : vS W e S l k j sh < 0 ∨ Lt W e (S ||| 2 ^ j) j (k - sh) < vS W e S l k j sh
                                    · rw [decide_eq_true hlt2] at hq
                                      have hv : vS W e S l k j (sh + 1) = Lt W e (S ||| 2 ^ j) j (k - sh) := by rw [hsu, hcand, minO, if_neg (by omega), if_pos hlt2]
                                      repeat' ((conv => whnf); first | done | refine ev_step ?_ | refine ops_step ?_ | refine scan_step ?_ | refine draw_step ?_ | refine each_step ?_ | refine sl_step ?_ | refine hp_step ?_ | refine guard_no (by decide) ?_ | refine guard_go ?_ | refine guard_old ?_ | apply cut_auto | with_reducible exact CutS.mk (Or.inl ⟨rfl, rfl, rfl⟩) | refine CutS.mk (Or.inr (sub_auto ?_)) | exact trivial | refine And.intro ?_ ?_ | (refine cond_split ?_ ?_ <;> intro hq_ <;> first | (exfalso; first | omega | (simp only [hq, cond_true, cond_false, Bool.not_true, Bool.not_false, Bool.and_true, Bool.true_and, Bool.and_false, Bool.false_and, Bool.or_true, Bool.true_or, Bool.or_false, Bool.false_or, Bool.true_eq_false, Bool.false_eq_true, decide_true, decide_false, reduceCtorEq] at hq_; done) | (rw [decide_eq_false_iff_not] at hq_; omega) | (rw [decide_eq_true_eq] at hq_; omega) | (simp only [hq, reduceCtorEq] at hq_; done) | exact Bool.noConfusion (Eq.trans (Eq.symm hq) hq_)) | skip) | apply guess | apply FnIs.useF (hmin) | exact Or.inl rfl | exact Or.inr rfl | exact Side.mk trivial | exact Side.mk (fun h => h) | exact Side.mk (fun h => ⟨h, h⟩) | with_reducible exact Side.mk rfl | with_reducible exact Side.mk ⟨rfl, rfl⟩ | with_reducible exact Side.mk (by assumption) | with_reducible rfl | intro _)
                                      all_goals try (conv => whnf)
                                      all_goals try (refine Side.mk ?_; first | (intros; omega) | (show List.length (_ ++ _) ≤ _; simp only [List.length_append, List.length_cons, List.length_nil, List.length_replicate, List.length_take]; omega) | (simp_all; done) | (simp_all; omega))
                                      all_goals try omega
                                      refine ⟨sh + 1, by omega, by omega, ?_⟩
                                      repeat' ((conv => whnf); first | done | refine ev_step ?_ | refine ops_step ?_ | refine scan_step ?_ | refine draw_step ?_ | refine each_step ?_ | refine sl_step ?_ | refine hp_step ?_ | refine guard_no (by decide) ?_ | refine guard_go ?_ | refine guard_old ?_ | apply cut_auto | with_reducible exact CutS.mk (Or.inl ⟨rfl, rfl, rfl⟩) | refine CutS.mk (Or.inr (sub_auto ?_)) | exact trivial | refine And.intro ?_ ?_ | refine cond_split ?_ ?_ | apply guess | exact Or.inl rfl | exact Or.inr rfl | exact Side.mk trivial | exact Side.mk (fun h => h) | exact Side.mk (fun h => ⟨h, h⟩) | with_reducible exact Side.mk rfl | with_reducible exact Side.mk ⟨rfl, rfl⟩ | with_reducible exact Side.mk (by assumption) | with_reducible rfl | intro _)
                                      all_goals try (conv => whnf)
                                      all_goals first | rfl | omega | (rw [hv, hA, List.set_set, hread]; done) | (rw [hv, hA, List.set_set, hread]; rfl) | trace_state
                                    · rw [decide_eq_false hlt2] at hq
                                      have hv : vS W e S l k j (sh + 1) = vS W e S l k j sh := by rw [hsu, hcand, minO, if_neg (by omega), if_neg hlt2]
                                      repeat' ((conv => whnf); first | done | refine ev_step ?_ | refine ops_step ?_ | refine scan_step ?_ | refine draw_step ?_ | refine each_step ?_ | refine sl_step ?_ | refine hp_step ?_ | refine guard_no (by decide) ?_ | refine guard_go ?_ | refine guard_old ?_ | apply cut_auto | with_reducible exact CutS.mk (Or.inl ⟨rfl, rfl, rfl⟩) | refine CutS.mk (Or.inr (sub_auto ?_)) | exact trivial | refine And.intro ?_ ?_ | (refine cond_split ?_ ?_ <;> intro hq_ <;> first | (exfalso; first | omega | (simp only [hq, cond_true, cond_false, Bool.not_true, Bool.not_false, Bool.and_true, Bool.true_and, Bool.and_false, Bool.false_and, Bool.or_true, Bool.true_or, Bool.or_false, Bool.false_or, Bool.true_eq_false, Bool.false_eq_true, decide_true, decide_false, reduceCtorEq] at hq_; done) | (rw [decide_eq_false_iff_not] at hq_; omega) | (rw [decide_eq_true_eq] at hq_; omega) | (simp only [hq, reduceCtorEq] at hq_; done) | exact Bool.noConfusion (Eq.trans (Eq.symm hq) hq_)) | skip) | apply guess | apply FnIs.useF (hmin) | exact Or.inl rfl | exact Or.inr rfl | exact Side.mk trivial | exact Side.mk (fun h => h) | exact Side.mk (fun h => ⟨h, h⟩) | with_reducible exact Side.mk rfl | with_reducible exact Side.mk ⟨rfl, rfl⟩ | with_reducible exact Side.mk (by assumption) | with_reducible rfl | intro _)
                                      all_goals try (conv => whnf)
                                      all_goals try (refine Side.mk ?_; first | (intros; omega) | (show List.length (_ ++ _) ≤ _; simp only [List.length_append, List.length_cons, List.length_nil, List.length_replicate, List.length_take]; omega) | (simp_all; done) | (simp_all; omega))
                                      all_goals try omega
                                      refine ⟨sh + 1, by omega, by omega, ?_⟩
                                      repeat' ((conv => whnf); first | done | refine ev_step ?_ | refine ops_step ?_ | refine scan_step ?_ | refine draw_step ?_ | refine each_step ?_ | refine sl_step ?_ | refine hp_step ?_ | refine guard_no (by decide) ?_ | refine guard_go ?_ | refine guard_old ?_ | apply cut_auto | with_reducible exact CutS.mk (Or.inl ⟨rfl, rfl, rfl⟩) | refine CutS.mk (Or.inr (sub_auto ?_)) | exact trivial | refine And.intro ?_ ?_ | refine cond_split ?_ ?_ | apply guess | exact Or.inl rfl | exact Or.inr rfl | exact Side.mk trivial | exact Side.mk (fun h => h) | exact Side.mk (fun h => ⟨h, h⟩) | with_reducible exact Side.mk rfl | with_reducible exact Side.mk ⟨rfl, rfl⟩ | with_reducible exact Side.mk (by assumption) | with_reducible rfl | intro _)
                                      all_goals try (conv => whnf)
                                      all_goals first | rfl | omega | (rw [hv]; done) | trace_state
                              · have hse : sh = min 1 k + 1 := by omega
                                rw [← hse] at hend
                                repeat' ((conv => whnf); first | done | refine ev_step ?_ | refine ops_step ?_ | refine scan_step ?_ | refine draw_step ?_ | refine each_step ?_ | refine sl_step ?_ | refine hp_step ?_ | refine guard_no (by decide) ?_ | refine guard_go ?_ | refine guard_old ?_ | apply cut_auto | with_reducible exact CutS.mk (Or.inl ⟨rfl, rfl, rfl⟩) | refine CutS.mk (Or.inr (sub_auto ?_)) | exact trivial | refine And.intro ?_ ?_ | (refine cond_split ?_ ?_ <;> intro _ <;> first | (exfalso; first | omega | (simp only [decide_eq_true_eq, decide_eq_false_iff_not, Bool.not_eq_true', Bool.not_eq_false', ne_eq, Bool.not_true, Bool.not_false, cond_true, cond_false, Bool.true_eq_false, Bool.false_eq_true, Bool.and_eq_true, Bool.and_eq_false_iff] at *; omega)) | skip) | apply guess | apply FnIs.useF (hmin) | exact Or.inl rfl | exact Or.inr rfl | exact Side.mk trivial | exact Side.mk (fun h => h) | exact Side.mk (fun h => ⟨h, h⟩) | with_reducible exact Side.mk rfl | with_reducible exact Side.mk ⟨rfl, rfl⟩ | with_reducible exact Side.mk (by assumption) | with_reducible rfl | intro _)
                                all_goals try (conv => whnf)
                                all_goals try (refine Side.mk ?_; first | (intros; omega) | (show List.length (_ ++ _) ≤ _; simp only [List.length_append, List.length_cons, List.length_nil, List.length_replicate, List.length_take]; omega) | (simp_all; done) | (simp_all; omega))
                                all_goals try omega
                                refine ⟨j + 1, by omega, by omega, ?_⟩
                                repeat' ((conv => whnf); first | done | refine ev_step ?_ | refine ops_step ?_ | refine scan_step ?_ | refine draw_step ?_ | refine each_step ?_ | refine sl_step ?_ | refine hp_step ?_ | refine guard_no (by decide) ?_ | refine guard_go ?_ | refine guard_old ?_ | apply cut_auto | with_reducible exact CutS.mk (Or.inl ⟨rfl, rfl, rfl⟩) | refine CutS.mk (Or.inr (sub_auto ?_)) | exact trivial | refine And.intro ?_ ?_ | refine cond_split ?_ ?_ | apply guess | exact Or.inl rfl | exact Or.inr rfl | exact Side.mk trivial | exact Side.mk (fun h => h) | exact Side.mk (fun h => ⟨h, h⟩) | with_reducible exact Side.mk rfl | with_reducible exact Side.mk ⟨rfl, rfl⟩ | with_reducible exact Side.mk (by assumption) | with_reducible rfl | intro _)
                                all_goals try (conv => whnf)
                                all_goals first | rfl | omega | (rw [hend]; done) | trace_state
                        · obtain rfl : j = W.length := by omega
                          repeat' ((conv => whnf); first | done | refine ev_step ?_ | refine ops_step ?_ | refine scan_step ?_ | refine draw_step ?_ | refine each_step ?_ | refine sl_step ?_ | refine hp_step ?_ | refine guard_no (by decide) ?_ | refine guard_go ?_ | refine guard_old ?_ | apply cut_auto | with_reducible exact CutS.mk (Or.inl ⟨rfl, rfl, rfl⟩) | refine CutS.mk (Or.inr (sub_auto ?_)) | exact trivial | refine And.intro ?_ ?_ | (refine cond_split ?_ ?_ <;> intro _ <;> first | (exfalso; first | omega | (simp only [decide_eq_true_eq, decide_eq_false_iff_not, Bool.not_eq_true', Bool.not_eq_false', ne_eq, Bool.not_true, Bool.not_false, cond_true, cond_false, Bool.true_eq_false, Bool.false_eq_true, Bool.and_eq_true, Bool.and_eq_false_iff] at *; omega)) | skip) | apply guess | exact Or.inl rfl | exact Or.inr rfl | exact Side.mk trivial | exact Side.mk (fun h => h) | exact Side.mk (fun h => ⟨h, h⟩) | with_reducible exact Side.mk rfl | with_reducible exact Side.mk ⟨rfl, rfl⟩ | with_reducible exact Side.mk (by assumption) | with_reducible rfl | intro _)
                          all_goals try (conv => whnf)
                          all_goals try (refine Side.mk ?_; first | (intros; omega) | (show List.length (_ ++ _) ≤ _; simp only [List.length_append, List.length_cons, List.length_nil, List.length_replicate, List.length_take]; omega) | (simp_all; done) | (simp_all; omega))
                          all_goals try omega
                          refine ⟨(k + 1, T2.set ((S * 9 + l) * 9 + k) (LtT W e S l k W.length)), ⟨by dsimp only; omega, ?_⟩, by dsimp only; omega, ?_⟩
                          · dsimp only
                            rw [← Nat.add_assoc]
                            exact hT4.put (by omega) hent
                          · repeat' ((conv => whnf); first | done | refine ev_step ?_ | refine ops_step ?_ | refine scan_step ?_ | refine draw_step ?_ | refine each_step ?_ | refine sl_step ?_ | refine hp_step ?_ | refine guard_no (by decide) ?_ | refine guard_go ?_ | refine guard_old ?_ | apply cut_auto | with_reducible exact CutS.mk (Or.inl ⟨rfl, rfl, rfl⟩) | refine CutS.mk (Or.inr (sub_auto ?_)) | exact trivial | refine And.intro ?_ ?_ | refine cond_split ?_ ?_ | apply guess | exact Or.inl rfl | exact Or.inr rfl | exact Side.mk trivial | exact Side.mk (fun h => h) | exact Side.mk (fun h => ⟨h, h⟩) | with_reducible exact Side.mk rfl | with_reducible exact Side.mk ⟨rfl, rfl⟩ | with_reducible exact Side.mk (by assumption) | with_reducible rfl | intro _)
                            all_goals try (conv => whnf)
                            all_goals first | rfl | omega | trace_state
                  · repeat' ((conv => whnf); first | done | refine ev_step ?_ | refine ops_step ?_ | refine scan_step ?_ | refine draw_step ?_ | refine each_step ?_ | refine sl_step ?_ | refine hp_step ?_ | refine guard_no (by decide) ?_ | refine guard_go ?_ | refine guard_old ?_ | apply cut_auto | with_reducible exact CutS.mk (Or.inl ⟨rfl, rfl, rfl⟩) | refine CutS.mk (Or.inr (sub_auto ?_)) | exact trivial | refine And.intro ?_ ?_ | (refine cond_split ?_ ?_ <;> intro _ <;> first | (exfalso; first | omega | (simp only [decide_eq_true_eq, decide_eq_false_iff_not, Bool.not_eq_true', Bool.not_eq_false', ne_eq, Bool.not_true, Bool.not_false, cond_true, cond_false, Bool.true_eq_false, Bool.false_eq_true, Bool.and_eq_true, Bool.and_eq_false_iff] at *; omega)) | skip) | apply guess | exact Or.inl rfl | exact Or.inr rfl | exact Side.mk trivial | exact Side.mk (fun h => h) | exact Side.mk (fun h => ⟨h, h⟩) | with_reducible exact Side.mk rfl | with_reducible exact Side.mk ⟨rfl, rfl⟩ | with_reducible exact Side.mk (by assumption) | with_reducible rfl | intro _)
                    all_goals try (conv => whnf)
                    all_goals try (refine Side.mk ?_; first | (intros; omega) | (show List.length (_ ++ _) ≤ _; simp only [List.length_append, List.length_cons, List.length_nil, List.length_replicate, List.length_take]; omega) | (simp_all; done) | (simp_all; omega))
                    all_goals try omega
                    refine ⟨(l + 1, T2), ⟨by dsimp only; omega, ?_⟩, by dsimp only; omega, ?_⟩
                    · dsimp only
                      refine hT4.adv (by omega) fun i h1 h2 => ?_
                      have : i = (S * 9 + l) * 9 + (i - (S * 9 + l) * 9) := by omega
                      rw [this, ent_at W e cnt (by omega) (by omega), if_neg (by omega)]
                    · repeat' ((conv => whnf); first | done | refine ev_step ?_ | refine ops_step ?_ | refine scan_step ?_ | refine draw_step ?_ | refine each_step ?_ | refine sl_step ?_ | refine hp_step ?_ | refine guard_no (by decide) ?_ | refine guard_go ?_ | refine guard_old ?_ | apply cut_auto | with_reducible exact CutS.mk (Or.inl ⟨rfl, rfl, rfl⟩) | refine CutS.mk (Or.inr (sub_auto ?_)) | exact trivial | refine And.intro ?_ ?_ | refine cond_split ?_ ?_ | apply guess | exact Or.inl rfl | exact Or.inr rfl | exact Side.mk trivial | exact Side.mk (fun h => h) | exact Side.mk (fun h => ⟨h, h⟩) | with_reducible exact Side.mk rfl | with_reducible exact Side.mk ⟨rfl, rfl⟩ | with_reducible exact Side.mk (by assumption) | with_reducible rfl | intro _)
                      all_goals try (conv => whnf)
                      all_goals first | rfl | omega | trace_state
            · repeat' ((conv => whnf); first | done | refine ev_step ?_ | refine ops_step ?_ | refine scan_step ?_ | refine draw_step ?_ | refine each_step ?_ | refine sl_step ?_ | refine hp_step ?_ | refine guard_no (by decide) ?_ | refine guard_go ?_ | refine guard_old ?_ | apply cut_auto | with_reducible exact CutS.mk (Or.inl ⟨rfl, rfl, rfl⟩) | refine CutS.mk (Or.inr (sub_auto ?_)) | exact trivial | refine And.intro ?_ ?_ | (refine cond_split ?_ ?_ <;> intro _ <;> first | (exfalso; first | omega | (simp only [decide_eq_true_eq, decide_eq_false_iff_not, Bool.not_eq_true', Bool.not_eq_false', ne_eq, Bool.not_true, Bool.not_false, cond_true, cond_false, Bool.true_eq_false, Bool.false_eq_true, Bool.and_eq_true, Bool.and_eq_false_iff] at *; omega)) | skip) | apply guess | exact Or.inl rfl | exact Or.inr rfl | exact Side.mk trivial | exact Side.mk (fun h => h) | exact Side.mk (fun h => ⟨h, h⟩) | with_reducible exact Side.mk rfl | with_reducible exact Side.mk ⟨rfl, rfl⟩ | with_reducible exact Side.mk (by assumption) | with_reducible rfl | intro _)
              all_goals try (conv => whnf)
              all_goals try (refine Side.mk ?_; first | (intros; omega) | (show List.length (_ ++ _) ≤ _; simp only [List.length_append, List.length_cons, List.length_nil, List.length_replicate, List.length_take]; omega) | (simp_all; done) | (simp_all; omega))
              all_goals try omega
              obtain ⟨S', rfl⟩ : ∃ S', S = S' + 1 := ⟨S - 1, by omega⟩
              refine ⟨(S', T1), ⟨by dsimp only; omega, ?_⟩, by dsimp only; omega, ?_⟩
              · dsimp only
                refine TabP.down (hT3.adv (by omega) fun i h1 h2 => ?_)
                have : i = ((S' + 1) * 9 + (i / 9 - (S' + 1) * 9)) * 9 + (i % 9) := by omega
                rw [this, ent_at W e cnt (by omega) (by omega), if_neg]
                rintro ⟨hb, _⟩
                have := bit_lt hS hb
                omega
              · repeat' ((conv => whnf); first | done | refine ev_step ?_ | refine ops_step ?_ | refine scan_step ?_ | refine draw_step ?_ | refine each_step ?_ | refine sl_step ?_ | refine hp_step ?_ | refine guard_no (by decide) ?_ | refine guard_go ?_ | refine guard_old ?_ | apply cut_auto | with_reducible exact CutS.mk (Or.inl ⟨rfl, rfl, rfl⟩) | refine CutS.mk (Or.inr (sub_auto ?_)) | exact trivial | refine And.intro ?_ ?_ | refine cond_split ?_ ?_ | apply guess | exact Or.inl rfl | exact Or.inr rfl | exact Side.mk trivial | exact Side.mk (fun h => h) | exact Side.mk (fun h => ⟨h, h⟩) | with_reducible exact Side.mk rfl | with_reducible exact Side.mk ⟨rfl, rfl⟩ | with_reducible exact Side.mk (by assumption) | with_reducible rfl | intro _)
                all_goals try (conv => whnf)
                all_goals first | rfl | omega | trace_state
        · obtain rfl : S = 0 := by omega
          have hfin := TabP.done hT2
          repeat' ((conv => whnf); first | done | refine ev_step ?_ | refine ops_step ?_ | refine scan_step ?_ | refine draw_step ?_ | refine each_step ?_ | refine sl_step ?_ | refine hp_step ?_ | refine guard_no (by decide) ?_ | refine guard_go ?_ | refine guard_old ?_ | apply cut_auto | with_reducible exact CutS.mk (Or.inl ⟨rfl, rfl, rfl⟩) | refine CutS.mk (Or.inr (sub_auto ?_)) | exact trivial | refine And.intro ?_ ?_ | (refine cond_split ?_ ?_ <;> intro _ <;> first | (exfalso; first | omega | (simp only [decide_eq_true_eq, decide_eq_false_iff_not, Bool.not_eq_true', Bool.not_eq_false', ne_eq, Bool.not_true, Bool.not_false, cond_true, cond_false, Bool.true_eq_false, Bool.false_eq_true, Bool.and_eq_true, Bool.and_eq_false_iff] at *; omega)) | skip) | apply guess | exact Or.inl rfl | exact Or.inr rfl | exact Side.mk trivial | exact Side.mk (fun h => h) | exact Side.mk (fun h => ⟨h, h⟩) | with_reducible exact Side.mk rfl | with_reducible exact Side.mk ⟨rfl, rfl⟩ | with_reducible exact Side.mk (by assumption) | with_reducible rfl | intro _)
          all_goals try (conv => whnf)
          all_goals try (refine Side.mk ?_; first | (intros; omega) | (show List.length (_ ++ _) ≤ _; simp only [List.length_append, List.length_cons, List.length_nil, List.length_replicate, List.length_take]; omega) | (simp_all; done) | (simp_all; omega))
          all_goals first | rfl | omega | exact hfin | exact hfin.symm | trace_state
end Go.Sx.U
