/-
  Chapter 11: the reference's decimals (contract).
-/
import Derived.Test.YtligakfmabjoeaaDoorT20
set_option linter.unusedSimpArgs false
namespace Go.Sx.U
set_option linter.unusedVariables false
set_option linter.unusedSimpArgs false
set_option maxRecDepth 100000
set_option maxHeartbeats 8000000
open Go Go.Sx Go.Proofs

theorem numsOf_strOf {s : ByteArray} : strOfNums (numsOf s) = s := by
  apply bl_ext
  simp only [bl, strOfNums_data, numsOf, List.map_map]
  conv => rhs; rw [← List.map_id s.data.toList]
  apply List.map_congr_left
  intro c _
  simp
theorem numsOf_by (s : ByteArray) : ∀ n ∈ numsOf s, 0 ≤ n ∧ n < 256 := by
  intro n hn
  obtain ⟨c, _, rfl⟩ := List.mem_map.1 hn
  have := c.toNat_lt
  omega
/-- The decimal digits, the last one first. -/
def rdN (u : Nat) : List Int := ((Lib.decDigits u).map fun c => (c.toNat : Int)).reverse
def rdI (n : Int) : List Int := rdN n.natAbs
def tlI (n : Int) : List Int := if n = 0 then [] else rdI n
theorem rdN_step (u : Nat) : rdN u = (48 + (u % 10 : Nat) : Int) :: (if u < 10 then [] else rdN (u / 10)) := by
  unfold rdN
  rw [Lib.decDigits]
  by_cases h : u < 10
  · simp only [h, dif_pos, if_pos, List.map_cons, List.map_nil, List.reverse_cons, List.reverse_nil, List.nil_append, UInt8.toNat_ofNat']
    congr 1
    omega
  · simp only [h, dif_neg, if_neg, List.map_append, List.map_cons, List.map_nil, List.reverse_append, List.reverse_cons, List.reverse_nil, List.nil_append, List.singleton_append, UInt8.toNat_ofNat', not_false_eq_true]
    congr 1
    omega
theorem rdI_step (r : Int) : rdI r = (48 + ((r.natAbs % 10 : Nat) : Int)) :: tlI (r.tdiv 10) := by
  unfold rdI
  rw [rdN_step]
  congr 1
  unfold tlI rdI
  have e : (r.tdiv 10).natAbs = r.natAbs / 10 := by rw [Int.natAbs_tdiv]; rfl
  by_cases h : r.natAbs < 10
  · rw [if_pos h, if_pos (by have : (r.tdiv 10).natAbs = 0 := by omega
                             exact Int.natAbs_eq_zero.1 this)]
  · rw [if_neg h, if_neg (fun h0 => by rw [h0] at e; simp at e; omega), e]
theorem rdI_len {n : Int} (h : inI64 n) : (rdI n).length ≤ 21 := by
  have h1 := Lib.itoa_length_le n h.1 h.2
  unfold Lib.itoa at h1
  unfold rdI rdN
  simp only [List.length_reverse, List.length_map]
  split at h1
  · simp at h1; omega
  · rw [show n.natAbs = n.toNat by omega]; omega
theorem tmod_abs (r : Int) : (r.tmod 10 < 0 → -(r.tmod 10) = ((r.natAbs % 10 : Nat) : Int)) ∧ (¬ r.tmod 10 < 0 → r.tmod 10 = ((r.natAbs % 10 : Nat) : Int)) := by
  have e : (r.tmod 10).natAbs = r.natAbs % 10 := by simp [Int.natAbs_tmod]
  omega
theorem tdiv_in {r : Int} (h : inI64 r) : inI64 (r.tdiv 10) ∧ (r.tdiv 10).natAbs = r.natAbs / 10 := by
  have e : (r.tdiv 10).natAbs = r.natAbs / 10 := by rw [Int.natAbs_tdiv]; rfl
  unfold inI64 at *
  omega
/-- A list turned round as far as i from both ends. -/
def turnP (xs : List Int) (i : Nat) (ys : List Int) : Prop :=
  ys.length = xs.length ∧ ∀ j, j < xs.length → ys.getD j 0 = if j < i ∨ xs.length ≤ j + i then xs.getD (xs.length - 1 - j) 0 else xs.getD j 0
theorem turn_step {xs ys : List Int} {i : Nat} (h : turnP xs i ys) (hi : 2 * i + 1 < xs.length) :
    turnP xs (i + 1) ((ys.set i (ys.getD (xs.length - 1 - i) 0)).set (xs.length - 1 - i) (ys.getD i 0)) := by
  obtain ⟨h1, h2⟩ := h
  refine ⟨by simp [h1], fun j hj => ?_⟩
  have a1 := h2 i (by omega)
  have a2 := h2 (xs.length - 1 - i) (by omega)
  rw [if_neg (by omega)] at a1
  rw [if_neg (by omega)] at a2
  rw [a1, a2]
  have hjy : j < ys.length := by omega
  by_cases e1 : j = xs.length - 1 - i
  · subst e1
    rw [if_pos (by omega)]
    simp only [List.getD, List.getElem?_set, List.length_set]
    rw [if_pos trivial, if_pos (by omega)]
    simp only [Option.getD_some]
    congr 2
    omega
  · by_cases e2 : j = i
    · subst e2
      rw [if_pos (by omega)]
      simp only [List.getD, List.getElem?_set, List.length_set]
      rw [if_neg (by omega), if_pos trivial, if_pos (by omega)]
      simp
    · have := h2 j hj
      simp only [List.getD, List.getElem?_set, List.length_set] at this ⊢
      rw [if_neg (by omega), if_neg (by omega), this]
      by_cases c : j < i ∨ xs.length ≤ j + i
      · rw [if_pos c, if_pos (by omega)]
      · rw [if_neg c, if_neg (by omega)]
theorem turn_end {xs ys : List Int} {i : Nat} (h : turnP xs i ys) (hi : xs.length ≤ 2 * i + 1) : ys = xs.reverse := by
  obtain ⟨h1, h2⟩ := h
  apply List.ext_getElem?
  intro j
  by_cases hj : j < xs.length
  · have := h2 j hj
    rw [List.getElem?_reverse hj]
    simp only [List.getD] at this
    rw [List.getElem?_eq_getElem (by omega : j < ys.length), List.getElem?_eq_getElem (by omega : xs.length - 1 - j < xs.length)]
    simp only [List.getElem?_eq_getElem (by omega : j < ys.length), List.getElem?_eq_getElem (by omega : xs.length - 1 - j < xs.length), List.getElem?_eq_getElem hj, Option.getD_some] at this
    rw [this]
    split
    · rfl
    · rename_i hc
      congr 1
      congr 1
      omega
  · rw [List.getElem?_eq_none (by omega), List.getElem?_eq_none (by simp; omega)]
theorem decB_rd (n : Int) : strOfNums ((if n < 0 then rdI n ++ [45] else rdI n).reverse) = decB n := by
  apply bl_ext
  rw [decB_bl]
  simp only [bl, strOfNums_data]
  have key : ∀ u, ((rdN u).reverse.map fun n => UInt8.ofNat n.toNat) = Lib.decDigits u := fun u => by
    unfold rdN
    rw [List.reverse_reverse, List.map_map]
    conv => rhs; rw [← List.map_id (Lib.decDigits u)]
    apply List.map_congr_left
    intro c _
    simp
  unfold Lib.itoa
  split
  · simp only [List.reverse_append, List.reverse_cons, List.reverse_nil, List.nil_append, List.singleton_append, List.map_cons]
    rw [show rdI n = rdN n.natAbs from rfl, key]
    rfl
  · rw [show rdI n = rdN n.toNat by unfold rdI; congr 1; omega, key]
theorem rdI_by (n : Int) : ∀ x ∈ rdI n, 0 ≤ x ∧ x < 256 := by
  intro x hx
  unfold rdI rdN at hx
  rw [List.mem_reverse] at hx
  obtain ⟨c, _, rfl⟩ := List.mem_map.1 hx
  have := c.toNat_lt
  omega
def decP (n : Int) (a : List Int × Int) : Prop := inI64 a.2 ∧ ((a.1 = [] ∧ a.2 = n) ∨ (a.1 ≠ [] ∧ a.1 ++ tlI a.2 = rdI n))

theorem k_l01Dec (n : Int) (h : Side (inI64 n)) : FnIs Tryd.prog 28 [.int .i64 n] 0 [] (.str (decB n)) 0 [] := by
  have hn := h.h
  refine fn_of_ev tok Tryd.func28 rfl rfl rfl ?_
  repeat' ((conv => whnf); first | done | refine ev_step ?_ | refine ops_step ?_ | refine scan_step ?_ | refine draw_step ?_ | refine each_step ?_ | refine sl_step ?_ | refine hp_step ?_ | refine guard_no (by decide) ?_ | refine guard_go ?_ | refine guard_old ?_ | apply cut_auto | with_reducible exact CutS.mk (Or.inl ⟨rfl, rfl, rfl⟩) | refine CutS.mk (Or.inr (Or.inl (sub_auto ?_))) | exact trivial | refine And.intro ?_ ?_ | refine cond_split ?_ ?_ | apply guess | exact Or.inl rfl | exact Or.inr rfl | exact Side.mk trivial | exact Side.mk (fun h => h) | exact Side.mk (fun h => ⟨h, h⟩) | with_reducible exact Side.mk rfl | with_reducible exact Side.mk ⟨rfl, rfl⟩ | with_reducible exact Side.mk (by assumption) | with_reducible rfl | intro _)
  all_goals try (conv => whnf)
  refine loop_at (decP n) 1 (fun a => [(3, .sl 0 []), (4, .int .i64 a.2), (5, .top), (9, .top)]) (fun a => [(0, .flat true (.ints .u8 a.1))]) (fun a => a.2.natAbs + (if a.1 = [] then 1 else 0)) ([], n) ⟨hn, .inl ⟨rfl, rfl⟩⟩ ?_ (fun a ha => ?_)
  · repeat' ((conv => whnf); first | done | refine ev_step ?_ | refine ops_step ?_ | refine scan_step ?_ | refine draw_step ?_ | refine each_step ?_ | refine sl_step ?_ | refine hp_step ?_ | refine guard_no (by decide) ?_ | refine guard_go ?_ | refine guard_old ?_ | apply cut_auto | with_reducible exact CutS.mk (Or.inl ⟨rfl, rfl, rfl⟩) | refine CutS.mk (Or.inr (Or.inl (sub_auto ?_))) | exact trivial | refine And.intro ?_ ?_ | refine cond_split ?_ ?_ | apply guess | exact Or.inl rfl | exact Or.inr rfl | exact Side.mk trivial | exact Side.mk (fun h => h) | exact Side.mk (fun h => ⟨h, h⟩) | with_reducible exact Side.mk rfl | with_reducible exact Side.mk ⟨rfl, rfl⟩ | with_reducible exact Side.mk (by assumption) | with_reducible rfl | intro _)
    all_goals try (conv => whnf)
    all_goals first | rfl | trace_state
  · obtain ⟨xs, r⟩ := a
    obtain ⟨hr, ha⟩ := ha
    have hlen : xs.length ≤ 21 := by
      have := rdI_len hn
      rcases ha with ⟨h1, _⟩ | ⟨_, h1⟩
      · simp only at h1; rw [h1]; simp
      · rw [← h1] at this; simp at this; omega
    dsimp only at hr ha
    have hu8 : ∀ k : Nat, k < 10 → IntKind.u8.wrap (48 + (k : Int)) = 48 + (k : Int) := fun k hk => by
      unfold IntKind.wrap; simp [IntKind.bits, IntKind.signed]; omega
    by_cases hstop : xs ≠ [] ∧ r = 0
    · have hx : xs = rdI n := by
        rcases ha with ⟨h1, _⟩ | ⟨_, h1⟩
        · exact absurd h1 hstop.1
        · rw [← h1, hstop.2]; simp [tlI]
      have hpos : 0 < xs.length := List.length_pos_iff.2 hstop.1
      have hby := rdI_by n
      rw [← hx] at hby
      have fc : (bif decide ((xs.length : Int) = 0) then true else decide (r ≠ 0)) = false := by
        rw [decide_eq_false (show ¬ (xs.length : Int) = 0 by omega), decide_eq_false (show ¬ r ≠ 0 from fun e => e hstop.2)]; rfl
      have hfin := decB_rd n
      rw [← hx] at hfin
      by_cases hneg : n < 0
      · have fd := decide_eq_true hneg
        rw [if_pos hneg] at hfin
        repeat' ((conv => whnf); first | done | refine ev_step ?_ | refine ops_step ?_ | refine scan_step ?_ | refine draw_step ?_ | refine each_step ?_ | refine sl_step ?_ | refine hp_step ?_ | refine guard_no (by decide) ?_ | refine guard_go ?_ | refine guard_old ?_ | apply cut_auto | with_reducible exact CutS.mk (Or.inl ⟨rfl, rfl, rfl⟩) | refine CutS.mk (Or.inr (Or.inl (sub_auto ?_))) | exact trivial | refine And.intro ?_ ?_ | (refine cond_split ?_ ?_ <;> intro hq_ <;> first | (exfalso; first | omega | (simp only [fc, fd, cond_true, cond_false, Bool.not_true, Bool.not_false, Bool.and_true, Bool.true_and, Bool.and_false, Bool.false_and, Bool.or_true, Bool.true_or, Bool.or_false, Bool.false_or, Bool.true_eq_false, Bool.false_eq_true, decide_true, decide_false, reduceCtorEq] at hq_; done) | (rw [decide_eq_false_iff_not] at hq_; omega) | (rw [decide_eq_true_eq] at hq_; omega) | (simp only [fc, fd, reduceCtorEq] at hq_; done) | exact Bool.noConfusion (Eq.trans (Eq.symm fc) hq_) | exact Bool.noConfusion (Eq.trans (Eq.symm fd) hq_)) | skip) | apply guess | exact Or.inl rfl | exact Or.inr rfl | exact Side.mk trivial | exact Side.mk (fun h => h) | exact Side.mk (fun h => ⟨h, h⟩) | with_reducible exact Side.mk rfl | with_reducible exact Side.mk ⟨rfl, rfl⟩ | with_reducible exact Side.mk (by assumption) | with_reducible rfl | intro _)
        all_goals try (conv => whnf)
        all_goals try dsimp only at *
        all_goals try (refine Side.mk ?_; first | (intros; omega) | (intro h1_ h2_; rw [h1_, h2_]; rfl) | (show List.length (_ ++ _) ≤ _; simp only [List.length_append, List.length_cons, List.length_nil, List.length_replicate, List.length_take]; omega) | (simp_all; done) | (simp_all; omega))
        all_goals try (refine Side.mk ?_; simp only [Flat.n, List.length_append, List.length_singleton]; omega)
        have hxl : (xs ++ [45]).length = xs.length + 1 := by simp
        generalize xs ++ [45] = zs at *
        refine loop_at (fun a : Nat × List Int => 2 * a.1 ≤ zs.length ∧ turnP zs a.1 a.2) 3 (fun a => [(6, .int .i64 a.1), (7, .int .i64 ((zs.length : Int) - 1 - a.1)), (8, .top)]) (fun a => [(2, .flat true (.ints .u8 a.2))]) (fun a => zs.length - a.1) (0, zs) ⟨Nat.zero_le _, rfl, fun j hj => by rw [if_neg (by omega)]⟩ ?_ (fun a ha => ?_)
        · repeat' ((conv => whnf); first | done | refine ev_step ?_ | refine ops_step ?_ | refine scan_step ?_ | refine draw_step ?_ | refine each_step ?_ | refine sl_step ?_ | refine hp_step ?_ | refine guard_no (by decide) ?_ | refine guard_go ?_ | refine guard_old ?_ | apply cut_auto | with_reducible exact CutS.mk (Or.inl ⟨rfl, rfl, rfl⟩) | refine CutS.mk (Or.inr (Or.inl (sub_auto ?_))) | exact trivial | refine And.intro ?_ ?_ | refine cond_split ?_ ?_ | apply guess | exact Or.inl rfl | exact Or.inr rfl | exact Side.mk trivial | exact Side.mk (fun h => h) | exact Side.mk (fun h => ⟨h, h⟩) | with_reducible exact Side.mk rfl | with_reducible exact Side.mk ⟨rfl, rfl⟩ | with_reducible exact Side.mk (by assumption) | with_reducible rfl | intro _)
          all_goals try (conv => whnf)
          all_goals first | rfl | (simp; done) | trace_state
        · obtain ⟨i, ys⟩ := a
          obtain ⟨hi1, hi2⟩ := ha
          dsimp only at hi1 hi2
          have hyl := hi2.1
          by_cases hlt : 2 * i + 1 < zs.length
          · repeat' ((conv => whnf); first | done | refine ev_step ?_ | refine ops_step ?_ | refine scan_step ?_ | refine draw_step ?_ | refine each_step ?_ | refine sl_step ?_ | refine hp_step ?_ | refine guard_no (by decide) ?_ | refine guard_go ?_ | refine guard_old ?_ | apply cut_auto | with_reducible exact CutS.mk (Or.inl ⟨rfl, rfl, rfl⟩) | refine CutS.mk (Or.inr (Or.inl (sub_auto ?_))) | exact trivial | refine And.intro ?_ ?_ | (refine cond_split ?_ ?_ <;> intro _ <;> first | (exfalso; first | omega | (simp only [decide_eq_true_eq, decide_eq_false_iff_not, Bool.not_eq_true', Bool.not_eq_false', ne_eq, Bool.not_true, Bool.not_false, cond_true, cond_false, Bool.true_eq_false, Bool.false_eq_true, Bool.and_eq_true, Bool.and_eq_false_iff] at *; omega)) | skip) | apply guess | exact Or.inl rfl | exact Or.inr rfl | exact Side.mk trivial | exact Side.mk (fun h => h) | exact Side.mk (fun h => ⟨h, h⟩) | with_reducible exact Side.mk rfl | with_reducible exact Side.mk ⟨rfl, rfl⟩ | with_reducible exact Side.mk (by assumption) | with_reducible rfl | intro _)
            all_goals try (conv => whnf)
            all_goals try dsimp only at *
            all_goals try (refine Side.mk ?_; first | (intros; omega) | (intro h1_ h2_; rw [h1_, h2_]; rfl) | (show List.length (_ ++ _) ≤ _; simp only [List.length_append, List.length_cons, List.length_nil, List.length_replicate, List.length_take]; omega) | (simp_all; done) | (simp_all; omega))
            refine ⟨(i + 1, _), ⟨by omega, turn_step hi2 (by omega)⟩, by omega, ?_⟩
            repeat' ((conv => whnf); first | done | refine ev_step ?_ | refine ops_step ?_ | refine scan_step ?_ | refine draw_step ?_ | refine each_step ?_ | refine sl_step ?_ | refine hp_step ?_ | refine guard_no (by decide) ?_ | refine guard_go ?_ | refine guard_old ?_ | apply cut_auto | with_reducible exact CutS.mk (Or.inl ⟨rfl, rfl, rfl⟩) | refine CutS.mk (Or.inr (Or.inl (sub_auto ?_))) | exact trivial | refine And.intro ?_ ?_ | refine cond_split ?_ ?_ | apply guess | exact Or.inl rfl | exact Or.inr rfl | exact Side.mk trivial | exact Side.mk (fun h => h) | exact Side.mk (fun h => ⟨h, h⟩) | with_reducible exact Side.mk rfl | with_reducible exact Side.mk ⟨rfl, rfl⟩ | with_reducible exact Side.mk (by assumption) | with_reducible rfl | intro _)
            all_goals try (conv => whnf)
            all_goals first | rfl | omega | (rw [show ((zs.length : Int) - 1 - (i : Int)).toNat = zs.length - 1 - i by omega, Int.toNat_natCast]) | trace_state
          · repeat' ((conv => whnf); first | done | refine ev_step ?_ | refine ops_step ?_ | refine scan_step ?_ | refine draw_step ?_ | refine each_step ?_ | refine sl_step ?_ | refine hp_step ?_ | refine guard_no (by decide) ?_ | refine guard_go ?_ | refine guard_old ?_ | apply cut_auto | with_reducible exact CutS.mk (Or.inl ⟨rfl, rfl, rfl⟩) | refine CutS.mk (Or.inr (Or.inl (sub_auto ?_))) | exact trivial | refine And.intro ?_ ?_ | (refine cond_split ?_ ?_ <;> intro _ <;> first | (exfalso; first | omega | (simp only [decide_eq_true_eq, decide_eq_false_iff_not, Bool.not_eq_true', Bool.not_eq_false', ne_eq, Bool.not_true, Bool.not_false, cond_true, cond_false, Bool.true_eq_false, Bool.false_eq_true, Bool.and_eq_true, Bool.and_eq_false_iff] at *; omega)) | skip) | apply guess | exact Or.inl rfl | exact Or.inr rfl | exact Side.mk trivial | exact Side.mk (fun h => h) | exact Side.mk (fun h => ⟨h, h⟩) | with_reducible exact Side.mk rfl | with_reducible exact Side.mk ⟨rfl, rfl⟩ | with_reducible exact Side.mk (by assumption) | with_reducible rfl | intro _)
            all_goals try (conv => whnf)
            all_goals try dsimp only at *
            all_goals try (refine Side.mk ?_; first | (intros; omega) | (intro h1_ h2_; rw [h1_, h2_]; rfl) | (show List.length (_ ++ _) ≤ _; simp only [List.length_append, List.length_cons, List.length_nil, List.length_replicate, List.length_take]; omega) | (simp_all; done) | (simp_all; omega))
            rw [← hfin, turn_end hi2 (by omega)]
      · have fd := decide_eq_false hneg
        rw [if_neg hneg] at hfin
        repeat' ((conv => whnf); first | done | refine ev_step ?_ | refine ops_step ?_ | refine scan_step ?_ | refine draw_step ?_ | refine each_step ?_ | refine sl_step ?_ | refine hp_step ?_ | refine guard_no (by decide) ?_ | refine guard_go ?_ | refine guard_old ?_ | apply cut_auto | with_reducible exact CutS.mk (Or.inl ⟨rfl, rfl, rfl⟩) | refine CutS.mk (Or.inr (Or.inl (sub_auto ?_))) | exact trivial | refine And.intro ?_ ?_ | (refine cond_split ?_ ?_ <;> intro hq_ <;> first | (exfalso; first | omega | (simp only [fc, fd, cond_true, cond_false, Bool.not_true, Bool.not_false, Bool.and_true, Bool.true_and, Bool.and_false, Bool.false_and, Bool.or_true, Bool.true_or, Bool.or_false, Bool.false_or, Bool.true_eq_false, Bool.false_eq_true, decide_true, decide_false, reduceCtorEq] at hq_; done) | (rw [decide_eq_false_iff_not] at hq_; omega) | (rw [decide_eq_true_eq] at hq_; omega) | (simp only [fc, fd, reduceCtorEq] at hq_; done) | exact Bool.noConfusion (Eq.trans (Eq.symm fc) hq_) | exact Bool.noConfusion (Eq.trans (Eq.symm fd) hq_)) | skip) | apply guess | exact Or.inl rfl | exact Or.inr rfl | exact Side.mk trivial | exact Side.mk (fun h => h) | exact Side.mk (fun h => ⟨h, h⟩) | with_reducible exact Side.mk rfl | with_reducible exact Side.mk ⟨rfl, rfl⟩ | with_reducible exact Side.mk (by assumption) | with_reducible rfl | intro _)
        all_goals try (conv => whnf)
        all_goals try dsimp only at *
        all_goals try (refine Side.mk ?_; first | (intros; omega) | (intro h1_ h2_; rw [h1_, h2_]; rfl) | (show List.length (_ ++ _) ≤ _; simp only [List.length_append, List.length_cons, List.length_nil, List.length_replicate, List.length_take]; omega) | (simp_all; done) | (simp_all; omega))
        all_goals try (refine Side.mk ?_; simp only [Flat.n, List.length_append, List.length_singleton]; omega)
        refine loop_at (fun a : Nat × List Int => 2 * a.1 ≤ xs.length ∧ turnP xs a.1 a.2) 1 (fun a => [(6, .int .i64 a.1), (7, .int .i64 ((xs.length : Int) - 1 - a.1)), (8, .top)]) (fun a => [(0, .flat true (.ints .u8 a.2))]) (fun a => xs.length - a.1) (0, xs) ⟨Nat.zero_le _, rfl, fun j hj => by rw [if_neg (by omega)]⟩ ?_ (fun a ha => ?_)
        · repeat' ((conv => whnf); first | done | refine ev_step ?_ | refine ops_step ?_ | refine scan_step ?_ | refine draw_step ?_ | refine each_step ?_ | refine sl_step ?_ | refine hp_step ?_ | refine guard_no (by decide) ?_ | refine guard_go ?_ | refine guard_old ?_ | apply cut_auto | with_reducible exact CutS.mk (Or.inl ⟨rfl, rfl, rfl⟩) | refine CutS.mk (Or.inr (Or.inl (sub_auto ?_))) | exact trivial | refine And.intro ?_ ?_ | refine cond_split ?_ ?_ | apply guess | exact Or.inl rfl | exact Or.inr rfl | exact Side.mk trivial | exact Side.mk (fun h => h) | exact Side.mk (fun h => ⟨h, h⟩) | with_reducible exact Side.mk rfl | with_reducible exact Side.mk ⟨rfl, rfl⟩ | with_reducible exact Side.mk (by assumption) | with_reducible rfl | intro _)
          all_goals try (conv => whnf)
          all_goals first | rfl | (simp; done) | trace_state
        · obtain ⟨i, ys⟩ := a
          obtain ⟨hi1, hi2⟩ := ha
          dsimp only at hi1 hi2
          have hyl := hi2.1
          by_cases hlt : 2 * i + 1 < xs.length
          · repeat' ((conv => whnf); first | done | refine ev_step ?_ | refine ops_step ?_ | refine scan_step ?_ | refine draw_step ?_ | refine each_step ?_ | refine sl_step ?_ | refine hp_step ?_ | refine guard_no (by decide) ?_ | refine guard_go ?_ | refine guard_old ?_ | apply cut_auto | with_reducible exact CutS.mk (Or.inl ⟨rfl, rfl, rfl⟩) | refine CutS.mk (Or.inr (Or.inl (sub_auto ?_))) | exact trivial | refine And.intro ?_ ?_ | (refine cond_split ?_ ?_ <;> intro _ <;> first | (exfalso; first | omega | (simp only [decide_eq_true_eq, decide_eq_false_iff_not, Bool.not_eq_true', Bool.not_eq_false', ne_eq, Bool.not_true, Bool.not_false, cond_true, cond_false, Bool.true_eq_false, Bool.false_eq_true, Bool.and_eq_true, Bool.and_eq_false_iff] at *; omega)) | skip) | apply guess | exact Or.inl rfl | exact Or.inr rfl | exact Side.mk trivial | exact Side.mk (fun h => h) | exact Side.mk (fun h => ⟨h, h⟩) | with_reducible exact Side.mk rfl | with_reducible exact Side.mk ⟨rfl, rfl⟩ | with_reducible exact Side.mk (by assumption) | with_reducible rfl | intro _)
            all_goals try (conv => whnf)
            all_goals try dsimp only at *
            all_goals try (refine Side.mk ?_; first | (intros; omega) | (intro h1_ h2_; rw [h1_, h2_]; rfl) | (show List.length (_ ++ _) ≤ _; simp only [List.length_append, List.length_cons, List.length_nil, List.length_replicate, List.length_take]; omega) | (simp_all; done) | (simp_all; omega))
            refine ⟨(i + 1, _), ⟨by omega, turn_step hi2 (by omega)⟩, by omega, ?_⟩
            repeat' ((conv => whnf); first | done | refine ev_step ?_ | refine ops_step ?_ | refine scan_step ?_ | refine draw_step ?_ | refine each_step ?_ | refine sl_step ?_ | refine hp_step ?_ | refine guard_no (by decide) ?_ | refine guard_go ?_ | refine guard_old ?_ | apply cut_auto | with_reducible exact CutS.mk (Or.inl ⟨rfl, rfl, rfl⟩) | refine CutS.mk (Or.inr (Or.inl (sub_auto ?_))) | exact trivial | refine And.intro ?_ ?_ | refine cond_split ?_ ?_ | apply guess | exact Or.inl rfl | exact Or.inr rfl | exact Side.mk trivial | exact Side.mk (fun h => h) | exact Side.mk (fun h => ⟨h, h⟩) | with_reducible exact Side.mk rfl | with_reducible exact Side.mk ⟨rfl, rfl⟩ | with_reducible exact Side.mk (by assumption) | with_reducible rfl | intro _)
            all_goals try (conv => whnf)
            all_goals first | rfl | omega | (rw [show ((xs.length : Int) - 1 - (i : Int)).toNat = xs.length - 1 - i by omega, Int.toNat_natCast]) | trace_state
          · repeat' ((conv => whnf); first | done | refine ev_step ?_ | refine ops_step ?_ | refine scan_step ?_ | refine draw_step ?_ | refine each_step ?_ | refine sl_step ?_ | refine hp_step ?_ | refine guard_no (by decide) ?_ | refine guard_go ?_ | refine guard_old ?_ | apply cut_auto | with_reducible exact CutS.mk (Or.inl ⟨rfl, rfl, rfl⟩) | refine CutS.mk (Or.inr (Or.inl (sub_auto ?_))) | exact trivial | refine And.intro ?_ ?_ | (refine cond_split ?_ ?_ <;> intro _ <;> first | (exfalso; first | omega | (simp only [decide_eq_true_eq, decide_eq_false_iff_not, Bool.not_eq_true', Bool.not_eq_false', ne_eq, Bool.not_true, Bool.not_false, cond_true, cond_false, Bool.true_eq_false, Bool.false_eq_true, Bool.and_eq_true, Bool.and_eq_false_iff] at *; omega)) | skip) | apply guess | exact Or.inl rfl | exact Or.inr rfl | exact Side.mk trivial | exact Side.mk (fun h => h) | exact Side.mk (fun h => ⟨h, h⟩) | with_reducible exact Side.mk rfl | with_reducible exact Side.mk ⟨rfl, rfl⟩ | with_reducible exact Side.mk (by assumption) | with_reducible rfl | intro _)
            all_goals try (conv => whnf)
            all_goals try dsimp only at *
            all_goals try (refine Side.mk ?_; first | (intros; omega) | (intro h1_ h2_; rw [h1_, h2_]; rfl) | (show List.length (_ ++ _) ≤ _; simp only [List.length_append, List.length_cons, List.length_nil, List.length_replicate, List.length_take]; omega) | (simp_all; done) | (simp_all; omega))
            rw [← hfin, turn_end hi2 (by omega)]
    · obtain ⟨hm1, hm2⟩ := tmod_abs r
      obtain ⟨ht1, ht2⟩ := tdiv_in hr
      have hw := wrap_in ht1
      have hmb := Nat.mod_lt r.natAbs (show 10 > 0 by omega)
      have hl0 : r ≠ 0 ∨ (xs.length : Int) = 0 := by
        by_cases e : xs = []
        · right; rw [e]; rfl
        · left; exact fun e2 => hstop ⟨e, e2⟩
      have hnext : decP n (xs ++ [48 + ((r.natAbs % 10 : Nat) : Int)], IntKind.i64.wrap (r.tdiv 10)) ∧ (IntKind.i64.wrap (r.tdiv 10)).natAbs + (if xs ++ [48 + ((r.natAbs % 10 : Nat) : Int)] = [] then 1 else 0) < r.natAbs + (if xs = [] then 1 else 0) := by
        have e1 : xs ++ rdI r = rdI n := by
          rcases ha with ⟨h1, h2⟩ | ⟨h1, h2⟩
          · rw [h1, h2]; rfl
          · have : r ≠ 0 := fun e => hstop ⟨h1, e⟩
            rw [← h2, tlI, if_neg this]
        rw [rdI_step] at e1
        rw [hw]
        refine ⟨⟨ht1, .inr ⟨by simp, by rw [← e1]; simp⟩⟩, ?_⟩
        rw [if_neg (by simp), ht2]
        by_cases e : xs = []
        · rw [if_pos e]; omega
        · rw [if_neg e]; have : r ≠ 0 := fun e2 => hstop ⟨e, e2⟩
          omega
      have fc : (bif decide ((xs.length : Int) = 0) then true else decide (r ≠ 0)) = true := by
        rcases hl0 with h0 | h0
        · rw [decide_eq_true h0]; cases decide ((xs.length : Int) = 0) <;> rfl
        · rw [decide_eq_true h0]; rfl
      by_cases hd : r.tmod 10 < 0
      · have fd := decide_eq_true hd
        repeat' ((conv => whnf); first | done | refine ev_step ?_ | refine ops_step ?_ | refine scan_step ?_ | refine draw_step ?_ | refine each_step ?_ | refine sl_step ?_ | refine hp_step ?_ | refine guard_no (by decide) ?_ | refine guard_go ?_ | refine guard_old ?_ | apply cut_auto | with_reducible exact CutS.mk (Or.inl ⟨rfl, rfl, rfl⟩) | refine CutS.mk (Or.inr (Or.inl (sub_auto ?_))) | exact trivial | refine And.intro ?_ ?_ | (refine cond_split ?_ ?_ <;> intro hq_ <;> first | (exfalso; first | omega | (simp only [fc, fd, cond_true, cond_false, Bool.not_true, Bool.not_false, Bool.and_true, Bool.true_and, Bool.and_false, Bool.false_and, Bool.or_true, Bool.true_or, Bool.or_false, Bool.false_or, Bool.true_eq_false, Bool.false_eq_true, decide_true, decide_false, reduceCtorEq] at hq_; done) | (rw [decide_eq_false_iff_not] at hq_; omega) | (rw [decide_eq_true_eq] at hq_; omega) | (simp only [fc, fd, reduceCtorEq] at hq_; done) | exact Bool.noConfusion (Eq.trans (Eq.symm fc) hq_) | exact Bool.noConfusion (Eq.trans (Eq.symm fd) hq_)) | skip) | apply guess | exact Or.inl rfl | exact Or.inr rfl | exact Side.mk trivial | exact Side.mk (fun h => h) | exact Side.mk (fun h => ⟨h, h⟩) | with_reducible exact Side.mk rfl | with_reducible exact Side.mk ⟨rfl, rfl⟩ | with_reducible exact Side.mk (by assumption) | with_reducible rfl | intro _)
        all_goals try (conv => whnf)
        all_goals try dsimp only at *
        all_goals try (refine Side.mk ?_; first | (intros; omega) | (intro h1_ h2_; rw [h1_, h2_]; rfl) | (show List.length (_ ++ _) ≤ _; simp only [List.length_append, List.length_cons, List.length_nil, List.length_replicate, List.length_take]; omega) | (simp_all; done) | (simp_all; omega))
        all_goals try (refine Side.mk ?_; simp only [Flat.n, List.length_append, List.length_singleton]; omega)
        all_goals try (refine Side.mk ?_; decide)
        have e3 : 0 - r.tmod 10 = ((r.natAbs % 10 : Nat) : Int) := by rw [Int.zero_sub]; exact hm1 hd
        rw [e3, hu8 _ hmb]
        refine ⟨_, hnext.1, hnext.2, ?_⟩
        repeat' ((conv => whnf); first | done | refine ev_step ?_ | refine ops_step ?_ | refine scan_step ?_ | refine draw_step ?_ | refine each_step ?_ | refine sl_step ?_ | refine hp_step ?_ | refine guard_no (by decide) ?_ | refine guard_go ?_ | refine guard_old ?_ | apply cut_auto | with_reducible exact CutS.mk (Or.inl ⟨rfl, rfl, rfl⟩) | refine CutS.mk (Or.inr (Or.inl (sub_auto ?_))) | exact trivial | refine And.intro ?_ ?_ | refine cond_split ?_ ?_ | apply guess | exact Or.inl rfl | exact Or.inr rfl | exact Side.mk trivial | exact Side.mk (fun h => h) | exact Side.mk (fun h => ⟨h, h⟩) | with_reducible exact Side.mk rfl | with_reducible exact Side.mk ⟨rfl, rfl⟩ | with_reducible exact Side.mk (by assumption) | with_reducible rfl | intro _)
        all_goals try (conv => whnf)
        all_goals first | rfl | trace_state
      · have fd := decide_eq_false hd
        repeat' ((conv => whnf); first | done | refine ev_step ?_ | refine ops_step ?_ | refine scan_step ?_ | refine draw_step ?_ | refine each_step ?_ | refine sl_step ?_ | refine hp_step ?_ | refine guard_no (by decide) ?_ | refine guard_go ?_ | refine guard_old ?_ | apply cut_auto | with_reducible exact CutS.mk (Or.inl ⟨rfl, rfl, rfl⟩) | refine CutS.mk (Or.inr (Or.inl (sub_auto ?_))) | exact trivial | refine And.intro ?_ ?_ | (refine cond_split ?_ ?_ <;> intro hq_ <;> first | (exfalso; first | omega | (simp only [fc, fd, cond_true, cond_false, Bool.not_true, Bool.not_false, Bool.and_true, Bool.true_and, Bool.and_false, Bool.false_and, Bool.or_true, Bool.true_or, Bool.or_false, Bool.false_or, Bool.true_eq_false, Bool.false_eq_true, decide_true, decide_false, reduceCtorEq] at hq_; done) | (rw [decide_eq_false_iff_not] at hq_; omega) | (rw [decide_eq_true_eq] at hq_; omega) | (simp only [fc, fd, reduceCtorEq] at hq_; done) | exact Bool.noConfusion (Eq.trans (Eq.symm fc) hq_) | exact Bool.noConfusion (Eq.trans (Eq.symm fd) hq_)) | skip) | apply guess | exact Or.inl rfl | exact Or.inr rfl | exact Side.mk trivial | exact Side.mk (fun h => h) | exact Side.mk (fun h => ⟨h, h⟩) | with_reducible exact Side.mk rfl | with_reducible exact Side.mk ⟨rfl, rfl⟩ | with_reducible exact Side.mk (by assumption) | with_reducible rfl | intro _)
        all_goals try (conv => whnf)
        all_goals try dsimp only at *
        all_goals try (refine Side.mk ?_; first | (intros; omega) | (intro h1_ h2_; rw [h1_, h2_]; rfl) | (show List.length (_ ++ _) ≤ _; simp only [List.length_append, List.length_cons, List.length_nil, List.length_replicate, List.length_take]; omega) | (simp_all; done) | (simp_all; omega))
        all_goals try (refine Side.mk ?_; simp only [Flat.n, List.length_append, List.length_singleton]; omega)
        all_goals try (refine Side.mk ?_; decide)
        rw [hm2 hd, hu8 _ hmb]
        refine ⟨_, hnext.1, hnext.2, ?_⟩
        repeat' ((conv => whnf); first | done | refine ev_step ?_ | refine ops_step ?_ | refine scan_step ?_ | refine draw_step ?_ | refine each_step ?_ | refine sl_step ?_ | refine hp_step ?_ | refine guard_no (by decide) ?_ | refine guard_go ?_ | refine guard_old ?_ | apply cut_auto | with_reducible exact CutS.mk (Or.inl ⟨rfl, rfl, rfl⟩) | refine CutS.mk (Or.inr (Or.inl (sub_auto ?_))) | exact trivial | refine And.intro ?_ ?_ | refine cond_split ?_ ?_ | apply guess | exact Or.inl rfl | exact Or.inr rfl | exact Side.mk trivial | exact Side.mk (fun h => h) | exact Side.mk (fun h => ⟨h, h⟩) | with_reducible exact Side.mk rfl | with_reducible exact Side.mk ⟨rfl, rfl⟩ | with_reducible exact Side.mk (by assumption) | with_reducible rfl | intro _)
        all_goals try (conv => whnf)
        all_goals first | rfl | trace_state
end Go.Sx.U
