/-
  strings.Builder: what its methods do (contracts).
-/
import Derived.WalkKit
import Derived.Lib.Builder
import Derived.Lib.UnsafeStr
import Derived.Lib.Strings
import Derived.Lib.Slices
import Derived.Lib.Walk
import Derived.Laws.Externs
import Derived.Test.YtligakfmabjoeaaDoorH2
set_option linter.unusedSimpArgs false
namespace Go.Proofs
set_option linter.unusedVariables false
set_option linter.unusedSimpArgs false
open Go.RowKit

/-- A variable lies at the head of a row of its own type. -/
theorem liesAt_one {P : Program} {e s : Nat} (hc : P.cellsOf e = s) (hs : s ≠ 0) (count : Nat) (h : 1 ≤ count) : liesAt P P.depth e count 0 e 1 = true := by
  have hd : P.depth = (2 * (P.types.size + Made.depth) + 1) + 1 := rfl
  rw [hd]
  simp only [liesAt, Bool.or_eq_true]
  left
  rw [hd]
  simp [rowAt, hc, hs, h, sameLayout]

set_option maxHeartbeats 1000000 in
set_option maxRecDepth 100000 in
theorem bl_check_used (b : Nat) (w : World) (h0 : w.cell? ⟨b, 0, none⟩ = some (.pointer (some ⟨b, 0, none⟩))) :
    Calls Tryd.prog 38 #[.pointer (some ⟨b, 0, none⟩)] w fun e w' => e = .returned (.tuple #[]) ∧ w' = w := by
  obtain ⟨j, hj, hjs⟩ := Option.map_eq_some_iff.1 (show (Tryd.prog.info? 43).map (·.size) = some 2 by kernel_rfl)
  go_enter Tryd.func38, Tryd.ntmps38
  go_wp2
  rw [Lib.run_neq_ptr_same w _ Tryd.underlying41 hj]
  go_wp2
  go_end0
  exact ⟨rfl, rfl⟩

set_option maxHeartbeats 1000000 in
set_option maxRecDepth 100000 in
theorem bl_check_fresh (b k : Nat) (w : World) (h0 : w.cell? ⟨b, 0, none⟩ = some (.pointer none)) (hk : 2 ≤ k) (hsh : w.shape? b = some (43, k)) (hfz : w.frozen? ⟨b, 0, none⟩ = false) :
    Calls Tryd.prog 38 #[.pointer (some ⟨b, 0, none⟩)] w fun e w' => e = .returned (.tuple #[]) ∧ w' = w.setCell ⟨b, 0, none⟩ (.pointer (some ⟨b, 0, none⟩)) := by
  obtain ⟨j, hj, hjs⟩ := Option.map_eq_some_iff.1 (show (Tryd.prog.info? 43).map (·.size) = some 2 by kernel_rfl)
  have hl : liesAt Tryd.prog Tryd.prog.depth 43 (k / Tryd.prog.cellsOf 43) 0 43 1 = true := by
    have hc : Tryd.prog.cellsOf 43 = 2 := by kernel_rfl
    rw [hc]
    exact liesAt_one hc (by decide) _ (by omega)
  go_enter Tryd.func38, Tryd.ntmps38
  go_wp2
  rw [Lib.run_to_unsafe w ⟨b, 0, none⟩ Tryd.underlying41 Tryd.underlying88 hj (by rw [hjs]; decide) hsh (show 0 < k by omega)]
  simp only [Result.andThen]
  rw [Oper.upon_value]
  go_wp2
  rw [run_callFunc_extern Tryd.func53 (by kernel_rfl) (by kernel_rfl) (by kernel_rfl) (e := Extern.AbiNoEscape.same) (by kernel_rfl)]
  rw [Lib.run_noEscape]
  simp only [Result.andThen]
  rw [Oper.upon_value]
  go_wp2
  rw [Lib.run_from_unsafe w ⟨b, 0, none⟩ Tryd.underlying88 Tryd.underlying41 hj hsh hl]
  simp only [Result.andThen]
  rw [Oper.upon_value]
  go_wp2
  go_end0
  exact ⟨rfl, rfl⟩

set_option maxHeartbeats 1000000 in
set_option maxRecDepth 100000 in
theorem bl_string (b g n cap : Nat) (l : List UInt8) (w : World) (hn : l.length = n) (h0 : n ≠ 0) (hc : cap ≠ 0) (cur : Array Value) (h1 : w.cell? ⟨b, 1, none⟩ = some (.slice (some ⟨g, 0, none⟩) n cap)) (hg : w.heap[g]? = some (.cells cur 5 (0, 0))) (hsz : n ≤ cur.size) (h63 : n ≤ 9223372036854775807)
    (hl : ∀ (j : Nat) (x : UInt8), l[j]? = some x → w.cell? ⟨g, j, none⟩ = some (.int .u8 x.toNat)) :
    Calls Tryd.prog 25 #[.pointer (some ⟨b, 0, none⟩)] w fun e w' => e = .returned (.string ⟨l.toArray⟩) ∧ w' = w.drew.freeze ⟨g, 0, none⟩ n := by
  subst hn
  have hl0 : l ≠ [] := fun e => h0 (by rw [e]; rfl)
  have c1 : w.drew.cell? ⟨b, 1, none⟩ = some (.slice (some ⟨g, 0, none⟩) l.length cap) := h1
  have hSD : (Builtin.unsafeSliceData_ #[32] 70 #[.slice (some ⟨g, 0, none⟩) l.length cap]).run Tryd.prog w.drew = .ok (.pointer (some ⟨g, 0, none⟩)) w.drew :=
    Lib.run_unsafeSliceData_row _ _ _ _ _ _ hc
  have hcb : Tryd.prog.cellsOf 5 = 1 := by kernel_rfl
  have hUS : (Builtin.unsafeString_ #[70, 3] 9 #[.pointer (some ⟨g, 0, none⟩), .int .i64 l.length]).run Tryd.prog w.drew = .ok (.string ⟨l.toArray⟩) (w.drew.freeze ⟨g, 0, none⟩ l.length) := by
    refine Lib.run_unsafeString_row w.drew 70 3 9 5 Tryd.underlying70 hcb g cur.size (by have hg' : w.drew.heap[g]? = some (.cells cur 5 (0, 0)) := hg; simp [World.shape?, hg']) l hl0 hsz h63 ?_
    intro j x hx
    have := hl j x hx
    rw [show (Addr.add ⟨g, 0, none⟩ j : Addr) = ⟨g, j, none⟩ by cases j <;> simp [Addr.add]]
    exact this
  go_enter Tryd.func25, Tryd.ntmps25
  go_wp2
  go_region
  all_goals (go_wp2; go_ret; exact ⟨rfl, rfl⟩)
end Go.Proofs

namespace Go.Sx.U
open Go Go.Sx Go.Proofs Go.RowKit

/-- A builder that has been written to (or not yet), and its bytes. -/
abbrev blG (b : Bool) (xs : List Int) : Heap := [(1, .flat true (.tby 5 xs)), (0, .flat true (.bld 43 (cond b (.ptr 0 [] 0 0) .nilptr) (.sl 1 [])))]

theorem k_bCheck (b : Bool) (xs : List Int) : FnIs Tryd.prog 38 [.ptr 0 [] 0 0] 2 (blG b xs) (.tuple []) 2 (blG true xs) := by
  refine ⟨⟨⟨⟨_, Tryd.func38, rfl, rfl⟩⟩, fun ρ w cargs hgk hH hv => ?_⟩⟩
  have ho : hget (blG b xs) 0 = some (.flat true (.bld 43 (cond b (.ptr 0 [] 0 0) .nilptr) (.sl 1 []))) := rfl
  obtain ⟨c, t, h1, h2, h3, h4⟩ := own_block hH ho Nat.zero_lt_one
  obtain ⟨rfl, hoff⟩ := h4 43 rfl
  have hn := NodeAt.of_get ho (rfl : (AObj.flat true (.bld 43 (cond b (.ptr 0 [] 0 0) .nilptr) (.sl 1 []))).node 0 [] = some _)
  obtain ⟨v0, c0, r0, o0⟩ := hH.rd 0 [] _ _ hn 0 Nat.zero_lt_one 0 Nat.zero_lt_two
  obtain ⟨v1, c1, r1, o1⟩ := hH.rd 0 [] _ _ hn 0 Nat.zero_lt_one 1 Nat.one_lt_two
  simp only [Flat.node, Flat.sz, Flat.cell, hoff, Nat.zero_mul, Nat.zero_add, Nat.add_zero] at c0 r0 c1 r1
  simp only [VRL, VR, hoff, Nat.zero_mul, Nat.zero_add, Nat.add_zero] at hv
  obtain ⟨a, r, rfl, ⟨_, rfl⟩, rfl⟩ := hv
  cases b with
  | true =>
    simp only [cond_true, VR, hoff, Nat.zero_mul, Nat.zero_add, Nat.add_zero] at r0
    obtain ⟨_, rfl⟩ := r0
    refine (bl_check_used _ w c0).mono fun e w' ⟨e1, e2⟩ => ?_
    subst e1 e2
    exact ⟨_, rfl, ⟨⟨.tuple [], ρ, 2, _, ⟨rfl, rfl, rfl⟩, by simp only [VR, VRL]; exact ⟨[], rfl, rfl⟩, hH, Nat.le_refl _, fun _ _ => rfl, FrameW.refl _ _, fun _ h => .inr h⟩⟩⟩
  | false =>
    simp only [cond_false, VR] at r0
    subst r0
    have hs2 : 2 ≤ c.size := by
      rw [cell_of_row w _ _ c 43 (0, 0) h1] at c1
      have := (Array.getElem?_eq_some_iff.1 c1).1
      omega
    have hsh : w.shape? (ρ 0 []).b = some (43, c.size) := by simp [World.shape?, h1]
    refine (bl_check_fresh _ c.size w c0 hs2 hsh (frozen_of_row w _ _ c 43 h1)).mono fun e w' ⟨e1, e2⟩ => ?_
    subst e1 e2
    obtain ⟨c', hc1, hc2, hc3⟩ := setCells_block (ρ 0 []).b 43 (0, 0) [.pointer (some ⟨(ρ 0 []).b, 0, none⟩)] 0 w c h1
    have hq : (w.setCells (ρ 0 []).b 0 [.pointer (some ⟨(ρ 0 []).b, 0, none⟩)]) = w.setCell ⟨(ρ 0 []).b, 0, none⟩ (.pointer (some ⟨(ρ 0 []).b, 0, none⟩)) := rfl
    obtain ⟨q1, q2, q3⟩ := put_flat hH ho (f' := .bld 43 (.ptr 0 [] 0 0) (.sl 1 [])) rfl rfl (w' := w.setCell ⟨(ρ 0 []).b, 0, none⟩ (.pointer (some ⟨(ρ 0 []).b, 0, none⟩))) (by decide) (hq ▸ setCells_frame _ _ _ _) ⟨c', 43, hq ▸ hc1, hc2.trans h2, fun t' ht => ⟨by simpa [Flat.ty] using ht, hoff⟩⟩ (fun i hi j hj => by
      simp only [Flat.n, Flat.sz] at hi hj
      obtain rfl : i = 0 := by omega
      have hj2 : j = 0 ∨ j = 1 := by omega
      rw [cell_of_row _ _ _ c' 43 (0, 0) (hq ▸ hc1), hc3]
      rw [cell_of_row w _ _ c 43 (0, 0) h1] at c0 c1
      rcases hj2 with rfl | rfl
      · refine ⟨.pointer (some ⟨(ρ 0 []).b, 0, none⟩), ?_, ?_, rfl⟩
        · simp only [hoff, Flat.sz]
          rw [if_pos ⟨by simp, by simp, by omega⟩]
          simp
        · simp only [Flat.cell, VR, hoff]
          exact ⟨by decide, by simp⟩
      · refine ⟨v1, ?_, r1, o1⟩
        simp only [hoff, Flat.sz]
        rw [if_neg (by simp)]
        simpa using c1)
    exact ⟨_, rfl, ⟨⟨.tuple [], ρ, 2, _, ⟨rfl, rfl, rfl⟩, by simp only [VR, VRL]; exact ⟨[], rfl, rfl⟩, q1, Nat.le_refl _, fun _ _ => rfl, q2, fun b hb => .inr (q3 b hb)⟩⟩⟩

theorem k_bString (b : Bool) (xs : List Int) (h : Side (xs ≠ [] ∧ xs.length ≤ 1048577 ∧ ∀ x ∈ xs, 0 ≤ x ∧ x < 256)) : FnIs Tryd.prog 25 [.ptr 0 [] 0 0] 2 (blG b xs) (.str (strOfNums xs)) 2 [] := by
  obtain ⟨hne, hlen, hby⟩ := h.h
  refine ⟨⟨⟨⟨_, Tryd.func25, rfl, rfl⟩⟩, fun ρ w cargs hgk hH hv => ?_⟩⟩
  have hpos : 0 < xs.length := List.length_pos_iff.2 hne
  have ho : hget (blG b xs) 0 = some (.flat true (.bld 43 (cond b (.ptr 0 [] 0 0) .nilptr) (.sl 1 []))) := rfl
  have hr : hget (blG b xs) 1 = some (.flat true (.tby 5 xs)) := rfl
  obtain ⟨c, t, h1, h2, h3, h4⟩ := own_block hH ho Nat.zero_lt_one
  obtain ⟨rfl, hoff⟩ := h4 43 rfl
  obtain ⟨d, u, k1, k2, k3, k4⟩ := own_block hH hr hpos
  obtain ⟨rfl, koff⟩ := k4 5 rfl
  have hn := NodeAt.of_get ho (rfl : (AObj.flat true (.bld 43 (cond b (.ptr 0 [] 0 0) .nilptr) (.sl 1 []))).node 0 [] = some _)
  have hm := NodeAt.of_get hr (rfl : (AObj.flat true (.tby 5 xs)).node 1 [] = some _)
  obtain ⟨s1, s2, _⟩ := hH.shape 1 [] _ _ hm
  obtain ⟨v1, c1, r1, o1⟩ := hH.rd 0 [] _ _ hn 0 Nat.zero_lt_one 1 Nat.one_lt_two
  simp only [Flat.node, Flat.sz, Flat.cell, Flat.n, hoff, koff, Nat.zero_mul, Nat.zero_add, Nat.add_zero, VR] at c1 r1 s1 s2
  obtain ⟨_, A, cap, rfl, hsl⟩ := r1
  have hA := hsl.addr (by omega)
  simp only [koff, s1, Nat.zero_mul, Nat.zero_add, Nat.add_zero] at hA
  subst hA
  rw [s2] at c1 hsl
  simp only [VRL, VR, hoff, Nat.zero_mul, Nat.zero_add, Nat.add_zero] at hv
  obtain ⟨a, r, rfl, ⟨_, rfl⟩, rfl⟩ := hv
  have hcap : xs.length ≤ cap ∧ xs.length ≤ d.size := by
    rcases hsl with ⟨_, q1, q2⟩ | ⟨q1, _⟩
    · simp only [koff, s1, Nat.zero_add, Nat.mul_one] at q2
      exact ⟨q1, by omega⟩
    · omega
  refine (bl_string _ (ρ 1 []).b xs.length cap (xs.map fun n => UInt8.ofNat n.toNat) w (by simp) (by omega) (by omega) d c1 k1 hcap.2 (by omega) (fun j x hx => ?_)).mono fun e w' ⟨e1, e2⟩ => ?_
  · rw [List.getElem?_map] at hx
    obtain ⟨n, hn1, rfl⟩ := Option.map_eq_some_iff.1 hx
    have hj : j < xs.length := (List.getElem?_eq_some_iff.1 hn1).1
    obtain ⟨v, p1, p2, _⟩ := hH.rd 1 [] _ _ hm j hj 0 Nat.zero_lt_one
    simp only [Flat.node, Flat.sz, Flat.cell, koff, Nat.mul_one, Nat.zero_add, Nat.add_zero, VR] at p1 p2
    subst p2
    rw [p1]
    have hnb := hby n (List.mem_of_getElem? hn1)
    have e1 : xs.getD j 0 = n := by simp [List.getD, hn1]
    have e2 : (UInt8.ofNat n.toNat).toNat = n.toNat := by simp [UInt8.toNat_ofNat']; omega
    rw [e1, e2]
    congr 2
    omega
  · subst e1 e2
    have hOwn : Owns ρ (blG b xs) (ρ 1 []).b := ⟨1, [], _, hm, k3, rfl⟩
    refine ⟨_, rfl, ⟨⟨.str (strOfNums xs), ρ, 2, [], ⟨rfl, rfl, rfl⟩, by simp only [VR]; rfl, ⟨fun _ _ h => (by cases h), fun _ _ _ _ hx => ?_, fun _ _ _ _ hx => ?_, fun _ _ _ hx => ?_, fun _ _ _ _ _ _ _ hx => ?_⟩, Nat.le_refl _, fun _ _ => rfl, ⟨?_, ?_, ?_, ?_, fun k hk hno => ?_, ?_⟩, fun b hb => ?_⟩⟩⟩
    · obtain ⟨_, hx, _⟩ := hx.ex; cases hx
    · obtain ⟨_, hx, _⟩ := hx.ex; cases hx
    · obtain ⟨_, hx, _⟩ := hx.ex; cases hx
    · obtain ⟨_, hx, _⟩ := hx.ex; cases hx
    · unfold World.freeze; split <;> rfl
    · unfold World.freeze; split <;> rfl
    · unfold World.freeze; split <;> rfl
    · unfold World.freeze
      split
      · exact Nat.le_refl _
      · show w.heap.size ≤ (w.heap.modify _ _).size
        simp
    · have hkb : k ≠ (ρ 1 []).b := fun e => hno (e ▸ hOwn)
      unfold World.freeze
      split
      · rfl
      · show (w.heap.modify _ _)[k]? = _
        simp [Array.getElem?_modify, Ne.symm hkb]
    · unfold World.freeze
      split <;> exact Nat.le_succ _
    · obtain ⟨_, _, _, hx, _⟩ := hb
      obtain ⟨_, hx, _⟩ := hx.ex; cases hx
end Go.Sx.U
