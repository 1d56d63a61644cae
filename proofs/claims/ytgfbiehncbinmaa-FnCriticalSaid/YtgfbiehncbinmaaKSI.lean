/-
  slices.Sort at numbers, as a contract (the kit's law).
-/
import Derived.Test.YtgfbiehncbinmaaSd
import Derived.Test.YtgfbiehncbinmaaTb
import Derived.Test.YtgfbiehncbinmaaKSI1
import Derived.Shelf.Sort.Plain
import Derived.Shelf.Slices.In.SortNone
set_option linter.unusedSimpArgs false
namespace Go.Sx.U
set_option linter.unusedVariables false
set_option linter.unusedSimpArgs false
set_option maxRecDepth 100000
set_option maxHeartbeats 8000000
open Go Go.Sx Go.Proofs Go.Sort

theorem arr_getI (xs : List Int) (i : Nat) : xs.toArray[i]! = xs.getD i 0 := by
  simp [List.getD]
theorem holds_int {ρ : Rho} {N : Nat} {G : Heap} {w : World} (hH : HeapRep ρ N G w) {id : Nat} {xs : List Int} (ho : hget G id = some (.flat true (.ints .i64 xs))) (hn : 0 < xs.length) : Holds (Value.int .i64) w (ρ id []).b (ρ id []).o xs.toArray := by
  obtain ⟨c, t, hb, _, _, _⟩ := own_block hH ho hn
  have hnd := NodeAt.of_get ho (rfl : (AObj.flat true (.ints .i64 xs)).node id [] = some _)
  intro s hs
  have hs2 : s < xs.length := by simpa using hs
  obtain ⟨v, q1, q2, _⟩ := hH.rd id [] _ _ hnd s hs2 0 (Nat.lt_succ_self 0)
  simp only [Flat.node, Flat.sz, Nat.mul_one, Nat.add_zero] at q1
  refine ⟨?_, by simp [World.frozen?, hb]⟩
  rw [q1, arr_getI]
  simp only [Flat.node, Flat.cell, VR] at q2
  rw [q2]
theorem frame_sortI {w : World} {b o n : Nat} {d : Array Int} {os : Array Obj} : FrameW (· = b) w (grow (putRow (Value.int .i64) (Sort.ahead w n) b o d) os) := by
  refine ⟨rfl, rfl, rfl, ?_, fun k hk hn => ?_, ?_⟩
  · simp [grow, putRow, mapBlock, Sort.ahead]
  · have e := heap_grow_old (putRow (Value.int .i64) (Sort.ahead w n) b o d) os (show k < (putRow (Value.int .i64) (Sort.ahead w n) b o d).heap.size by simpa [putRow, mapBlock, Sort.ahead] using hk)
    rw [e]
    simp [putRow, mapBlock, Sort.ahead, Array.getElem?_modify, Ne.symm hn]
  · simp [grow, putRow, mapBlock, Sort.ahead]
theorem put_sortedI {ρ : Rho} {N : Nat} {G : Heap} {w : World} (hH : HeapRep ρ N G w) {id : Nat} {xs : List Int} (ho : hget G id = some (.flat true (.ints .i64 xs))) (hn : 0 < xs.length) {n : Nat} {d : Array Int} {os : Array Obj} (hd : d.size = xs.length) :
    HeapRep ρ N (hset G id (.flat true (.ints .i64 d.toList))) (grow (putRow (Value.int .i64) (Sort.ahead w n) (ρ id []).b (ρ id []).o d) os) ∧ FrameW (Owns ρ G) w (grow (putRow (Value.int .i64) (Sort.ahead w n) (ρ id []).b (ρ id []).o d) os) ∧ ∀ b, Owns ρ (hset G id (.flat true (.ints .i64 d.toList))) b → Owns ρ G b := by
  obtain ⟨c, t, hb, hc, _, _⟩ := own_block hH ho hn
  have hlt : (ρ id []).b < w.heap.size := (Array.getElem?_eq_some_iff.1 hb).1
  have h0 := holds_int hH ho hn
  have h1 : Holds (Value.int .i64) (grow (putRow (Value.int .i64) (Sort.ahead w n) (ρ id []).b (ρ id []).o d) os) (ρ id []).b (ρ id []).o d := by
    refine holds_grow _ _ _ _ _ _ (by simpa [putRow, mapBlock, Sort.ahead] using hlt) ?_
    exact holds_putRow _ _ _ _ _ _ (holds_ahead _ _ _ _ _ _ h0) (by simpa using hd)
  refine put_flat (f' := .ints .i64 d.toList) hH ho (by simpa [Flat.n] using hd) rfl hn frame_sortI ⟨putCells (Value.int .i64) (ρ id []).o d c, t, ?_, ?_, fun t' h => by cases h⟩ fun i hi j hj => ?_
  · have e := heap_grow_old (putRow (Value.int .i64) (Sort.ahead w n) (ρ id []).b (ρ id []).o d) os (show (ρ id []).b < (putRow (Value.int .i64) (Sort.ahead w n) (ρ id []).b (ρ id []).o d).heap.size by simpa [putRow, mapBlock, Sort.ahead] using hlt)
    rw [e]
    simp [putRow, mapBlock, Sort.ahead, Array.getElem?_modify, hb, onCells]
  · simpa [putCells] using hc
  · have hi2 : i < d.size := by rw [hd]; exact hi
    obtain ⟨q1, _⟩ := h1 i hi2
    obtain rfl : j = 0 := by have : j < 1 := hj; omega
    refine ⟨_, (by simp only [Flat.sz, Nat.mul_one, Nat.add_zero] at *; exact q1), ?_, rfl⟩
    have e2 : d[i]! = d.toList.getD i 0 := by simp [List.getD, hi2]
    rw [e2]
    simp only [Flat.cell, VR]
/-- A row of numbers, put in order. -/
theorem k_SortI (xs : List Int) (h : Side (xs.length ≤ 1048577)) : FnEx Try.prog 53 [.sl 0 []] 1 [(0, .flat true (.ints .i64 xs))] (fun ys : List Int => ys.Perm xs ∧ ys.Pairwise (· ≤ ·)) (fun _ => .tuple []) 1 (fun ys => [(0, .flat true (.ints .i64 ys))]) := by
  have h2 := h.h
  refine ⟨⟨⟨⟨_, Try.func53, rfl, rfl⟩⟩, fun ρ w cargs hH hv => ?_⟩⟩
  have ho : hget [(0, AObj.flat true (.ints .i64 xs))] 0 = some (.flat true (.ints .i64 xs)) := rfl
  have hsh := (hH.shape 0 [] _ _ (NodeAt.of_get ho (rfl : (AObj.flat true (.ints .i64 xs)).node 0 [] = some _))).2.1
  simp only [VRL, VR] at hv
  obtain ⟨a, r, rfl, ⟨_, A, cp, rfl, hA⟩, rfl⟩ := hv
  have hn : (ρ 0 []).n = xs.length := hsh
  rw [hn] at hA ⊢
  by_cases h0 : xs.length = 0
  · obtain rfl : xs = [] := List.length_eq_zero_iff.1 h0
    have hcon := Any.slices_Sort_int_none Try.sortI A cp w
    change Calls Try.prog 53 _ _ _ at hcon
    refine hcon.mono fun e w' ⟨he, hw⟩ => ?_
    subst hw
    exact ⟨_, he, ⟨⟨.tuple [], ρ, 1, _, ⟨[], ⟨List.Perm.refl _, List.Pairwise.nil⟩, rfl, rfl, rfl⟩, by simp only [VR, VRL]; exact ⟨[], rfl, rfl⟩, hH, Nat.le_refl _, fun _ _ => rfl, FrameW.refl _ _, fun b hb => .inr hb⟩⟩⟩
  · have hpos : 0 < xs.length := by omega
    obtain ⟨c, t, hb, _, _, _⟩ := own_block hH ho hpos
    have hblk : (ρ 0 []).b < w.heap.size := (Array.getElem?_eq_some_iff.1 hb).1
    rcases hA with ⟨rfl, _, _⟩ | ⟨h1, _⟩
    · have hcon := Any.slices_Sort_int Try.sortI (ρ 0 []).b (ρ 0 []).o cp xs w (holds_int hH ho hpos) hblk (by omega)
      change Calls Try.prog 53 _ _ _ at hcon
      have e0 : (ρ 0 []).o + 0 * (ρ 0 []).sz = (ρ 0 []).o := by omega
      rw [e0]
      refine hcon.mono fun e w' ⟨he, n, os, hw⟩ => ?_
      subst hw
      have hp := List.mergeSort_perm xs (fun x y => decide (x ≤ y))
      obtain ⟨q1, q2, q3⟩ := put_sortedI hH ho hpos (n := n) (d := (xs.mergeSort fun x y => decide (x ≤ y)).toArray) (os := os) (by simp)
      refine ⟨_, he, ⟨⟨.tuple [], ρ, 1, _, ⟨(xs.mergeSort fun x y => decide (x ≤ y)), ⟨hp, ?_⟩, rfl, rfl, rfl⟩, by simp only [VR, VRL]; exact ⟨[], rfl, rfl⟩, q1, Nat.le_refl _, fun _ _ => rfl, q2, fun b hb => .inr (q3 b hb)⟩⟩⟩
      have hs := List.pairwise_mergeSort (le := fun x y : Int => decide (x ≤ y)) (fun a b c h1 h2 => by simp only [decide_eq_true_eq] at *; omega) (fun a b => by simp only [Bool.or_eq_true, decide_eq_true_eq]; omega) xs
      exact hs.imp fun h => by simpa using h
    · omega
end Go.Sx.U
