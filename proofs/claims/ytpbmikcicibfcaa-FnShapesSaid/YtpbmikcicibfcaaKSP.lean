/-
  What the library's sort leaves, as an object of the evaluator.
-/
import Derived.Test.YtpbmikcicibfcaaSd
import Derived.Shelf.GgSortFunc.InsertionK
namespace Go.Sx
set_option linter.unusedVariables false
set_option linter.unusedSimpArgs false
set_option maxRecDepth 100000
set_option maxHeartbeats 8000000
open Go Go.Proofs Go.Sort

def encP (p : R2) : List Value := [.int .i64 p.a, .int .i64 p.b]
theorem getD_arr {α : Type} [Inhabited α] (xs : List α) (i : Nat) : xs.toArray[i]! = xs.getD i default := by
  simp [List.getD]
theorem holds_r2 {ρ : Rho} {N : Nat} {G : Heap} {w : World} (hH : HeapRep ρ N G w) {id : Nat} {xs : List R2} (ho : hget G id = some (.flat true (.r2 xs))) (hn : 0 < xs.length) : HoldsK encP 2 w (ρ id []).b (ρ id []).o xs.toArray := by
  obtain ⟨c, t, hb, _, _, _⟩ := own_block hH ho hn
  have hnd := NodeAt.of_get ho (rfl : (AObj.flat true (.r2 xs)).node id [] = some _)
  intro s hs
  have hs2 : s < xs.length * 2 := by rw [size_flatK] at hs; simpa using hs
  have hd : s / 2 < xs.length := by omega
  obtain ⟨v, q1, q2, _⟩ := hH.rd id [] _ _ hnd (s / 2) hd (s % 2) (Nat.mod_lt _ (by decide))
  have e : s / 2 * 2 + s % 2 = s := by omega
  simp only [Flat.node, Flat.sz] at q1
  rw [e] at q1
  refine ⟨?_, by simp [World.frozen?, hb]⟩
  rw [q1, get_flatK _ _ _ _ (by simpa using hs2)]
  have e2 : xs.toArray[s / 2]! = xs.getD (s / 2) default := getD_arr xs _
  rw [e2]
  congr 1
  rcases (by omega : s % 2 = 0 ∨ s % 2 = 1) with h | h
  · rw [h] at q2 ⊢
    simp only [Flat.node, Flat.cell, VR] at q2
    rw [q2]; rfl
  · rw [h] at q2 ⊢
    simp only [Flat.node, Flat.cell, VR] at q2
    rw [q2]; rfl
theorem frame_sort {w : World} {b o n : Nat} {d : Array R2} {os : Array Obj} : FrameW (· = b) w (sortWorldK encP 2 w b o n d os) := by
  refine ⟨rfl, rfl, rfl, ?_, fun k hk hn => ?_, ?_⟩
  · simp [sortWorldK, grow, putRowK, putRow, mapBlock, Sort.ahead]
  · have e := heap_grow_old (putRowK encP 2 (Sort.ahead w n) b o d) os (show k < (putRowK encP 2 (Sort.ahead w n) b o d).heap.size by simpa [putRowK, putRow, mapBlock, Sort.ahead] using hk)
    unfold sortWorldK
    rw [e]
    simp [putRowK, putRow, mapBlock, Sort.ahead, Array.getElem?_modify, Ne.symm hn]
  · simp [sortWorldK, grow, putRowK, putRow, mapBlock, Sort.ahead]
theorem put_sorted {ρ : Rho} {N : Nat} {G : Heap} {w : World} (hH : HeapRep ρ N G w) {id : Nat} {xs : List R2} (ho : hget G id = some (.flat true (.r2 xs))) (hn : 0 < xs.length) {n : Nat} {d : Array R2} {os : Array Obj} (hd : d.size = xs.length) :
    HeapRep ρ N (hset G id (.flat true (.r2 d.toList))) (sortWorldK encP 2 w (ρ id []).b (ρ id []).o n d os) ∧ FrameW (Owns ρ G) w (sortWorldK encP 2 w (ρ id []).b (ρ id []).o n d os) ∧ ∀ b, Owns ρ (hset G id (.flat true (.r2 d.toList))) b → Owns ρ G b := by
  obtain ⟨c, t, hb, hc, _, _⟩ := own_block hH ho hn
  have hlt : (ρ id []).b < w.heap.size := (Array.getElem?_eq_some_iff.1 hb).1
  have h0 := holds_r2 hH ho hn
  have h1 : HoldsK encP 2 (sortWorldK encP 2 w (ρ id []).b (ρ id []).o n d os) (ρ id []).b (ρ id []).o d := by
    refine holdsK_grow _ _ _ _ _ _ _ (by simpa [putRowK, putRow, mapBlock, Sort.ahead] using hlt) ?_
    exact holdsK_putRowK _ _ _ _ _ _ _ (holdsK_ahead _ _ _ _ _ _ _ h0) (by simpa using hd)
  refine put_flat (f' := .r2 d.toList) hH ho (by simpa [Flat.n] using hd) rfl hn frame_sort ⟨putCells (fun v : Value => v) (ρ id []).o (flatK encP 2 d) c, t, ?_, ?_, fun t' h => by cases h⟩ fun i hi j hj => ?_
  · have e := heap_grow_old (putRowK encP 2 (Sort.ahead w n) (ρ id []).b (ρ id []).o d) os (show (ρ id []).b < (putRowK encP 2 (Sort.ahead w n) (ρ id []).b (ρ id []).o d).heap.size by simpa [putRowK, putRow, mapBlock, Sort.ahead] using hlt)
    unfold sortWorldK
    rw [e]
    simp [putRowK, putRow, mapBlock, Sort.ahead, Array.getElem?_modify, hb, onCells]
    rfl
  · simpa [putCells] using hc
  · have hi2 : i < d.size := by rw [hd]; exact hi
    obtain ⟨q1, _⟩ := h1.cell hi2 (show j < 2 from hj)
    refine ⟨_, (by rw [← Nat.add_assoc]; exact q1), ?_, ?_⟩
    · have e2 : d[i]! = d.toList.getD i default := by simp [List.getD, hi2]
      rw [e2]
      rcases (by have : j < 2 := hj; omega : j = 0 ∨ j = 1) with rfl | rfl <;> simp only [Flat.cell, VR] <;> rfl
    · rcases (by have : j < 2 := hj; omega : j = 0 ∨ j = 1) with rfl | rfl <;> rfl
/-- A world that a call has framed, turning nothing, has grown. -/
theorem grown_of_frame {w w' : World} (hf : FrameW (fun _ => False) w w') : ∃ q os, w' = grow (w.drewN q) os := by
  have hd := hf.drawn
  have hs := hf.size
  refine ⟨w'.drawn - w.drawn, w'.heap.extract w.heap.size w'.heap.size, ?_⟩
  have hh : w'.heap = w.heap ++ w'.heap.extract w.heap.size w'.heap.size := by
    apply Array.ext
    · simp; omega
    · intro i h1 h2
      rw [Array.getElem_append]
      split
      · next h =>
        have := hf.block i h id
        rw [Array.getElem?_eq_getElem h1, Array.getElem?_eq_getElem h] at this
        exact Option.some.inj this
      · next h =>
        rw [Array.getElem_extract]
        congr 1
        omega
  obtain ⟨heap', tape', drawn', os', out'⟩ := w'
  obtain ⟨heap, tape, drawn, os, out⟩ := w
  have e1 := hf.os
  have e2 := hf.tape
  have e3 := hf.output
  simp only at e1 e2 e3 hh hd
  subst e1 e2 e3
  simp only [grow, World.drewN]
  rw [show drawn + (drawn' - drawn) = drawn' by omega]
  exact congrArg (fun h => (⟨h, tape', drawn', os', out'⟩ : World)) hh
end Go.Sx
