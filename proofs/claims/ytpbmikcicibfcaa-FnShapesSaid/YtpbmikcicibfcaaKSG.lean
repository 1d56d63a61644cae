/-
  slices.SortFunc at points, and the program's set of points: contracts.
-/
import Derived.Test.YtpbmikcicibfcaaKSF
import Derived.Shelf.SlSortCmp.WholeK
set_option linter.unusedSimpArgs false
namespace Go.Sx.U
set_option linter.unusedVariables false
set_option linter.unusedSimpArgs false
set_option maxRecDepth 100000
set_option maxHeartbeats 8000000
open Go Go.Sx Go.Proofs

theorem k_SortFunc (xs : List R2) (h : Side (1 ≤ xs.length ∧ xs.length ≤ 1048577)) : FnEx Try.prog 134 [.sl 0 [], .func 135 []] 1 [(0, .flat true (.r2 xs))] (fun ys : List R2 => ys.Perm xs) (fun _ => .tuple []) 1 (fun ys => [(0, .flat true (.r2 ys))]) := by
  obtain ⟨h1, h2⟩ := h.h
  refine ⟨⟨⟨⟨_, Try.func134, rfl, rfl⟩⟩, fun ρ w cargs hH hv => ?_⟩⟩
  have ho : hget [(0, AObj.flat true (.r2 xs))] 0 = some (.flat true (.r2 xs)) := rfl
  obtain ⟨c, t, hb, _, _, _⟩ := own_block hH ho h1
  have hblk : (ρ 0 []).b < w.heap.size := (Array.getElem?_eq_some_iff.1 hb).1
  have hsh := (hH.shape 0 [] _ _ (NodeAt.of_get ho (rfl : (AObj.flat true (.r2 xs)).node 0 [] = some _))).2.1
  simp only [VRL, VR] at hv
  obtain ⟨a, r, rfl, ⟨_, A, cp, rfl, hA⟩, b, r2, rfl, ⟨cs, rfl, hcs⟩, rfl⟩ := hv
  subst hcs
  have hn : (ρ 0 []).n = xs.length := hsh
  rw [hn] at hA ⊢
  rcases hA with ⟨rfl, _, _⟩ | ⟨h0, _⟩
  · have hcon := AnyQ.slices_SortFunc Try.sortPt 2 Try.isAgg56 Try.sizeOf56 encP (fun _ => rfl) (fun x v hv => by simp [encP] at hv; rcases hv with rfl | rfl <;> rfl) ptCmp pt_swo 135 #[] (ρ 0 []).b (ρ 0 []).o cp xs.toArray w (enters_of Try.func135 (by kernel_rfl) rfl) (pt_lays _ _ _ _) (holds_r2 hH ho h1) hblk (by simp; omega)
    change Calls Try.prog 134 _ _ _ at hcon
    have e0 : (ρ 0 []).o + 0 * (ρ 0 []).sz = (ρ 0 []).o := by omega
    rw [e0]
    refine hcon.mono fun e w' ⟨he, d', n, os, hp, _, hw⟩ => ?_
    subst hw
    have hsz : d'.size = xs.length := by have := hp.1; simpa using this
    obtain ⟨q1, q2, q3⟩ := put_sorted hH ho h1 (n := n) (d := d') (os := os) hsz
    refine ⟨_, he, ⟨⟨.tuple [], ρ, 1, _, ⟨d'.toList, ?_, rfl, rfl, rfl⟩, by simp only [VR, VRL]; exact ⟨[], rfl, rfl⟩, q1, Nat.le_refl _, fun _ _ => rfl, q2, fun b hb => .inr (q3 b hb)⟩⟩⟩
    have hpp := hp.2.2
    have e1 : d'.extract 0 xs.toArray.size = d' := by
      rw [show xs.toArray.size = d'.size by rw [hsz]; rfl]
      exact Array.extract_size
    have e2 : xs.toArray.extract 0 xs.toArray.size = xs.toArray := Array.extract_size
    rw [e1, e2] at hpp
    exact hpp
  · omega
end Go.Sx.U
