/-
  clear of pairs, as an effect.
-/
import Derived.Test.YtbjlbmehklfijaaSxX
namespace Go.Sx
set_option linter.unusedVariables false
set_option linter.unusedSimpArgs false
open Go
open Go.RowKit

section
variable {P : Program} {T : Tbl} {ρ : Rho} {N : Nat} {G : Heap} {w : World}

def clr2K (G : Heap) (v : AV) (K : Nat → List R2 → Nat → Nat → Prop) : Prop :=
  match v with
  | .sub id p i len _ => match p with
    | [] => match hget G id with
      | some o => match o with
        | .flat own f => match own with
          | true => match f with
            | .r2 xs => K id xs i len
            | _ => False
          | false => False
        | _ => False
      | none => False
    | _ :: _ => False
  | _ => False
theorem clr2K_spec {v : AV} {K : Nat → List R2 → Nat → Nat → Prop} (h : clr2K G v K) : ∃ id xs i len cap, v = .sub id [] i len cap ∧ hget G id = some (.flat true (.r2 xs)) ∧ K id xs i len := by
  unfold clr2K at h
  split at h
  case h_2 => exact h.elim
  split at h
  case h_2 => exact h.elim
  split at h
  case h_2 => exact h.elim
  rename_i o ho
  split at h
  case h_2 => exact h.elim
  split at h
  case h_2 => exact h.elim
  split at h
  case h_2 => exact h.elim
  exact ⟨_, _, _, _, _, rfl, ho, h⟩
def clrL (xs : List R2) (i len : Nat) : List R2 := xs.take i ++ List.replicate len default ++ xs.drop (i + len)
theorem clrL_len {xs : List R2} {i n : Nat} (h1 : i + n ≤ xs.length) : (clrL xs i n).length = xs.length := by
  simp [clrL]; omega
theorem clrL_get {xs : List R2} {i n : Nat} (h1 : i + n ≤ xs.length) (a : Nat) : (clrL xs i n).getD a default = if i ≤ a ∧ a < i + n then default else xs.getD a default := by
  simp only [clrL, List.getD_eq_getElem?_getD]
  by_cases h3 : a < i
  · rw [List.getElem?_append_left (by simp; omega), List.getElem?_append_left (by simp; omega), List.getElem?_take_of_lt h3, if_neg (by omega)]
  · by_cases h4 : a < i + n
    · rw [List.getElem?_append_left (by simp; omega), List.getElem?_append_right (by simp; omega), if_pos (by omega)]
      rw [List.getElem?_replicate]
      split <;> rfl
    · rw [List.getElem?_append_right (by simp; omega), if_neg (by omega)]
      simp only [List.length_append, List.length_take, List.getElem?_drop, List.length_replicate]
      congr 2
      omega

def eClear (T : Tbl) (t : Nat) (x : AV) (N : Nat) (G : Heap) (K : AV → Nat → Heap → Prop) : Prop :=
  match tget T t with
  | some ti => match ti.d with
    | .slice _ _ _ k => match k with
      | .r2 => clr2K G x fun id xs i len => need (some (i + len ≤ xs.length ∧ 0 < len)) (K (.tuple []) N (hset G id (.flat true (.r2 (clrL xs i len)))))
      | _ => False
    | _ => False
  | none => False

theorem eClear_sound (hT : TblOK P T) (hH : HeapRep ρ N G w) {t ty : Nat} {x : AV} {K : AV → Nat → Heap → Prop} (h : eClear T t x N G K) {xv : Value} (hx : VR ρ N x xv) :
    ∃ v w', (Builtin.clear_ #[t] ty #[xv]).run P w = .ok v w' ∧ Out ρ N G w K v w' := by
  unfold eClear at h
  split at h
  case h_2 => exact h.elim
  rename_i ti ht
  split at h
  case h_2 => exact h.elim
  rename_i e esz eb kk hd1
  have hd0 := (hT _ _ ht).desc
  rw [hd1] at hd0
  obtain ⟨hdd, i0, z, hi0, hsz, _, _, _, hz0, hzc, hkz, hz1⟩ : DescOK P t (.slice e esz eb kk) := hd0
  split at h
  case h_2 => exact h.elim
  obtain ⟨hel, hvz⟩ := hkz (by simp)
  simp only [EK.zero, List.length_cons, List.length_nil] at hel
  subst hel
  have hz2 : z.cells.toList = [.int .i64 0, .int .i64 0] := by
    have := hvz ρ N
    simp only [EK.zero, VRL, VR] at this
    obtain ⟨_, _, q1, rfl, _, _, rfl, rfl, rfl⟩ := this
    exact q1
  have hz3 : z.cells = #[.int .i64 0, .int .i64 0] := Array.ext' (by simpa using hz2)
  obtain ⟨id, xs, i, len, cap, rfl, ho, h⟩ := clr2K_spec h
  obtain ⟨⟨hil, hlen⟩, hK⟩ := need_spec h
  simp only [VR] at hx
  obtain ⟨_, A, c, rfl, hsl, _⟩ := hx
  have hnode : NodeAt G id [] (Flat.r2 xs).node true := NodeAt.of_get ho rfl
  obtain ⟨s1, s2, s3⟩ := hH.shape id [] _ _ hnode
  simp only [Flat.node, Flat.n, Flat.sz] at s1 s2 s3
  have hA := hsl.addr hlen
  rw [s1] at hA
  subst hA
  obtain ⟨c0, t0, hb0, hc0, htot⟩ := own_block hH ho (by simp [Flat.n]; omega)
  have hrd : ∀ a, a < xs.length → ∀ b, b < 2 → ∃ u, c0[(ρ id []).o + (a * 2 + b)]? = some u ∧ VR ρ N ((Flat.r2 xs).cell a b) u ∧ u.oneCell' = true := fun a ha b hb => by
    obtain ⟨u, k1, k2⟩ := hH.rd id [] _ true hnode a ha b (by simpa [Flat.node, Flat.sz] using hb)
    simp only [Flat.node, Flat.sz] at k1
    rw [cell_of_row w _ _ c0 t0 (0, 0) hb0] at k1
    exact ⟨u, k1, k2⟩
  have hnl : (List.replicate (len * 2) (Value.int .i64 0)).length = len * 2 := List.length_replicate
  obtain ⟨c', hc1, hc2, hc3⟩ := setCells_block (ρ id []).b t0 (0, 0) (List.replicate (len * 2) (Value.int .i64 0)) ((ρ id []).o + i * 2) w c0 hb0
  have hwr : ∀ d, d < (List.replicate (len * 2) (Value.int .i64 0)).length → ∃ u, c0[(ρ id []).o + i * 2 + d]? = some u := fun d hd => by
    rw [hnl] at hd
    obtain ⟨u, k1, _⟩ := hrd (i + d / 2) (by omega) (d % 2) (by omega)
    exact ⟨u, by rw [← k1]; congr 1; omega⟩
  have hsl2 := clrL_len (xs := xs) (i := i) (n := len) hil
  obtain ⟨q1, q2, q3⟩ := put_flat hH ho (f' := .r2 (clrL xs i len)) hsl2 rfl (w' := w.setCells (ρ id []).b ((ρ id []).o + i * 2) (List.replicate (len * 2) (Value.int .i64 0))) (by simp only [Flat.n]; omega) (setCells_frame _ _ _ _) ⟨c', t0, hc1, hc2.trans hc0⟩ (fun a ha b hbb => by
    simp only [Flat.n] at ha
    simp only [Flat.sz] at hbb ⊢
    obtain ⟨u, k1, k2, k3⟩ := hrd a ha b hbb
    rw [cell_of_row _ _ _ c' t0 (0, 0) hc1, hc3]
    have hsz0 : (ρ id []).o + (a * 2 + b) < c0.size := (Array.getElem?_eq_some_iff.1 k1).1
    simp only [Flat.cell] at k2 ⊢
    rw [clrL_get hil]
    by_cases hin : i ≤ a ∧ a < i + len
    · rw [if_pos ⟨by omega, by rw [hnl]; omega, hsz0⟩, if_pos hin]
      refine ⟨.int .i64 0, ?_, ?_, rfl⟩
      · rw [List.getElem?_replicate, if_pos (by omega)]
      · rcases (by omega : b = 0 ∨ b = 1) with rfl | rfl <;> simp only [R2.get, VR] <;> rfl
    · rw [if_neg hin, if_neg (by rw [hnl]; omega)]
      exact ⟨u, k1, k2, k3⟩)
  refine ⟨.tuple #[], _, ?_, ⟨⟨_, ρ, N, _, hK, by simp only [VR]; exact ⟨[], rfl, by simp [VRL]⟩, q1, Nat.le_refl _, fun _ _ => rfl, q2, fun b hb => .inr (q3 b hb)⟩⟩⟩
  have hzcs : (Builtin.zeroCells z.cells len).toList = List.replicate (len * 2) (Value.int .i64 0) := by
    rw [hz3]
    apply List.ext_getElem
    · simp [Builtin.zeroCells]
    · intro k h1 h2
      simp only [Builtin.zeroCells, Array.toList_map, List.getElem_map, List.getElem_replicate]
      have : ∀ m : Nat, (#[Value.int .i64 0, Value.int .i64 0] : Array Value)[m % 2]! = .int .i64 0 := fun m => by
        rcases (by omega : m % 2 = 0 ∨ m % 2 = 1) with h | h <;> rw [h] <;> rfl
      exact this _
  have hrun := run_storeCells_cells (P := P) (ρ id []).b ((ρ id []).o + i * 2) (List.replicate (len * 2) (Value.int .i64 0)) 0 w (fun d hd => by
      obtain ⟨u, hu⟩ := hwr d hd
      rw [cell_of_row w _ _ c0 t0 (0, 0) hb0]
      simp only [Nat.add_zero]
      rw [hu]; rfl) (fun d _ => frozen_of_row w _ _ c0 t0 hb0) (fun v hv => by rw [List.eq_of_mem_replicate hv]; rfl)
  simp only [Nat.add_zero] at hrun
  obtain ⟨m, rfl⟩ : ∃ m, len = m + 1 := ⟨len - 1, by omega⟩
  simp [Builtin.clear_, run_underlying hdd, zeroValue, typeInfo, hi0, hz0, hzcs, hrun]
end
end Go.Sx
