/-
  copy of numbers, as an effect.
-/
import Derived.Test.YtbjlbmehklfijaaSxK
namespace Go.Sx
set_option linter.unusedVariables false
set_option linter.unusedSimpArgs false
open Go
open Go.RowKit

section
variable {P : Program} {T : Tbl} {ρ : Rho} {N : Nat} {G : Heap} {w : World}

def cownK (G : Heap) (id : Nat) (K : IntKind → List Int → Prop) : Prop :=
  match hget G id with
  | some o => match o with
    | .flat own f => match own with
      | true => match f with
        | .ints k xs => K k xs
        | _ => False
      | false => False
    | _ => False
  | none => False
theorem cownK_spec {id : Nat} {K : IntKind → List Int → Prop} (h : cownK G id K) : ∃ k xs, hget G id = some (.flat true (.ints k xs)) ∧ K k xs := by
  unfold cownK at h
  split at h
  case h_2 => exact h.elim
  rename_i o ho
  split at h
  case h_2 => exact h.elim
  split at h
  case h_2 => exact h.elim
  split at h
  case h_2 => exact h.elim
  exact ⟨_, _, ho, h⟩
def cdstK (G : Heap) (v : AV) (K : Cnd → Nat → IntKind → List Int → Nat → Nat → Prop) : Prop :=
  match v with
  | .sl id p => match p with
    | [] => cownK G id fun k xs => K none id k xs 0 xs.length
    | _ :: _ => False
  | .sub id p i len _ => match p with
    | [] => cownK G id fun k xs => K (some (i + len ≤ xs.length)) id k xs i len
    | _ :: _ => False
  | _ => False
theorem cdstK_spec (hH : HeapRep ρ N G w) {v : AV} {K : Cnd → Nat → IntKind → List Int → Nat → Nat → Prop} (h : cdstK G v K) {cv : Value} (hv : VR ρ N v cv) :
    ∃ C id k xs i len, K C id k xs i len ∧ hget G id = some (.flat true (.ints k xs)) ∧ (C.holds → i + len ≤ xs.length ∧ ∃ A c, cv = .slice A len c ∧ (0 < len → A = some ⟨(ρ id []).b, (ρ id []).o + i, none⟩)) := by
  unfold cdstK at h
  split at h
  · rename_i id p
    simp only [VR] at hv
    obtain ⟨_, A, c, rfl, hsl⟩ := hv
    split at h
    case h_2 => exact h.elim
    obtain ⟨k, xs, ho, h⟩ := cownK_spec h
    have hnode : NodeAt G id [] (Flat.ints k xs).node true := NodeAt.of_get ho rfl
    obtain ⟨s1, s2, s3⟩ := hH.shape id [] _ _ hnode
    simp only [Flat.node, Flat.n, Flat.sz] at s1 s2 s3
    refine ⟨_, _, _, _, _, _, h, ho, fun _ => ⟨by omega, A, c, by rw [s2], fun hl => ?_⟩⟩
    have := hsl.addr (by rw [s2]; exact hl)
    simpa using this
  · rename_i id p i len cap
    simp only [VR] at hv
    obtain ⟨_, A, c, rfl, hsl, _⟩ := hv
    split at h
    case h_2 => exact h.elim
    obtain ⟨k, xs, ho, h⟩ := cownK_spec h
    have hnode : NodeAt G id [] (Flat.ints k xs).node true := NodeAt.of_get ho rfl
    obtain ⟨s1, s2, s3⟩ := hH.shape id [] _ _ hnode
    simp only [Flat.node, Flat.n, Flat.sz] at s1 s2 s3
    refine ⟨_, _, _, _, _, _, h, ho, fun hc => ⟨hc, A, c, rfl, fun hl => ?_⟩⟩
    have := hsl.addr hl
    rw [s1, Nat.mul_one] at this
    exact this
  · exact h.elim

def spliceL (xs ys : List Int) (i n : Nat) : List Int := xs.take i ++ ys.take n ++ xs.drop (i + n)
theorem spliceL_len {xs ys : List Int} {i n : Nat} (h1 : i + n ≤ xs.length) (h2 : n ≤ ys.length) : (spliceL xs ys i n).length = xs.length := by
  simp [spliceL]; omega
theorem spliceL_get {xs ys : List Int} {i n : Nat} (h1 : i + n ≤ xs.length) (h2 : n ≤ ys.length) (a : Nat) : (spliceL xs ys i n).getD a 0 = if i ≤ a ∧ a < i + n then ys.getD (a - i) 0 else xs.getD a 0 := by
  simp only [spliceL, List.getD_eq_getElem?_getD]
  by_cases h3 : a < i
  · rw [List.getElem?_append_left (by simp; omega), List.getElem?_append_left (by simp; omega), List.getElem?_take_of_lt h3, if_neg (by omega)]
  · by_cases h4 : a < i + n
    · rw [List.getElem?_append_left (by simp; omega), List.getElem?_append_right (by simp; omega), if_pos (by omega)]
      rw [List.length_take, Nat.min_eq_left (by omega), List.getElem?_take_of_lt (by omega)]
    · rw [List.getElem?_append_right (by simp; omega), if_neg (by omega)]
      simp only [List.length_append, List.length_take, List.getElem?_drop]
      congr 2
      omega
theorem spliceL_zero (xs ys : List Int) (i : Nat) : spliceL xs ys i 0 = xs := by simp [spliceL]

def eCopy (T : Tbl) (t : Nat) (d x : AV) (N : Nat) (G : Heap) (K : AV → Nat → Heap → Prop) : Prop :=
  match tget T t with
  | some ti => match ti.d with
    | .slice _ esz _ _ => bif Nat.beq esz 1 then srcK G x fun C2 g => match g with
      | some g => match g with
        | .ints k' ys => cdstK G d fun C1 id k xs i len => bif k == k' then need C1 (need C2 (K (.int .i64 (Nat.min ys.length len : Nat)) N (hset G id (.flat true (.ints k (spliceL xs ys i (Nat.min ys.length len))))))) else False
        | _ => False
      | none => False
      else False
    | _ => False
  | none => False

theorem eCopy_sound (hT : TblOK P T) (hH : HeapRep ρ N G w) {t t2 ty : Nat} {d x : AV} {K : AV → Nat → Heap → Prop} (h : eCopy T t d x N G K) {dv xv : Value} (hd : VR ρ N d dv) (hx : VR ρ N x xv) :
    ∃ v w', (Builtin.copy_ #[t, t2] ty #[dv, xv]).run P w = .ok v w' ∧ Out ρ N G w K v w' := by
  unfold eCopy at h
  split at h
  case h_2 => exact h.elim
  rename_i ti ht
  split at h
  case h_2 => exact h.elim
  rename_i e esz eb kk hd1
  have hd0 := (hT _ _ ht).desc
  rw [hd1] at hd0
  obtain ⟨hdd, i0, z, hi0, hsz, _⟩ : DescOK P t (.slice e esz eb kk) := hd0
  cases hb : Nat.beq esz 1 with
  | false => simp [hb] at h
  | true =>
    simp only [hb, cond_true] at h
    have hb := Nat.eq_of_beq_eq_true hb
    subst hb
    obtain ⟨C2, g, h, hg⟩ := srcK_spec hH h hx
    split at h
    case h_2 => exact h.elim
    split at h
    case h_2 => exact h.elim
    rename_i k' ys
    obtain ⟨C1, id, k, xs, i, len, h5, ho, hdst⟩ := cdstK_spec hH h hd
    clear h
    cases hkk : k == k' with
    | false => simp [hkk] at h5
    | true =>
      simp only [hkk, cond_true] at h5
      have hkk : k = k' := by simpa using hkk
      subst hkk
      obtain ⟨c1, h6⟩ := need_spec h5
      obtain ⟨c2, hK⟩ := need_spec h6
      obtain ⟨hil, A, c, rfl, hA⟩ := hdst c1
      obtain ⟨A2, m, cc2, news, rfl, n1, n2, n3, n4⟩ := (hg c2 1 (by simp [Flat.sz])).ex
      simp only [Flat.n] at n3
      subst n3
      have n4 := n4 (by simp [Flat.sz])
      have hmin1 : Nat.min ys.length len ≤ ys.length := Nat.min_le_left _ _
      have hmin2 : Nat.min ys.length len ≤ len := Nat.min_le_right _ _
      have hlo : (Builtin.lenOf (.slice A2 ys.length cc2)).run P w = .ok ys.length w := rfl
      have hnl : news.length = ys.length := by omega
      have hvr : VR ρ N (.int .i64 (Nat.min ys.length len : Nat)) (goInt (Nat.min ys.length len)) := by simp only [VR]; rfl
      rcases Nat.eq_zero_or_pos (Nat.min ys.length len) with h0 | h0
      · rw [h0, spliceL_zero] at hK
        rw [h0] at hvr
        refine ⟨goInt 0, w, ?_, ⟨⟨_, ρ, N, _, hK, hvr, ?_, Nat.le_refl _, fun _ _ => rfl, FrameW.refl _ _, fun b hb => .inr ?_⟩⟩⟩
        · have hfc : (Builtin.firstCells 1 0 (.slice A2 ys.length cc2)).run P w = .ok #[] w := by
            cases A2 with
            | none => rfl
            | some a => simp [Builtin.firstCells, loadCells, loadCellsFrom]
          cases A <;> simp [Builtin.copy_, run_underlying hdd, hlo, h0, run_sizeOf hi0, hsz, hfc, storeCells]
        · refine hH.congr fun j => ?_
          rw [hget_hset]
          split
          · rename_i e; subst e; rw [ho]; rfl
          · rfl
        · obtain ⟨j, p, nd, hn, ht, rfl⟩ := hb
          exact ⟨j, p, nd, NodeAt.congr (fun j => by
            rw [hget_hset]
            split
            · rename_i e; subst e; rw [ho]; rfl
            · rfl) hn, ht, rfl⟩
      · have hlen : 0 < len := by omega
        obtain rfl := hA hlen
        obtain ⟨b2, o2, rfl, hcell⟩ := n2 (by omega)
        obtain ⟨c0, t0, hb0, hc0, htot⟩ := own_block hH ho (by simp [Flat.n]; omega)
        have hnode : NodeAt G id [] (Flat.ints k xs).node true := NodeAt.of_get ho rfl
        have hrd : ∀ a, a < xs.length → ∃ u, c0[(ρ id []).o + a]? = some u ∧ VR ρ N (.int k (xs.getD a 0)) u ∧ u.oneCell' = true := fun a ha => by
          obtain ⟨u, k1, k2⟩ := hH.rd id [] _ true hnode a ha 0 (by simp [Flat.node, Flat.sz])
          simp only [Flat.node, Flat.sz, Nat.mul_one, Nat.add_zero] at k1
          rw [cell_of_row w _ _ c0 t0 (0, 0) hb0] at k1
          exact ⟨u, k1, k2⟩
        have husl : (news.take (Nat.min ys.length len)).length = Nat.min ys.length len := by rw [List.length_take]; omega
        have hus1 : ∀ u ∈ news.take (Nat.min ys.length len), u.oneCell' = true := fun u hu => by
          obtain ⟨j, hj, rfl⟩ := List.getElem_of_mem (List.mem_of_mem_take hu)
          obtain ⟨u, q1, _, q3⟩ := n4 j (by omega) 0 (by omega)
          simp only [Nat.mul_one, Nat.add_zero] at q1
          rw [List.getElem?_eq_getElem hj] at q1
          injection q1 with q1
          rw [q1]; exact q3
        obtain ⟨c', hc1, hc2, hc3⟩ := setCells_block (ρ id []).b t0 (0, 0) (news.take (Nat.min ys.length len)) ((ρ id []).o + i) w c0 hb0
        have hwr : ∀ d, d < (news.take (Nat.min ys.length len)).length → ∃ u, c0[(ρ id []).o + i + d]? = some u := fun d hd => by
          rw [husl] at hd
          obtain ⟨u, k1, _⟩ := hrd (i + d) (by omega)
          exact ⟨u, by rw [← k1]; congr 1; omega⟩
        have hsl := spliceL_len (xs := xs) (ys := ys) (i := i) (n := Nat.min ys.length len) (by omega) (by omega)
        obtain ⟨q1, q2, q3⟩ := put_flat hH ho (f' := .ints k (spliceL xs ys i (Nat.min ys.length len))) hsl rfl (w' := w.setCells (ρ id []).b ((ρ id []).o + i) (news.take (Nat.min ys.length len))) (by simp only [Flat.n]; omega) (setCells_frame _ _ _ _) ⟨c', t0, hc1, hc2.trans hc0⟩ (fun a ha b hbb => by
          simp only [Flat.n] at ha
          simp only [Flat.sz] at hbb
          obtain rfl : b = 0 := by omega
          simp only [Flat.sz, Nat.mul_one, Nat.add_zero, Flat.cell]
          obtain ⟨u, k1, k2, k3⟩ := hrd a ha
          rw [cell_of_row _ _ _ c' t0 (0, 0) hc1, hc3, spliceL_get (by omega) (by omega)]
          have hsz0 : (ρ id []).o + a < c0.size := (Array.getElem?_eq_some_iff.1 k1).1
          by_cases hin : i ≤ a ∧ a < i + Nat.min ys.length len
          · rw [if_pos ⟨by omega, by rw [husl]; omega, hsz0⟩, if_pos hin]
            obtain ⟨x, x1, x2, x3⟩ := n4 (a - i) (by omega) 0 (by omega)
            simp only [Nat.mul_one, Nat.add_zero, Flat.cell] at x1 x2
            refine ⟨x, ?_, x2, x3⟩
            rw [show (ρ id []).o + a - ((ρ id []).o + i) = a - i by omega, List.getElem?_take_of_lt (by omega)]
            exact x1
          · rw [if_neg hin, if_neg (by rw [husl]; omega)]
            exact ⟨u, k1, k2, k3⟩)
        refine ⟨goInt (Nat.min ys.length len), _, ?_, ⟨⟨_, ρ, N, _, hK, hvr, q1, Nat.le_refl _, fun _ _ => rfl, q2, fun b hb => .inr (q3 b hb)⟩⟩⟩
        have hfc : (Builtin.firstCells 1 (Nat.min ys.length len) (.slice (some ⟨b2, o2, none⟩) ys.length cc2)).run P w = .ok (news.take (Nat.min ys.length len)).toArray w :=
          run_firstCells_some w 1 (Nat.min ys.length len) _ ys.length cc2 (news.take (Nat.min ys.length len)) (by rw [husl]; omega) fun j v hj => by
            have hj' : j < Nat.min ys.length len := by
              have := (List.getElem?_eq_some_iff.1 hj).1
              omega
            rw [List.getElem?_take_of_lt hj'] at hj
            rw [← hcell j v hj]
            congr 1
            unfold Addr.add; split <;> simp_all
        have hrun := run_storeCells_cells (P := P) (ρ id []).b ((ρ id []).o + i) (news.take (Nat.min ys.length len)) 0 w (fun d hd => by
            obtain ⟨u, hu⟩ := hwr d hd
            rw [cell_of_row w _ _ c0 t0 (0, 0) hb0]
            simp only [Nat.add_zero]
            rw [hu]; rfl) (fun d _ => frozen_of_row w _ _ c0 t0 hb0) hus1
        simp only [Nat.add_zero] at hrun
        have e0 : (#[t, t2] : Array Nat)[0]? = some t := rfl
        simp only [Builtin.copy_, Sem.run_bind, run_underlying hdd, Result.andThen_ok, hlo, run_sizeOf hi0, hsz, List.getElem?_toArray, List.getElem?_cons_zero, List.getElem?_cons_succ, hfc, hrun, Sem.run_pure]
end
end Go.Sx
