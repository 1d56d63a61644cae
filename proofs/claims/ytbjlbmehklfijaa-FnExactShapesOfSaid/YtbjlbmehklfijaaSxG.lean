/-
  Stores, new slices, appends, calls.
-/
import Derived.Test.YtbjlbmehklfijaaSxF
namespace Go.Sx
set_option linter.unusedVariables false
set_option linter.unusedSimpArgs false
open Go
open Go.RowKit

/-- What must be shown on the way. -/
structure Side (p : Prop) : Prop where
  h : p

def need (C : Cnd) (X : Prop) : Prop :=
  match C with
  | none => X
  | some c => Side c ∧ X
theorem need_spec {C : Cnd} {X : Prop} (h : need C X) : C.holds ∧ X := by
  cases C with
  | none => exact ⟨trivial, h⟩
  | some c => exact ⟨h.1.h, h.2⟩

section
variable {P : Program} {T : Tbl} {ρ : Rho} {N : Nat} {G : Heap} {w : World}

/-- The object 'id' is flat and one's own, has elements, and lies in a block: that block, and how its content may be replaced. -/
theorem own_block (hH : HeapRep ρ N G w) {id : Nat} {f : Flat} (ho : hget G id = some (.flat true f)) (hn : 0 < f.n) :
    ∃ c t, w.heap[(ρ id []).b]? = some (.cells c t (0, 0)) ∧ c.size = (ρ id []).tot ∧ 0 < (ρ id []).tot := by
  rcases hH.ow id [] f.node (NodeAt.of_get ho rfl) with ⟨_, h⟩ | h
  · simp only [Flat.node] at h; omega
  · exact h

theorem put_flat (hH : HeapRep ρ N G w) {id : Nat} {f f' : Flat} (ho : hget G id = some (.flat true f)) (hn : f'.n = f.n) (hsz : f'.sz = f.sz) {w' : World} (hpos : 0 < f.n)
    (hf : FrameW (· = (ρ id []).b) w w') (hblk : ∃ c t, w'.heap[(ρ id []).b]? = some (.cells c t (0, 0)) ∧ c.size = (ρ id []).tot)
    (hcells : ∀ i, i < f.n → ∀ j, j < f.sz → ∃ u, w'.cell? ⟨(ρ id []).b, (ρ id []).o + (i * f.sz + j), none⟩ = some u ∧ VR ρ N (f'.cell i j) u ∧ u.oneCell' = true) :
    HeapRep ρ N (hset G id (.flat true f')) w' ∧ FrameW (Owns ρ G) w w' ∧ ∀ b, Owns ρ (hset G id (.flat true f')) b → Owns ρ G b := by
  obtain ⟨c0, t0, hb0, hc0, htot⟩ := own_block hH ho hpos
  have hnode := NodeAt.of_get ho (rfl : (AObj.flat true f).node id [] = some f.node)
  have hnode' : NodeAt G id [] f.node true := hnode
  have hOwn : Owns ρ G (ρ id []).b := ⟨id, [], f.node, hnode', htot, rfl⟩
  have hdelne : ∀ {i p nd own}, NodeAt (hdel G id) i p nd own → i ≠ id ∧ NodeAt G i p nd own := fun {i p nd own} hx => by
    obtain ⟨o, h1, h2⟩ := hx.ex
    rw [hget_hdel] at h1
    split at h1
    · cases h1
    · next h => exact ⟨h, ⟨⟨o, h1, h2⟩⟩⟩
  have hD : HeapRep ρ N (hdel G id) w' := (hH.del id).frame hf fun i p nd own hx hs => by
    obtain ⟨hne, hx'⟩ := hdelne hx
    exact Ne.symm (hH.sep id [] f.node i p nd own hnode' hx' (fun h => hne h.1.symm) htot hs)
  have hnone : hget (hdel G id) id = none := by rw [hget_hdel]; simp
  obtain ⟨c, t, hb, hc⟩ := hblk
  obtain ⟨sh1, sh2, sh3⟩ := hH.shape id [] f.node true hnode'
  simp only [Flat.node] at sh1 sh2 sh3
  have hput := hD.put (o := .flat true f') (hH.keys id _ ho) hnone rfl (fun p nd hnd => by
    have hp : p = [] ∧ nd = f'.node := by
      cases p with
      | nil => simp [AObj.node] at hnd; exact ⟨rfl, hnd.symm⟩
      | cons _ _ => simp [AObj.node] at hnd
    obtain ⟨rfl, rfl⟩ := hp
    refine ⟨by simp [Flat.node, hsz, sh1], by simp [Flat.node, hn, sh2], by simpa [Flat.node, hsz] using sh3, ?_, .inr ⟨c, t, hb, hc, htot⟩, fun _ => ⟨fun p' nd' hnd' hne => ?_, fun i' p' nd' own' hx hs => ?_⟩⟩
    · intro i hi j hj
      simp only [Flat.node, hn, hsz] at hi hj ⊢
      exact hcells i hi j hj
    · cases p' with
      | nil => exact absurd rfl hne
      | cons _ _ => simp [AObj.node] at hnd'
    · obtain ⟨hne, hx'⟩ := hdelne hx
      exact hH.sep id [] f.node i' p' nd' own' hnode' hx' (fun h => hne h.1.symm) htot hs)
  have hcongr : ∀ i, hget ((id, AObj.flat true f') :: hdel G id) i = hget (hset G id (.flat true f')) i := fun i => by
    rw [hget_cons, hget_hset, hget_hdel]
    by_cases h : i = id
    · subst h; simp [ho]
    · simp [h]
  refine ⟨hput.congr hcongr, ⟨hf.os, hf.tape, hf.output, hf.size, fun k hk hn => hf.block k hk (fun e => hn (e ▸ hOwn))⟩, fun b hb => ?_⟩
  obtain ⟨i, p, nd, hx, ht, rfl⟩ := hb
  obtain ⟨o, h1, h2, h3⟩ := hx.ex
  rw [hget_hset] at h1
  split at h1
  · next he =>
    subst he
    simp only [ho, Option.map_some, Option.some.injEq] at h1
    subst h1
    cases p with
    | nil => exact hOwn
    | cons _ _ => simp [AObj.node] at h2
  · exact ⟨i, p, nd, ⟨⟨o, h1, h2, h3⟩⟩, ht, rfl⟩

def eStore (T : Tbl) (t : Nat) (p v : AV) (N : Nat) (G : Heap) (K : AV → Nat → Heap → Prop) : Prop :=
  match tget T t with
  | some ti => match p with
    | .ptr id pth i j => match pth with
      | [] => match hget G id with
        | some o => match o with
          | .flat own f => match own with
            | true => cellsK v fun cs => bif Nat.beq cs.length ti.size then f.setK i j cs fun C f' => need C (K .top N (hset G id (.flat true f'))) else False
            | false => False
          | _ => False
        | none => False
      | _ :: _ => False
    | _ => False
  | none => False

theorem eStore_sound (hT : TblOK P T) (hH : HeapRep ρ N G w) {t : Nat} {p v : AV} {K : AV → Nat → Heap → Prop} (h : eStore T t p v N G K) {pv vv : Value} (hp : VR ρ N p pv) (hv : VR ρ N v vv) :
    ∃ w', (Instr.storeAt t pv vv).run P w = .ok () w' ∧ Out ρ N G w K undef w' := by
  unfold eStore at h
  split at h
  case h_2 => exact h.elim
  rename_i ti ht
  split at h
  case h_2 => exact h.elim
  rename_i id pth i j
  split at h
  case h_2 => exact h.elim
  split at h
  case h_2 => exact h.elim
  rename_i o ho
  split at h
  case h_2 => exact h.elim
  rename_i own f
  split at h
  case h_2 => exact h.elim
  obtain ⟨cs, us, h, hcells, hus, h1⟩ := cellsK_spec h hv
  cases hb : Nat.beq cs.length ti.size with
  | false => simp [hb] at h
  | true =>
    simp only [hb, cond_true] at h
    have hb := Nat.eq_of_beq_eq_true hb
    obtain ⟨C, f', h, hset⟩ := setK_spec h
    obtain ⟨hC, hK⟩ := need_spec h
    have hs := hset hC
    have hl := hus.length
    have hi := hs.hi
    have hj := hs.hj
    obtain ⟨c0, t0, hb0, hc0, htot⟩ := own_block hH ho (by omega)
    have hnode : NodeAt G id [] f.node true := NodeAt.of_get ho rfl
    obtain ⟨sh1, sh2, sh3⟩ := hH.shape id [] f.node true hnode
    simp only [Flat.node] at sh1 sh2 sh3
    simp only [VR] at hp
    obtain ⟨hidN, hp⟩ := hp
    rw [sh1] at hp
    have hrd : ∀ a, a < f.n → ∀ b, b < f.sz → ∃ u, c0[(ρ id []).o + (a * f.sz + b)]? = some u ∧ VR ρ N (f.cell a b) u ∧ u.oneCell' = true := fun a ha b hbb => by
      obtain ⟨u, k1, k2⟩ := hH.rd id [] f.node true hnode a ha b hbb
      rw [cell_of_row w _ _ c0 t0 (0, 0) hb0] at k1
      exact ⟨u, k1, k2⟩
    obtain ⟨c', hc1, hc2, hc3⟩ := setCells_block (ρ id []).b t0 (0, 0) us ((ρ id []).o + (i * f.sz + j)) w c0 hb0
    have hwr : ∀ d, d < us.length → ∃ u, c0[(ρ id []).o + (i * f.sz + j) + d]? = some u := fun d hd => by
      obtain ⟨u, k1, _⟩ := hrd i hi (j + d) (by omega)
      exact ⟨u, by rw [← k1]; congr 1; omega⟩
    obtain ⟨q1, q2, q3⟩ := put_flat hH ho hs.n hs.sz (w' := w.setCells (ρ id []).b ((ρ id []).o + (i * f.sz + j)) us) (by omega) (setCells_frame _ _ _ _) ⟨c', t0, hc1, hc2.trans hc0⟩ (fun a ha b hbb => by
      obtain ⟨u, k1, k2, k3⟩ := hrd a ha b hbb
      rw [cell_of_row _ _ _ c' t0 (0, 0) hc1, hc3, hs.cell a b ha hbb]
      have hsz0 : (ρ id []).o + (a * f.sz + b) < c0.size := (Array.getElem?_eq_some_iff.1 k1).1
      by_cases hin : a = i ∧ j ≤ b ∧ b < j + cs.length
      · obtain ⟨rfl, hb1, hb2⟩ := hin
        rw [if_pos ⟨by omega, by omega, hsz0⟩, if_pos ⟨rfl, hb1, hb2⟩]
        obtain ⟨x, x1, x2⟩ := hus.get (b - j) (by omega)
        exact ⟨x, by rw [← x1]; congr 1; omega, x2, h1 x (List.mem_of_getElem? x1)⟩
      · rw [if_neg hin]
        have : ¬ ((ρ id []).o + (i * f.sz + j) ≤ (ρ id []).o + (a * f.sz + b) ∧ (ρ id []).o + (a * f.sz + b) < (ρ id []).o + (i * f.sz + j) + us.length ∧ (ρ id []).o + (a * f.sz + b) < c0.size) := by
          rintro ⟨e1, e2, _⟩
          apply hin
          have hai : a = i := by
            rcases Nat.lt_trichotomy a i with hlt | rfl | hlt
            · have := Nat.mul_le_mul_right f.sz (show a + 1 ≤ i by omega)
              rw [Nat.add_mul] at this
              omega
            · rfl
            · have := Nat.mul_le_mul_right f.sz (show i + 1 ≤ a by omega)
              rw [Nat.add_mul] at this
              omega
          subst hai
          exact ⟨rfl, by omega, by omega⟩
        rw [if_neg this]
        exact ⟨u, k1, k2, k3⟩)
    refine ⟨_, ?_, ⟨⟨.top, ρ, N, _, hK, by simp only [VR], q1, Nat.le_refl _, fun _ _ => rfl, q2, fun b hb => .inr (q3 b hb)⟩⟩⟩
    obtain ⟨i0, z, hi0, hi1, _⟩ := (hT _ _ ht).info
    have hrun := run_storeCells_cells (P := P) (ρ id []).b ((ρ id []).o + (i * f.sz + j)) us 0 w (fun d hd => by
        obtain ⟨u, hu⟩ := hwr d hd
        rw [cell_of_row w _ _ c0 t0 (0, 0) hb0]
        simp only [Nat.add_zero]
        rw [hu]; rfl) (fun d _ => frozen_of_row w _ _ c0 t0 hb0) h1
    simp only [Nat.add_zero] at hrun
    rw [hp]
    simp only [Instr.storeAt, Instr.sureAddr, storeVar, Sem.run_bind, Sem.run_pure, Result.andThen_ok, run_sizeOf hi0, hcells]
    rw [if_neg (by simp; omega)]
    simpa using hrun

def eAlloc (T : Tbl) (t N : Nat) (G : Heap) (K : AV → Nat → Heap → Prop) : Prop :=
  match tget T t with
  | some ti => eBox ti.zero N G K
  | none => False
theorem eAlloc_sound (hT : TblOK P T) (hH : HeapRep ρ N G w) {t : Nat} {K : AV → Nat → Heap → Prop} (h : eAlloc T t N G K) : ∃ v w', (Instr.alloc t true (.tuple #[])).run P w = .ok v w' ∧ Out ρ N G w K v w' := by
  unfold eAlloc at h
  split at h
  case h_2 => exact h.elim
  rename_i ti ht
  obtain ⟨j, z, hj, _, _, hz, hzz⟩ := (hT _ _ ht).info
  have hne : ti.zero.length ≠ 0 := by
    intro h0
    have : ti.zero = [] := List.eq_nil_of_length_eq_zero h0
    rw [this] at h
    exact h
  obtain ⟨z1, z2, z3⟩ := hzz hne
  refine ⟨_, _, ?_, eBox_sound hH (z2 ρ N) (fun u hu => z3 u (by simpa using hu)) h t⟩
  simp [Instr.alloc, zeroValue, typeInfo, hj, hz, newVar, newRow]

end
end Go.Sx
