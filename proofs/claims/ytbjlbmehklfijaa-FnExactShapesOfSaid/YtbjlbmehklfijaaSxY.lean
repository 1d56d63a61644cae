/-
  Slices of slices: a header object of rows, and one object that holds all rows; rows that are stored, made, laid out, appended.
-/
import Derived.Test.YtbjlbmehklfijaaSxX
namespace Go.Sx
set_option linter.unusedVariables false
set_option linter.unusedSimpArgs false
open Go
open Go.RowKit

section
variable {P : Program} {T : Tbl} {ρ : Rho} {N : Nat} {G : Heap} {w : World}

def updR (ρ : Rho) (N : Nat) (B : List Nat → Blk) : Rho := fun id p => if id = N then B p else ρ id p
theorem updR_lt (ρ : Rho) (N : Nat) (B : List Nat → Blk) : ∀ id, id < N → updR ρ N B id = ρ id := fun id h => by
  funext p; unfold updR; rw [if_neg (by omega)]
theorem updR_at (ρ : Rho) (N : Nat) (B : List Nat → Blk) (p : List Nat) : updR ρ N B N p = B p := by unfold updR; rw [if_pos rfl]

theorem Out.ghost {ρ' : Rho} {N' : Nat} {G1 : Heap} {K : AV → Nat → Heap → Prop} {v : Value} {w' : World} (hN : N ≤ N') (hρ : ∀ id, id < N → ρ' id = ρ id) (hown : ∀ b, Owns ρ' G1 b → Owns ρ G b) (h : Out ρ' N' G1 w K v w') : Out ρ N G w K v w' := by
  obtain ⟨av, ρ2, N2, G2, h1, h2, h3, h4, h5, h6, h7⟩ := h.ex
  refine ⟨⟨av, ρ2, N2, G2, h1, h2, h3, Nat.le_trans hN h4, fun id hid => (h5 id (Nat.lt_of_lt_of_le hid hN)).trans (hρ id hid), ⟨h6.os, h6.tape, h6.output, h6.size, fun k hk hn => h6.block k hk fun ho => hn (hown k ho)⟩, fun b hb => ?_⟩⟩
  rcases h7 b hb with h | h
  · exact .inl h
  · exact .inr (hown b h)

/-- One object more, which takes over nodes of objects that fall. -/
theorem HeapRep.take (hH : HeapRep ρ N G w) {Gd : Heap} (hsub : ∀ i o, hget Gd i = some o → hget G i = some o) {o : AObj} (hown : o.own = true) (B : List Nat → Blk) (src : List Nat → Option (Nat × List Nat))
    (hb : ∀ p nd, o.node N p = some nd → (src p = none ∧ nd.n = 0 ∧ 0 < nd.sz ∧ B p = ⟨0, 0, nd.sz, 0, 0⟩) ∨ ∃ id0 p0, src p = some (id0, p0) ∧ NodeAt G id0 p0 nd true ∧ hget Gd id0 = none ∧ B p = ρ id0 p0)
    (hinj : ∀ p p' x, src p = some x → src p' = some x → p = p') :
    HeapRep (updR ρ N B) (N + 1) ((N, o) :: Gd) w ∧ ∀ b, Owns (updR ρ N B) ((N, o) :: Gd) b → Owns ρ G b := by
  have hρ := updR_lt ρ N B
  have hnone : hget Gd N = none := by
    cases h : hget Gd N with
    | none => rfl
    | some o => exact absurd (hH.keys N o (hsub _ _ h)) (Nat.lt_irrefl N)
  have hup : ∀ {i p nd own}, NodeAt Gd i p nd own → NodeAt G i p nd own ∧ i < N := fun {i p nd own} hx => by
    obtain ⟨o, h1, h2, h3⟩ := hx.ex
    exact ⟨⟨⟨o, hsub _ _ h1, h2, h3⟩⟩, hH.keys _ _ (hsub _ _ h1)⟩
  refine ⟨((hH.sub hsub).mono (Nat.le_succ N) hρ).put (Nat.lt_succ_self N) hnone hown fun p nd hnd => ?_, fun b hb' => ?_⟩
  · simp only [updR_at]
    rcases hb p nd hnd with ⟨h0, h1, h2, h3⟩ | ⟨id0, p0, hs, hn, hg, hB⟩
    · rw [h3]
      exact ⟨rfl, h1.symm, h2, fun i hi => by omega, .inl ⟨rfl, h1⟩, fun h => absurd h (Nat.lt_irrefl 0)⟩
    · obtain ⟨s1, s2, s3⟩ := hH.shape _ _ _ _ hn
      rw [hB]
      refine ⟨s1, s2, s3, fun i hi j hj => ?_, hH.ow _ _ _ hn, fun ht => ⟨fun p' nd' hnd' hne ht' => ?_, fun id' p' nd' own' hn' hs' => ?_⟩⟩
      · obtain ⟨v, q1, q2, q3⟩ := hH.rd _ _ _ _ hn i hi j hj
        exact ⟨v, q1, q2.mono (Nat.le_succ N) hρ, q3⟩
      · rcases hb p' nd' hnd' with ⟨_, _, _, h3⟩ | ⟨id1, p1, hs1, hn1, _, hB1⟩
        · rw [h3] at ht'; exact absurd ht' (Nat.lt_irrefl 0)
        · rw [hB1] at ht' ⊢
          refine hH.sep _ _ _ _ _ _ _ hn hn1 (fun e => hne ?_) ht (by simpa [Solid] using ht')
          obtain ⟨rfl, rfl⟩ := e
          exact hinj _ _ _ hs hs1
      · obtain ⟨hn1, hlt⟩ := hup hn'
        have e : updR ρ N B id' p' = ρ id' p' := by rw [hρ id' hlt]
        rw [e] at hs' ⊢
        refine hH.sep _ _ _ _ _ _ _ hn hn1 (fun e => ?_) ht hs'
        obtain ⟨o', q1, _⟩ := hn'.ex
        rw [← e.1, hg] at q1
        cases q1
  · obtain ⟨id, p, nd, hn, ht, rfl⟩ := hb'
    obtain ⟨o', h1, h2, h3⟩ := hn.ex
    rw [hget_cons] at h1
    split at h1
    · next he =>
      subst he
      injection h1 with h1
      subst h1
      rw [updR_at] at ht ⊢
      rcases hb p nd h2 with ⟨_, _, _, h⟩ | ⟨id0, p0, _, hn0, _, hB⟩
      · rw [h] at ht; exact absurd ht (Nat.lt_irrefl 0)
      · rw [hB] at ht ⊢; exact ⟨id0, p0, nd, hn0, ht, rfl⟩
    · have hlt := hH.keys _ _ (hsub _ _ h1)
      rw [hρ id hlt] at ht ⊢
      exact ⟨id, p, nd, ⟨⟨o', hsub _ _ h1, h2, h3⟩⟩, ht, rfl⟩

/-! ### A node that is written -/
theorem own_node (hH : HeapRep ρ N G w) {id : Nat} {p : List Nat} {nd : Node} (hn : NodeAt G id p nd true) (h0 : 0 < nd.n) :
    ∃ c t, w.heap[(ρ id p).b]? = some (.cells c t (0, 0)) ∧ c.size = (ρ id p).tot ∧ 0 < (ρ id p).tot := by
  rcases hH.ow id p nd hn with ⟨_, h⟩ | h
  · omega
  · exact h

theorem put_node (hH : HeapRep ρ N G w) {id : Nat} {p : List Nat} {o o' : AObj} {nd nd' : Node} (ho : hget G id = some o) (hown : o.own = true) (hown' : o'.own = true) (hnd : o.node id p = some nd) (hnd' : o'.node id p = some nd')
    (hoth : ∀ q, q ≠ p → o'.node id q = o.node id q) (hn : nd'.n = nd.n) (hsz : nd'.sz = nd.sz) (hpos : 0 < nd.n) {w' : World}
    (hf : FrameW (· = (ρ id p).b) w w') (hblk : ∃ c t, w'.heap[(ρ id p).b]? = some (.cells c t (0, 0)) ∧ c.size = (ρ id p).tot)
    (hcells : ∀ i, i < nd.n → ∀ j, j < nd.sz → ∃ u, w'.cell? ⟨(ρ id p).b, (ρ id p).o + (i * nd.sz + j), none⟩ = some u ∧ VR ρ N (nd'.cell i j) u ∧ u.oneCell' = true) :
    HeapRep ρ N (hset G id o') w' ∧ FrameW (Owns ρ G) w w' ∧ ∀ b, Owns ρ (hset G id o') b → Owns ρ G b := by
  have hN : NodeAt G id p nd true := ⟨⟨o, ho, hnd, hown⟩⟩
  obtain ⟨c0, t0, hb0, hc0, htot⟩ := own_node hH hN hpos
  obtain ⟨sh1, sh2, sh3⟩ := hH.shape id p nd true hN
  have hcl : ∀ {i q nd0 ow}, NodeAt (hset G id o') i q nd0 ow → (i = id ∧ q = p ∧ nd0 = nd' ∧ ow = true) ∨ (¬ (i = id ∧ q = p) ∧ NodeAt G i q nd0 ow) := fun {i q nd0 ow} hx => by
    obtain ⟨x, h1, h2, h3⟩ := hx.ex
    rw [hget_hset] at h1
    split at h1
    · next he =>
      subst he
      simp only [ho, Option.map_some, Option.some.injEq] at h1
      subst h1
      by_cases hq : q = p
      · subst hq
        rw [hnd'] at h2
        injection h2 with h2
        exact .inl ⟨rfl, rfl, h2.symm, h3.symm.trans hown'⟩
      · rw [hoth q hq] at h2
        exact .inr ⟨fun e => hq e.2, ⟨⟨o, ho, h2, by rw [hown, ← h3, hown']⟩⟩⟩
    · next he => exact .inr ⟨fun e => he e.1, ⟨⟨x, h1, h2, h3⟩⟩⟩
  have hne : ∀ {i q nd0 ow}, ¬ (i = id ∧ q = p) → NodeAt G i q nd0 ow → Solid (ρ i q) nd0 ow → w'.heap[(ρ i q).b]? = w.heap[(ρ i q).b]? := fun {i q nd0 ow} h1 h2 h3 =>
    hf.block _ (hH.lt h2 h3) (Ne.symm (hH.sep id p nd i q nd0 ow hN h2 (fun e => h1 ⟨e.1.symm, e.2.symm⟩) htot h3))
  obtain ⟨c, t, hb, hc⟩ := hblk
  refine ⟨⟨fun i x h => ?_, fun i q nd0 ow hx => ?_, fun i q nd0 ow hx a ha b hbb => ?_, fun i q nd0 hx => ?_, fun i q nd0 i' q' nd0' ow' hx hx' hd ht hs => ?_⟩, ⟨hf.os, hf.tape, hf.output, hf.size, fun k hk hno => hf.block k hk (fun e => hno ⟨id, p, nd, hN, htot, e.symm⟩)⟩, fun b hb => ?_⟩
  · rw [hget_hset] at h
    split at h
    · next he => subst he; exact hH.keys _ _ ho
    · exact hH.keys _ _ h
  · rcases hcl hx with ⟨rfl, rfl, rfl, rfl⟩ | ⟨_, h⟩
    · exact ⟨by rw [hsz, sh1], by rw [hn, sh2], by rw [hsz]; exact sh3⟩
    · exact hH.shape _ _ _ _ h
  · rcases hcl hx with ⟨rfl, rfl, rfl, rfl⟩ | ⟨h1, h⟩
    · rw [hsz] at hbb ⊢
      exact hcells a (by omega) b hbb
    · obtain ⟨v, q1, q2⟩ := hH.rd _ _ _ _ h a ha b hbb
      refine ⟨v, ?_, q2⟩
      rw [← q1]
      refine World.cell?_of_block (w := w) (hne h1 h ?_)
      cases ow with
      | false => simp only [Solid, Bool.false_eq_true, if_false]; exact Nat.mul_pos (by omega) (by omega)
      | true =>
        simp only [Solid, if_true]
        rcases hH.ow _ _ _ h with ⟨_, h0⟩ | ⟨_, _, _, _, h0⟩
        · omega
        · exact h0
  · rcases hcl hx with ⟨rfl, rfl, rfl, _⟩ | ⟨h1, h⟩
    · exact .inr ⟨c, t, hb, hc, htot⟩
    · rcases hH.ow _ _ _ h with h0 | ⟨c1, t1, h2, h3, h4⟩
      · exact .inl h0
      · exact .inr ⟨c1, t1, (hne h1 h (by simpa [Solid] using h4)).trans h2, h3, h4⟩
  · rcases hcl hx with ⟨rfl, rfl, rfl, _⟩ | ⟨h1, h⟩ <;> rcases hcl hx' with ⟨rfl, rfl, rfl, rfl⟩ | ⟨h1', h'⟩
    · exact absurd ⟨rfl, rfl⟩ hd
    · exact hH.sep _ _ _ _ _ _ _ hN h' hd htot hs
    · exact hH.sep _ _ _ _ _ _ _ h hN hd ht (by simpa [Solid] using hs)
    · exact hH.sep _ _ _ _ _ _ _ h h' hd ht hs
  · obtain ⟨i, q, nd0, hx, ht, rfl⟩ := hb
    rcases hcl hx with ⟨rfl, rfl, _, _⟩ | ⟨_, h⟩
    · exact ⟨_, _, nd, hN, ht, rfl⟩
    · exact ⟨i, q, nd0, h, ht, rfl⟩

/-- The run of a store into a node of one's own. -/
theorem store_node (hT : TblOK P T) (hH : HeapRep ρ N G w) {t : Nat} {ti : TI} (ht : tget T t = some ti) {id : Nat} {p : List Nat} {o o' : AObj} {nd nd' : Node} (ho : hget G id = some o) (hown : o.own = true) (hown' : o'.own = true) (hnd : o.node id p = some nd) (hnd' : o'.node id p = some nd')
    (hoth : ∀ q, q ≠ p → o'.node id q = o.node id q) (hn : nd'.n = nd.n) (hsz : nd'.sz = nd.sz) {i j : Nat} {us : List Value} {vv : Value} (hvv : vv.cells = us.toArray) (hus : us.length = ti.size) (hi : i < nd.n) (hj : j + us.length ≤ nd.sz) (h1 : ∀ u ∈ us, u.oneCell' = true)
    (hcell : ∀ a b, a < nd.n → b < nd.sz → if a = i ∧ j ≤ b ∧ b < j + us.length then ∃ u, us[b - j]? = some u ∧ VR ρ N (nd'.cell a b) u else ∀ u, VR ρ N (nd.cell a b) u → VR ρ N (nd'.cell a b) u) :
    ∃ w', (Instr.storeAt t (.pointer (some ⟨(ρ id p).b, (ρ id p).o + (i * nd.sz + j), none⟩)) vv).run P w = .ok () w' ∧ HeapRep ρ N (hset G id o') w' ∧ FrameW (Owns ρ G) w w' ∧ ∀ b, Owns ρ (hset G id o') b → Owns ρ G b := by
  have hN : NodeAt G id p nd true := ⟨⟨o, ho, hnd, hown⟩⟩
  obtain ⟨c0, t0, hb0, hc0, htot⟩ := own_node hH hN (by omega)
  have hrd : ∀ a, a < nd.n → ∀ b, b < nd.sz → ∃ u, c0[(ρ id p).o + (a * nd.sz + b)]? = some u ∧ VR ρ N (nd.cell a b) u ∧ u.oneCell' = true := fun a ha b hbb => by
    obtain ⟨u, k1, k2⟩ := hH.rd id p nd true hN a ha b hbb
    rw [cell_of_row w _ _ c0 t0 (0, 0) hb0] at k1
    exact ⟨u, k1, k2⟩
  obtain ⟨c', hc1, hc2, hc3⟩ := setCells_block (ρ id p).b t0 (0, 0) us ((ρ id p).o + (i * nd.sz + j)) w c0 hb0
  have hwr : ∀ d, d < us.length → ∃ u, c0[(ρ id p).o + (i * nd.sz + j) + d]? = some u := fun d hd => by
    obtain ⟨u, k1, _⟩ := hrd i hi (j + d) (by omega)
    exact ⟨u, by rw [← k1]; congr 1; omega⟩
  have hput := put_node hH ho hown hown' hnd hnd' hoth hn hsz (w' := w.setCells (ρ id p).b ((ρ id p).o + (i * nd.sz + j)) us) (by omega) (setCells_frame _ _ _ _) ⟨c', t0, hc1, hc2.trans hc0⟩ (fun a ha b hbb => by
    obtain ⟨u, k1, k2, k3⟩ := hrd a ha b hbb
    rw [cell_of_row _ _ _ c' t0 (0, 0) hc1, hc3]
    have hsz0 : (ρ id p).o + (a * nd.sz + b) < c0.size := (Array.getElem?_eq_some_iff.1 k1).1
    have hce := hcell a b ha hbb
    by_cases hin : a = i ∧ j ≤ b ∧ b < j + us.length
    · rw [if_pos hin] at hce
      obtain ⟨rfl, hb1, hb2⟩ := hin
      rw [if_pos ⟨by omega, by omega, hsz0⟩]
      obtain ⟨x, x1, x2⟩ := hce
      exact ⟨x, by rw [← x1]; congr 1; omega, x2, h1 x (List.mem_of_getElem? x1)⟩
    · rw [if_neg hin] at hce
      have : ¬ ((ρ id p).o + (i * nd.sz + j) ≤ (ρ id p).o + (a * nd.sz + b) ∧ (ρ id p).o + (a * nd.sz + b) < (ρ id p).o + (i * nd.sz + j) + us.length ∧ (ρ id p).o + (a * nd.sz + b) < c0.size) := by
        rintro ⟨e1, e2, _⟩
        apply hin
        have hai : a = i := by
          rcases Nat.lt_trichotomy a i with hlt | rfl | hlt
          · have := Nat.mul_le_mul_right nd.sz (show a + 1 ≤ i by omega)
            rw [Nat.add_mul] at this
            omega
          · rfl
          · have := Nat.mul_le_mul_right nd.sz (show i + 1 ≤ a by omega)
            rw [Nat.add_mul] at this
            omega
        subst hai
        exact ⟨rfl, by omega, by omega⟩
      rw [if_neg this]
      exact ⟨u, k1, hce u k2, k3⟩)
  refine ⟨_, ?_, hput⟩
  obtain ⟨i0, z, hi0, hi1, _⟩ := (hT _ _ ht).info
  have hrun := run_storeCells_cells (P := P) (ρ id p).b ((ρ id p).o + (i * nd.sz + j)) us 0 w (fun d hd => by
      obtain ⟨u, hu⟩ := hwr d hd
      rw [cell_of_row w _ _ c0 t0 (0, 0) hb0]
      simp only [Nat.add_zero]
      rw [hu]; rfl) (fun d _ => frozen_of_row w _ _ c0 t0 hb0) h1
  simp only [Nat.add_zero] at hrun
  simp only [Instr.storeAt, Instr.sureAddr, storeVar, Sem.run_bind, Sem.run_pure, Result.andThen_ok, run_sizeOf hi0, hvv]
  rw [if_neg (by simp; omega)]
  simpa using hrun

/-! ### Rows of an object of rows -/
/-- A new row (none: the empty one) in the y-th place. -/
def rowIn (o : AObj) (y : Nat) (f : Option Flat) (K : AObj → Prop) : Prop :=
  match o with
  | .nestI own k xss => match f with
    | none => K (.nestI own k (xss.set y []))
    | some f => match f with
      | .ints k' xs => bif k == k' then K (.nestI own k (xss.set y xs)) else False
      | _ => False
  | .nestR2 own xss => match f with
    | none => K (.nestR2 own (xss.set y []))
    | some f => match f with
      | .r2 xs => K (.nestR2 own (xss.set y xs))
      | _ => False
  | .flat _ _ => False
theorem lgetD_set_ne {α : Type} (xs : List α) (i a : Nat) (x d : α) (h : a ≠ i) : (xs.set i x).getD a d = xs.getD a d := by
  simp [List.getD, List.getElem?_set, Ne.symm h]
theorem lgetD_set_eq {α : Type} (xs : List α) (i : Nat) (x d : α) (h : i < xs.length) : (xs.set i x).getD i d = x := by
  simp [List.getD, h]
theorem rowIn_spec {o : AObj} {y : Nat} {f : Option Flat} {K : AObj → Prop} (h : rowIn o y f K) : ∃ o', K o' ∧ o'.own = o.own ∧
    (∀ id id' q, q ≠ [y] → o'.node id q = o.node id' q) ∧ (∀ id nd, o'.node id [y] = some nd → match f with
      | none => nd.n = 0 ∧ 0 < nd.sz
      | some f => nd = f.node) ∧ (∀ id nd, o.node id [y] = some nd → ∃ nd', o'.node id [y] = some nd') := by
  cases o with
  | flat _ _ => exact h.elim
  | nestI own k xss =>
    simp only [rowIn] at h
    have hne : ∀ (zs : List Int) (id id' : Nat) (q : List Nat), q ≠ [y] → (AObj.nestI own k (xss.set y zs)).node id q = (AObj.nestI own k xss).node id' q := fun zs id id' q hq => by
      match q with
      | [] => rfl
      | [a] =>
        have ha : a ≠ y := fun e => hq (by rw [e])
        simp only [AObj.node, List.length_set, lgetD_set_ne _ _ _ _ _ ha]
      | _ :: _ :: _ => rfl
    have hex : ∀ (zs : List Int) (id : Nat) (nd : Node), (AObj.nestI own k xss).node id [y] = some nd → ∃ nd', (AObj.nestI own k (xss.set y zs)).node id [y] = some nd' := fun zs id nd hn => by
      simp only [AObj.node, List.length_set] at hn ⊢
      split at hn
      · next h => exact ⟨_, if_pos h⟩
      · cases hn
    have hat : ∀ (zs : List Int) (id : Nat) (nd : Node), (AObj.nestI own k (xss.set y zs)).node id [y] = some nd → nd = (Flat.ints k zs).node := fun zs id nd hn => by
      simp only [AObj.node, List.length_set] at hn
      split at hn
      · next h => injection hn with hn; rw [← hn, lgetD_set_eq _ _ _ _ h]
      · cases hn
    cases f with
    | none => exact ⟨_, h, rfl, hne [], fun id nd hn => by rw [hat [] id nd hn]; exact ⟨rfl, Nat.zero_lt_one⟩, hex []⟩
    | some f =>
      cases f <;> simp only at h
      rename_i k' xs
      cases hb : k == k' with
      | false => simp [hb] at h
      | true =>
        have : k = k' := by simpa using hb
        subst this
        simp only [beq_self_eq_true, cond_true] at h
        exact ⟨_, h, rfl, hne xs, fun id nd hn => hat xs id nd hn, hex xs⟩
  | nestR2 own xss =>
    simp only [rowIn] at h
    have hne : ∀ (zs : List R2) (id id' : Nat) (q : List Nat), q ≠ [y] → (AObj.nestR2 own (xss.set y zs)).node id q = (AObj.nestR2 own xss).node id' q := fun zs id id' q hq => by
      match q with
      | [] => rfl
      | [a] =>
        have ha : a ≠ y := fun e => hq (by rw [e])
        simp only [AObj.node, List.length_set, lgetD_set_ne _ _ _ _ _ ha]
      | _ :: _ :: _ => rfl
    have hex : ∀ (zs : List R2) (id : Nat) (nd : Node), (AObj.nestR2 own xss).node id [y] = some nd → ∃ nd', (AObj.nestR2 own (xss.set y zs)).node id [y] = some nd' := fun zs id nd hn => by
      simp only [AObj.node, List.length_set] at hn ⊢
      split at hn
      · next h => exact ⟨_, if_pos h⟩
      · cases hn
    have hat : ∀ (zs : List R2) (id : Nat) (nd : Node), (AObj.nestR2 own (xss.set y zs)).node id [y] = some nd → nd = (Flat.r2 zs).node := fun zs id nd hn => by
      simp only [AObj.node, List.length_set] at hn
      split at hn
      · next h => injection hn with hn; rw [← hn, lgetD_set_eq _ _ _ _ h]
      · cases hn
    cases f with
    | none => exact ⟨_, h, rfl, hne [], fun id nd hn => by rw [hat [] id nd hn]; exact ⟨rfl, Nat.zero_lt_two⟩, hex []⟩
    | some f =>
      cases f <;> simp only at h
      rename_i xs
      exact ⟨_, h, rfl, hne xs, fun id nd hn => hat xs id nd hn, hex xs⟩
/-- An object of rows has no other nodes. -/
def AObj.nest : AObj → Bool
  | .flat _ _ => false
  | _ => true
theorem nest_nodes {o : AObj} (h : o.nest = true) : ∀ id q nd, o.node id q = some nd → ∃ a, q = [a] := by
  intro id q nd hn
  cases o with
  | flat _ _ => cases h
  | nestI _ _ _ =>
    match q with
    | [] => simp [AObj.node] at hn
    | [a] => exact ⟨a, rfl⟩
    | _ :: _ :: _ => simp [AObj.node] at hn
  | nestR2 _ _ =>
    match q with
    | [] => simp [AObj.node] at hn
    | [a] => exact ⟨a, rfl⟩
    | _ :: _ :: _ => simp [AObj.node] at hn
theorem rowIn_nest {o : AObj} {y : Nat} {f : Option Flat} {K : AObj → Prop} (h : rowIn o y f K) : rowIn o y f fun o' => K o' ∧ o'.nest = true := by
  cases o with
  | flat _ _ => exact h.elim
  | nestI own k xss =>
    simp only [rowIn] at h ⊢
    cases f with
    | none => exact ⟨h, rfl⟩
    | some f =>
      cases f <;> simp only at h ⊢
      rename_i k' xs
      cases hb : k == k' with
      | false => simp [hb] at h
      | true => simp only [hb, cond_true] at h ⊢; exact ⟨h, rfl⟩
  | nestR2 own xss =>
    simp only [rowIn] at h ⊢
    cases f with
    | none => exact ⟨h, rfl⟩
    | some f =>
      cases f <;> simp only at h ⊢
      exact ⟨h, rfl⟩

end
end Go.Sx
