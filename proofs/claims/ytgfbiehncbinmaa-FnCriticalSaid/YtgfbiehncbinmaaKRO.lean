/-
  A row of an own slice of slices, taken out for a while: the slice's cells then name two objects.
-/
import Derived.Test.YtgfbiehncbinmaaSd
namespace Go.Sx
set_option linter.unusedVariables false
set_option linter.unusedSimpArgs false
set_option maxRecDepth 100000
set_option maxHeartbeats 8000000
open Go
open Go.RowKit

section
variable {P : Program} {ρ : Rho} {N : Nat} {G : Heap} {w : World}

theorem forceK_mk {v : AV} {K : AV → Prop} (h : K v) : forceK v K := by cases v <;> exact h
theorem rowK_mk : ∀ {l : List AV} {K : List AV → Prop}, K l → rowK l K
  | [], _, h => h
  | _ :: _, K, h => forceK_mk (rowK_mk (K := fun r' => K (_ :: r')) h)
theorem rowsK_mk : ∀ {l : List (List AV)} {K : List (List AV) → Prop}, K l → rowsK l K
  | [], _, h => h
  | _ :: _, K, h => rowK_mk (rowsK_mk (K := fun r' => K (_ :: r')) h)
theorem avRK_mk {l : List (List AV)} {K : List (List AV) → Prop} (h : K l) : avRK l K := (avRK_eq l K).symm ▸ h
/-- The row beside the others. -/
theorem HeapRep.splitRow (hH : HeapRep ρ N G w) {M y : Nat} {o oy : AObj} {fl : Flat} (ho : hget G M = some o) (hown : o.own = true) (hnd : o.node M [y] = some fl.node) (hy : rowIn o y none fun o' => o' = oy) :
    ∃ ρ' : Rho, (∀ id, id < N → ρ' id = ρ id) ∧ ρ' (N + 1) [] = ρ M [y] ∧ (∀ i, i ≠ y → ρ' N [i] = ρ M [i]) ∧ HeapRep ρ' (N + 1 + 1) ((N + 1, .flat true fl) :: (N, oy) :: delL [M] G) w ∧ ∀ b, Owns ρ' ((N + 1, .flat true fl) :: (N, oy) :: delL [M] G) b → Owns ρ G b := by
  have hMN := hH.keys _ _ ho
  have hn : NodeAt G M [y] fl.node true := ⟨⟨o, ho, hnd, hown⟩⟩
  obtain ⟨oy', ⟨rfl, hnest⟩, hown', hoth, hat, _⟩ := rowIn_spec (rowIn_nest hy)
  obtain ⟨sz, hsz, hszs⟩ := nest_sz hnest
  have hsub : ∀ i x, hget (delL [M] G) i = some x → hget G i = some x := fun i x hx => (delL_sub [M] G i x hx).1
  have hMd : hget (delL [M] G) M = none := by rw [hget_delL]; simp [memB]
  obtain ⟨hH1, hO1⟩ := hH.take hsub (o := oy') (hown'.trans hown) (nest_plain hnest) (rowB ρ M y none sz) (rowS M y none) (fun q nd hq => by
    obtain ⟨a, rfl⟩ := nest_nodes hnest N q nd hq
    by_cases ha : a = y
    · subst ha
      have h4 := hat N nd hq
      simp only at h4
      simp only [rowS, rowB, if_true]
      exact .inl ⟨rfl, h4.1, h4.2, by rw [hszs N [a] nd hq]⟩
    · simp only [rowS, rowB, if_neg ha]
      refine .inr ⟨M, [a], rfl, ⟨⟨o, ho, ?_, hown⟩⟩, hMd, rfl⟩
      rw [← hoth N M [a] (by simpa using ha)]
      exact hq) (fun q q' x h1 h2 => by
    match q, q' with
    | [a], [b] =>
      simp only [rowS, Option.map_none] at h1 h2
      split at h1
      · cases h1
      · split at h2
        · cases h2
        · rw [← h1] at h2; simp at h2; rw [h2]
    | [], _ => simp [rowS] at h1
    | _ :: _ :: _, _ => simp [rowS] at h1
    | [_], [] => simp [rowS] at h2
    | [_], _ :: _ :: _ => simp [rowS] at h2)
  have hρ1 := updR_lt ρ N (rowB ρ M y none sz)
  -- the row beside it
  have hρ2 := updR_lt (updR ρ N (rowB ρ M y none sz)) (N + 1) (fun _ => ρ M [y])
  have hρ : ∀ id, id < N → updR (updR ρ N (rowB ρ M y none sz)) (N + 1) (fun _ => ρ M [y]) id = ρ id := fun id hid => (hρ2 id (by omega)).trans (hρ1 id hid)
  obtain ⟨s1, s2, s3⟩ := hH.shape _ _ _ _ hn
  have hnone : hget ((N, oy') :: delL [M] G) (N + 1) = none := by
    cases hh : hget ((N, oy') :: delL [M] G) (N + 1) with
    | none => rfl
    | some x => exact absurd (hH1.keys _ _ hh) (Nat.lt_irrefl _)
  have hH2 : HeapRep (updR (updR ρ N (rowB ρ M y none sz)) (N + 1) (fun _ => ρ M [y])) (N + 1 + 1) ((N + 1, .flat true fl) :: (N, oy') :: delL [M] G) w := (hH1.mono (Nat.le_succ (N + 1)) hρ2).put (Nat.lt_succ_self (N + 1)) hnone rfl (fun p nd hp => by
    cases p with
    | cons _ _ => simp [AObj.node] at hp
    | nil =>
      simp only [AObj.node, Option.some.injEq] at hp
      subst hp
      simp only [updR_at]
      refine ⟨s1, s2, s3, fun i hi j hj => ?_, hH.ow _ _ _ hn, fun ht => ⟨fun p' nd' hnd' hne => ?_, fun id' p' nd' own' hn' hs' => ?_⟩⟩
      · obtain ⟨v, q1, q2, q3⟩ := hH.rd _ _ _ _ hn i hi j hj
        exact ⟨v, q1, q2.mono (by omega) hρ, q3⟩
      · cases p' with
        | nil => exact absurd rfl hne
        | cons _ _ => simp [AObj.node] at hnd'
      · obtain ⟨x, h1, h2, h3⟩ := hn'.ex
        have hlt := hH1.keys _ _ h1
        rw [hρ2 id' hlt] at hs' ⊢
        rw [hget_cons] at h1
        split at h1
        · next he =>
          subst he
          injection h1 with h1
          subst h1
          rw [updR_at] at hs' ⊢
          obtain ⟨a, rfl⟩ := nest_nodes hnest _ _ _ h2
          have : own' = true := h3.symm.trans (hown'.trans hown)
          subst this
          simp only [Solid, if_true] at hs'
          by_cases ha : a = y
          · subst ha; simp [rowB] at hs'
          · simp only [rowB, if_neg ha] at hs' ⊢
            refine hH.sep M [y] _ M [a] nd' true hn ⟨⟨o, ho, ?_, hown⟩⟩ (fun e => ha ?_) ht (by simpa [Solid] using hs')
            · rw [← hoth id' M [a] (by simpa using ha)]; exact h2
            · have := e.2; simp at this; exact this.symm
        · have hlt' := hH.keys _ _ (hsub _ _ h1)
          rw [hρ1 id' hlt'] at hs' ⊢
          refine hH.sep M [y] _ id' p' nd' own' hn ⟨⟨x, hsub _ _ h1, h2, h3⟩⟩ (fun e => ?_) ht hs'
          rw [← e.1, hMd] at h1; cases h1)
  have hO2 : ∀ b, Owns (updR (updR ρ N (rowB ρ M y none sz)) (N + 1) (fun _ => ρ M [y])) ((N + 1, .flat true fl) :: (N, oy') :: delL [M] G) b → Owns ρ G b := fun b hb => by
    obtain ⟨id, p, nd, hx, ht, rfl⟩ := hb
    obtain ⟨x, h1, h2, h3⟩ := hx.ex
    rw [hget_cons] at h1
    split at h1
    · next he =>
      subst he
      injection h1 with h1
      subst h1
      rw [updR_at] at ht ⊢
      exact ⟨M, [y], _, hn, ht, rfl⟩
    · have hlt := hH1.keys _ _ h1
      rw [hρ2 id hlt] at ht ⊢
      exact hO1 _ ⟨id, p, nd, ⟨⟨x, h1, h2, h3⟩⟩, ht, rfl⟩
  refine ⟨_, hρ, updR_at _ _ _ _, fun i hi => ?_, hH2, hO2⟩
  rw [hρ2 N (Nat.lt_succ_self N), updR_at]
  simp [rowB, hi]
def hdR (A B n y : Nat) : List (List AV) := (List.range n).map fun i => [if i = y then .sl B [] else .sl A [i]]
theorem hdR_len (A B n y : Nat) : (hdR A B n y).length = n := by simp [hdR]
theorem hdR_at {A B n y i : Nat} (h : i < n) : (hdR A B n y).getD i [] = [if i = y then .sl B [] else .sl A [i]] := by simp [hdR, List.getD, h]
theorem lrowK_mk {α : Type} : ∀ {xs : List α} {i : Nat} {x : α} {K : α → Prop}, xs[i]? = some x → K x → lrowK xs i K
  | [], _, _, _, h, _ => by simp at h
  | y :: _, 0, x, K, h, k => by
    obtain rfl : y = x := by simpa using h
    exact k
  | _ :: r, i + 1, _, _, h, k => lrowK_mk (xs := r) (by simpa using h) k
theorem hdR_y {A B n y : Nat} (h : y < n) : (hdR A B n y)[y]? = some [.sl B []] := by simp [hdR, h]
theorem hdR_set_len {A B n y : Nat} {x : List AV} : ((hdR A B n y).set y x).length = n := by rw [List.length_set, hdR_len]
theorem hdR_set_y {A B n y : Nat} {x : List AV} (h : y < n) : ((hdR A B n y).set y x).getD y [] = x := by
  rw [List.getD, List.getElem?_set, if_pos rfl, if_pos (by rw [hdR_len]; exact h)]; rfl
theorem hdR_set_o {A B n y : Nat} {x : List AV} (i : Nat) (h : i < n) (hn : i ≠ y) : ((hdR A B n y).set y x).getD i [] = [.sl A [i]] := by
  rw [List.getD, List.getElem?_set, if_neg (fun q => hn q.symm), ← List.getD_eq_getElem?_getD, hdR_at h, if_neg hn]
theorem HeapRep.openRow (hH : HeapRep ρ N G w) {H M n y : Nat} {k : IntKind} {xss : List (List Int)} (hh : hget G H = some (.flat true (.rows M 0 n))) (hm : hget G M = some (.nestI true k xss)) (hn : n = xss.length) (hy : y < n) :
    ∃ ρ' : Rho, (∀ id, id < N → ρ' id = ρ id) ∧ HeapRep ρ' (N + 1 + 1) ((H, .flat true (.gen 1 (hdR N (N + 1) n y))) :: (N + 1, .flat true (.ints k (xss.getD y []))) :: (N, .nestI true k (xss.set y [])) :: delL [H, M] G) w ∧ ∀ b, Owns ρ' ((H, .flat true (.gen 1 (hdR N (N + 1) n y))) :: (N + 1, .flat true (.ints k (xss.getD y []))) :: (N, .nestI true k (xss.set y [])) :: delL [H, M] G) b → Owns ρ G b := by
  have hHN := hH.keys _ _ hh
  have hMN := hH.keys _ _ hm
  have hHM : H ≠ M := fun e => by rw [e, hm] at hh; cases hh
  obtain ⟨ρ', h1, h2, h3, h4, h5⟩ := hH.splitRow (M := M) (y := y) (fl := .ints k (xss.getD y [])) hm rfl (by simp only [AObj.node]; rw [if_pos (by omega)]) (oy := .nestI true k (xss.set y [])) (by simp only [rowIn])
  obtain ⟨k1, k2⟩ := h4.recell (id := H) (o := .flat true (.rows M 0 n)) (o' := .flat true (.gen 1 (hdR N (N + 1) n y))) (by rw [hget_cons, if_neg (by omega), hget_cons, if_neg (by omega), hget_delL, if_neg (by simp [memB]; omega)]; exact hh) rfl (fun p nd' hp => by
    cases p with
    | cons _ _ => simp [AObj.node] at hp
    | nil =>
      simp only [AObj.node, Option.some.injEq] at hp
      subst hp
      refine ⟨_, rfl, by simp [Flat.node, Flat.n, hdR_len], rfl, rfl, rfl, fun i hi j v hv => ?_⟩
      simp only [Flat.node, Flat.n] at hi
      simp only [Flat.node, Flat.cell, offs] at hv ⊢
      rw [hdR_at hi]
      cases j with
      | zero =>
        simp only [List.getD_cons_zero]
        simp only [VR] at hv
        rw [h1 M hMN] at hv
        by_cases e : i = y
        · subst e
          rw [if_pos rfl]
          simp only [VR]
          rw [h2]
          exact ⟨by omega, hv.2⟩
        · rw [if_neg e]
          simp only [VR]
          rw [h3 i e]
          exact ⟨by omega, hv.2⟩
      | succ j => simp [VR]) (Gd := (N + 1, .flat true (.ints k (xss.getD y []))) :: (N, .nestI true k (xss.set y [])) :: delL [H, M] G) (fun a x hx => by
    rw [hget_cons] at hx ⊢
    split at hx
    · next he => rw [if_pos he]; exact hx
    · next he =>
      rw [if_neg he]
      rw [hget_cons] at hx ⊢
      split at hx
      · next he => rw [if_pos he]; exact hx
      · next he =>
        rw [if_neg he]
        rw [hget_delL] at hx ⊢
        split at hx
        · cases hx
        · next hm' =>
          rw [if_neg (by simp [memB] at hm' ⊢; omega)]
          exact hx)
  exact ⟨ρ', h1, k1, fun b hb => h5 b (k2 b hb)⟩
theorem ACall.openRow {f : Nat} {args : List AV} {K : AV → Nat → Heap → Prop} {H M n y : Nat} {k : IntKind} {xss : List (List Int)} (hh : hget G H = some (.flat true (.rows M 0 n))) (hm : hget G M = some (.nestI true k xss)) (hn : n = xss.length) (hy : y < n)
    (h : ACall P f args (N + 1 + 1) ((H, .flat true (.gen 1 (hdR N (N + 1) n y))) :: (N + 1, .flat true (.ints k (xss.getD y []))) :: (N, .nestI true k (xss.set y [])) :: delL [H, M] G) K) : ACall P f args N G K := by
  refine ⟨h.ok, fun ρ w cargs hH hv => ?_⟩
  obtain ⟨ρ', h1, h2, h3⟩ := hH.openRow hh hm hn hy
  refine (h.run _ w cargs h2 (hv.mono (by omega) h1)).mono fun e w' ⟨v, he, hout⟩ => ⟨v, he, ?_⟩
  exact Out.ghost (by omega) h1 h3 hout
theorem HeapRep.recell1 (hH : HeapRep ρ N G w) {id : Nat} {o o' : AObj} (ho : hget G id = some o) (hown : o'.own = o.own)
    (hnd : ∀ p nd', o'.node id p = some nd' → ∃ nd, o.node id p = some nd ∧ nd.n = nd'.n ∧ nd.sz = nd'.sz ∧ nd.x = nd'.x ∧ nd.ty = nd'.ty ∧ ∀ i, i < nd.n → ∀ j, j < nd.sz → ∀ v, VR ρ N (nd.cell i j) v → VR ρ N (nd'.cell i j) v)
    {Gd : Heap} (hsub : ∀ i o, hget Gd i = some o → hget G i = some o) :
    HeapRep ρ N ((id, o') :: Gd) w ∧ ∀ b, Owns ρ ((id, o') :: Gd) b → Owns ρ G b := by
  have hc : ∀ {i p nd own}, NodeAt ((id, o') :: Gd) i p nd own → ∃ nd0, NodeAt G i p nd0 own ∧ nd0.n = nd.n ∧ nd0.sz = nd.sz ∧ nd0.x = nd.x ∧ nd0.ty = nd.ty ∧ ∀ a, a < nd0.n → ∀ j, j < nd0.sz → ∀ v, VR ρ N (nd0.cell a j) v → VR ρ N (nd.cell a j) v := fun {i p nd own} hx => by
    obtain ⟨x, h1, h2, h3⟩ := hx.ex
    rw [hget_cons] at h1
    split at h1
    · next he =>
      injection h1 with h1
      subst h1 he
      obtain ⟨nd0, q1, q2⟩ := hnd p nd h2
      exact ⟨nd0, ⟨⟨o, ho, q1, by rw [← hown]; exact h3⟩⟩, q2⟩
    · exact ⟨nd, ⟨⟨x, hsub _ _ h1, h2, h3⟩⟩, rfl, rfl, rfl, rfl, fun _ _ _ _ _ h => h⟩
  refine ⟨⟨fun i x h => ?_, fun i p nd own hx => ?_, fun i p nd own hx a ha b hb => ?_, fun i p nd hx => ?_, fun i p nd i' p' nd' own' hx hx' hd ht hs => ?_⟩, fun b hb => ?_⟩
  · rw [hget_cons] at h
    split at h
    · next he => subst he; exact hH.keys _ _ ho
    · exact hH.keys _ _ (hsub _ _ h)
  · obtain ⟨nd0, q, e1, e2, _⟩ := hc hx
    obtain ⟨s1, s2, s3⟩ := hH.shape _ _ _ _ q
    exact ⟨by omega, by omega, by omega⟩
  · obtain ⟨nd0, q, e1, e2, _, _, hv⟩ := hc hx
    obtain ⟨v, q1, q2, q3⟩ := hH.rd _ _ _ _ q a (by omega) b (by omega)
    rw [e2] at q1
    exact ⟨v, q1, hv a (by omega) b (by omega) v q2, q3⟩
  · obtain ⟨nd0, q, e1, e2, e3, e4, _⟩ := hc hx
    rcases hH.ow _ _ _ q with ⟨h1, h2, h3⟩ | ⟨ob, h1, h2, h3⟩
    · exact .inl ⟨h1, by omega, by rw [← e3]; exact h3⟩
    · exact .inr ⟨ob, h1, by rw [← Node.blk_congr e3 e4]; exact h2, h3⟩
  · obtain ⟨nd0, q, _⟩ := hc hx
    obtain ⟨nd1, q', e1, e2, _⟩ := hc hx'
    exact hH.sep _ _ _ _ _ _ _ q q' hd ht (by simpa only [Solid, e1, e2] using hs)
  · obtain ⟨i, p, nd, hn, ht, rfl⟩ := hb
    obtain ⟨nd0, q, _⟩ := hc hn
    exact ⟨i, p, nd0, q, ht, rfl⟩

/-- And back again. -/
theorem Conv.closeRow {H A B y n : Nat} {k : IntKind} {xss : List (List Int)} {r : List Int} {hds : List (List AV)} (hh : hget G H = some (.flat true (.gen 1 hds))) (ha : hget G A = some (.nestI true k xss)) (hb : hget G B = some (.flat true (.ints k r))) (hl : hds.length = n) (hn : n = xss.length) (hy : y < n) (hc : hds.getD y [] = [.sl B []]) (ho : ∀ i, i < n → i ≠ y → hds.getD i [] = [.sl A [i]]) (hAB : H ≠ A ∧ H ≠ B ∧ A ≠ B) :
    Conv N G (N + 1) ((H, .flat true (.rows N 0 n)) :: (N, .nestI true k (xss.set y r)) :: delL [H, A, B] G) := by
  refine ⟨fun ρ w hH => ⟨Nat.le_succ N, ?_⟩⟩
  obtain ⟨d1, d2, d3⟩ := hAB
  have hHN := hH.keys _ _ hh
  have hAN := hH.keys _ _ ha
  have hBN := hH.keys _ _ hb
  have hsub : ∀ i x, hget (delL [A, B] G) i = some x → hget G i = some x := fun i x hx => (delL_sub _ G i x hx).1
  have hAd : hget (delL [A, B] G) A = none := by rw [hget_delL]; simp [memB]
  have hBd : hget (delL [A, B] G) B = none := by rw [hget_delL]; simp [memB]
  have hset : ∀ a, a ≠ y → (xss.set y r).getD a [] = xss.getD a [] := fun a h => by
    rw [List.getD, List.getD, List.getElem?_set, if_neg (fun e => h e.symm)]
  have hsety : (xss.set y r).getD y [] = r := by
    rw [List.getD, List.getElem?_set, if_pos rfl, if_pos (by omega)]; rfl
  obtain ⟨hH1, hO1⟩ := hH.take hsub (o := .nestI true k (xss.set y r)) rfl rfl (rowB ρ A y (some B) 1) (rowS A y (some B)) (fun q nd hq => by
    match q with
    | [a] =>
      simp only [AObj.node] at hq
      split at hq
      case isFalse => cases hq
      rename_i hlt
      rw [List.length_set] at hlt
      simp only [Option.some.injEq] at hq
      subst hq
      right
      by_cases e : a = y
      · subst e
        refine ⟨B, [], by simp [rowS], ?_, hBd, by simp [rowB]⟩
        rw [hsety]
        exact NodeAt.of_get hb rfl
      · refine ⟨A, [a], by simp [rowS, e], ⟨⟨_, ha, ?_, rfl⟩⟩, hAd, by simp [rowB, e]⟩
        simp only [AObj.node]
        rw [if_pos hlt, hset a e]
    | [] => simp [AObj.node] at hq
    | _ :: _ :: _ => simp [AObj.node] at hq) (fun q q' x h1 h2 => by
    match q, q' with
    | [a], [b] =>
      simp only [rowS] at h1 h2
      split at h1 <;> split at h2
      · subst_vars; rfl
      · simp only [Option.map_some, Option.some.injEq] at h1 h2
        rw [← h1] at h2
        simp at h2
      · simp only [Option.map_some, Option.some.injEq] at h1 h2
        rw [← h1] at h2
        simp at h2
      · simp only [Option.some.injEq] at h1 h2
        rw [← h1] at h2
        simp only [Prod.mk.injEq, List.cons.injEq, and_true, true_and] at h2
        rw [h2]
    | [], _ => simp [rowS] at h1
    | _ :: _ :: _, _ => simp [rowS] at h1
    | [_], [] => simp [rowS] at h2
    | [_], _ :: _ :: _ => simp [rowS] at h2)
  have hρ := updR_lt ρ N (rowB ρ A y (some B) 1)
  obtain ⟨k1, k2⟩ := hH1.recell1 (id := H) (o := .flat true (.gen 1 hds)) (o' := .flat true (.rows N 0 n)) (by rw [hget_cons, if_neg (by omega), hget_delL, if_neg (by simp [memB]; omega)]; exact hh) rfl (fun p nd' hp => by
    cases p with
    | cons _ _ => simp [AObj.node] at hp
    | nil =>
      simp only [AObj.node, Option.some.injEq] at hp
      subst hp
      refine ⟨_, rfl, by simpa [Flat.node, Flat.n] using hl, rfl, rfl, rfl, fun i hi j hj v hv => ?_⟩
      simp only [Flat.node, Flat.n] at hi
      simp only [Flat.node, Flat.cell, offs] at hv ⊢
      obtain rfl : j = 0 := by simp only [Flat.node, Flat.sz] at hj; omega
      rw [hl] at hi
      by_cases e : i = y
      · subst e
        rw [hc, List.getD_cons_zero] at hv
        simp only [VR, updR_at] at hv ⊢
        rw [hρ B hBN] at hv
        exact ⟨Nat.lt_succ_self N, by simpa [rowB] using hv.2⟩
      · rw [ho i hi e, List.getD_cons_zero] at hv
        simp only [VR, updR_at] at hv ⊢
        rw [hρ A hAN] at hv
        exact ⟨Nat.lt_succ_self N, by simpa [rowB, e] using hv.2⟩) (Gd := (N, .nestI true k (xss.set y r)) :: delL [H, A, B] G) (fun a x hx => by
    rw [hget_cons] at hx ⊢
    split at hx
    · next he => rw [if_pos he]; exact hx
    · next he =>
      rw [if_neg he]
      rw [hget_delL] at hx ⊢
      split at hx
      · cases hx
      · next hm' =>
        rw [if_neg (by simp [memB] at hm' ⊢; omega)]
        exact hx)
  exact ⟨_, hρ, k1, fun b hb => hO1 b (k2 b hb)⟩
end
end Go.Sx
