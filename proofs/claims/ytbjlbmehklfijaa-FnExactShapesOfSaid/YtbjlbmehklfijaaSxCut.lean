/-
  A slice's beginning, as an object of its own.
-/
import Derived.Test.YtbjlbmehklfijaaSxQ2
namespace Go.Sx
set_option linter.unusedVariables false
set_option linter.unusedSimpArgs false
open Go

section
variable {P : Program} {ρ : Rho} {N : Nat} {G : Heap} {w : World}

theorem HeapRep.cut (hH : HeapRep ρ N G w) {id : Nat} {f f' : Flat} (ho : hget G id = some (.flat true f)) (hn : f'.n ≤ f.n) (hsz : f'.sz = f.sz) (hc : ∀ i, i < f'.n → ∀ j, j < f.sz → f'.cell i j = f.cell i j) :
    HeapRep (updR ρ N fun _ => ⟨(ρ id []).b, (ρ id []).o, (ρ id []).sz, f'.n, (ρ id []).tot⟩) (N + 1) ((N, .flat true f') :: hdel G id) w ∧
      ∀ b, Owns (updR ρ N fun _ => ⟨(ρ id []).b, (ρ id []).o, (ρ id []).sz, f'.n, (ρ id []).tot⟩) ((N, .flat true f') :: hdel G id) b → Owns ρ G b := by
  have hρ := updR_lt ρ N (fun _ => (⟨(ρ id []).b, (ρ id []).o, (ρ id []).sz, f'.n, (ρ id []).tot⟩ : Blk))
  have hsub : ∀ i o, hget (hdel G id) i = some o → hget G i = some o := fun i o h => hdel_sub G id i o h
  have hnone : hget (hdel G id) N = none := by
    cases h : hget (hdel G id) N with
    | none => rfl
    | some o => exact absurd (hH.keys N o (hsub _ _ h)) (Nat.lt_irrefl N)
  have hup : ∀ {i p nd own}, NodeAt (hdel G id) i p nd own → NodeAt G i p nd own ∧ i < N := fun {i p nd own} hx => by
    obtain ⟨o, h1, h2, h3⟩ := hx.ex
    exact ⟨⟨⟨o, hsub _ _ h1, h2, h3⟩⟩, hH.keys _ _ (hsub _ _ h1)⟩
  have hnode : NodeAt G id [] f.node true := NodeAt.of_get ho rfl
  obtain ⟨s1, s2, s3⟩ := hH.shape _ _ _ _ hnode
  refine ⟨((hH.sub hsub).mono (Nat.le_succ N) hρ).put (Nat.lt_succ_self N) hnone rfl fun p nd hnd => ?_, fun b hb' => ?_⟩
  · match p with
    | _ :: _ => simp [AObj.node] at hnd
    | [] =>
      simp only [AObj.node, Option.some.injEq] at hnd
      subst hnd
      simp only [updR_at]
      refine ⟨s1.trans hsz.symm, rfl, by show 0 < f'.sz; rw [hsz]; exact s3, fun i hi j hj => ?_, ?_, fun ht => ⟨fun p' nd' hnd' hne ht' => ?_, fun id' p' nd' own' hn' hs' => ?_⟩⟩
      · simp only [Flat.node] at hi hj ⊢
        rw [hsz] at hj ⊢
        obtain ⟨v, q1, q2, q3⟩ := hH.rd _ _ _ _ hnode i (Nat.lt_of_lt_of_le hi hn) j hj
        refine ⟨v, q1, ?_, q3⟩
        rw [hc i hi j hj]
        exact q2.mono (Nat.le_succ N) hρ
      · rcases hH.ow _ _ _ hnode with ⟨h1, h2⟩ | h
        · simp only [Flat.node] at h2 ⊢
          exact .inl ⟨h1, by omega⟩
        · exact .inr h
      · match p' with
        | [] => exact absurd rfl hne
        | _ :: _ => simp [AObj.node] at hnd'
      · obtain ⟨hn1, hlt⟩ := hup hn'
        have e : updR ρ N (fun _ => (⟨(ρ id []).b, (ρ id []).o, (ρ id []).sz, f'.n, (ρ id []).tot⟩ : Blk)) id' p' = ρ id' p' := by rw [hρ id' hlt]
        rw [e] at hs' ⊢
        refine hH.sep _ _ _ _ _ _ _ hnode hn1 (fun e => ?_) ht hs'
        obtain ⟨o', q1, _⟩ := hn'.ex
        rw [← e.1, hdel_none] at q1
        cases q1
  · obtain ⟨id', p, nd, hn', ht, rfl⟩ := hb'
    obtain ⟨o', h1, h2, h3⟩ := hn'.ex
    rw [hget_cons] at h1
    split at h1
    · next he =>
      subst he
      injection h1 with h1
      subst h1
      rw [updR_at] at ht ⊢
      exact ⟨id, [], f.node, hnode, ht, rfl⟩
    · have hlt := hH.keys _ _ (hsub _ _ h1)
      rw [hρ id' hlt] at ht ⊢
      exact ⟨id', p, nd, ⟨⟨o', hsub _ _ h1, h2, h3⟩⟩, ht, rfl⟩

/-- A contract whose outcome is the beginning of an own list, told as a list of its own. -/
theorem FnIs.cut {f : Nat} {args : List AV} {id m n : Nat} {g : Heap} {f0 f1 : Flat} (h : FnIs P f args N G (.sub id [] 0 m none) n g) (ho : hget g id = some (.flat true f0)) (hm : f1.n = m) (hle : f1.n ≤ f0.n) (hsz : f1.sz = f0.sz)
    (hc : ∀ i, i < f1.n → ∀ j, j < f0.sz → f1.cell i j = f0.cell i j) : FnIs P f args N G (.sl n []) (n + 1) ((n, .flat true f1) :: hdel g id) := by
  refine ⟨⟨h.call.ok, fun ρ w cargs hH hv => (h.call.run ρ w cargs hH hv).mono fun e w' ⟨v, he, hout⟩ => ⟨v, he, ?_⟩⟩⟩
  obtain ⟨av, ρ', N', G', ⟨rfl, rfl, rfl⟩, h2, h3, h4, h5, h6, h7⟩ := hout.ex
  obtain ⟨k1, k2⟩ := h3.cut ho hle hsz hc
  have hρ := updR_lt ρ' N' (fun _ => (⟨(ρ' id []).b, (ρ' id []).o, (ρ' id []).sz, f1.n, (ρ' id []).tot⟩ : Blk))
  refine ⟨⟨_, _, _, _, ⟨rfl, rfl, rfl⟩, ?_, k1, Nat.le_succ_of_le h4, fun i hi => (hρ i (Nat.lt_of_lt_of_le hi h4)).trans (h5 i hi), h6, fun b hb => h7 b (k2 b hb)⟩⟩
  simp only [VR, updR_at] at h2 ⊢
  obtain ⟨_, A, c, rfl, hsl, _⟩ := h2
  exact ⟨Nat.lt_succ_self _, A, c, by rw [hm], by rw [hm]; exact hsl⟩
end
end Go.Sx
