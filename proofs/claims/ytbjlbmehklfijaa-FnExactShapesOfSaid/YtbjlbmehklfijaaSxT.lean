/-
  Regions whose order is drawn: the evaluator is sound.
-/
import Derived.Test.YtbjlbmehklfijaaSxS
namespace Go.Sx
set_option linter.unusedVariables false
set_option linter.unusedSimpArgs false
open Go
open Go.RowKit

structure StR (E : Env) (B : Entry) (ρ : Rho) (s : Slots) (N : Nat) (G : Heap) (a : Act) (w : World) : Prop where
  hs : ∀ t, VR ρ N (look s t) (a.tmps.getD t undef)
  hH : HeapRep ρ N G w
  hN : B.N ≤ N
  hag : ∀ id, id < B.N → ρ id = B.ρ id
  hfr : FrameW (Owns B.ρ B.G) B.w w
  hown : ∀ b, Owns ρ G b → B.w.heap.size ≤ b ∨ Owns B.ρ B.G b
  size : a.tmps.size = E.nt
  defers : a.defers = []

theorem StR.st {E : Env} {B : Entry} {ρ : Rho} {s : Slots} {N : Nat} {G : Heap} {a : Act} {w : World} (h : StR E B ρ s N G a w) : St E B s N G a w :=
  ⟨⟨ρ, h.hs, h.hH, h.hN, h.hag, h.hfr, h.hown⟩, h.size, h.defers⟩
theorem St.str {E : Env} {B : Entry} {s : Slots} {N : Nat} {G : Heap} {a : Act} {w : World} (h : St E B s N G a w) : ∃ ρ, StR E B ρ s N G a w := by
  obtain ⟨⟨ρ, h1, h2, h3, h4, h5, h6⟩, h7, h8⟩ := h
  exact ⟨ρ, h1, h2, h3, h4, h5, h6, h7, h8⟩

section
variable {E : Env} {B : Entry} {ρ : Rho} {s : Slots} {N : Nat} {G : Heap} {a : Act} {w : World}

theorem StR.put (h : StR E B ρ s N G a w) {dst : Option Nat} {av : AV} {v : Value} {K : Slots → Prop} (hp : putK E dst av s K) (hv : VR ρ N av v) : ∃ s', K s' ∧ StR E B ρ s' N G (a.put dst v) w := by
  obtain ⟨s', hK, q1, q2, q3⟩ := St.put h.hs h.size hp hv
  exact ⟨s', hK, q1, h.hH, h.hN, h.hag, h.hfr, h.hown, q2, q3.trans h.defers⟩

/-- The operands, seen where the guard says yes. -/
theorem seen_ops (hs : ∀ t, VR ρ N (look s t) (a.tmps.getD t undef)) {l : List Operand} (hall : ∀ x ∈ l, ∀ gt w g v, ao s x = .opt gt w g v → g = w) :
    ∃ lk : Operand → AV, (∀ x ∈ l, aoS s x = lk x) ∧ ∀ x, VR ρ N (lk x) (a.eval x) := by
  classical
  refine ⟨fun x => if x ∈ l then aoS s x else .top, fun x hx => by simp [hx], fun x => ?_⟩
  simp only
  split
  · rename_i hx
    have h1 := VR_ao hs x
    unfold aoS AV.strip
    split
    · rename_i gt' w' g' v' he
      rw [he] at h1
      simp only [VR] at h1
      exact h1.1 (hall x hx _ _ _ _ he)
    · exact h1
  · simp only [VR]

theorem qId_congr {lk lk' : Operand → AV} {op : Op} (h : ∀ x ∈ op.operands.toList, lk x = lk' x) : qId lk op = qId lk' op := by
  cases op <;> simp only [qId]
  rw [h _ (by simp [Op.operands])]

theorem qstep_sound (hT : TblOK E.P E.T) {ops : Array Oper} {o : Oper} {K : Slots → Prop} (h : qstep E ops.toList o s G K) (hS : StR E B ρ s N G a w) :
    ∃ v s', K s' ∧ StR E B ρ s' N G (a.put o.dst v) w ∧ ((Region.wanted o (yielded ops a.tmps) = true ∧ ∀ w', Same ρ G (qidOf o s) w w' → (execOp a.eval o).run E.P w' = .ok (.value v) w') ∨ (Region.wanted o (yielded ops a.tmps) = false ∧ v = undef)) := by
  unfold qstep at h
  split at h
  · rename_i hg
    obtain ⟨C, v, h, hr⟩ := quiet_keep hT hS.hH (VR_ao hS.hs) h
    obtain ⟨hc, hp⟩ := need_spec h
    obtain ⟨cv, hv, hrun⟩ := hr hc
    obtain ⟨s', hK, hS'⟩ := hS.put hp hv
    refine ⟨cv, s', hK, hS', .inl ⟨wanted_none hg ops _, ?_⟩⟩
    simp only [qidOf, hg]
    exact hrun
  · rename_i jw hg
    split at h
    case h_2 => exact h.elim
    rename_i gt hd
    obtain ⟨g, gw, h, hgv⟩ := guardK_spec h
    have hwant := wanted_guard hg hd (hgv ρ N _ (hS.hs gt))
    rw [hwant]
    rcases h.h with ⟨hne, hp⟩ | h
    · obtain ⟨s', hK, hS'⟩ := hS.put hp (v := undef) (by simp only [VR]; exact ⟨fun e => absurd e hne, fun _ => by trivial⟩)
      exact ⟨undef, s', hK, hS', .inr ⟨by simpa using hne, rfl⟩⟩
    obtain ⟨C0, h, hc0⟩ := optCnd_spec s h
    obtain ⟨h0, h⟩ := needG_spec h
    cases hgw : (g == gw) with
    | true =>
      have hge : g = gw := by simpa using hgw
      obtain ⟨lk, e1, e2⟩ := seen_opsG hS.hs (hc0 (h0 hge)).2
      rw [quiet_congr e1] at h
      obtain ⟨C, v, h, hr⟩ := quiet_keep hT hS.hH e2 h
      obtain ⟨hc, hp⟩ := needG_spec h
      obtain ⟨cv, hv, hrun⟩ := hr (hc hge)
      obtain ⟨s', hK, hS'⟩ := hS.put hp (v := cv) (by simp only [VR]; exact ⟨fun _ => hv, fun e => absurd hge e⟩)
      refine ⟨cv, s', hK, hS', .inl ⟨rfl, ?_⟩⟩
      simp only [qidOf, hg]
      rw [qId_congr e1]
      exact hrun
    | false =>
      obtain ⟨C, v, h⟩ := quiet_some h
      have hne : ¬ g = gw := by simpa using hgw
      obtain ⟨s', hK, hS'⟩ := hS.put (needG_spec h).2 (v := undef) (by simp only [VR]; exact ⟨fun e => absurd e hne, fun _ => by trivial⟩)
      exact ⟨undef, s', hK, hS', .inr ⟨rfl, rfl⟩⟩

theorem estep_sound (hT : TblOK E.P E.T) {ops : Array Oper} {o : Oper} {W : List Nat} {K : Slots → Nat → Heap → Prop} (h : estep E ops.toList o s N G W K) (hS : StR E B ρ s N G a w) {next : Act → World → Prop} {Q : Exit → Act → World → Prop}
    (hnext : ∀ s' N' G' a' w' ρ', K s' N' G' → StR E B ρ' s' N' G' a' w' → N ≤ N' → (∀ id, id < N → ρ' id = ρ id) → (∀ id, memB W id = true → Same ρ G (some id) w w') → (∀ id, memB W id = true → hget G id ≠ none → hget G' id = hget G id) → next a' w') :
    if Region.wanted o (yielded ops a.tmps) then o.wp E.P a w next Q else next (a.put o.dst undef) w := by
  have hW : ∀ {id}, memB W id = true → memB (ownIds G W) id = true ∨ ownB G id = false := ownIds_or
  have hsub : HeapRep ρ N (delL (ownIds G W) G) w := hS.hH.sub fun i o h => by
    rw [hget_delL] at h
    split at h
    · cases h
    · exact h
  unfold estep at h
  split at h
  · rename_i hg
    rw [if_pos (wanted_none hg ops _)]
    refine Oper.wp_mono (fun a' w' hq => ?_) (effect_sound hT hsub (VR_ao hS.hs) h Q)
    obtain ⟨v, rfl, ho⟩ := hq
    obtain ⟨⟨av, ρ', N', G', hp, hv, hH', hN', hag', hfr', hown', hkp⟩, hsame⟩ := out_frame hS.hH (ownIds G W) ho
    obtain ⟨s', hK, q1, q2, q3⟩ := St.put (fun t => (hS.hs t).mono hN' hag') hS.size hp hv
    refine hnext s' N' _ _ w' ρ' (tidyK_eq hK) ⟨q1, hH', Nat.le_trans hS.hN hN', fun id hid => (hag' id (Nat.lt_of_lt_of_le hid hS.hN)).trans (hS.hag id hid), ?_, fun b hb => ?_, q2, q3.trans hS.defers⟩ hN' hag' (fun id hm => hsame id (hW hm)) (fun id hm => hkp id (hW hm))
    · refine hS.hfr.trans hfr' fun i hi ho => ?_
      rcases hS.hown i ho with h | h
      · omega
      · exact h
    · rcases hown' b hb with h | h
      · exact .inl (Nat.le_trans hS.hfr.size h)
      · exact hS.hown b h
  · rename_i jw hg
    split at h
    case h_2 => exact h.elim
    rename_i gt hd
    obtain ⟨g, gw, h, hgv⟩ := guardK_spec h
    have hwant := wanted_guard hg hd (hgv ρ N _ (hS.hs gt))
    rw [hwant]
    rcases h.h with ⟨hne, hp⟩ | h
    · rw [if_neg (by simpa using hne)]
      obtain ⟨s', hK, hS'⟩ := hS.put hp (v := undef) (by simp only [VR]; exact ⟨fun e => absurd e hne, fun _ => by trivial⟩)
      exact hnext s' N G _ w ρ hK hS' (Nat.le_refl _) (fun _ _ => rfl) (fun _ _ => Same.refl _ _ _ _) (fun _ _ _ => rfl)
    obtain ⟨v, hv, hp⟩ := h.ex
    cases hgw : (g == gw) with
    | false =>
      rw [if_neg (by simp)]
      have hne : ¬ g = gw := by simpa using hgw
      obtain ⟨s', hK, hS'⟩ := hS.put hp (v := undef) (by simp only [VR]; exact ⟨fun e => absurd e hne, fun _ => by trivial⟩)
      exact hnext s' N G _ w ρ hK hS' (Nat.le_refl _) (fun _ _ => rfl) (fun _ _ => Same.refl _ _ _ _) (fun _ _ _ => rfl)
    | true =>
      rw [if_pos rfl]
      have hge : g = gw := by simpa using hgw
      obtain ⟨C', hv, hc⟩ := optCnd_spec s (hv hge)
      obtain ⟨h1, hv⟩ := need_spec hv
      obtain ⟨lk, e1, e2⟩ := seen_ops hS.hs (hc h1).2
      rw [effect_congr e1] at hv
      refine Oper.wp_mono (fun a' w' hq => ?_) (effect_sound hT hsub e2 hv Q)
      obtain ⟨u, rfl, ho⟩ := hq
      have ho := ho.mono (K' := fun v' N' G' => v' = v ∧ N' = N ∧ G' = delL (ownIds G W) G) fun _ _ _ ⟨x, y, z⟩ => ⟨x, y, sameH_eq z⟩
      obtain ⟨⟨av, ρ', N', G', ⟨rfl, rfl, rfl⟩, hv', hH', hN', hag', hfr', hown', hkp⟩, hsame⟩ := out_frame hS.hH (ownIds G W) ho
      obtain ⟨s', hK, q1, q2, q3⟩ := St.put (v := u) (fun t => (hS.hs t).mono hN' hag') hS.size hp (by simp only [VR]; exact ⟨fun _ => hv', fun e => absurd hge e⟩)
      have hback : ∀ id o, hget G id = some o → hget (backL (ownIds G W) G (delL (ownIds G W) G)) id = some o := fun id o h => by
        unfold backL
        rw [hget_keepL, hget_ownL, hget_delL]
        cases hk : keepB (ownIds G W) G id with
        | true => rw [if_pos rfl, h]; rfl
        | false =>
          have hk' := hk
          unfold keepB at hk'
          rw [h] at hk'
          simp only [Bool.or_eq_false_iff, Bool.not_eq_false'] at hk'
          have : ownB (delL (ownIds G W) G) id = true := by
            unfold ownB
            rw [hget_delL, if_neg (by simp [hk'.1]), h]
            exact hk'.2
          simp [hk'.1, this, h]
      refine hnext s' _ _ _ w' ρ' hK ⟨q1, hH'.sub hback, Nat.le_trans hS.hN hN', fun id hid => (hag' id (Nat.lt_of_lt_of_le hid hS.hN)).trans (hS.hag id hid), ?_, fun b hb => ?_, q2, q3.trans hS.defers⟩ hN' hag' (fun id hm => hsame id (hW hm)) (fun _ _ _ => rfl)
      · refine hS.hfr.trans hfr' fun i hi ho => ?_
        rcases hS.hown i ho with h | h
        · omega
        · exact h
      · rcases hown' b (hb.sub hback) with h | h
        · exact .inl (Nat.le_trans hS.hfr.size h)
        · exact hS.hown b h

end
end Go.Sx
