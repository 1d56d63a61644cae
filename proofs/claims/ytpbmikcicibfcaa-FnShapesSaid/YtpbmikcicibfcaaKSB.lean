/-
  A beginning that is the whole of its object.
-/
import Derived.Test.YtpbmikcicibfcaaSd
namespace Go.Sx
set_option linter.unusedVariables false
set_option linter.unusedSimpArgs false
set_option maxRecDepth 100000
set_option maxHeartbeats 8000000
open Go

theorem ACall.sub1 {P : Program} {f M n : Nat} {c : Option Nat} {N : Nat} {G : Heap} {K : AV → Nat → Heap → Prop} {own : Bool} {fl : Flat} (ho : hget G M = some (.flat own fl)) (hn : fl.n = n) (h : ACall P f [.sl M []] N G K) : ACall P f [.sub M [] 0 n c] N G K := by
  refine ⟨h.ok, fun ρ w cargs hH hv => h.run ρ w cargs hH ?_⟩
  have hnode : NodeAt G M [] fl.node own := NodeAt.of_get ho rfl
  obtain ⟨s1, s2, s3⟩ := hH.shape _ _ _ _ hnode
  obtain ⟨v, r, rfl, ⟨h1, A, k, rfl, h2, _⟩, h3⟩ := hv
  have e : (ρ M []).n = n := s2.trans hn
  exact ⟨_, r, rfl, ⟨h1, A, k, by rw [e], by rw [e]; exact h2⟩, h3⟩
/-- An own object, read for a while. -/
theorem HeapRep.disown {ρ : Rho} {N : Nat} {G : Heap} {w : World} (hH : HeapRep ρ N G w) {M : Nat} {xs : List (List R2)} (ho : hget G M = some (.nestR2 true xs)) :
    HeapRep ρ N ((M, .nestR2 false xs) :: delL [M] G) w ∧ ∀ b, Owns ρ ((M, .nestR2 false xs) :: delL [M] G) b → Owns ρ (delL [M] G) b := by
  have hup : ∀ {i p nd own}, NodeAt ((M, .nestR2 false xs) :: delL [M] G) i p nd own → ∃ own', NodeAt G i p nd own' ∧ (own = true → own' = true ∧ NodeAt (delL [M] G) i p nd own) := fun {i p nd own} hx => by
    obtain ⟨o, h1, h2, h3⟩ := hx.ex
    rw [hget_cons] at h1
    split at h1
    · next he =>
      injection h1 with h1
      subst h1
      rw [he] at h2 ⊢
      have h4 : AObj.node M (.nestR2 true xs) p = some nd := by
        rcases p with _ | ⟨_, _ | _⟩ <;> exact h2
      exact ⟨true, ⟨⟨_, ho, h4, rfl⟩⟩, fun e => by rw [e] at h3; cases h3⟩
    · exact ⟨own, ⟨⟨o, (delL_sub _ _ _ _ h1).1, h2, h3⟩⟩, fun e => ⟨e, ⟨⟨o, h1, h2, h3⟩⟩⟩⟩
  refine ⟨⟨fun id o h => ?_, fun i p nd own hx => ?_, fun i p nd own hx a ha b hb => ?_, fun i p nd hx => ?_, fun i p nd i' p' nd' own' hx hx' hd ht hs => ?_⟩, fun b hb => ?_⟩
  · rw [hget_cons] at h
    split at h
    · next he => rw [he]; exact hH.keys _ _ ho
    · exact hH.keys _ _ (delL_sub _ _ _ _ h).1
  · obtain ⟨_, h, _⟩ := hup hx
    exact hH.shape _ _ _ _ h
  · obtain ⟨_, h, _⟩ := hup hx
    exact hH.rd _ _ _ _ h a ha b hb
  · obtain ⟨_, h, e⟩ := hup hx
    rw [(e rfl).1] at h
    exact hH.ow _ _ _ h
  · obtain ⟨_, h, e⟩ := hup hx
    rw [(e rfl).1] at h
    obtain ⟨_, h', e'⟩ := hup hx'
    exact hH.sep _ _ _ _ _ _ _ h h' hd ht (by
      cases own' with
      | true => rw [(e' rfl).1] at *; exact hs
      | false => exact hH.solid h' (by simpa [Solid] using hs))
  · obtain ⟨i, p, nd, hx, ht, rfl⟩ := hb
    obtain ⟨_, h, e⟩ := hup hx
    exact ⟨i, p, nd, (e rfl).2, ht, rfl⟩
theorem ACall.disown {P : Program} {f M : Nat} {args : List AV} {N : Nat} {G : Heap} {K : AV → Nat → Heap → Prop} {xs : List (List R2)} (ho : hget G M = some (.nestR2 true xs)) (h : ACall P f args N ((M, .nestR2 false xs) :: delL [M] G) fun v N' G' => K v N' (backL [M] G G')) : ACall P f args N G K := by
  refine ⟨h.ok, fun ρ w cargs hH hv => ?_⟩
  obtain ⟨hH1, hO1⟩ := hH.disown ho
  refine (h.run ρ w cargs hH1 hv).mono fun e w' ⟨v, he, hout⟩ => ⟨v, he, ?_⟩
  have h2 : Out ρ N (delL [M] G) w _ v w' := Out.ghost (Nat.le_refl N) (fun _ _ => rfl) hO1 hout
  obtain ⟨⟨av, ρ', N', G', hK, q1, q2, q3, q4, q5, q6, _⟩, _⟩ := out_frame hH [M] h2
  exact ⟨⟨av, ρ', N', _, hK, q1, q2, q3, q4, q5, q6⟩⟩
end Go.Sx
