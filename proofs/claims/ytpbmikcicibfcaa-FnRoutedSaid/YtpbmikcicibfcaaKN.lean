/-
  A variable that holds no slice may be told to hold an empty one.
-/
import Derived.Test.YtpbmikcicibfcaaSd
namespace Go.Sx
set_option linter.unusedVariables false
set_option linter.unusedSimpArgs false
set_option maxRecDepth 100000
set_option maxHeartbeats 8000000
open Go

section
variable {P : Program}
theorem ACall.nilbox {f : Nat} {args : List AV} {N : Nat} {G : Heap} {K : AV → Nat → Heap → Prop} (id : Nat) {own : Bool} (ho : hget G id = some (.flat own (.gen 1 [[.nilsl]])))
    (h : ACall P f args (N + 1) ((id, .flat own (.gen 1 [[.sl N []]])) :: (N, .flat true (.ints .i64 [])) :: hdel G id) K) : ACall P f args N G K := by
  refine ⟨h.ok, fun ρ w cargs hH hv => ?_⟩
  obtain ⟨hH1, hO1⟩ := hH.take (Gd := G) (fun _ _ h => h) (o := .flat true (.ints .i64 [])) rfl rfl (fun _ => ⟨0, 0, 1, 0, 0⟩) (fun _ => none) (fun p nd hp => by
    cases p with
    | nil =>
      simp only [AObj.node, Option.some.injEq] at hp
      subst hp
      exact .inl ⟨rfl, rfl, Nat.zero_lt_one, rfl⟩
    | cons _ _ => simp [AObj.node] at hp) (fun p p' x h1 => by cases h1)
  have hρ := updR_lt ρ N (fun _ => (⟨0, 0, 1, 0, 0⟩ : Blk))
  have hidN := hH.keys _ _ ho
  obtain ⟨hH2, hO2⟩ := hH1.recell (id := id) (o := .flat own (.gen 1 [[.nilsl]])) (o' := .flat own (.gen 1 [[.sl N []]])) (by rw [hget_cons, if_neg (by omega)]; exact ho) rfl (fun p nd' hp => by
    cases p with
    | cons _ _ => simp [AObj.node] at hp
    | nil =>
      simp only [AObj.node, Option.some.injEq] at hp
      subst hp
      refine ⟨_, rfl, rfl, rfl, rfl, rfl, fun i hi j v hv => ?_⟩
      simp only [Flat.node, Flat.n, List.length_singleton] at hi
      obtain rfl : i = 0 := by omega
      simp only [Flat.node, Flat.cell, List.getD_cons_zero] at hv ⊢
      cases j with
      | zero =>
        simp only [List.getD_cons_zero, VR, updR_at] at hv ⊢
        exact ⟨Nat.lt_succ_self N, none, 0, hv, .inr ⟨rfl, rfl⟩⟩
      | succ j => simp [VR]) (Gd := (N, .flat true (.ints .i64 [])) :: hdel G id) (fun a x hx => by
    rw [hget_cons] at hx ⊢
    split at hx
    · next he => rw [if_pos he]; exact hx
    · next he => rw [if_neg he]; exact hdel_sub G id a x hx)
  refine (h.run _ w cargs hH2 (hv.mono (Nat.le_succ N) hρ)).mono fun e w' ⟨v, he, hout⟩ => ⟨v, he, ?_⟩
  exact Out.ghost (Nat.le_succ N) hρ (fun b hb => hO1 b (hO2 b hb)) hout
end
end Go.Sx
