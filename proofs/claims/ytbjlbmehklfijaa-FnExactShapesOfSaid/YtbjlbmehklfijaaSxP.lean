/-
  A contract that is proved over a small heap holds over every greater one: the frame rule.
-/
import Derived.Test.YtbjlbmehklfijaaSxO
namespace Go.Sx
set_option linter.unusedVariables false
set_option linter.unusedSimpArgs false
open Go
open Go.RowKit

/-! ### Renaming objects -/
def Flat.ren (m : Nat → Nat) : Flat → Flat
  | .gen sz rws => .gen sz (rws.map (AV.renL m))
  | .ints k xs => .ints k xs
  | .r2 xs => .r2 xs
  | .r3 xs => .r3 xs
  | .r4 xs => .r4 xs
  | .bools xs => .bools xs
  | .strs xs => .strs xs
  | .rows M off n => .rows (m M) off n
def AObj.ren (m : Nat → Nat) : AObj → AObj
  | .flat o f => .flat o (f.ren m)
  | .nestI o k xss => .nestI o k xss
  | .nestR2 o xss => .nestR2 o xss

theorem AV.renL_getD (m : Nat → Nat) : ∀ (l : List AV) (j : Nat), (AV.renL m l).getD j .top = (l.getD j .top).ren m
  | [], j => by simp [AV.renL, AV.ren]
  | a :: r, 0 => by simp [AV.renL]
  | a :: r, j + 1 => by simpa [AV.renL] using AV.renL_getD m r j
theorem Flat.ren_cell (m : Nat → Nat) (f : Flat) (i j : Nat) : (f.ren m).cell i j = (f.cell i j).ren m := by
  cases f <;> simp only [Flat.ren, Flat.cell, AV.ren]
  rename_i sz rows
  have : (rows.map (AV.renL m)).getD i [] = AV.renL m (rows.getD i []) := by
    simp only [List.getD_eq_getElem?_getD, List.getElem?_map]
    cases rows[i]? <;> simp [AV.renL]
  rw [this, AV.renL_getD]
theorem Flat.ren_n (m : Nat → Nat) (f : Flat) : (f.ren m).n = f.n := by
  cases f <;> simp [Flat.ren, Flat.n]
theorem Flat.ren_sz (m : Nat → Nat) (f : Flat) : (f.ren m).sz = f.sz := by
  cases f <;> simp [Flat.ren, Flat.sz]
theorem AObj.ren_own (m : Nat → Nat) (o : AObj) : (o.ren m).own = o.own := by
  cases o <;> rfl
theorem AObj.ren_node {m : Nat → Nat} {o : AObj} {id : Nat} {p : List Nat} {nd : Node} (h : (o.ren m).node (m id) p = some nd) :
    ∃ nd', o.node id p = some nd' ∧ nd.n = nd'.n ∧ nd.sz = nd'.sz ∧ ∀ i j, nd.cell i j = (nd'.cell i j).ren m := by
  cases o with
  | flat ow f =>
    cases p with
    | nil =>
      simp only [AObj.ren, AObj.node, Option.some.injEq] at h
      subst h
      exact ⟨_, rfl, Flat.ren_n m f, Flat.ren_sz m f, fun i j => Flat.ren_cell m f i j⟩
    | cons _ _ => simp [AObj.ren, AObj.node] at h
  | nestI ow k xss =>
    cases p with
    | nil => simp [AObj.ren, AObj.node] at h
    | cons y r =>
      cases r with
      | nil =>
        simp only [AObj.ren, AObj.node] at h ⊢
        split at h
        · next hlt => injection h with h; subst h; exact ⟨_, by rw [if_pos hlt], rfl, rfl, fun i j => by simp [Flat.node, Flat.cell, AV.ren]⟩
        · cases h
      | cons _ _ => simp [AObj.ren, AObj.node] at h
  | nestR2 ow xss =>
    cases p with
    | nil => simp [AObj.ren, AObj.node] at h
    | cons y r =>
      cases r with
      | nil =>
        simp only [AObj.ren, AObj.node] at h ⊢
        split at h
        · next hlt => injection h with h; subst h; exact ⟨_, by rw [if_pos hlt], rfl, rfl, fun i j => by simp [Flat.node, Flat.cell, AV.ren]⟩
        · cases h
      | cons _ _ => simp [AObj.ren, AObj.node] at h

/-! ### The heap behind a call -/
def rN (m : List (Nat × Nat)) (N0 N : Nat) (id : Nat) : Nat := bif Nat.blt id N0 then mlook m id else Nat.add (Nat.sub id N0) N
def ownAt : Heap → Nat → Bool
  | [], _ => false
  | (k, o) :: r, id => bif Nat.beq k id then o.own else ownAt r id
theorem ownAt_eq : ∀ (G : Heap) (id : Nat), ownAt G id = ((hget G id).map AObj.own).getD false
  | [], _ => rfl
  | (k, o) :: r, id => by
    simp only [ownAt, hget]
    cases Nat.beq k id <;> simp [ownAt_eq r id]
/-- The objects that the call made, or was free to turn. -/
def joinA (m : List (Nat × Nat)) (N0 N : Nat) (G0 : Heap) : List Nat → Heap → Heap → Heap
  | _, [], B => B
  | seen, (id, o) :: r, B => bif !memB seen id && o.own && (Nat.ble N0 id || ownAt G0 id) then (rN m N0 N id, o.ren (rN m N0 N)) :: joinA m N0 N G0 (id :: seen) r B else joinA m N0 N G0 (id :: seen) r B
def ownKey (m : List (Nat × Nat)) : Heap → Nat → Bool
  | [], _ => false
  | (id, o) :: r, k => (o.own && Nat.beq (mlook m id) k) || ownKey m r k
/-- Those that it was not. -/
def joinB (m : List (Nat × Nat)) (G0 : Heap) : Heap → Heap
  | [] => []
  | (k, o) :: r => bif ownKey m G0 k then joinB m G0 r else (k, o) :: joinB m G0 r
def join (m : List (Nat × Nat)) (N0 N : Nat) (G0 G' G : Heap) : Heap := joinA m N0 N G0 [] G' (joinB m G0 G)

theorem memB_cons (a : Nat) (l : List Nat) (i : Nat) : memB (a :: l) i = (decide (a = i) || memB l i) := by
  simp only [memB]
  cases h : Nat.beq a i with
  | true => simp [Nat.eq_of_beq_eq_true h]
  | false =>
    have : a ≠ i := fun e => by subst e; simp at h
    simp [this]
theorem joinA_get {m : List (Nat × Nat)} {N0 N : Nat} {G0 B : Heap} : ∀ {G' : Heap} {seen : List Nat} {k : Nat} {o : AObj}, hget (joinA m N0 N G0 seen G' B) k = some o →
    (∃ id o', memB seen id = false ∧ hget G' id = some o' ∧ o'.own = true ∧ (N0 ≤ id ∨ ownAt G0 id = true) ∧ k = rN m N0 N id ∧ o = o'.ren (rN m N0 N)) ∨ hget B k = some o
  | [], _, _, _, h => .inr h
  | (id, x) :: r, seen, k, o, h => by
    have hrec : hget (joinA m N0 N G0 (id :: seen) r B) k = some o → (∃ i o', memB seen i = false ∧ hget ((id, x) :: r) i = some o' ∧ o'.own = true ∧ (N0 ≤ i ∨ ownAt G0 i = true) ∧ k = rN m N0 N i ∧ o = o'.ren (rN m N0 N)) ∨ hget B k = some o := fun h => by
      rcases joinA_get h with ⟨i, o', h1, h2, h3⟩ | h
      · rw [memB_cons] at h1
        simp only [Bool.or_eq_false_iff, decide_eq_false_iff_not] at h1
        exact .inl ⟨i, o', h1.2, by rw [hget_cons, if_neg (Ne.symm h1.1)]; exact h2, h3⟩
      · exact .inr h
    simp only [joinA] at h
    cases hb : (!memB seen id && x.own && (Nat.ble N0 id || ownAt G0 id)) with
    | false => simp only [hb, cond_false] at h; exact hrec h
    | true =>
      simp only [hb, cond_true] at h
      rw [hget_cons] at h
      split at h
      · next he =>
        injection h with h
        simp only [Bool.and_eq_true, Bool.not_eq_true', Bool.or_eq_true] at hb
        refine .inl ⟨id, x, hb.1.1, by rw [hget_cons, if_pos rfl], hb.1.2, hb.2.imp Nat.le_of_ble_eq_true (fun h => h), he, h.symm⟩
      · exact hrec h
theorem joinB_get {m : List (Nat × Nat)} {G0 : Heap} : ∀ {G : Heap} {k : Nat} {o : AObj}, hget (joinB m G0 G) k = some o → hget G k = some o ∧ ownKey m G0 k = false
  | [], _, _, h => by simp [joinB, hget] at h
  | (i, x) :: r, k, o, h => by
    simp only [joinB] at h
    cases hb : ownKey m G0 i with
    | true =>
      simp only [hb, cond_true] at h
      obtain ⟨h1, h2⟩ := joinB_get h
      refine ⟨?_, h2⟩
      rw [hget_cons, if_neg (fun e => by subst e; rw [hb] at h2; cases h2)]
      exact h1
    | false =>
      simp only [hb, cond_false] at h
      rw [hget_cons] at h
      split at h
      · next he => subst he; exact ⟨by rw [hget_cons, if_pos rfl]; exact h, hb⟩
      · next he =>
        obtain ⟨h1, h2⟩ := joinB_get h
        exact ⟨by rw [hget_cons, if_neg he]; exact h1, h2⟩
theorem ownKey_of {m : List (Nat × Nat)} : ∀ {G0 : Heap} {id : Nat} {o : AObj}, hget G0 id = some o → o.own = true → ownKey m G0 (mlook m id) = true
  | [], _, _, h, _ => by simp [hget] at h
  | (i, x) :: r, id, o, h, ho => by
    simp only [ownKey]
    rw [hget_cons] at h
    split at h
    · next he => subst he; injection h with h; subst h; simp [ho]
    · simp [ownKey_of h ho]

def allLt (m : List (Nat × Nat)) (N : Nat) : Nat → Bool
  | 0 => true
  | i + 1 => Nat.blt (mlook m i) N && allLt m N i
theorem allLt_spec {m : List (Nat × Nat)} {N : Nat} : ∀ {n : Nat}, allLt m N n = true → ∀ i, i < n → mlook m i < N
  | 0, _, i, h => by omega
  | n + 1, h, i, hi => by
    simp only [allLt, Bool.and_eq_true, Nat.blt_eq] at h
    rcases Nat.lt_succ_iff_lt_or_eq.1 hi with h1 | h1
    · exact allLt_spec h.2 i h1
    · subst h1; exact h.1

/-- The caller's state is an instance of the state that the contract was proved over. -/
def useC (m : List (Nat × Nat)) (args0 : List AV) (N0 : Nat) (G0 : Heap) (args : List AV) (N : Nat) (G : Heap) : Prop :=
  (bif allLt m N N0 && nodupK (mapKeys ⟨m, [], N0⟩ G0) then True else False) ∧ AV.leL ⟨m, [], N0⟩ args0 args ∧ heapLe ⟨m, [], N0⟩ G0 G

section
variable {P : Program}

theorem ACall.lift {f : Nat} {args0 : List AV} {N0 : Nat} {G0 : Heap} {K0 : AV → Nat → Heap → Prop} (h : ACall P f args0 N0 G0 K0) (m : List (Nat × Nat)) {args : List AV} {N : Nat} {G : Heap} {K : AV → Nat → Heap → Prop}
    (hu : useC m args0 N0 G0 args N G) (hK : ∀ v N' G', K0 v N' G' → N0 ≤ N' → K (v.ren (rN m N0 N)) (Nat.add (Nat.sub N' N0) N) (join m N0 N G0 G' G)) : ACall P f args N G K := by
  refine ⟨h.ok, fun ρ w cargs hH hv => ?_⟩
  obtain ⟨hu1, hargs, hheap⟩ := hu
  obtain ⟨hb, _⟩ := bcond hu1
  simp only [Bool.and_eq_true] at hb
  obtain ⟨b1, b2⟩ := hb
  have hlt := allLt_spec b1
  obtain ⟨hH0, hO0⟩ := hH.forget hheap b2
  have hv0 := AV.leL_sound (G' := G0) _ _ _ hargs hv
  refine (h.run _ w cargs hH0 hv0).mono fun e w' ⟨v, he, ho⟩ => ⟨v, he, ?_⟩
  obtain ⟨av, ρ', N', G', hK0, hav, hH', hN, hag, hfr, hown⟩ := ho.ex
  have hm : ∀ id p, reρ ⟨m, [], N0⟩ ρ G0 id p = ρ (mlook m id) p := fun id p => by simp [reρ, memB]
  -- the names
  let ρ2 : Rho := fun id p => if id < N then ρ id p else ρ' (id - N + N0) p
  have hρ2 : ∀ id, id < N' → ρ2 (rN m N0 N id) = ρ' id := fun id hid => by
    funext p
    simp only [rN, ρ2]
    cases hb : Nat.blt id N0 with
    | true =>
      have hb : id < N0 := by simpa [Nat.blt_eq] using hb
      simp only [cond_true]
      rw [if_pos (hlt id hb), hag id hb, hm]
    | false =>
      have hb : ¬ id < N0 := fun h => by rw [show Nat.blt id N0 = true by simpa [Nat.blt_eq] using h] at hb; cases hb
      simp only [cond_false, Nat.add_eq, Nat.sub_eq]
      rw [if_neg (by omega), show id - N0 + N - N + N0 = id by omega]
  have hr : ∀ id, id < N' → rN m N0 N id < Nat.add (Nat.sub N' N0) N := fun id hid => by
    simp only [rN, Nat.add_eq, Nat.sub_eq]
    cases hb : Nat.blt id N0 with
    | true => have := hlt id (by simpa [Nat.blt_eq] using hb); simp only [cond_true]; omega
    | false =>
      have hb : ¬ id < N0 := fun h => by rw [show Nat.blt id N0 = true by simpa [Nat.blt_eq] using h] at hb; cases hb
      simp only [cond_false]; omega
  have hVR : ∀ a c, VR ρ' N' a c → VR ρ2 (Nat.add (Nat.sub N' N0) N) (a.ren (rN m N0 N)) c := fun a c hac =>
    VR.of_ren (ρ := ρ2) (m := rN m N0 N) (N := N') hr a c (VR.mono (Nat.le_refl _) hρ2 a c hac)
  have hρ2N : ∀ id, id < N → ρ2 id = ρ id := fun id hid => by funext p; simp only [ρ2]; rw [if_pos hid]
  have hNN : N ≤ Nat.add (Nat.sub N' N0) N := by simp only [Nat.add_eq, Nat.sub_eq]; omega
  -- the nodes
  have hA : ∀ {k p nd own}, NodeAt (join m N0 N G0 G' G) k p nd own →
      (own = true ∧ ∃ id nd', id < N' ∧ k = rN m N0 N id ∧ NodeAt G' id p nd' true ∧ nd.n = nd'.n ∧ nd.sz = nd'.sz ∧ (∀ i j, nd.cell i j = (nd'.cell i j).ren (rN m N0 N)) ∧ ρ2 k = ρ' id) ∨
      (NodeAt G k p nd own ∧ ownKey m G0 k = false ∧ ρ2 k = ρ k) := fun {k p nd own} hn => by
    obtain ⟨o, h1, h2, h3⟩ := hn.ex
    rcases joinA_get h1 with ⟨id, o', _, q1, q2, _, rfl, rfl⟩ | h1
    · left
      rw [AObj.ren_own] at h3
      obtain ⟨nd', r1, r2, r3, r4⟩ := AObj.ren_node h2
      have hid := hH'.keys id o' q1
      exact ⟨h3 ▸ q2, id, nd', hid, rfl, ⟨⟨o', q1, r1, q2⟩⟩, r2, r3, r4, hρ2 id hid⟩
    · right
      obtain ⟨h1, h4⟩ := joinB_get h1
      exact ⟨⟨⟨o, h1, h2, h3⟩⟩, h4, hρ2N k (hH.keys k o h1)⟩
  -- what the call may have turned is none of the others
  have hnot : ∀ {k p nd own}, NodeAt G k p nd own → ownKey m G0 k = false → Solid (ρ k p) nd own → ¬ Owns (reρ ⟨m, [], N0⟩ ρ G0) G0 (ρ k p).b := fun {k p nd own} hn hk hs ho => by
    obtain ⟨i, q, nd0, hn0, ht, hb⟩ := ho
    rw [hm] at ht hb
    obtain ⟨o0, g1, g2, g3⟩ := hn0.ex
    obtain ⟨_, g4⟩ := heapLe_get hheap g1
    rcases g4 with ⟨hz, _⟩ | ⟨hz, o1, g5, g6⟩
    · simp [memB] at hz
    · obtain ⟨nd1, g7, _, g8⟩ := AObj.le_node (id := i) g6 ((heapLe_get hheap g1).1) hz g2
      refine hH.sep (mlook m i) q nd1 k p nd own ⟨⟨o1, g5, g7, g8 g3⟩⟩ hn (fun e => ?_) ht hs hb
      rw [← e.1, ownKey_of g1 g3] at hk
      cases hk
  have hAB : ∀ {id p nd k q nd' own'}, NodeAt G' id p nd true → NodeAt G k q nd' own' → ownKey m G0 k = false → 0 < (ρ' id p).tot → Solid (ρ k q) nd' own' → (ρ' id p).b ≠ (ρ k q).b := fun {id p nd k q nd' own'} hn hn' hk ht hs e => by
    rcases hown _ ⟨id, p, nd, hn, ht, rfl⟩ with h1 | h1
    · have := hH.lt hn' hs; omega
    · rw [e] at h1; exact hnot hn' hk hs h1
  refine ⟨⟨_, ρ2, _, _, hK _ _ _ hK0 hN, hVR _ _ hav, ⟨fun k o h1 => ?_, fun k p nd own hn => ?_, fun k p nd own hn => ?_, fun k p nd hn => ?_, fun k p nd k' p' nd' own' hn hn' hne ht hs => ?_⟩, hNN, hρ2N,
    ⟨hfr.os, hfr.tape, hfr.output, hfr.size, fun k hk hno => hfr.block k hk (fun ho => hno (hO0 k ho))⟩, fun b hb => ?_⟩⟩
  · rcases joinA_get h1 with ⟨id, o', _, q1, _, _, rfl, _⟩ | h1
    · exact hr id (hH'.keys id o' q1)
    · exact Nat.lt_of_lt_of_le (hH.keys k o (joinB_get h1).1) hNN
  · rcases hA hn with ⟨_, id, nd', hid, rfl, hn', r1, r2, _, r4⟩ | ⟨hn', _, r4⟩
    · rw [r4, r1, r2]; exact hH'.shape id p nd' true hn'
    · rw [r4]; exact hH.shape k p nd own hn'
  · intro i hi j hj
    rcases hA hn with ⟨_, id, nd', hid, rfl, hn', r1, r2, r3, r4⟩ | ⟨hn', hk, r4⟩
    · rw [r4, r2, r3]
      obtain ⟨c, c1, c2, c3⟩ := hH'.rd id p nd' true hn' i (r1 ▸ hi) j (r2 ▸ hj)
      exact ⟨c, c1, hVR _ _ c2, c3⟩
    · rw [r4]
      obtain ⟨c, c1, c2, c3⟩ := hH.rd k p nd own hn' i hi j hj
      refine ⟨c, ?_, c2.mono hNN hρ2N, c3⟩
      have hs : Solid (ρ k p) nd own := by
        cases own with
        | false => simp only [Solid, Bool.false_eq_true, if_false]; exact Nat.mul_pos (by omega) (by omega)
        | true =>
          simp only [Solid, if_true]
          rcases hH.ow _ _ _ hn' with ⟨_, h0⟩ | ⟨_, _, _, _, h0⟩
          · omega
          · exact h0
      rw [← c1]
      exact World.cell?_of_block (w := w) (hfr.block _ (hH.lt hn' hs) (hnot hn' hk hs))
  · rcases hA hn with ⟨_, id, nd', hid, rfl, hn', r1, r2, r3, r4⟩ | ⟨hn', hk, r4⟩
    · rw [r4, r1]; exact hH'.ow id p nd' hn'
    · rw [r4]
      rcases hH.ow k p nd hn' with h | ⟨c, t, h1, h2, h3⟩
      · exact .inl h
      · have hs : Solid (ρ k p) nd true := by simpa [Solid] using h3
        exact .inr ⟨c, t, (hfr.block _ (hH.lt hn' hs) (hnot hn' hk hs)).trans h1, h2, h3⟩
  · rcases hA hn with ⟨_, id, nd1, hid, rfl, hn1, r1, r2, r3, r4⟩ | ⟨hn1, hk, r4⟩
    · rcases hA hn' with ⟨rfl, id', nd2, hid', rfl, hn2, s1, s2, s3, s4⟩ | ⟨hn2, hk', s4⟩
      · rw [r4] at ht ⊢
        rw [s4] at hs ⊢
        refine hH'.sep id p nd1 id' p' nd2 true hn1 hn2 (fun e => hne ⟨by rw [e.1], e.2⟩) ht (by simpa [Solid] using hs)
      · rw [r4] at ht ⊢
        rw [s4] at hs ⊢
        exact hAB hn1 hn2 hk' ht hs
    · rcases hA hn' with ⟨rfl, id', nd2, hid', rfl, hn2, s1, s2, s3, s4⟩ | ⟨hn2, hk', s4⟩
      · rw [r4] at ht ⊢
        rw [s4] at hs ⊢
        exact Ne.symm (hAB hn2 hn1 hk (by simpa [Solid] using hs) (by simpa [Solid] using ht))
      · rw [r4] at ht ⊢
        rw [s4] at hs ⊢
        exact hH.sep k p nd k' p' nd' own' hn1 hn2 hne ht hs
  · obtain ⟨k, p, nd, hn, ht, rfl⟩ := hb
    rcases hA hn with ⟨_, id, nd1, hid, rfl, hn1, r1, r2, r3, r4⟩ | ⟨hn1, hk, r4⟩
    · rw [r4] at ht ⊢
      rcases hown _ ⟨id, p, nd1, hn1, ht, rfl⟩ with h | h
      · exact .inl h
      · exact .inr (hO0 _ h)
    · rw [r4] at ht ⊢
      exact .inr ⟨k, p, nd, hn1, ht, rfl⟩

end
end Go.Sx
