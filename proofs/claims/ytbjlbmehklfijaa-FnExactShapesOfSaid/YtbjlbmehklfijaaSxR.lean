/-
  Regions whose order is drawn: every order.
-/
import Derived.Test.YtbjlbmehklfijaaSxN
import Derived.OrdersHeld
namespace Go.Sx
set_option linter.unusedVariables false
set_option linter.unusedSimpArgs false
open Go
open Go.RowKit

/-! ### All orders, with what must be kept for those taken early -/
section
variable {P : Program} {ops : Array Oper} {Q : Exit → Act → World → Prop}

def wpG (P : Program) (ops : Array Oper) (Q : Exit → Act → World → Prop) (dep : Nat → Nat → Bool) : Nat → List (Nat × (World → Prop)) → Array Bool → Act → World → Prop
  | 0, _, listed, a, w => Region.ready .any ops listed = [] ∧ Q .normal a w
  | fuel + 1, pend, listed, a, w =>
    (Region.ready .any ops listed = [] → Q .normal a w) ∧
    ∀ j ∈ Region.ready .any ops listed, wpOp P ops Q j (fun a' w' => (∀ x ∈ pend, dep x.1 j = false → x.2 w') ∧ wpG P ops Q dep fuel (pend.filter fun x => !dep x.1 j) (listed.setIfInBounds j true) a' w') a w

theorem wpAny_of_wpG {dep : Nat → Nat → Bool} : ∀ (fuel : Nat) (pend : List (Nat × (World → Prop))) (listed : Array Bool) (a : Act) (w : World), wpG P ops Q dep fuel pend listed a w → wpAny P .any ops Q fuel listed a w
  | 0, _, _, _, _, h => h
  | fuel + 1, _, _, _, _, h => ⟨h.1, fun i hi => wpOp_mono (fun a' w' h' => wpAny_of_wpG fuel _ _ a' w' h'.2) (h.2 i hi)⟩

theorem wpG_sub {dep : Nat → Nat → Bool} : ∀ (fuel : Nat) (pend pend' : List (Nat × (World → Prop))) (listed : Array Bool) (a : Act) (w : World), (∀ x ∈ pend', x ∈ pend) → wpG P ops Q dep fuel pend listed a w → wpG P ops Q dep fuel pend' listed a w
  | 0, _, _, _, _, _, _, h => h
  | fuel + 1, pend, pend', _, _, _, hs, h => ⟨h.1, fun j hj => wpOp_mono (fun a' w' h' => ⟨fun x hx hd => h'.1 x (hs x hx) hd, wpG_sub fuel _ _ _ a' w' (fun x hx => by
      rw [List.mem_filter] at hx ⊢
      exact ⟨hs x hx.1, hx.2⟩) h'.2⟩) (h.2 j hj)⟩

/-- An operation that may come up now is taken first. -/
theorem wpG_first {dep : Nat → Nat → Bool} (hdep : ∀ i j oj, ops[j]? = some oj → dep i j = true → ∃ e ∈ oj.after, Region.binds .any e = true ∧ e.on = i) {i : Nat} {oi : Oper} {v : Value} {S : World → Prop} (hi : ops[i]? = some oi) (hsel : ∀ (j : Nat) (o : Oper) cs b, ops[j]? = some o → o.op ≠ .select cs b)
    (hQ : ∀ c a w, Q (.panic c) (a.put oi.dst v) w → Q (.panic c) a w) :
    ∀ (fuel : Nat) (pend : List (Nat × (World → Prop))) (listed : Array Bool) (a : Act) (w : World),
      (∀ j oj, ops[j]? = some oj → j ≠ i → listed.getD j true = false → (∀ e ∈ oj.after, Region.binds .any e = true → e.on ≠ i) → oi.apart ops oj = true) →
      i ∈ Region.ready .any ops listed → YieldsIf P ops S oi v a → S w → (∀ x ∈ pend, x.2 w) →
      wpG P ops Q dep fuel ((i, S) :: pend) (listed.setIfInBounds i true) (a.put oi.dst v) w → wpG P ops Q dep (fuel + 1) pend listed a w := by
  intro fuel
  induction fuel with
  | zero =>
    intro pend listed a w _ hr hy hS hp H
    refine ⟨fun h => (by rw [h] at hr; cases hr), fun j hj => ?_⟩
    by_cases hji : j = i
    · subst hji; exact hy.wpOp hi hS ⟨fun x hx _ => hp x hx, H⟩
    · have := ready_mono hj hji
      rw [H.1] at this
      cases this
  | succ fuel ih =>
    intro pend listed a w hfree hr hy hS hp H
    refine ⟨fun h => (by rw [h] at hr; cases hr), fun j hj => ?_⟩
    by_cases hji : j = i
    · subst hji
      refine hy.wpOp hi hS ⟨fun x hx _ => hp x hx, wpG_sub _ _ _ _ _ _ (fun x hx => ?_) H⟩
      exact List.mem_cons_of_mem _ (List.mem_filter.1 hx).1
    · have h1 := H.2 j (ready_mono hj hji)
      obtain ⟨hjun, oj, hoj, hall⟩ := mem_ready.1 hj
      have hnot : ∀ e ∈ oj.after, Region.binds .any e = true → e.on ≠ i := fun e he hb heq => by
        have h1 := hall e he hb
        have h0 := (mem_ready.1 hr).1
        rw [heq] at h1
        rcases Nat.lt_or_ge i listed.size with h' | h'
        · simp [h'] at h0 h1; rw [h0] at h1; cases h1
        · simp [Array.getElem?_eq_none h'] at h1
      have hdij : dep i j = false := by
        cases hd : dep i j with
        | false => rfl
        | true =>
          obtain ⟨e, he, hb, ho⟩ := hdep i j oj hoj hd
          exact absurd ho (hnot e he hb)
      have h2 := wpOp_putIf hoj (hfree j oj hoj hji hjun hnot) (fun cs b => hsel i oi cs b hi) (fun cs b => hsel j oj cs b hoj) hQ hy h1
      have hfree' : ∀ k ok, ops[k]? = some ok → k ≠ i → (listed.setIfInBounds j true).getD k true = false →
          (∀ e ∈ ok.after, Region.binds .any e = true → e.on ≠ i) → oi.apart ops ok = true := fun k ok hk hki hun hno => by
        refine hfree k ok hk hki ?_ hno
        by_cases hjk : j = k
        · subst hjk; exact hjun
        · rw [getD_set_ne true hjk] at hun; exact hun
      refine wpOp_mono (fun a' w' h3 => ⟨fun x hx hd => h3.2.1 x (List.mem_cons_of_mem _ hx) hd, ih _ (listed.setIfInBounds j true) a' w' hfree' (ready_mono hr (Ne.symm hji)) h3.1 (h3.2.1 (i, S) (List.mem_cons_self ..) hdij) (fun x hx => ?_) ?_⟩) h2
      · obtain ⟨q1, q2⟩ := List.mem_filter.1 hx
        exact h3.2.1 x (List.mem_cons_of_mem _ q1) (by simpa using q2)
      · rw [Array.setIfInBounds_comm _ _ hji]
        have := h3.2.2
        simpa only [List.filter_cons, hdij, Bool.not_false, if_true] using this

end

/-! ### A step on a smaller heap -/
def delL (W : List Nat) : Heap → Heap
  | [] => []
  | (k, o) :: r => bif memB W k then delL W r else (k, o) :: delL W r
def keepB (W : List Nat) (G : Heap) (id : Nat) : Bool :=
  match hget G id with
  | some o => memB W id || !o.own
  | none => false
def ownB (G : Heap) (id : Nat) : Bool :=
  match hget G id with
  | some o => o.own
  | none => false
def keepL (W : List Nat) (G0 : Heap) : Heap → Heap → Heap
  | [], X => X
  | (k, o) :: r, X => bif keepB W G0 k then (k, o) :: keepL W G0 r X else keepL W G0 r X
def ownL (W : List Nat) (G0 G1 : Heap) : Heap → Heap
  | [] => []
  | (k, o) :: r => bif !keepB W G0 k && ownB G1 k then (k, o) :: ownL W G0 G1 r else ownL W G0 G1 r
/-- The heap behind a step that was taken on the heap without W. -/
def backL (W : List Nat) (G G' : Heap) : Heap := keepL W G G (ownL W G G' G')
theorem hget_delL (W : List Nat) : ∀ (G : Heap) (id : Nat), hget (delL W G) id = if memB W id = true then none else hget G id
  | [], id => by simp [delL, hget]
  | (k, o) :: r, id => by
    simp only [delL]
    cases hb : memB W k with
    | true =>
      simp only [cond_true, hget_delL W r id, hget_cons]
      by_cases h : id = k
      · subst h; simp [hb]
      · simp [h]
    | false =>
      simp only [cond_false, hget_cons, hget_delL W r id]
      by_cases h : id = k
      · subst h; simp [hb]
      · simp [h]
theorem hget_keepL (W : List Nat) (G0 : Heap) : ∀ (G X : Heap) (id : Nat), hget (keepL W G0 G X) id = if keepB W G0 id = true then (hget G id).or (hget X id) else hget X id
  | [], X, id => by simp [keepL, hget]
  | (k, o) :: r, X, id => by
    simp only [keepL]
    cases hb : keepB W G0 k with
    | true =>
      simp only [cond_true, hget_cons, hget_keepL W G0 r X id]
      by_cases h : id = k
      · subst h; simp [hb]
      · simp [h]
    | false =>
      simp only [cond_false, hget_keepL W G0 r X id, hget_cons]
      by_cases h : id = k
      · subst h; simp [hb]
      · simp [h]
theorem hget_ownL (W : List Nat) (G0 G1 : Heap) : ∀ (G : Heap) (id : Nat), hget (ownL W G0 G1 G) id = if (!keepB W G0 id && ownB G1 id) = true then hget G id else none
  | [], id => by simp [ownL, hget]
  | (k, o) :: r, id => by
    simp only [ownL]
    cases hb : (!keepB W G0 k && ownB G1 k) with
    | true =>
      simp only [cond_true, hget_cons, hget_ownL W G0 G1 r id]
      by_cases h : id = k
      · subst h; rw [if_pos rfl, if_pos rfl, if_pos hb]
      · rw [if_neg h, if_neg h]
    | false =>
      simp only [cond_false, hget_cons, hget_ownL W G0 G1 r id]
      by_cases h : id = k
      · subst h; rw [if_neg (by rw [hb]; simp), if_neg (by rw [hb]; simp)]
      · rw [if_neg h]
theorem backL_get {W : List Nat} {G G' : Heap} {id : Nat} {o : AObj} (h : hget (backL W G G') id = some o) :
    (keepB W G id = true ∧ hget G id = some o) ∨ (keepB W G id = false ∧ hget G' id = some o ∧ o.own = true) := by
  unfold backL at h
  rw [hget_keepL, hget_ownL] at h
  cases hk : keepB W G id with
  | true => simp only [hk, if_true, Bool.not_true, Bool.false_and, Bool.false_eq_true, if_false, Option.or_none] at h; exact .inl ⟨rfl, h⟩
  | false =>
    simp only [hk, Bool.false_eq_true, if_false, Bool.not_false, Bool.true_and] at h
    split at h
    · rename_i ho
      refine .inr ⟨rfl, h, ?_⟩
      unfold ownB at ho
      rw [h] at ho
      exact ho
    · cases h
theorem backL_keep {W : List Nat} {G G' : Heap} {id : Nat} (hm : memB W id = true ∨ ownB G id = false) (hne : hget G id ≠ none) : hget (backL W G G') id = hget G id := by
  cases h : hget G id with
  | none => exact absurd h hne
  | some o =>
    have hk : keepB W G id = true := by
      rcases hm with hm | hm
      · simp [keepB, h, hm]
      · simp only [ownB, h] at hm
        simp [keepB, h, hm]
    unfold backL
    rw [hget_keepL, if_pos hk, h]
    rfl

section
variable {P : Program} {T : Tbl} {ρ : Rho} {N : Nat} {G : Heap} {w : World}

theorem out_frame (hH : HeapRep ρ N G w) (W : List Nat) {K : AV → Nat → Heap → Prop} {v : Value} {w' : World} (h : Out ρ N (delL W G) w K v w') :
    (∃ av ρ' N' G', K av N' G' ∧ VR ρ' N' av v ∧ HeapRep ρ' N' (backL W G G') w' ∧ N ≤ N' ∧ (∀ id, id < N → ρ' id = ρ id) ∧ FrameW (Owns ρ G) w w' ∧ (∀ b, Owns ρ' (backL W G G') b → w.heap.size ≤ b ∨ Owns ρ G b) ∧
      (∀ id, memB W id = true ∨ ownB G id = false → hget G id ≠ none → hget (backL W G G') id = hget G id)) ∧ (∀ id, memB W id = true ∨ ownB G id = false → Same ρ G (some id) w w') := by
  obtain ⟨av, ρ', N', G', hK, hv, hH', hN, hag, hfr, hown⟩ := h.ex
  have hsub : ∀ i o, hget (delL W G) i = some o → hget G i = some o ∧ memB W i = false := fun i o h => by
    rw [hget_delL] at h
    split at h
    · cases h
    · rename_i hm; exact ⟨h, by simpa using hm⟩
  have hnot0 : ∀ {id p nd own}, (memB W id = true ∨ own = false) → NodeAt G id p nd own → Solid (ρ id p) nd own → ¬ Owns ρ (delL W G) (ρ id p).b := fun {id p nd own} hm hn hs ho => by
    obtain ⟨i, q, nd', hn', ht, hb⟩ := ho
    obtain ⟨o, h1, h2, h3⟩ := hn'.ex
    obtain ⟨h1, h4⟩ := hsub _ _ h1
    refine hH.sep i q nd' id p nd own ⟨⟨o, h1, h2, h3⟩⟩ hn (fun e => ?_) ht hs hb
    rcases hm with hm | hm
    · rw [e.1, hm] at h4; cases h4
    · obtain ⟨o', g1, _, g3⟩ := hn.ex
      rw [← e.1, h1] at g1
      injection g1 with g1
      subst g1
      rw [h3, hm] at g3; cases g3
  have hkeep : ∀ {id p nd own}, keepB W G id = true → NodeAt G id p nd own → memB W id = true ∨ own = false := fun {id p nd own} hk hn => by
    obtain ⟨o, g1, _, g3⟩ := hn.ex
    unfold keepB at hk
    rw [g1] at hk
    simp only [Bool.or_eq_true, Bool.not_eq_true'] at hk
    exact hk.imp (fun h => h) (fun h => g3.symm.trans h)
  have hnot : ∀ {id p nd own}, keepB W G id = true → NodeAt G id p nd own → Solid (ρ id p) nd own → ¬ Owns ρ (delL W G) (ρ id p).b := fun {id p nd own} hk hn hs => hnot0 (hkeep hk hn) hn hs
  have hblk : ∀ {id p nd own}, keepB W G id = true → NodeAt G id p nd own → Solid (ρ id p) nd own → w'.heap[(ρ id p).b]? = w.heap[(ρ id p).b]? := fun {id p nd own} hk hn hs => hfr.block _ (hH.lt hn hs) (hnot hk hn hs)
  have hsame : ∀ id, memB W id = true ∨ ownB G id = false → Same ρ G (some id) w w' := fun id hm => by
    intro id' e p nd own hn hs
    injection e with e
    subst e
    refine hfr.block _ (hH.lt hn hs) (hnot0 (hm.imp (fun h => h) fun h => ?_) hn hs)
    obtain ⟨o, g1, _, g3⟩ := hn.ex
    simp only [ownB, g1] at h
    rw [← g3, h]
  have hA : ∀ {id p nd own}, NodeAt (backL W G G') id p nd own → (keepB W G id = true ∧ NodeAt G id p nd own ∧ ρ' id = ρ id) ∨ (own = true ∧ NodeAt G' id p nd true) := fun {id p nd own} hn => by
    obtain ⟨o, h1, h2, h3⟩ := hn.ex
    rcases backL_get h1 with ⟨hk, h1⟩ | ⟨hk, h1, ho⟩
    · exact .inl ⟨hk, ⟨⟨o, h1, h2, h3⟩⟩, hag id (hH.keys id o h1)⟩
    · exact .inr ⟨h3 ▸ ho, ⟨⟨o, h1, h2, ho⟩⟩⟩
  have hAB : ∀ {id p nd k q nd' own'}, NodeAt G' id p nd true → keepB W G k = true → NodeAt G k q nd' own' → 0 < (ρ' id p).tot → Solid (ρ k q) nd' own' → (ρ' id p).b ≠ (ρ k q).b := fun {id p nd k q nd' own'} hn hk hn' ht hs e => by
    rcases hown _ ⟨id, p, nd, hn, ht, rfl⟩ with h1 | h1
    · have := hH.lt hn' hs; omega
    · rw [e] at h1; exact hnot hk hn' hs h1
  have hfr' : FrameW (Owns ρ G) w w' := ⟨hfr.os, hfr.tape, hfr.output, hfr.size, fun k hk hno => hfr.block k hk fun ho => hno (ho.sub fun i o h => (hsub i o h).1)⟩
  refine ⟨⟨av, ρ', N', G', hK, hv, ⟨fun id o h => ?_, fun id p nd own hn => ?_, fun id p nd own hn i hi j hj => ?_, fun id p nd hn => ?_, fun id p nd id' p' nd' own' hn hn' hne ht hs => ?_⟩, hN, hag, hfr', fun b hb => ?_, fun id hm hne => backL_keep hm hne⟩, hsame⟩
  · rcases backL_get h with ⟨_, h⟩ | ⟨_, h, _⟩
    · exact Nat.lt_of_lt_of_le (hH.keys id o h) hN
    · exact hH'.keys id o h
  · rcases hA hn with ⟨hm, hn', e⟩ | ⟨_, hn'⟩
    · rw [e]; exact hH.shape id p nd own hn'
    · exact hH'.shape id p nd true hn'
  · rcases hA hn with ⟨hm, hn', e⟩ | ⟨_, hn'⟩
    · rw [e]
      obtain ⟨c, c1, c2, c3⟩ := hH.rd id p nd own hn' i hi j hj
      refine ⟨c, ?_, c2.mono hN hag, c3⟩
      rw [← c1]
      exact World.cell?_of_block (w := w) (hblk hm hn' (hH.solid hn' (Nat.mul_pos (by omega) (by omega))))
    · exact hH'.rd id p nd true hn' i hi j hj
  · rcases hA hn with ⟨hm, hn', e⟩ | ⟨_, hn'⟩
    · rw [e]
      rcases hH.ow id p nd hn' with h | ⟨c, t, h1, h2, h3⟩
      · exact .inl h
      · exact .inr ⟨c, t, (hblk hm hn' (by simpa [Solid] using h3)).trans h1, h2, h3⟩
    · exact hH'.ow id p nd hn'
  · rcases hA hn with ⟨hm, hn1, e⟩ | ⟨_, hn1⟩ <;> rcases hA hn' with ⟨hm', hn2, e'⟩ | ⟨ho', hn2⟩
    · rw [e] at ht ⊢; rw [e'] at hs ⊢; exact hH.sep id p nd id' p' nd' own' hn1 hn2 hne ht hs
    · subst ho'
      rw [e] at ht ⊢
      exact Ne.symm (hAB hn2 hm hn1 (by simpa [Solid] using hs) (by simpa [Solid] using ht))
    · rw [e'] at hs ⊢; exact hAB hn1 hm' hn2 ht hs
    · subst ho'; exact hH'.sep id p nd id' p' nd' true hn1 hn2 hne ht hs
  · obtain ⟨id, p, nd, hn, ht, rfl⟩ := hb
    rcases hA hn with ⟨hm, hn1, e⟩ | ⟨_, hn1⟩
    · rw [e] at ht ⊢; exact .inr ⟨id, p, nd, hn1, ht, rfl⟩
    · rcases hown _ ⟨id, p, nd, hn1, ht, rfl⟩ with h | h
      · exact .inl h
      · exact .inr (h.sub fun i o h => (hsub i o h).1)

end
/-- Those of a list that are own objects. -/
def ownIds (G : Heap) : List Nat → List Nat
  | [] => []
  | x :: r => bif ownB G x then x :: ownIds G r else ownIds G r
theorem ownIds_or {G : Heap} : ∀ {W : List Nat} {id : Nat}, memB W id = true → memB (ownIds G W) id = true ∨ ownB G id = false
  | [], id, h => by simp [memB] at h
  | x :: r, id, h => by
    simp only [memB] at h
    simp only [ownIds]
    cases hb : Nat.beq x id with
    | true =>
      have := Nat.eq_of_beq_eq_true hb
      subst this
      cases ho : ownB G x with
      | true => simp [memB]
      | false => exact .inr rfl
    | false =>
      rw [hb] at h
      simp only [cond_false] at h
      rcases ownIds_or (G := G) h with h1 | h1
      · left
        cases ho : ownB G x with
        | true => simp [memB, hb, h1]
        | false => simpa using h1
      · exact .inr h1
end Go.Sx
