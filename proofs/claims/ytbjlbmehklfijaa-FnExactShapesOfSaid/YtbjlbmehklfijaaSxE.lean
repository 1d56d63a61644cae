/-
  Effects: what becomes of the heap when an object of the call's own is made, written or grows.
-/
import Derived.Test.YtbjlbmehklfijaaSxD
namespace Go.Sx
set_option linter.unusedVariables false
set_option linter.unusedSimpArgs false
open Go
open Go.RowKit

/-! ### The heap as a list -/
def hdel : Heap → Nat → Heap
  | [], _ => []
  | (k, o) :: r, id => bif Nat.beq k id then hdel r id else (k, o) :: hdel r id
def hset : Heap → Nat → AObj → Heap
  | [], _, _ => []
  | (k, o) :: r, id, x => bif Nat.beq k id then (k, x) :: r else (k, o) :: hset r id x

theorem hget_hdel (G : Heap) (id i : Nat) : hget (hdel G id) i = if i = id then none else hget G i := by
  induction G with
  | nil => simp [hdel, hget]
  | cons x r ih =>
    obtain ⟨k, o⟩ := x
    simp only [hdel]
    cases hb : Nat.beq k id with
    | true =>
      have := Nat.eq_of_beq_eq_true hb
      subst this
      simp only [cond_true, ih, hget]
      by_cases h : i = k
      · simp [h]
      · have : Nat.beq k i = false := by
          cases h2 : Nat.beq k i with
          | true => exact absurd (Nat.eq_of_beq_eq_true h2).symm h
          | false => rfl
        simp [h, this]
    | false =>
      simp only [cond_false, hget, ih]
      cases h2 : Nat.beq k i with
      | true =>
        have := Nat.eq_of_beq_eq_true h2
        subst this
        have : k ≠ id := fun e => by subst e; simp at hb
        simp [this]
      | false => simp
theorem hget_cons (G : Heap) (id i : Nat) (o : AObj) : hget ((id, o) :: G) i = if i = id then some o else hget G i := by
  simp only [hget]
  cases h : Nat.beq id i with
  | true => have := Nat.eq_of_beq_eq_true h; subst this; simp
  | false =>
    have : i ≠ id := fun e => by subst e; simp at h
    simp [this]
theorem hget_hset (G : Heap) (id i : Nat) (x : AObj) : hget (hset G id x) i = if i = id then (hget G id).map (fun _ => x) else hget G i := by
  induction G with
  | nil => simp [hset, hget]
  | cons y r ih =>
    obtain ⟨k, o⟩ := y
    simp only [hset]
    cases hb : Nat.beq k id with
    | true =>
      have := Nat.eq_of_beq_eq_true hb
      subst this
      simp only [cond_true, hget_cons]
      by_cases h : i = k <;> simp [h]
    | false =>
      have hne : k ≠ id := fun e => by subst e; simp at hb
      simp only [cond_false, hget_cons, ih]
      by_cases h : i = k
      · subst h; simp [hne]
      · by_cases h3 : i = id
        · subst h3; simp [h]
        · simp [h, h3]

section
variable {P : Program} {T : Tbl} {ρ : Rho} {N : Nat} {G : Heap} {w : World}

theorem NodeAt.congr {G G' : Heap} (h : ∀ i, hget G i = hget G' i) {id : Nat} {p : List Nat} {nd : Node} {own : Bool} (hn : NodeAt G id p nd own) : NodeAt G' id p nd own := by
  obtain ⟨o, h1, h2⟩ := hn.ex
  exact ⟨⟨o, (h id) ▸ h1, h2⟩⟩
theorem HeapRep.congr {G G' : Heap} (h : ∀ i, hget G i = hget G' i) (hH : HeapRep ρ N G w) : HeapRep ρ N G' w := by
  have hb : ∀ {id p nd own}, NodeAt G' id p nd own → NodeAt G id p nd own := fun hn => NodeAt.congr (fun i => (h i).symm) hn
  exact ⟨fun id o hg => hH.keys id o ((h id).trans hg), fun id p nd own hn => hH.shape id p nd own (hb hn), fun id p nd own hn => hH.rd id p nd own (hb hn), fun id p nd hn => hH.ow id p nd (hb hn),
    fun id p nd id' p' nd' own' hn hn' => hH.sep id p nd id' p' nd' own' (hb hn) (hb hn')⟩
/-- Fewer objects. -/
theorem HeapRep.sub {G G' : Heap} (h : ∀ i o, hget G' i = some o → hget G i = some o) (hH : HeapRep ρ N G w) : HeapRep ρ N G' w := by
  have hb : ∀ {id p nd own}, NodeAt G' id p nd own → NodeAt G id p nd own := fun hn => by
    obtain ⟨o, h1, h2⟩ := hn.ex
    exact ⟨⟨o, h _ _ h1, h2⟩⟩
  exact ⟨fun id o hg => hH.keys id o (h id o hg), fun id p nd own hn => hH.shape id p nd own (hb hn), fun id p nd own hn => hH.rd id p nd own (hb hn), fun id p nd hn => hH.ow id p nd (hb hn),
    fun id p nd id' p' nd' own' hn hn' => hH.sep id p nd id' p' nd' own' (hb hn) (hb hn')⟩
theorem HeapRep.del (hH : HeapRep ρ N G w) (id : Nat) : HeapRep ρ N (hdel G id) w :=
  hH.sub fun i o h => by
    rw [hget_hdel] at h
    split at h
    · cases h
    · exact h
theorem Owns.sub {G G' : Heap} (h : ∀ i o, hget G' i = some o → hget G i = some o) {b : Nat} (ho : Owns ρ G' b) : Owns ρ G b := by
  obtain ⟨id, p, nd, hn, ht, hb⟩ := ho
  obtain ⟨o, h1, h2⟩ := hn.ex
  exact ⟨id, p, nd, ⟨⟨o, h _ _ h1, h2⟩⟩, ht, hb⟩

theorem HeapRep.lt (hH : HeapRep ρ N G w) {id : Nat} {p : List Nat} {nd : Node} {own : Bool} (hn : NodeAt G id p nd own) (hs : Solid (ρ id p) nd own) : (ρ id p).b < w.heap.size := by
  cases own with
  | true =>
    simp only [Solid, if_true] at hs
    rcases hH.ow id p nd hn with ⟨h0, _⟩ | ⟨c, t, hc, _⟩
    · omega
    · exact (Array.getElem?_eq_some_iff.1 hc).1
  | false =>
    simp only [Solid, Bool.false_eq_true, if_false] at hs
    have h1 : 0 < nd.n := Nat.pos_of_mul_pos_right hs
    have h2 : 0 < nd.sz := Nat.pos_of_mul_pos_left hs
    obtain ⟨v, hc, _⟩ := hH.rd id p nd false hn 0 h1 0 h2
    exact World.block_lt_of_cell? w _ hc

/-- A world that has turned elsewhere alone. -/
theorem HeapRep.frame (hH : HeapRep ρ N G w) {w' : World} {may : Nat → Prop} (hf : FrameW may w w') (hm : ∀ id p nd own, NodeAt G id p nd own → Solid (ρ id p) nd own → ¬ may (ρ id p).b) : HeapRep ρ N G w' := by
  have hb : ∀ id p nd own, NodeAt G id p nd own → Solid (ρ id p) nd own → w'.heap[(ρ id p).b]? = w.heap[(ρ id p).b]? := fun id p nd own hn hs => hf.block _ (hH.lt hn hs) (hm id p nd own hn hs)
  refine ⟨hH.keys, hH.shape, fun id p nd own hn i hi j hj => ?_, fun id p nd hn => ?_, hH.sep⟩
  · obtain ⟨v, hc, hv⟩ := hH.rd id p nd own hn i hi j hj
    refine ⟨v, ?_, hv⟩
    have hs : Solid (ρ id p) nd own := by
      cases own with
      | false => simp only [Solid, Bool.false_eq_true, if_false]; exact Nat.mul_pos (by omega) (by omega)
      | true =>
        simp only [Solid, if_true]
        rcases hH.ow id p nd hn with ⟨_, h0⟩ | ⟨_, _, _, _, h0⟩
        · omega
        · exact h0
    rw [← hc]
    exact World.cell?_of_block (w := w) (hb id p nd own hn hs)
  · rcases hH.ow id p nd hn with h | ⟨c, t, hc, h1, h2⟩
    · exact .inl h
    · exact .inr ⟨c, t, (hb id p nd true hn (by simpa [Solid] using h2)).trans hc, h1, h2⟩

/-- Other names, the same objects. -/
theorem HeapRep.mono (hH : HeapRep ρ N G w) {ρ' : Rho} {N' : Nat} (hN : N ≤ N') (hρ : ∀ id, id < N → ρ' id = ρ id) : HeapRep ρ' N' G w := by
  have hk : ∀ {id p nd own}, NodeAt G id p nd own → ρ' id = ρ id := fun hn => by
    obtain ⟨o, h1, _⟩ := hn.ex
    exact hρ _ (hH.keys _ _ h1)
  refine ⟨fun id o h => Nat.lt_of_lt_of_le (hH.keys id o h) hN, fun id p nd own hn => ?_, fun id p nd own hn => ?_, fun id p nd hn => ?_, fun id p nd id' p' nd' own' hn hn' => ?_⟩
  · rw [hk hn]; exact hH.shape id p nd own hn
  · rw [hk hn]
    intro i hi j hj
    obtain ⟨v, h1, h2, h3⟩ := hH.rd id p nd own hn i hi j hj
    exact ⟨v, h1, h2.mono hN hρ, h3⟩
  · rw [hk hn]; exact hH.ow id p nd hn
  · rw [hk hn, hk hn']; exact hH.sep id p nd id' p' nd' own' hn hn'

/-- One object more (or another one in its place): its nodes lie in blocks that nobody else has. -/
theorem HeapRep.put (hH : HeapRep ρ N G w) {id : Nat} {o : AObj} (hid : id < N) (hnew : hget G id = none) (hown : o.own = true)
    (hb : ∀ p nd, o.node id p = some nd → (ρ id p).sz = nd.sz ∧ (ρ id p).n = nd.n ∧ 0 < nd.sz ∧
      (∀ i, i < nd.n → ∀ j, j < nd.sz → ∃ v, w.cell? ⟨(ρ id p).b, (ρ id p).o + (i * nd.sz + j), none⟩ = some v ∧ VR ρ N (nd.cell i j) v ∧ v.oneCell' = true) ∧
      (((ρ id p).tot = 0 ∧ nd.n = 0) ∨ (∃ c t, w.heap[(ρ id p).b]? = some (.cells c t (0, 0)) ∧ c.size = (ρ id p).tot ∧ 0 < (ρ id p).tot)) ∧
      (0 < (ρ id p).tot → (∀ p' nd', o.node id p' = some nd' → p ≠ p' → 0 < (ρ id p').tot → (ρ id p).b ≠ (ρ id p').b) ∧ ∀ id' p' nd' own', NodeAt G id' p' nd' own' → Solid (ρ id' p') nd' own' → (ρ id p).b ≠ (ρ id' p').b)) :
    HeapRep ρ N ((id, o) :: G) w := by
  have hc : ∀ {i p nd own}, NodeAt ((id, o) :: G) i p nd own → (i = id ∧ o.node id p = some nd ∧ own = true) ∨ (i ≠ id ∧ NodeAt G i p nd own) := fun {i p nd own} hn => by
    obtain ⟨x, h1, h2, h3⟩ := hn.ex
    rw [hget_cons] at h1
    split at h1
    · next he => subst he; injection h1 with h1; subst h1; exact .inl ⟨rfl, h2, h3.symm.trans hown⟩
    · next he => exact .inr ⟨he, ⟨⟨x, h1, h2, h3⟩⟩⟩
  refine ⟨fun i x h => ?_, fun i p nd own hn => ?_, fun i p nd own hn => ?_, fun i p nd hn => ?_, fun i p nd i' p' nd' own' hn hn' hne ht hs => ?_⟩
  · rw [hget_cons] at h
    split at h
    · next he => subst he; exact hid
    · exact hH.keys i x h
  · rcases hc hn with ⟨rfl, h, _⟩ | ⟨_, h⟩
    · obtain ⟨h1, h2, h3, _⟩ := hb p nd h; exact ⟨h1, h2, h3⟩
    · exact hH.shape i p nd own h
  · rcases hc hn with ⟨rfl, h, _⟩ | ⟨_, h⟩
    · obtain ⟨_, _, _, h4, _⟩ := hb p nd h; exact h4
    · exact hH.rd i p nd own h
  · rcases hc hn with ⟨rfl, h, _⟩ | ⟨_, h⟩
    · obtain ⟨_, _, _, _, h5, _⟩ := hb p nd h; exact h5
    · exact hH.ow i p nd h
  · rcases hc hn with ⟨rfl, h, _⟩ | ⟨hi, h⟩ <;> rcases hc hn' with ⟨rfl, h', ho'⟩ | ⟨hi', h'⟩
    · obtain ⟨_, _, _, _, _, h6⟩ := hb p nd h
      subst ho'
      exact (h6 ht).1 p' nd' h' (fun e => hne ⟨rfl, e⟩) (by simpa [Solid] using hs)
    · obtain ⟨_, _, _, _, _, h6⟩ := hb p nd h
      exact (h6 ht).2 i' p' nd' own' h' hs
    · subst ho'
      have hs' : 0 < (ρ i' p').tot := by simpa [Solid] using hs
      obtain ⟨_, _, _, _, _, h6⟩ := hb p' nd' h'
      exact Ne.symm ((h6 hs').2 i p nd true h (by simpa [Solid] using ht))
    · exact hH.sep i p nd i' p' nd' own' h h' hne ht hs

/-! ### What a step or a call leaves -/
structure Out (ρ : Rho) (N : Nat) (G : Heap) (w : World) (K : AV → Nat → Heap → Prop) (v : Value) (w' : World) : Prop where
  ex : ∃ av ρ' N' G', K av N' G' ∧ VR ρ' N' av v ∧ HeapRep ρ' N' G' w' ∧ N ≤ N' ∧ (∀ id, id < N → ρ' id = ρ id) ∧ FrameW (Owns ρ G) w w' ∧ ∀ b, Owns ρ' G' b → w.heap.size ≤ b ∨ Owns ρ G b

theorem Out.mono {K K' : AV → Nat → Heap → Prop} {v : Value} {w' : World} (h : Out ρ N G w K v w') (hk : ∀ a n g, K a n g → K' a n g) : Out ρ N G w K' v w' := by
  obtain ⟨av, ρ', N', G', h1, h2⟩ := h.ex
  exact ⟨⟨av, ρ', N', G', hk _ _ _ h1, h2⟩⟩

/-- The contract of a function: in every world that bears the heap, called with values that the abstract ones stand for. -/
structure FnOK (P : Program) (f : Nat) : Prop where
  ex : ∃ fn : Func, P.funcs[f]? = some fn ∧ (fn.name == "runtime.NumGoroutine") = false ∧ fn.body.isNone = false
structure ACall (P : Program) (f : Nat) (args : List AV) (N : Nat) (G : Heap) (K : AV → Nat → Heap → Prop) : Prop where
  ok : FnOK P f
  run : ∀ ρ w cargs, HeapRep ρ N G w → VRL ρ N args cargs → Calls P f cargs.toArray w fun e w' => ∃ v, e = .returned v ∧ Out ρ N G w K v w'

theorem ACall.mono {f : Nat} {args : List AV} {K K' : AV → Nat → Heap → Prop} (h : ACall P f args N G K) (hk : ∀ a n g, K a n g → K' a n g) : ACall P f args N G K' :=
  ⟨h.1, fun ρ w cargs hH hv => (h.2 ρ w cargs hH hv).mono fun _ _ ⟨v, he, ho⟩ => ⟨v, he, ho.mono hk⟩⟩

/-- A new flat object in a block of its own, at the heap's end. -/
theorem out_new (hH : HeapRep ρ N G w) {K : AV → Nat → Heap → Prop} {f : Flat} {cs : List Value} {t : TypeId} {av : AV} {v : Value} {w' : World}
    (hK : K av (N + 1) ((N, .flat true f) :: G)) (hsz : 0 < f.sz) (hn : f.n * f.sz ≤ cs.length)
    (hcs : ∀ i, i < f.n → ∀ j, j < f.sz → ∃ u, cs[i * f.sz + j]? = some u ∧ VR ρ N (f.cell i j) u ∧ u.oneCell' = true)
    (hw : FrameW (fun _ => False) w w') (hblk : w'.heap[w.heap.size]? = some (.cells cs.toArray t (0, 0)))
    (hv : VR (fun id p => if id = N then ⟨w.heap.size, 0, f.sz, f.n, cs.length⟩ else ρ id p) (N + 1) av v) : Out ρ N G w K v w' := by
  have hρ : ∀ id, id < N → (fun (id : Nat) (p : List Nat) => if id = N then (⟨w.heap.size, 0, f.sz, f.n, cs.length⟩ : Blk) else ρ id p) id = ρ id := fun id h => by
    funext p; simp only; rw [if_neg (by omega)]
  have h1 : HeapRep _ (N + 1) G w' := ((hH.mono (Nat.le_succ N) hρ).frame hw (fun _ _ _ _ _ _ h => h))
  have hnone : hget G N = none := by
    cases h : hget G N with
    | none => rfl
    | some o => exact absurd (hH.keys N o h) (Nat.lt_irrefl N)
  refine ⟨⟨av, _, _, _, hK, hv, h1.put (Nat.lt_succ_self N) hnone rfl ?_, Nat.le_succ N, hρ, ⟨hw.os, hw.tape, hw.output, hw.size, fun k hk _ => hw.block k hk id⟩, ?_⟩⟩
  · intro p nd hnd
    have hp : p = [] ∧ nd = f.node := by
      cases p with
      | nil => simp [AObj.node] at hnd; exact ⟨rfl, hnd.symm⟩
      | cons _ _ => simp [AObj.node] at hnd
    obtain ⟨rfl, rfl⟩ := hp
    simp only [if_true]
    refine ⟨rfl, rfl, hsz, ?_, ?_, ?_⟩
    · intro i hi j hj
      obtain ⟨u, h1, h2, h3⟩ := hcs i hi j hj
      refine ⟨u, ?_, h2.mono (Nat.le_succ N) hρ, h3⟩
      rw [cell_of_row w' w.heap.size _ cs.toArray t (0, 0) hblk]
      simpa [Flat.node] using h1
    · by_cases h0 : cs.length = 0
      · refine .inl ⟨h0, ?_⟩
        have : f.n * f.sz = 0 := by omega
        rcases Nat.mul_eq_zero.1 this with h | h
        · exact h
        · omega
      · exact .inr ⟨_, t, hblk, by simp, by omega⟩
    · intro _
      refine ⟨fun p' nd' hnd' hne => ?_, fun id' p' nd' own' hn' hs' => ?_⟩
      · cases p' with
        | nil => exact absurd rfl hne
        | cons _ _ => simp [AObj.node] at hnd'
      · have hlt : id' < N := by
          obtain ⟨o, h1, _⟩ := hn'.ex
          exact hH.keys _ _ h1
        have hne : id' ≠ N := by omega
        simp only [hne, if_false] at hs' ⊢
        have := hH.lt hn' hs'
        omega
  · intro b hb
    obtain ⟨id, p, nd, hn', ht, rfl⟩ := hb
    obtain ⟨o, h1, h2, h3⟩ := hn'.ex
    rw [hget_cons] at h1
    split at h1
    · next he => subst he; exact .inl (by simp)
    · next he =>
      simp only [he, if_false] at ht ⊢
      exact .inr ⟨id, p, nd, ⟨⟨o, h1, h2, h3⟩⟩, ht, rfl⟩

theorem frame_alloc (w : World) (o : Obj) : FrameW (fun _ => False) w (w.alloc o) := ⟨rfl, rfl, rfl, by simp, fun k hk _ => Below.heap_alloc w o k hk⟩
theorem frame_drew (w : World) : FrameW (fun _ => False) w w.drew := ⟨rfl, rfl, rfl, Nat.le_refl _, fun _ _ _ => rfl⟩

end
end Go.Sx
