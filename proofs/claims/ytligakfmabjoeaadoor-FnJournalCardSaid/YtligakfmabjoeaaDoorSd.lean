/-
  A library of symbolic execution over the kit (part Sd): its own parts, one behind another.
-/
import Derived.Test.YtligakfmabjoeaaDoorSc
import Derived.ProofKit
import Derived.OpenShut
import Derived.ShutString
import Derived.ChangeOld
import Derived.Below
import Derived.Deep.Slices
import Derived.Handed
import Derived.Lib.SmallJoins
/-
  Rows handed to functions: the row as an object of its own, for the time of the call.
-/
namespace Go.Sx
set_option linter.unusedVariables false
set_option linter.unusedSimpArgs false
open Go
open Go.RowKit

section
variable {P : Program} {ρ : Rho} {N : Nat} {G : Heap} {w : World}

theorem delL_sub (W : List Nat) (G : Heap) : ∀ i o, hget (delL W G) i = some o → hget G i = some o ∧ memB W i = false := fun i o h => by
  rw [hget_delL] at h
  split at h
  · cases h
  · rename_i hm; exact ⟨h, by simpa using hm⟩

/-- One object more under a name that stands for its blocks already: it takes over nodes of objects that fall. -/
theorem HeapRep.takeAt (hH : HeapRep ρ N G w) {M : Nat} (hM : M < N) {Gd : Heap} (hsub : ∀ i o, hget Gd i = some o → hget G i = some o) (hMd : hget Gd M = none) {o : AObj} (hown : o.own = true) (src : List Nat → Option (Nat × List Nat))
    (hb : ∀ p nd, o.node M p = some nd → ∃ id0 p0, src p = some (id0, p0) ∧ NodeAt G id0 p0 nd true ∧ hget Gd id0 = none ∧ ρ M p = ρ id0 p0)
    (hinj : ∀ p p' x, src p = some x → src p' = some x → p = p') :
    HeapRep ρ N ((M, o) :: Gd) w ∧ ∀ b, Owns ρ ((M, o) :: Gd) b → Owns ρ G b := by
  have hup : ∀ {i p nd own}, NodeAt Gd i p nd own → NodeAt G i p nd own := fun {i p nd own} hx => by
    obtain ⟨o, h1, h2, h3⟩ := hx.ex
    exact ⟨⟨o, hsub _ _ h1, h2, h3⟩⟩
  refine ⟨(hH.sub hsub).put hM hMd hown fun p nd hnd => ?_, fun b hb' => ?_⟩
  · obtain ⟨id0, p0, hs, hn, hg, hB⟩ := hb p nd hnd
    obtain ⟨s1, s2, s3⟩ := hH.shape _ _ _ _ hn
    rw [hB]
    refine ⟨s1, s2, s3, fun i hi j hj => hH.rd _ _ _ _ hn i hi j hj, hH.ow _ _ _ hn, fun ht => ⟨fun p' nd' hnd' hne ht' => ?_, fun id' p' nd' own' hn' hs' => ?_⟩⟩
    · obtain ⟨id1, p1, hs1, hn1, _, hB1⟩ := hb p' nd' hnd'
      rw [hB1] at ht' ⊢
      refine hH.sep _ _ _ _ _ _ _ hn hn1 (fun e => hne ?_) ht (by simpa [Solid] using ht')
      obtain ⟨rfl, rfl⟩ := e
      exact hinj _ _ _ hs hs1
    · refine hH.sep _ _ _ _ _ _ _ hn (hup hn') (fun e => ?_) ht hs'
      obtain ⟨o', q1, _⟩ := hn'.ex
      rw [← e.1, hg] at q1
      cases q1
  · obtain ⟨id, p, nd, hn, ht, rfl⟩ := hb'
    obtain ⟨o', h1, h2, h3⟩ := hn.ex
    rw [hget_cons] at h1
    split at h1
    · next he =>
      subst he
      injection h1 with h1
      subst h1
      obtain ⟨id0, p0, _, hn0, _, hB⟩ := hb p nd h2
      rw [hB] at ht ⊢; exact ⟨id0, p0, nd, hn0, ht, rfl⟩
    · exact ⟨id, p, nd, ⟨⟨o', hsub _ _ h1, h2, h3⟩⟩, ht, rfl⟩

/-- A node, read under a name of its own. -/
theorem HeapRep.alias (hH : HeapRep ρ N G w) {Gd : Heap} (hsub : ∀ i o, hget Gd i = some o → hget G i = some o) {id0 : Nat} {p0 : List Nat} {f : Flat} {own0 : Bool} (hn : NodeAt G id0 p0 f.node own0) (hdrop : own0 = true → hget Gd id0 = none) :
    HeapRep (updR ρ N fun _ => ρ id0 p0) (N + 1) ((N, .flat false f) :: Gd) w ∧ ∀ b, Owns (updR ρ N fun _ => ρ id0 p0) ((N, .flat false f) :: Gd) b → Owns ρ Gd b := by
  have hρ := updR_lt ρ N (fun _ => ρ id0 p0)
  have hup : ∀ {i p nd own}, NodeAt Gd i p nd own → NodeAt G i p nd own ∧ i < N := fun {i p nd own} hx => by
    obtain ⟨o, h1, h2, h3⟩ := hx.ex
    exact ⟨⟨⟨o, hsub _ _ h1, h2, h3⟩⟩, hH.keys _ _ (hsub _ _ h1)⟩
  have hD := (hH.sub hsub).mono (Nat.le_succ N) hρ
  have hc : ∀ {i p nd own}, NodeAt ((N, .flat false f) :: Gd) i p nd own → (i = N ∧ p = [] ∧ nd = f.node ∧ own = false) ∨ (i < N ∧ NodeAt Gd i p nd own) := fun {i p nd own} hx => by
    obtain ⟨o, h1, h2, h3⟩ := hx.ex
    rw [hget_cons] at h1
    split at h1
    · next he =>
      injection h1 with h1
      subst h1
      cases p with
      | nil => simp only [AObj.node, Option.some.injEq] at h2; exact .inl ⟨he, rfl, h2.symm, h3.symm⟩
      | cons _ _ => simp [AObj.node] at h2
    · have hx' : NodeAt Gd i p nd own := ⟨⟨o, h1, h2, h3⟩⟩
      exact .inr ⟨(hup hx').2, hx'⟩
  obtain ⟨s1, s2, s3⟩ := hH.shape _ _ _ _ hn
  refine ⟨⟨fun id o h => ?_, fun i p nd own hx => ?_, fun i p nd own hx a ha b hb => ?_, fun i p nd hx => ?_, fun i p nd i' p' nd' own' hx hx' hd ht hs => ?_⟩, fun b hb => ?_⟩
  · rw [hget_cons] at h
    split at h
    · omega
    · exact Nat.lt_succ_of_lt (hH.keys _ _ (hsub _ _ h))
  · rcases hc hx with ⟨rfl, rfl, rfl, rfl⟩ | ⟨_, h⟩
    · rw [updR_at]; exact ⟨s1, s2, s3⟩
    · exact hD.shape _ _ _ _ h
  · rcases hc hx with ⟨rfl, rfl, rfl, rfl⟩ | ⟨_, h⟩
    · rw [updR_at]
      obtain ⟨v, q1, q2, q3⟩ := hH.rd _ _ _ _ hn a ha b hb
      exact ⟨v, q1, q2.mono (Nat.le_succ _) hρ, q3⟩
    · exact hD.rd _ _ _ _ h a ha b hb
  · rcases hc hx with ⟨_, _, _, h⟩ | ⟨_, h⟩
    · cases h
    · exact hD.ow _ _ _ h
  · rcases hc hx with ⟨_, _, _, h⟩ | ⟨hi, h⟩
    · cases h
    · rcases hc hx' with ⟨rfl, rfl, rfl, rfl⟩ | ⟨_, h'⟩
      · rw [updR_at] at hs ⊢
        rw [hρ i hi] at ht ⊢
        refine hH.sep _ _ _ _ _ _ own0 (hup h).1 hn (fun e => ?_) ht (hH.solid hn (by simpa [Solid] using hs))
        obtain ⟨o, g1, _, g3⟩ := h.ex
        obtain ⟨o', g1', _, g3'⟩ := hn.ex
        have := hsub _ _ g1
        rw [e.1, g1'] at this
        injection this with this
        subst this
        have := hdrop (g3'.symm.trans g3)
        rw [← e.1, g1] at this
        cases this
      · exact hD.sep _ _ _ _ _ _ _ h h' hd ht hs
  · obtain ⟨i, p, nd, hx, ht, rfl⟩ := hb
    rcases hc hx with ⟨_, _, _, h⟩ | ⟨hi, h⟩
    · cases h
    · rw [hρ i hi] at ht ⊢
      exact ⟨i, p, nd, h, ht, rfl⟩

theorem VRL.repl {ρ' : Rho} {N' : Nat} {a b : AV} (hab : ∀ v, VR ρ N a v → VR ρ' N' b v) (hm : ∀ x v, VR ρ N x v → VR ρ' N' x v) : ∀ {d r : List AV} {vs : List Value}, VRL ρ N (d ++ a :: r) vs → VRL ρ' N' (d ++ b :: r) vs
  | [], r, vs, h => by
    simp only [List.nil_append, VRL] at h ⊢
    obtain ⟨v, q, rfl, h1, h2⟩ := h
    refine ⟨v, q, rfl, hab v h1, ?_⟩
    have : ∀ (l : List AV) (us : List Value), VRL ρ N l us → VRL ρ' N' l us := fun l => by
      induction l with
      | nil => intro us h; simpa only [VRL] using h
      | cons x l ih =>
        intro us h
        simp only [VRL] at h ⊢
        obtain ⟨v, r, e, h1, h2⟩ := h
        exact ⟨v, r, e, hm x v h1, ih r h2⟩
    exact this r q h2
  | x :: d, r, vs, h => by
    simp only [List.cons_append, VRL] at h ⊢
    obtain ⟨v, q, rfl, h1, h2⟩ := h
    exact ⟨v, q, rfl, hm x v h1, VRL.repl hab hm h2⟩

def ownW (o : AObj) (M : Nat) : List Nat :=
  match o.own with
  | true => [M]
  | false => []
theorem memB_ownW (o : AObj) (M : Nat) : o.own = true → memB (ownW o M) M = true := fun h => by
  simp [ownW, h, memB]

/-- A row that is only read. -/
theorem ACall.focus_rd {f : Nat} {d r : List AV} {K : AV → Nat → Heap → Prop} {M y : Nat} {o : AObj} {fl : Flat} (ho : hget G M = some o) (hnd : o.node M [y] = some fl.node)
    (h : ACall P f (d ++ .sl N [] :: r) (N + 1) ((N, .flat false fl) :: delL (ownW o M) G) fun v N' G' => K v N' (backL (ownW o M) G G')) : ACall P f (d ++ .sl M [y] :: r) N G K := by
  refine ⟨h.ok, fun ρ w cargs hgk hH hv => ?_⟩
  have hn : NodeAt G M [y] fl.node o.own := ⟨⟨o, ho, hnd, rfl⟩⟩
  obtain ⟨hH1, hO1⟩ := hH.alias (fun i x hx => (delL_sub (ownW o M) G i x hx).1) hn (fun e => by
    rw [hget_delL, if_pos (memB_ownW o M e)])
  have hρ := updR_lt ρ N (fun _ => ρ M [y])
  have hargs := VRL.repl (ρ' := updR ρ N fun _ => ρ M [y]) (N' := N + 1) (a := .sl M [y]) (b := .sl N []) (fun v h => by
    simp only [VR, updR_at] at h ⊢
    exact ⟨Nat.lt_succ_self N, h.2⟩) (fun x v h => h.mono (Nat.le_succ N) hρ) hv
  refine (h.run _ w cargs (hgk.sub fun b hb => (hO1 b hb).sub fun i x hx => (delL_sub (ownW o M) G i x hx).1) hH1 hargs).mono fun e w' ⟨v, he, hout⟩ => ⟨v, he, ?_⟩
  have h2 : Out ρ N (delL (ownW o M) G) w _ v w' := Out.ghost (Nat.le_succ N) hρ hO1 hout
  obtain ⟨⟨av, ρ', N', G', hK, q1, q2, q3, q4, q5, q6, _⟩, _⟩ := out_frame hH (ownW o M) h2
  exact ⟨⟨av, ρ', N', _, hK, q1, q2, q3, q4, q5, q6⟩⟩

/-- An empty content of the kind of an object. -/
def nilFl (o : Option AObj) (K : Flat → Prop) (X : Prop) : Prop :=
  match o with
  | some (.flat own f) => match own with
    | true => X
    | false => match f with
      | .ints k _ => K (.ints k [])
      | .r2 _ => K (.r2 [])
      | .r3 _ => K (.r3 [])
      | .r4 _ => K (.r4 [])
      | .bools _ => K (.bools [])
      | .strs _ => K (.strs [])
      | .gen _ _ => X
      | .rows _ _ _ => X
      | .bld _ _ _ => X
      | .tby _ _ => X
      | .tops _ => X
      | .rowl _ _ => X
  | _ => X
theorem nilFl_spec {o : Option AObj} {K : Flat → Prop} {X : Prop} (h : nilFl o K X) : X ∨ ∃ f, K f ∧ f.node.n = 0 ∧ 0 < f.node.sz := by
  unfold nilFl at h
  split at h
  · split at h
    · exact .inl h
    · split at h
      all_goals first | exact .inl h | exact .inr ⟨_, h, rfl, by simp [Flat.node, Flat.sz]⟩
  · exact .inl h
theorem delL_nil : ∀ G : Heap, delL [] G = G
  | [] => rfl
  | (k, o) :: r => by simp [delL, memB, delL_nil r]
/-- An empty object under a name of its own. -/
theorem HeapRep.ghost0 (hH : HeapRep ρ N G w) {f : Flat} (h0 : f.node.n = 0) (hsz : 0 < f.node.sz) :
    HeapRep (updR ρ N fun _ => ⟨0, 0, f.node.sz, 0, 0⟩) (N + 1) ((N, .flat false f) :: G) w ∧ ∀ b, Owns (updR ρ N fun _ => ⟨0, 0, f.node.sz, 0, 0⟩) ((N, .flat false f) :: G) b → Owns ρ G b := by
  have hρ := updR_lt ρ N (fun _ => (⟨0, 0, f.node.sz, 0, 0⟩ : Blk))
  have hD := hH.mono (Nat.le_succ N) hρ
  have hc : ∀ {i p nd own}, NodeAt ((N, .flat false f) :: G) i p nd own → (i = N ∧ p = [] ∧ nd = f.node ∧ own = false) ∨ (i < N ∧ NodeAt G i p nd own) := fun {i p nd own} hx => by
    obtain ⟨o, h1, h2, h3⟩ := hx.ex
    rw [hget_cons] at h1
    split at h1
    · next he =>
      injection h1 with h1
      subst h1
      cases p with
      | nil => simp only [AObj.node, Option.some.injEq] at h2; exact .inl ⟨he, rfl, h2.symm, h3.symm⟩
      | cons _ _ => simp [AObj.node] at h2
    · exact .inr ⟨hH.keys _ _ h1, ⟨⟨o, h1, h2, h3⟩⟩⟩
  refine ⟨⟨fun id o h => ?_, fun i p nd own hx => ?_, fun i p nd own hx a ha b hb => ?_, fun i p nd hx => ?_, fun i p nd i' p' nd' own' hx hx' hd ht hs => ?_⟩, fun b hb => ?_⟩
  · rw [hget_cons] at h
    split at h
    · omega
    · exact Nat.lt_succ_of_lt (hH.keys _ _ h)
  · rcases hc hx with ⟨rfl, rfl, rfl, rfl⟩ | ⟨_, h⟩
    · rw [updR_at]; exact ⟨rfl, h0.symm, hsz⟩
    · exact hD.shape _ _ _ _ h
  · rcases hc hx with ⟨rfl, rfl, rfl, rfl⟩ | ⟨_, h⟩
    · omega
    · exact hD.rd _ _ _ _ h a ha b hb
  · rcases hc hx with ⟨_, _, _, h⟩ | ⟨_, h⟩
    · cases h
    · exact hD.ow _ _ _ h
  · rcases hc hx with ⟨_, _, _, h⟩ | ⟨hi, h⟩
    · cases h
    · rcases hc hx' with ⟨rfl, rfl, rfl, rfl⟩ | ⟨_, h'⟩
      · simp [Solid, h0] at hs
      · exact hD.sep _ _ _ _ _ _ _ h h' hd ht hs
  · obtain ⟨i, p, nd, hx, ht, rfl⟩ := hb
    rcases hc hx with ⟨_, _, _, h⟩ | ⟨hi, h⟩
    · cases h
    · rw [hρ i hi] at ht ⊢
      exact ⟨i, p, nd, h, ht, rfl⟩
/-- A list that is not there, handed on as an empty one. -/
theorem ACall.focus_nil {f : Nat} {d r : List AV} {K : AV → Nat → Heap → Prop} {fl : Flat} (h0 : fl.node.n = 0) (hsz : 0 < fl.node.sz)
    (h : ACall P f (d ++ .sl N [] :: r) (N + 1) ((N, .flat false fl) :: G) fun v N' G' => K v N' (backL [] G G')) : ACall P f (d ++ .nilsl :: r) N G K := by
  refine ⟨h.ok, fun ρ w cargs hgk hH hv => ?_⟩
  obtain ⟨hH1, hO1⟩ := hH.ghost0 h0 hsz
  have hρ := updR_lt ρ N (fun _ => (⟨0, 0, fl.node.sz, 0, 0⟩ : Blk))
  have hargs := VRL.repl (ρ' := updR ρ N fun _ => (⟨0, 0, fl.node.sz, 0, 0⟩ : Blk)) (N' := N + 1) (a := .nilsl) (b := .sl N []) (fun v h => by
    simp only [VR, updR_at] at h ⊢
    exact ⟨Nat.lt_succ_self N, none, 0, h, .inr ⟨rfl, rfl⟩⟩) (fun x v h => h.mono (Nat.le_succ N) hρ) hv
  refine (h.run _ w cargs (hgk.sub hO1) hH1 hargs).mono fun e w' ⟨v, he, hout⟩ => ⟨v, he, ?_⟩
  have h2 : Out ρ N (delL [] G) w _ v w' := Out.ghost (Nat.le_succ N) hρ (fun b hb => by rw [delL_nil]; exact hO1 b hb) hout
  obtain ⟨⟨av, ρ', N', G', hK, q1, q2, q3, q4, q5, q6, _⟩, _⟩ := out_frame hH [] h2
  exact ⟨⟨av, ρ', N', _, hK, q1, q2, q3, q4, q5, q6⟩⟩

theorem rowIn_twice {o oy : AObj} {y : Nat} {f : Flat} {K : AObj → Prop} (hy : rowIn o y none fun o' => o' = oy) (h : rowIn o y (some f) K) : rowIn oy y (some f) K := by
  cases o with
  | flat _ _ => exact h.elim
  | mp _ => exact h.elim
  | it _ _ _ => exact h.elim
  | nestH _ _ _ => exact h.elim
  | nestI own k xss =>
    simp only [rowIn] at hy
    subst hy
    cases f <;> simp only [rowIn] at h ⊢
    simpa only [List.set_set] using h
  | nestR2 own xss =>
    simp only [rowIn] at hy
    subst hy
    cases f <;> simp only [rowIn] at h ⊢
    simpa only [List.set_set] using h
/-- A row that is written, or read, as one's own. -/
theorem ACall.focus_wr {f : Nat} {d r : List AV} {K : AV → Nat → Heap → Prop} {M y : Nat} {o oy : AObj} {fl : Flat} (ho : hget G M = some o) (hown : o.own = true) (hnd : o.node M [y] = some fl.node) (hy : rowIn o y none fun o' => o' = oy)
    (h : ACall P f (d ++ .sl (N + 1) [] :: r) (N + 1 + 1) ((N + 1, .flat true fl) :: delL [M] G) fun v N' G' => ∃ f', hget G' (N + 1) = some (.flat true f') ∧ hget G' M = none ∧ rowIn o y (some f') fun o' => K v N' ((M, o') :: hdel (hdel (backL [N] ((N + 1, .flat true fl) :: (N, oy) :: delL [M] G) G') (N + 1)) N)) : ACall P f (d ++ .sl M [y] :: r) N G K := by
  refine ⟨h.ok, fun ρ w cargs hgk hH hv => ?_⟩
  have hMN := hH.keys _ _ ho
  have hn : NodeAt G M [y] fl.node true := ⟨⟨o, ho, hnd, hown⟩⟩
  obtain ⟨oy', ⟨rfl, hnest⟩, hown', hoth, hat, _⟩ := rowIn_spec (rowIn_nest hy)
  obtain ⟨sz, hsz, hszs⟩ := nest_sz hnest
  have hsub : ∀ i x, hget (delL [M] G) i = some x → hget G i = some x := fun i x hx => (delL_sub [M] G i x hx).1
  have hMd : hget (delL [M] G) M = none := by rw [hget_delL]; simp [memB]
  obtain ⟨hH1, hO1⟩ := hH.take hsub (o := oy') (hown'.trans hown) (nest_plain hnest) (rowB ρ M y none sz) (rowS M y none) (fun q nd hq => by
    obtain ⟨a, rfl⟩ := nest_nodes hnest N q nd hq
    by_cases ha : a = y
    · subst ha
      have h4 := hat N nd hq
      simp only at h4
      simp only [rowS, rowB, if_true]
      exact .inl ⟨rfl, h4.1, h4.2, by rw [hszs N [a] nd hq]⟩
    · simp only [rowS, rowB, if_neg ha]
      refine .inr ⟨M, [a], rfl, ⟨⟨o, ho, ?_, hown⟩⟩, hMd, rfl⟩
      rw [← hoth N M [a] (by simpa using ha)]
      exact hq) (fun q q' x h1 h2 => by
    match q, q' with
    | [a], [b] =>
      simp only [rowS, Option.map_none] at h1 h2
      split at h1
      · cases h1
      · split at h2
        · cases h2
        · rw [← h1] at h2; simp at h2; rw [h2]
    | [], _ => simp [rowS] at h1
    | _ :: _ :: _, _ => simp [rowS] at h1
    | [_], [] => simp [rowS] at h2
    | [_], _ :: _ :: _ => simp [rowS] at h2)
  have hρ1 := updR_lt ρ N (rowB ρ M y none sz)
  -- the row beside it
  have hρ2 := updR_lt (updR ρ N (rowB ρ M y none sz)) (N + 1) (fun _ => ρ M [y])
  have hρ : ∀ id, id < N → updR (updR ρ N (rowB ρ M y none sz)) (N + 1) (fun _ => ρ M [y]) id = ρ id := fun id hid => (hρ2 id (by omega)).trans (hρ1 id hid)
  obtain ⟨s1, s2, s3⟩ := hH.shape _ _ _ _ hn
  have hnone : hget ((N, oy') :: delL [M] G) (N + 1) = none := by
    cases hh : hget ((N, oy') :: delL [M] G) (N + 1) with
    | none => rfl
    | some x => exact absurd (hH1.keys _ _ hh) (Nat.lt_irrefl _)
  have hH2 : HeapRep (updR (updR ρ N (rowB ρ M y none sz)) (N + 1) (fun _ => ρ M [y])) (N + 1 + 1) ((N + 1, .flat true fl) :: (N, oy') :: delL [M] G) w := (hH1.mono (Nat.le_succ (N + 1)) hρ2).put (Nat.lt_succ_self (N + 1)) hnone rfl (fun p nd hp => by
    cases p with
    | cons _ _ => simp [AObj.node] at hp
    | nil =>
      simp only [AObj.node, Option.some.injEq] at hp
      subst hp
      simp only [updR_at]
      refine ⟨s1, s2, s3, fun i hi j hj => ?_, hH.ow _ _ _ hn, fun ht => ⟨fun p' nd' hnd' hne => ?_, fun id' p' nd' own' hn' hs' => ?_⟩⟩
      · obtain ⟨v, q1, q2, q3⟩ := hH.rd _ _ _ _ hn i hi j hj
        exact ⟨v, q1, q2.mono (by omega) hρ, q3⟩
      · cases p' with
        | nil => exact absurd rfl hne
        | cons _ _ => simp [AObj.node] at hnd'
      · obtain ⟨x, h1, h2, h3⟩ := hn'.ex
        have hlt := hH1.keys _ _ h1
        rw [hρ2 id' hlt] at hs' ⊢
        rw [hget_cons] at h1
        split at h1
        · next he =>
          subst he
          injection h1 with h1
          subst h1
          rw [updR_at] at hs' ⊢
          obtain ⟨a, rfl⟩ := nest_nodes hnest _ _ _ h2
          have : own' = true := h3.symm.trans (hown'.trans hown)
          subst this
          simp only [Solid, if_true] at hs'
          by_cases ha : a = y
          · subst ha; simp [rowB] at hs'
          · simp only [rowB, if_neg ha] at hs' ⊢
            refine hH.sep M [y] _ M [a] nd' true hn ⟨⟨o, ho, ?_, hown⟩⟩ (fun e => ha ?_) ht (by simpa [Solid] using hs')
            · rw [← hoth id' M [a] (by simpa using ha)]; exact h2
            · have := e.2; simp at this; exact this.symm
        · have hlt' := hH.keys _ _ (hsub _ _ h1)
          rw [hρ1 id' hlt'] at hs' ⊢
          refine hH.sep M [y] _ id' p' nd' own' hn ⟨⟨x, hsub _ _ h1, h2, h3⟩⟩ (fun e => ?_) ht hs'
          rw [← e.1, hMd] at h1; cases h1)
  have hO2 : ∀ b, Owns (updR (updR ρ N (rowB ρ M y none sz)) (N + 1) (fun _ => ρ M [y])) ((N + 1, .flat true fl) :: (N, oy') :: delL [M] G) b → Owns ρ G b := fun b hb => by
    obtain ⟨id, p, nd, hx, ht, rfl⟩ := hb
    obtain ⟨x, h1, h2, h3⟩ := hx.ex
    rw [hget_cons] at h1
    split at h1
    · next he =>
      subst he
      injection h1 with h1
      subst h1
      rw [updR_at] at ht ⊢
      exact ⟨M, [y], _, hn, ht, rfl⟩
    · have hlt := hH1.keys _ _ h1
      rw [hρ2 id hlt] at ht ⊢
      exact hO1 _ ⟨id, p, nd, ⟨⟨x, h1, h2, h3⟩⟩, ht, rfl⟩
  have hdl : ∀ i, hget (delL [N] ((N + 1, .flat true fl) :: (N, oy') :: delL [M] G)) i = hget ((N + 1, .flat true fl) :: delL [M] G) i := fun i => by
    rw [hget_delL, hget_cons, hget_cons, hget_cons]
    by_cases h1 : i = N
    · subst h1
      rw [if_pos (by simp [memB]), if_neg (by omega)]
      cases hh : hget (delL [M] G) i with
      | none => rfl
      | some x => exact absurd (hH.keys _ _ (hsub _ _ hh)) (Nat.lt_irrefl _)
    · rw [if_neg (by simp only [memB]; cases hb : Nat.beq N i with
        | true => have := Nat.eq_of_beq_eq_true hb; omega
        | false => simp), if_neg h1]
  have hH3 := (hH2.sub (G' := delL [N] ((N + 1, .flat true fl) :: (N, oy') :: delL [M] G)) (fun i x hx => (delL_sub [N] _ i x hx).1)).congr hdl
  have hargs := VRL.repl (ρ' := updR (updR ρ N (rowB ρ M y none sz)) (N + 1) (fun _ => ρ M [y])) (N' := N + 1 + 1) (a := .sl M [y]) (b := .sl (N + 1) []) (fun v h => by
    simp only [VR, updR_at] at h ⊢
    exact ⟨Nat.lt_succ_self _, h.2⟩) (fun x v h => h.mono (by omega) hρ) hv
  refine (h.run _ w cargs (hgk.sub fun b hb => by
    obtain ⟨id, p, nd, hx, ht, e⟩ := hb
    obtain ⟨x, q1, q2, q3⟩ := (hx.congr (fun i => (hdl i).symm)).ex
    exact hO2 b ⟨id, p, nd, ⟨⟨x, (delL_sub [N] _ _ _ q1).1, q2, q3⟩⟩, ht, e⟩) hH3 hargs).mono fun e w' ⟨v, he, hout⟩ => ⟨v, he, ?_⟩
  have hout2 : Out (updR (updR ρ N (rowB ρ M y none sz)) (N + 1) (fun _ => ρ M [y])) (N + 1 + 1) (delL [N] ((N + 1, .flat true fl) :: (N, oy') :: delL [M] G)) w _ v w' := Out.ghost (Nat.le_refl _) (fun _ _ => rfl) (fun b hb => by
    obtain ⟨id, p, nd, hx, ht, e⟩ := hb
    exact ⟨id, p, nd, hx.congr (fun i => (hdl i).symm), ht, e⟩) hout
  obtain ⟨⟨av, ρ', N', G', ⟨f', hf', hfM, hK⟩, q1, q2, q3, q4, q5, q6, q7⟩, _⟩ := out_frame hH2 [N] hout2
  obtain ⟨o', ⟨hK, hnest2⟩, hown2, hoth2, hat2, _⟩ := rowIn_spec (rowIn_nest (rowIn_twice hy hK))
  have hNk : hget (backL [N] ((N + 1, .flat true fl) :: (N, oy') :: delL [M] G) G') N = some oy' := by
    rw [q7 N (.inl (by simp [memB])) (by rw [hget_cons, if_neg (by omega), hget_cons, if_pos rfl]; simp), hget_cons, if_neg (by omega), hget_cons, if_pos rfl]
  have hRk : hget (backL [N] ((N + 1, .flat true fl) :: (N, oy') :: delL [M] G) G') (N + 1) = some (.flat true f') := by
    unfold backL
    have hkb : keepB [N] ((N + 1, .flat true fl) :: (N, oy') :: delL [M] G) (N + 1) = false := by
      unfold keepB
      rw [hget_cons, if_pos rfl]
      simp only [AObj.own, Bool.not_true, Bool.or_false, memB]
      cases hb : Nat.beq N (N + 1) with
      | true => have := Nat.eq_of_beq_eq_true hb; omega
      | false => rfl
    rw [hget_keepL, hkb]
    simp only [Bool.false_eq_true, if_false]
    rw [hget_ownL, hkb]
    have : ownB G' (N + 1) = true := by unfold ownB; rw [hf']; rfl
    rw [this]
    simpa using hf'
  have e1 : ∀ id, id < N → ρ' id = ρ id := fun id hid => (q4 id (by omega)).trans (hρ id hid)
  obtain ⟨hH4, hO4⟩ := q2.takeAt (M := M) (Gd := hdel (hdel (backL [N] ((N + 1, .flat true fl) :: (N, oy') :: delL [M] G) G') (N + 1)) N) (by omega) (fun i x hx => hdel_sub _ (N + 1) i x (hdel_sub _ N i x hx)) (o := o') (by
      -- nobody else bears the name
      rw [hdel_ne (show M ≠ N by omega), hdel_ne (show M ≠ N + 1 by omega)]
      cases hh : hget (backL [N] ((N + 1, .flat true fl) :: (N, oy') :: delL [M] G) G') M with
      | none => rfl
      | some x =>
        exfalso
        rcases backL_get hh with ⟨_, h1⟩ | ⟨_, h1, h2⟩
        · rw [hget_cons, if_neg (by omega), hget_cons, if_neg (by omega), hMd] at h1; cases h1
        · rw [hfM] at h1; cases h1) (hown2.trans (hown'.trans hown)) (fun q => match q with
      | [a] => if a = y then some (N + 1, []) else some (N, [a])
      | _ => none) (fun p nd hp => by
      obtain ⟨a, rfl⟩ := nest_nodes hnest2 M p nd hp
      by_cases ha : a = y
      · subst ha
        have h4 := hat2 M nd hp
        simp only at h4
        subst h4
        refine ⟨N + 1, [], by simp, NodeAt.of_get hRk rfl, ?_, ?_⟩
        · rw [hdel_ne (show N + 1 ≠ N by omega)]; exact hdel_none _ _
        · rw [e1 M hMN, q4 (N + 1) (Nat.lt_succ_self _), updR_at]
      · refine ⟨N, [a], by simp [ha], ⟨⟨oy', hNk, ?_, hown'.trans hown⟩⟩, hdel_none _ _, ?_⟩
        · rw [← hoth2 M N [a] (by simpa using ha)]; exact hp
        · rw [e1 M hMN, q4 N (by omega), hρ2 N (Nat.lt_succ_self _), updR_at]
          simp [rowB, ha]) (fun p p' x h1 h2 => by
      match p, p' with
      | [a], [b] =>
        simp only at h1 h2
        split at h1 <;> split at h2
        · subst_vars; rfl
        · rw [← h1] at h2; simp at h2
        · rw [← h1] at h2; simp at h2
        · rw [← h1] at h2; simp at h2; rw [h2]
      | [], _ => simp at h1
      | _ :: _ :: _, _ => simp at h1
      | [_], [] => simp at h2
      | [_], _ :: _ :: _ => simp at h2)
  exact ⟨⟨av, ρ', N', _, hK, q1, hH4, by omega, e1, ⟨q5.os, q5.tape, q5.output, q5.size, fun k hk hno => q5.block k hk fun hb => hno (hO2 k hb), q5.drawn⟩, fun b hb => (q6 b (hO4 b hb)).imp id (hO2 b)⟩⟩

/-- A contract used at a call, rows handed on as objects of their own. -/
def useF (args0 : List AV) (N0 : Nat) (G0 : Heap) (R : PostR) (done todo0 todo : List AV) (N : Nat) (G : Heap) (K : AV → Nat → Heap → Prop) : Prop :=
  match todo0 with
  | [] => match todo with
    | [] => useA args0 N0 G0 R done N G K
    | _ :: _ => False
  | a0 :: r0 => match todo with
    | [] => False
    | a :: r => match a with
      | .sl M p => match p with
        | [] => useF args0 N0 G0 R (done ++ [.sl M []]) r0 r N G K
        | y :: q => match q with
          | _ :: _ => False
          | [] => match a0 with
            | .sl id0 _ => match hget G M with
              | some o => nodeV o M [y] fun C V => match V with
                | .fl fl => match ownAt G0 id0 with
                  | false => need C (natK (N + 1) fun N1 => tidyN (delL (ownW o M) G) fun Gd => useF args0 N0 G0 R (done ++ [.sl N []]) r0 r N1 ((N, .flat false fl) :: Gd) fun v N' G' => tidyN G' fun G' => K v N' (backL (ownW o M) G G'))
                  | true => match o.own with
                    | true => rowIn o y none fun oy => need C (natK (N + 1) fun N1 => natK (N + 1 + 1) fun N2 => tidyN (delL [M] G) fun Gd => useF args0 N0 G0 R (done ++ [.sl N1 []]) r0 r N2 ((N1, .flat true fl) :: Gd) fun v N' G' => tidyN G' fun G' => match hget G' N1 with
                      | some o1 => match o1 with
                        | .flat own1 f' => match own1 with
                          | true => hget G' M = none ∧ (rowIn o y (some f') fun o' => tidyN (backL [N] ((N1, .flat true fl) :: (N, oy) :: Gd) G') fun Gb => K v N' ((M, o') :: hdel (hdel Gb N1) N))
                          | false => False
                        | _ => False
                      | none => False)
                    | false => False
              | none => False
            | _ => False
      | .nilsl => match a0 with
        | .sl id0 _ => nilFl (hget G0 id0) (fun f0 => natK (N + 1) fun N1 => useF args0 N0 G0 R (done ++ [.sl N []]) r0 r N1 ((N, .flat false f0) :: G) fun v N' G' => tidyN G' fun G' => K v N' (backL [] G G')) (useF args0 N0 G0 R (done ++ [.nilsl]) r0 r N G K)
        | _ => useF args0 N0 G0 R (done ++ [.nilsl]) r0 r N G K
      | a => useF args0 N0 G0 R (done ++ [a]) r0 r N G K

theorem useF_sound {f : Nat} {args0 : List AV} {N0 : Nat} {G0 : Heap} {R : PostR} (h : FnR P f args0 N0 G0 R) : ∀ (todo0 todo done : List AV) (N : Nat) (G : Heap) (K : AV → Nat → Heap → Prop), useF args0 N0 G0 R done todo0 todo N G K → ACall P f (done ++ todo) N G K := by
  intro todo0
  induction todo0 with
  | nil =>
    intro todo done N G K hu
    cases todo with
    | nil =>
      simp only [useF] at hu
      simp only [List.append_nil]
      exact h.useA hu
    | cons _ _ => simp only [useF] at hu
  | cons a0 r0 ih =>
    intro todo done N G K hu
    cases todo with
    | nil => simp only [useF] at hu
    | cons a r =>
      simp only [useF] at hu
      have hstep : ∀ b, done ++ b :: r = (done ++ [b]) ++ r := fun b => by simp
      split at hu
      · rename_i M p
        split at hu
        · rw [hstep]; exact ih _ _ _ _ _ hu
        · rename_i y q
          split at hu
          · exact hu.elim
          · split at hu
            · rename_i id0 q0
              split at hu
              · rename_i o ho
                obtain ⟨C, V, hu, hn⟩ := nodeV_spec hu
                obtain ⟨fl⟩ := V
                simp only at hu
                split at hu
                · obtain ⟨hC, hu⟩ := need_spec hu
                  rw [natK_eq, tidyN_eq] at hu
                  simp only [tidyN_eq] at hu
                  refine ACall.focus_rd ho (hn hC) ?_
                  rw [hstep]
                  exact ih _ _ _ _ _ hu
                · split at hu
                  · rename_i hown
                    have key : ∀ {oy : AObj}, (need C (natK (N + 1) fun N1 => natK (N + 1 + 1) fun N2 => tidyN (delL [M] G) fun Gd => useF args0 N0 G0 R (done ++ [.sl N1 []]) r0 r N2 ((N1, .flat true fl) :: Gd) fun v N' G' => tidyN G' fun G' => match hget G' N1 with
                      | some o1 => match o1 with
                        | .flat own1 f' => match own1 with
                          | true => hget G' M = none ∧ (rowIn o y (some f') fun o' => tidyN (backL [N] ((N1, .flat true fl) :: (N, oy) :: Gd) G') fun Gb => K v N' ((M, o') :: hdel (hdel Gb N1) N))
                          | false => False
                        | _ => False
                      | none => False)) → (rowIn o y none fun o' => o' = oy) → ACall P f (done ++ .sl M [y] :: r) N G K := fun {oy} hu hy => by
                      obtain ⟨hC, hu⟩ := need_spec hu
                      rw [natK_eq, natK_eq, tidyN_eq] at hu
                      simp only [tidyN_eq] at hu
                      refine ACall.focus_wr ho hown (hn hC) hy ?_
                      rw [hstep]
                      refine (ih _ _ _ _ _ hu).mono fun v N' G' hk => ?_
                      split at hk
                      · rename_i o1 ho1
                        split at hk
                        · split at hk
                          · exact ⟨_, ho1, hk.1, hk.2⟩
                          · exact hk.elim
                        · exact hk.elim
                      · exact hk.elim
                    cases o with
                    | flat _ _ => exact hu.elim
                    | mp _ => exact hu.elim
                    | it _ _ _ => exact hu.elim
                    | nestH _ _ _ => exact hu.elim
                    | nestI _ _ _ => exact key hu rfl
                    | nestR2 _ _ => exact key hu rfl
                  · exact hu.elim
              · exact hu.elim
            · exact hu.elim
      · split at hu
        · rcases nilFl_spec hu with hu | ⟨f0, hu, h0, hsz⟩
          · rw [hstep]; exact ih _ _ _ _ _ hu
          · rw [natK_eq] at hu
            simp only [tidyN_eq] at hu
            refine ACall.focus_nil h0 hsz ?_
            rw [hstep]
            exact ih _ _ _ _ _ hu
        · rw [hstep]; exact ih _ _ _ _ _ hu
      · rw [hstep]; exact ih _ _ _ _ _ hu
theorem FnIs.useF {f : Nat} {args0 : List AV} {N0 : Nat} {G0 : Heap} {v : AV} {n : Nat} {g : Heap} (h : FnIs P f args0 N0 G0 v n g) {args : List AV} {N : Nat} {G : Heap} {K : AV → Nat → Heap → Prop}
    (hu : Go.Sx.useF args0 N0 G0 (isR N0 G0 v n g) [] args0 args N G K) : ACall P f args N G K := useF_sound h.r args0 args [] N G K hu
/-- The numbers among the arguments. -/
def intsOf : List AV → List Int
  | [] => []
  | .int _ n :: r => n :: intsOf r
  | _ :: r => intsOf r
theorem FnIs.useE {f : Nat} {args0 : List AV} {N0 : Nat} {G0 : Heap} {v : AV} {n : Nat} {g : Heap} (h : FnIs P f args0 N0 G0 v n g) {args : List AV} {N : Nat} {G : Heap} {K : AV → Nat → Heap → Prop}
    (he : intsOf args0 = intsOf args) (hu : Go.Sx.useF args0 N0 G0 (isR N0 G0 v n g) [] args0 args N G K) : ACall P f args N G K := h.useF hu
/-- The arguments' shapes: numbers, and where there is no slice. -/
inductive Sg where
  | o
  | n
  | i (k : Int)
  | s (x : ByteArray)
  | a (l : List Sg)
mutual
def sg1 : AV → Sg
  | .int _ n => .i n
  | .str x => .s x
  | .nilsl => .n
  | .agg cs => .a (sgL cs)
  | _ => .o
def sgL : List AV → List Sg
  | [] => []
  | a :: r => sg1 a :: sgL r
end
theorem FnIs.useG {f : Nat} {args0 : List AV} {N0 : Nat} {G0 : Heap} {v : AV} {n : Nat} {g : Heap} (h : FnIs P f args0 N0 G0 v n g) {args : List AV} {N : Nat} {G : Heap} {K : AV → Nat → Heap → Prop}
    (he : sgL args0 = sgL args) (hu : Go.Sx.useF args0 N0 G0 (isR N0 G0 v n g) [] args0 args N G K) : ACall P f args N G K := h.useF hu
theorem FnEx.useF {f : Nat} {args0 : List AV} {N0 : Nat} {G0 : Heap} {α : Type} {p : α → Prop} {v : α → AV} {n : Nat} {g : α → Heap} (h : FnEx P f args0 N0 G0 p v n g) {args : List AV} {N : Nat} {G : Heap} {K : AV → Nat → Heap → Prop}
    (hu : Go.Sx.useF args0 N0 G0 (exR N0 G0 p v n g) [] args0 args N G K) : ACall P f args N G K := useF_sound h.r args0 args [] N G K hu

end
end Go.Sx

/-
  From a contract to a law's statement: the arguments, as the statement reads them, are values and objects of the symbolic heap; and the reading behind the call.
-/
namespace Go.Sx
set_option linter.unusedVariables false
set_option linter.unusedSimpArgs false
open Go
open Go.ChangeShapes Go.WideShapes Go.ChangeAt Go.RowKit

def NoOwn (G : Heap) : Prop := ∀ id o, hget G id = some o → o.own = false

def updρ (ρ : Rho) (N : Nat) (B : List Nat → Blk) : Rho := fun id p => if id = N then B p else ρ id p
theorem updρ_lt (ρ : Rho) (N : Nat) (B : List Nat → Blk) : ∀ id, id < N → updρ ρ N B id = ρ id := fun id h => by
  funext p
  unfold updρ
  rw [if_neg (by omega)]
theorem updρ_at (ρ : Rho) (N : Nat) (B : List Nat → Blk) (p : List Nat) : updρ ρ N B N p = B p := by simp [updρ]

theorem HeapRep.foreign {ρ : Rho} {N : Nat} {G : Heap} {w : World} (hH : HeapRep ρ N G w) (hno : NoOwn G) {o : AObj} (ho : o.own = false) (B : List Nat → Blk)
    (hb : ∀ p nd, o.node N p = some nd → (B p).sz = nd.sz ∧ (B p).n = nd.n ∧ 0 < nd.sz ∧ ∀ i, i < nd.n → ∀ j, j < nd.sz → ∃ v, w.cell? ⟨(B p).b, (B p).o + (i * nd.sz + j), none⟩ = some v ∧ VR (updρ ρ N B) (N + 1) (nd.cell i j) v ∧ v.oneCell' = true) :
    HeapRep (updρ ρ N B) (N + 1) ((N, o) :: G) w ∧ NoOwn ((N, o) :: G) := by
  have hno' : NoOwn ((N, o) :: G) := by
    intro id x hx
    rw [hget_cons] at hx
    split at hx
    · injection hx with hx; subst hx; exact ho
    · exact hno id x hx
  have hnever : ∀ id p nd, ¬ NodeAt ((N, o) :: G) id p nd true := fun id p nd h => by
    obtain ⟨x, hx, _, hw⟩ := h.ex
    rw [hno' id x hx] at hw
    cases hw
  have hcase : ∀ {id p nd own}, NodeAt ((N, o) :: G) id p nd own → (id = N ∧ o.node N p = some nd) ∨ (id < N ∧ NodeAt G id p nd own) := fun {id p nd own} h => by
    obtain ⟨x, hx, hn, hw⟩ := h.ex
    rw [hget_cons] at hx
    split at hx
    · rename_i e
      injection hx with hx
      subst hx e
      exact .inl ⟨rfl, hn⟩
    · exact .inr ⟨hH.keys _ _ hx, ⟨⟨x, hx, hn, hw⟩⟩⟩
  refine ⟨⟨fun id x hx => ?_, fun id p nd own h => ?_, fun id p nd own h => ?_, fun id p nd h => absurd h (hnever id p nd), fun id p nd _ _ _ _ h => absurd h (hnever id p nd)⟩, hno'⟩
  · rw [hget_cons] at hx
    split at hx
    · omega
    · exact Nat.lt_succ_of_lt (hH.keys _ _ hx)
  · rcases hcase h with ⟨rfl, hn⟩ | ⟨hlt, hn⟩
    · rw [updρ_at]
      obtain ⟨h1, h2, h3, _⟩ := hb p nd hn
      exact ⟨h1, h2, h3⟩
    · rw [updρ_lt ρ N B id hlt]
      exact hH.shape id p nd own hn
  · rcases hcase h with ⟨rfl, hn⟩ | ⟨hlt, hn⟩
    · rw [updρ_at]
      exact (hb p nd hn).2.2.2
    · rw [updρ_lt ρ N B id hlt]
      intro i hi j hj
      obtain ⟨v, h1, h2, h3⟩ := hH.rd id p nd own hn i hi j hj
      exact ⟨v, h1, VR.mono (Nat.le_succ N) (updρ_lt ρ N B) _ _ h2, h3⟩

/-- The heap that came in, opened so far. -/
structure Came (ρ : Rho) (N : Nat) (G : Heap) (w : World) : Prop where
  rep : HeapRep ρ N G w
  no : NoOwn G
theorem came0 (w : World) : Came (fun _ _ => ⟨0, 0, 0, 0, 0⟩) 0 [] w :=
  ⟨⟨fun id o h => by simp [hget] at h, fun id p nd own h => by obtain ⟨o, h, _⟩ := h.ex; simp [hget] at h, fun id p nd own h => by obtain ⟨o, h, _⟩ := h.ex; simp [hget] at h,
    fun id p nd h => by obtain ⟨o, h, _⟩ := h.ex; simp [hget] at h, fun id p nd _ _ _ _ h => by obtain ⟨o, h, _⟩ := h.ex; simp [hget] at h⟩, fun id o h => by simp [hget] at h⟩

theorem Came.flat {ρ : Rho} {N : Nat} {G : Heap} {w : World} (hc : Came ρ N G w) (f : Flat) (hsz : 0 < f.sz) {A : Option Addr} {c : Nat} (hle : f.n ≤ c)
    (hA : (∃ b o, A = some ⟨b, o, none⟩ ∧ ∀ i, i < f.n → ∀ j, j < f.sz → ∃ v, w.cell? ⟨b, o + (i * f.sz + j), none⟩ = some v ∧ VR ρ N (f.cell i j) v ∧ v.oneCell' = true) ∨ (f.n = 0 ∧ c = 0)) :
    ∃ ρ', Came ρ' (N + 1) ((N, .flat false f) :: G) w ∧ (∀ id, id < N → ρ' id = ρ id) ∧ VR ρ' (N + 1) (.sl N []) (.slice A f.n c) := by
  obtain ⟨b, o, hbo, hcell⟩ : ∃ b o, (A = some ⟨b, o, none⟩ ∨ (f.n = 0 ∧ c = 0)) ∧ ∀ i, i < f.n → ∀ j, j < f.sz → ∃ v, w.cell? ⟨b, o + (i * f.sz + j), none⟩ = some v ∧ VR ρ N (f.cell i j) v ∧ v.oneCell' = true := by
    rcases hA with ⟨b, o, h1, h2⟩ | ⟨h1, h2⟩
    · exact ⟨b, o, .inl h1, h2⟩
    · exact ⟨0, 0, .inr ⟨h1, h2⟩, fun i hi => by omega⟩
  obtain ⟨h1, h2⟩ := hc.rep.foreign hc.no (o := .flat false f) rfl (fun _ => ⟨b, o, f.sz, f.n, o + c * f.sz⟩) (fun p nd hn => by
    cases p with
    | cons _ _ => simp [AObj.node] at hn
    | nil =>
      simp only [AObj.node, Option.some.injEq] at hn
      subst hn
      refine ⟨rfl, rfl, hsz, fun i hi j hj => ?_⟩
      obtain ⟨v, q1, q2, q3⟩ := hcell i hi j hj
      exact ⟨v, q1, VR.mono (Nat.le_succ N) (updρ_lt ρ N _) _ _ q2, q3⟩)
  refine ⟨_, ⟨h1, h2⟩, updρ_lt ρ N _, ?_⟩
  simp only [VR, updρ_at]
  refine ⟨Nat.lt_succ_self N, A, c, rfl, ?_⟩
  rcases hbo with rfl | ⟨e1, e2⟩
  · exact .inl ⟨by simp, hle, by simp⟩
  · exact .inr ⟨e1, e2⟩

/-! ### Types whose cells are int64 alone -/
def chainB (P : Program) (q : TypeId → Nat → Bool) : List Field → Nat → Nat → Bool
  | [], off, n => off == n
  | g :: r, off, n => g.offset == off && q g.type (P.cellsOf g.type) && chainB P q r (off + P.cellsOf g.type) n
def allIntsB (P : Program) : Nat → TypeId → Nat → Bool
  | 0, _, _ => false
  | f + 1, t, n => match P.underlying t with
    | some (.int .i64) => n == 1
    | some (.struct fs) => P.cellsOf t == n && chainB P (allIntsB P f) fs.toList 0 n
    | _ => false

theorem wf_i64 {n : Int} (h : (Lit.int .i64 n).wf = true) : inI64 n := by
  have := bounds_i64 h
  unfold inI64; omega

section
variable {H : Type} {enc : TypeId × Value → H} {P : Program} {w : World} {base : Nat} {spare : Nat → Bool} {held : Bool}

theorem chainB_sound {q : TypeId → Nat → Bool} {cs : List Value} {n : Nat} (hl : cs.length = n)
    (hq : ∀ t m us fuel x, q t m = true → DataW.trod enc P w base spare held fuel t us = some x → ∃ ns : List Int, us = ns.map (Value.int .i64) ∧ ns.length = m ∧ ∀ k ∈ ns, inI64 k) :
    ∀ (l : List Field) (off : Nat), chainB P q l off n = true → (∀ g ∈ l, ∃ fuel x, DataW.trod enc P w base spare held fuel g.type ((cs.drop g.offset).take (P.cellsOf g.type)) = some x) →
      ∃ ns : List Int, cs.drop off = ns.map (Value.int .i64) ∧ off + ns.length = n ∧ ∀ k ∈ ns, inI64 k
  | [], off, h, _ => by
    simp only [chainB, beq_iff_eq] at h
    subst h
    exact ⟨[], by simp [hl], by simp, by simp⟩
  | g :: r, off, h, hf => by
    simp only [chainB, Bool.and_eq_true, beq_iff_eq] at h
    obtain ⟨⟨h1, h2⟩, h3⟩ := h
    obtain ⟨fuel, x, hx⟩ := hf g List.mem_cons_self
    obtain ⟨ns, e1, e2, e3⟩ := hq _ _ _ _ _ h2 hx
    obtain ⟨ms, k1, k2, k3⟩ := chainB_sound hl hq r _ h3 (fun g' hg' => hf g' (List.mem_cons_of_mem _ hg'))
    rw [h1] at e1
    refine ⟨ns ++ ms, ?_, by simp; omega, fun k hk => ?_⟩
    · rw [List.map_append, ← e1, ← k1]
      conv => lhs; rw [← List.take_append_drop (P.cellsOf g.type) (cs.drop off)]
      rw [List.drop_drop]
    · rcases List.mem_append.1 hk with hk | hk
      · exact e3 k hk
      · exact k3 k hk

theorem allIntsB_sound : ∀ (f : Nat) (t : TypeId) (n : Nat) (cs : List Value) (fuel : Nat) (x : DataW H × List MemPlace), allIntsB P f t n = true → DataW.trod enc P w base spare held fuel t cs = some x →
    ∃ ns : List Int, cs = ns.map (Value.int .i64) ∧ ns.length = n ∧ ∀ k ∈ ns, inI64 k
  | 0, _, _, _, _, _, h, _ => by simp [allIntsB] at h
  | f + 1, t, n, cs, fuel, x, h, hx => by
    unfold allIntsB at h
    split at h
    · rename_i hu
      obtain ⟨m, rfl, _, hw⟩ := DataW.trod_int hu hx
      simp only [beq_iff_eq] at h
      exact ⟨[m], rfl, h.symm ▸ rfl, fun k hk => by rcases List.mem_singleton.1 hk with rfl; exact wf_i64 hw⟩
    · rename_i fs hu
      simp only [Bool.and_eq_true, beq_iff_eq] at h
      obtain ⟨h1, h2⟩ := h
      obtain ⟨xs, n', rfl, _, hl, hxs, hfs⟩ := DataW.trod_struct hu hx
      obtain ⟨ns, e1, e2, e3⟩ := chainB_sound (hl.trans h1) (fun t m us fuel x hq hx => allIntsB_sound f t m us fuel x hq hx) fs.toList 0 h2 (fun g hg => by
        obtain ⟨i, hi⟩ := List.getElem?_of_mem hg
        have hi' : fs[i]? = some g := by simpa using hi
        have hlt : i < fs.size := by
          obtain ⟨q, _⟩ := Array.getElem?_eq_some_iff.1 hi'
          exact q
        refine ⟨n', xs[i]'(by omega), ?_⟩
        rw [hfs i g hi', List.getElem?_eq_getElem])
      exact ⟨ns, by simpa using e1, by omega, e3⟩
    · exact absurd h (by simp)

/-! ### Slices that came in -/
/-- A slice of elements of all int64 cells. -/
theorem open_recs {t e : TypeId} {fuel : Nat} {cs : List Value} {x : DataW H × List MemPlace} {sz : Nat} (hsz : 0 < sz) (ht : P.underlying t = some (.slice e)) (hai : allIntsB P 8 e sz = true) (hce : P.cellsOf e = sz)
    (h : DataW.trod enc P w base (fun _ => true) held fuel t cs = some x) :
    ∃ (A : Option Addr) (len c : Nat) (rows : List (List Int)), cs = [.slice A len c] ∧ rows.length = len ∧ len ≤ c ∧ len ≤ maxLen ∧ (∀ r ∈ rows, r.length = sz ∧ ∀ k ∈ r, inI64 k) ∧
      ((∃ b o, A = some ⟨b, o, none⟩ ∧ ∀ i, i < len → ∀ j, j < sz → w.cell? ⟨b, o + (i * sz + j), none⟩ = some (.int .i64 ((rows.getD i []).getD j 0))) ∨ (len = 0 ∧ c = 0)) := by
  rcases Go.Deep.open_slice ht h with ⟨rfl, _⟩ | ⟨a, len, cap, m, n, D, Pl, rfl, _, hl, hm, hmm, _, hx⟩
  · exact ⟨none, 0, 0, [], rfl, rfl, Nat.le_refl _, Nat.zero_le _, by simp, .inr ⟨rfl, rfl⟩⟩
  · simp only [if_true] at hmm
    subst hmm
    rw [hce] at hx
    have hrow : ∀ i, i < m → ∃ ns : List Int, (ns.length = sz ∧ ∀ k ∈ ns, inI64 k) ∧ ∀ j, j < sz → w.cell? (a.add (i * sz + j)) = some (.int .i64 (ns.getD j 0)) := fun i hi => by
      obtain ⟨us, h1, h2⟩ := hx i hi
      obtain ⟨ns, rfl, e2, e3⟩ := allIntsB_sound 8 e sz us n _ hai h2
      obtain ⟨_, _, hc⟩ := World.cells?_some h1
      refine ⟨ns, ⟨e2, e3⟩, fun j hj => ?_⟩
      have := hc j hj
      rw [Go.Deep.add_add] at this
      rw [this]
      simp [List.getD, List.getElem?_eq_getElem (show j < ns.length by omega)]
    obtain ⟨R, hR⟩ := Go.Deep.choose_lt (α := List Int) hrow
    refine ⟨some a, len, m, (List.range len).map R, rfl, by simp, hl, by omega, fun r hr => ?_, ?_⟩
    · obtain ⟨i, hi, rfl⟩ := List.mem_map.1 hr
      exact (hR i (by have := List.mem_range.1 hi; omega)).1
    · by_cases hm0 : m = 0
      · right; omega
      · left
        have h0 := (hR 0 (by omega)).2 0 hsz
        have hsp : a.spot = none := by
          have := World.cell?_spot h0
          simpa [Addr.add] using this
        obtain ⟨b, o, s⟩ := a
        simp only at hsp
        subst hsp
        refine ⟨b, o, rfl, fun i hi j hj => ?_⟩
        have := (hR i (by omega)).2 j hj
        rw [show (Addr.add ⟨b, o, none⟩ (i * sz + j)) = ⟨b, o + (i * sz + j), none⟩ by unfold Addr.add; split <;> simp_all] at this
        rw [this]
        simp [List.getD, hi]

variable {ρ : Rho} {N : Nat} {G : Heap}

/-- What is known of a slice that came in. -/
def OpenSl (ρ : Rho) (N : Nat) (G : Heap) (w : World) (cs : List Value) (f : Flat) : Prop :=
  ∃ v ρ', cs = [v] ∧ v.oneCell' = true ∧ Came ρ' (N + 1) ((N, .flat false f) :: G) w ∧ (∀ id, id < N → ρ' id = ρ id) ∧ VR ρ' (N + 1) (.sl N []) v

theorem open_sl_i64 {t e : TypeId} {fuel : Nat} {cs : List Value} {x : DataW H × List MemPlace} (hc : Came ρ N G w) (ht : P.underlying t = some (.slice e)) (hai : allIntsB P 8 e 1 = true) (hce : P.cellsOf e = 1)
    (h : DataW.trod enc P w base (fun _ => true) held fuel t cs = some x) : ∃ xs : List Int, xs.length ≤ maxLen ∧ (∀ k ∈ xs, inI64 k) ∧ OpenSl ρ N G w cs (.ints .i64 xs) := by
  obtain ⟨A, len, c, rows, rfl, hl, hlc, hm, hr, hA⟩ := open_recs (by omega) ht hai hce h
  subst hl
  refine ⟨rows.map fun r => r.getD 0 0, by simpa using hm, fun k hk => ?_, ?_⟩
  · obtain ⟨r, hr', rfl⟩ := List.mem_map.1 hk
    obtain ⟨q1, q2⟩ := hr r hr'
    match r, q1 with
    | [a], _ => exact q2 a (by simp)
  · obtain ⟨ρ', h1, h2, h3⟩ := hc.flat (.ints .i64 (rows.map fun r => r.getD 0 0)) (by simp [Flat.sz]) (A := A) (c := c) (by simpa [Flat.n] using hlc) (by
      rcases hA with ⟨b, o, rfl, hcell⟩ | ⟨e1, e2⟩
      · refine .inl ⟨b, o, rfl, fun i hi j hj => ?_⟩
        simp only [Flat.sz, Flat.n, List.length_map] at hi hj ⊢
        obtain rfl : j = 0 := by omega
        refine ⟨_, hcell i hi 0 (by omega), ?_, rfl⟩
        simp only [Flat.cell, VR]
        congr 1
        simp [List.getD, List.getElem?_eq_getElem hi]
      · exact .inr ⟨by simpa [Flat.n] using e1, e2⟩)
    exact ⟨_, ρ', rfl, rfl, h1, h2, by simpa [Flat.n] using h3⟩

theorem open_sl_r2 {t e : TypeId} {fuel : Nat} {cs : List Value} {x : DataW H × List MemPlace} (hc : Came ρ N G w) (ht : P.underlying t = some (.slice e)) (hai : allIntsB P 8 e 2 = true) (hce : P.cellsOf e = 2)
    (h : DataW.trod enc P w base (fun _ => true) held fuel t cs = some x) : ∃ xs : List R2, xs.length ≤ maxLen ∧ (∀ k ∈ xs, inI64 k.a ∧ inI64 k.b) ∧ OpenSl ρ N G w cs (.r2 xs) := by
  obtain ⟨A, len, c, rows, rfl, hl, hlc, hm, hr, hA⟩ := open_recs (by omega) ht hai hce h
  subst hl
  refine ⟨rows.map fun r => ⟨r.getD 0 0, r.getD 1 0⟩, by simpa using hm, fun k hk => ?_, ?_⟩
  · obtain ⟨r, hr', rfl⟩ := List.mem_map.1 hk
    obtain ⟨q1, q2⟩ := hr r hr'
    match r, q1 with
    | [a, b], _ => exact ⟨q2 a (by simp), q2 b (by simp)⟩
  · obtain ⟨ρ', h1, h2, h3⟩ := hc.flat (.r2 (rows.map fun r => ⟨r.getD 0 0, r.getD 1 0⟩)) (by simp [Flat.sz]) (A := A) (c := c) (by simpa [Flat.n] using hlc) (by
      rcases hA with ⟨b, o, rfl, hcell⟩ | ⟨e1, e2⟩
      · refine .inl ⟨b, o, rfl, fun i hi j hj => ?_⟩
        simp only [Flat.sz, Flat.n, List.length_map] at hi hj ⊢
        refine ⟨_, hcell i hi j hj, ?_, rfl⟩
        simp only [Flat.cell, VR]
        congr 1
        have hj2 : j = 0 ∨ j = 1 := by omega
        rcases hj2 with rfl | rfl <;> simp [R2.get, List.getD, List.getElem?_eq_getElem hi]
      · exact .inr ⟨by simpa [Flat.n] using e1, e2⟩)
    exact ⟨_, ρ', rfl, rfl, h1, h2, by simpa [Flat.n] using h3⟩

theorem open_sl_r3 {t e : TypeId} {fuel : Nat} {cs : List Value} {x : DataW H × List MemPlace} (hc : Came ρ N G w) (ht : P.underlying t = some (.slice e)) (hai : allIntsB P 8 e 3 = true) (hce : P.cellsOf e = 3)
    (h : DataW.trod enc P w base (fun _ => true) held fuel t cs = some x) : ∃ xs : List R3, xs.length ≤ maxLen ∧ (∀ k ∈ xs, inI64 k.a ∧ inI64 k.b ∧ inI64 k.c) ∧ OpenSl ρ N G w cs (.r3 xs) := by
  obtain ⟨A, len, c, rows, rfl, hl, hlc, hm, hr, hA⟩ := open_recs (by omega) ht hai hce h
  subst hl
  refine ⟨rows.map fun r => ⟨r.getD 0 0, r.getD 1 0, r.getD 2 0⟩, by simpa using hm, fun k hk => ?_, ?_⟩
  · obtain ⟨r, hr', rfl⟩ := List.mem_map.1 hk
    obtain ⟨q1, q2⟩ := hr r hr'
    match r, q1 with
    | [a, b, c], _ => exact ⟨q2 a (by simp), q2 b (by simp), q2 c (by simp)⟩
  · obtain ⟨ρ', h1, h2, h3⟩ := hc.flat (.r3 (rows.map fun r => ⟨r.getD 0 0, r.getD 1 0, r.getD 2 0⟩)) (by simp [Flat.sz]) (A := A) (c := c) (by simpa [Flat.n] using hlc) (by
      rcases hA with ⟨b, o, rfl, hcell⟩ | ⟨e1, e2⟩
      · refine .inl ⟨b, o, rfl, fun i hi j hj => ?_⟩
        simp only [Flat.sz, Flat.n, List.length_map] at hi hj ⊢
        refine ⟨_, hcell i hi j hj, ?_, rfl⟩
        simp only [Flat.cell, VR]
        congr 1
        have hj2 : j = 0 ∨ j = 1 ∨ j = 2 := by omega
        rcases hj2 with rfl | rfl | rfl <;> simp [R3.get, List.getD, List.getElem?_eq_getElem hi]
      · exact .inr ⟨by simpa [Flat.n] using e1, e2⟩)
    exact ⟨_, ρ', rfl, rfl, h1, h2, by simpa [Flat.n] using h3⟩

theorem open_sl_r4 {t e : TypeId} {fuel : Nat} {cs : List Value} {x : DataW H × List MemPlace} (hc : Came ρ N G w) (ht : P.underlying t = some (.slice e)) (hai : allIntsB P 8 e 4 = true) (hce : P.cellsOf e = 4)
    (h : DataW.trod enc P w base (fun _ => true) held fuel t cs = some x) : ∃ xs : List R4, xs.length ≤ maxLen ∧ (∀ k ∈ xs, inI64 k.a ∧ inI64 k.b ∧ inI64 k.c ∧ inI64 k.d) ∧ OpenSl ρ N G w cs (.r4 xs) := by
  obtain ⟨A, len, c, rows, rfl, hl, hlc, hm, hr, hA⟩ := open_recs (by omega) ht hai hce h
  subst hl
  refine ⟨rows.map fun r => ⟨r.getD 0 0, r.getD 1 0, r.getD 2 0, r.getD 3 0⟩, by simpa using hm, fun k hk => ?_, ?_⟩
  · obtain ⟨r, hr', rfl⟩ := List.mem_map.1 hk
    obtain ⟨q1, q2⟩ := hr r hr'
    match r, q1 with
    | [a, b, c, d], _ => exact ⟨q2 a (by simp), q2 b (by simp), q2 c (by simp), q2 d (by simp)⟩
  · obtain ⟨ρ', h1, h2, h3⟩ := hc.flat (.r4 (rows.map fun r => ⟨r.getD 0 0, r.getD 1 0, r.getD 2 0, r.getD 3 0⟩)) (by simp [Flat.sz]) (A := A) (c := c) (by simpa [Flat.n] using hlc) (by
      rcases hA with ⟨b, o, rfl, hcell⟩ | ⟨e1, e2⟩
      · refine .inl ⟨b, o, rfl, fun i hi j hj => ?_⟩
        simp only [Flat.sz, Flat.n, List.length_map] at hi hj ⊢
        refine ⟨_, hcell i hi j hj, ?_, rfl⟩
        simp only [Flat.cell, VR]
        congr 1
        have hj2 : j = 0 ∨ j = 1 ∨ j = 2 ∨ j = 3 := by omega
        rcases hj2 with rfl | rfl | rfl | rfl <;> simp [R4.get, List.getD, List.getElem?_eq_getElem hi]
      · exact .inr ⟨by simpa [Flat.n] using e1, e2⟩)
    exact ⟨_, ρ', rfl, rfl, h1, h2, by simpa [Flat.n] using h3⟩

/-! ### The reading behind the call -/
theorem trodAll_after (hl : laidOutB P = true) {W W' : World} (hb : Below W.heap.size W W') : ∀ {ts : List TypeId} {vs : List Value} {ds : List (DataW H)} {ps : List MemPlace}, ts.all (fun t => P.readableRec t && decide (t < P.types.size)) = true →
    DataW.TrodAll enc P W 0 (fun _ => true) true ts vs ds ps → ∃ qs, DataW.TrodAll enc P W' 0 (fun b => decide (b < W.heap.size)) true ts vs ds qs
  | [], vs, ds, ps, _, h => by
    obtain ⟨rfl, rfl, rfl⟩ := trodAll_nil h
    exact ⟨[], trodAll_mk0⟩
  | t :: ts, vs, ds, ps, ht, h => by
    simp only [List.all_cons, Bool.and_eq_true, decide_eq_true_eq] at ht
    obtain ⟨v, vs', d, ds', p, q, rfl, rfl, rfl, h1, h2⟩ := trodAll_cons h
    obtain ⟨qs, hqs⟩ := trodAll_after hl hb (by simpa using ht.2) h2
    have lt : ∀ x ∈ p, x.block < W.heap.size := by obtain ⟨m, hm⟩ := h1; exact DataW.trod_lt m _ _ _ hm
    exact ⟨_, trodAll_cons_mk (Below.trod hl ht.1.1 ht.1.2 h1 hb lt) hqs⟩

/-- A law's contract is its statement's. -/
theorem law_done (hl : laidOutB P = true) {fn : Func} {s : ChangeSpec} {W : World} {args : Array Value} {ds gs : List (DataW H)} {before : List MemPlace} {bt : TypeId} {n : Nat} {f : FuncId}
    (hW : DataW.Whole enc P fn.params.toList s.vars false W args.toList ds gs before) (hvars : s.vars = []) (hrd : fn.params.toList.all (fun t => P.readableRec t && decide (t < P.types.size)) = true)
    (hres : fn.resultTypes = #[bt]) (hbt : P.underlying bt = some .bool) (hn : fn.params.toList.length = n) (hfn : ∀ ds : List (DataW H), ds.length = n → s.fn H (ds ++ []) = { results := [.lit (.bool true)], args := ds })
    (hcall : ∀ p, DataW.TrodAll enc P W 0 (fun _ => true) true fn.params.toList args.toList ds p → Calls P f args W fun e W' => e = .returned (.bool true) ∧ Below W.heap.size W W') :
    Calls P f args W fun e W' => ∃ v, e = .returned v ∧ s.post enc P fn false true false false W args v W' := by
  have hW' := hW
  obtain ⟨p, q, hA, hV, rfl, hfz, hnd⟩ := hW
  refine (hcall p hA).mono fun e W' ⟨he, hb⟩ => ⟨_, he, ?_⟩
  rw [hvars] at hV
  obtain ⟨rfl, rfl⟩ := trodVars_none hV
  obtain ⟨qs, hqs⟩ := trodAll_after hl hb hrd hA
  have hdl : ds.length = n := by
    rw [← hn]
    clear hW' hfz hnd hqs hfn hn hcall hrd
    generalize fn.params.toList = ts at hA
    generalize args.toList = vs at hA
    induction ts generalizing vs ds p with
    | nil => obtain ⟨_, rfl, _⟩ := trodAll_nil hA; rfl
    | cons t ts ih =>
      obtain ⟨v, vs', d, ds', p, q, rfl, rfl, rfl, h1, h2⟩ := trodAll_cons hA
      have := ih q vs' h2
      simp [this]
  refine ⟨ds, [], _, [], qs, [], hW', ?_, ?_, ?_, hb.frame _, fun h => by cases h⟩
  · rw [hfn ds hdl, hres]
    exact trodAll_mk1 (shut_bool hbt _)
  · rw [hfn ds hdl]; exact hqs
  · rw [hvars, hfn ds hdl]; rfl

/-- The call, from a contract over the heap that came in. -/
theorem law_call {f : FuncId} {avs : List AV} {vs : List Value} (hc : Came ρ N G w) (hv : VRL ρ N avs vs) {n : Nat} {g : Heap} (h : FnIs P f avs N G (.bool true) n g)
    (hlie : ∀ x ∈ glT, ∃ arr t f, w.heap[x.1]? = some (.cells arr t f) ∧ x.2 arr := by simp [glT]) :
    Calls P f vs.toArray w fun e W' => e = .returned (.bool true) ∧ Below w.heap.size w W' := by
  refine (h.call.run ρ w vs ⟨hlie, fun x _ ⟨id, p, nd, hn, _⟩ => by
    obtain ⟨o, ho, _, hw⟩ := hn.ex
    rw [hc.no id o ho] at hw
    cases hw⟩ hc.rep hv).mono fun e W' ⟨v, he, ho⟩ => ?_
  obtain ⟨av, ρ', N', G', ⟨e1, _, _⟩, h2, _, _, _, hf, _⟩ := ho.ex
  subst e1
  simp only [VR] at h2
  subst h2
  refine ⟨he, ⟨hf.os, hf.tape, hf.output, hf.size, fun k hk => hf.block k hk ?_⟩⟩
  rintro ⟨id, p, nd, hn, _⟩
  obtain ⟨o, ho, _, hw⟩ := hn.ex
  rw [hc.no id o ho] at hw
  cases hw
end
end Go.Sx

/-
  Slices of slices that came in as a law's arguments.
-/
namespace Go.Sx
set_option linter.unusedVariables false
set_option linter.unusedSimpArgs false
open Go
open Go.ChangeShapes Go.WideShapes Go.ChangeAt Go.RowKit Go.Joins Go.Deep
variable {H : Type} {enc : TypeId × Value → H} {P : Program} {w : World} {base : Nat} {spare : Nat → Bool} {held : Bool}

theorem open_agg1 {r : Reach} {b0 : Nat} {t : TypeId} {f0 : Field} {v : Value} {d : DataW H} {p : List MemPlace} (hs : P.underlying t = some (.struct #[f0])) (hone : oneCellFields P #[f0] = true) (hC : P.cellsOf t = 1)
    (hv : Value.okWide P w r b0 t v) (h : DataW.Trod enc P w base spare held t v d p) :
    ∃ (v0 : Value) (y0 : DataW H × List MemPlace) (n : Nat), v = .agg #[v0] ∧ DataW.trod enc P w base spare held n f0.type [v0] = some y0 := by
  obtain ⟨cs, rfl, hsz⟩ := okWide_struct hs hv
  obtain ⟨c0, rfl⟩ : ∃ c0, cs = #[c0] := by
    obtain ⟨l⟩ := cs
    match l, hsz.trans hC with
    | [c0], _ => exact ⟨c0, rfl⟩
  obtain ⟨fuel, hf⟩ := h
  obtain ⟨xs, n, _, _, hl, hlen, hfs⟩ := DataW.trod_struct hs hf
  obtain ⟨o0, k0⟩ := hone_of hone 0 f0 rfl
  match xs, hlen with
  | [y0], _ => exact ⟨c0, y0, n, rfl, by simpa [Value.cells, o0, k0] using hfs 0 f0 rfl⟩

/-- The blocks that slice values bear. -/
def vBlk (sz : Nat) (v : Value) : Blk :=
  match v with
  | .slice (some ⟨b, o, _⟩) n c => ⟨b, o, sz, n, o + c * sz⟩
  | _ => ⟨0, 0, sz, 0, 0⟩

/-- A row that came in: a slice of records of sz numbers. -/
structure RowIn (w : World) (sz : Nat) (v : Value) (R : List (List Int)) : Prop where
  one : v.oneCell' = true
  len : R.length ≤ maxLen
  rng : ∀ r ∈ R, r.length = sz ∧ ∀ k ∈ r, inI64 k
  ex : ∃ A c, v = .slice A R.length c ∧ R.length ≤ c ∧ ((∃ b o, A = some ⟨b, o, none⟩ ∧ ∀ i, i < R.length → ∀ j, j < sz → w.cell? ⟨b, o + (i * sz + j), none⟩ = some (.int .i64 ((R.getD i []).getD j 0))) ∨ (R.length = 0 ∧ c = 0))

theorem open_rows {t e e2 : TypeId} {fuel : Nat} {cs : List Value} {x : DataW H × List MemPlace} {sz : Nat} (hsz : 0 < sz) (ht : P.underlying t = some (.slice e)) (hce1 : P.cellsOf e = 1) (he : P.underlying e = some (.slice e2)) (hai : allIntsB P 8 e2 sz = true) (hce : P.cellsOf e2 = sz)
    (h : DataW.trod enc P w base (fun _ => true) held fuel t cs = some x) :
    ∃ (A : Option Addr) (len c : Nat) (V : Nat → Value) (R : Nat → List (List Int)), cs = [.slice A len c] ∧ len ≤ c ∧ len ≤ maxLen ∧ (∀ i, i < len → RowIn w sz (V i) (R i)) ∧
      ((∃ b o, A = some ⟨b, o, none⟩ ∧ ∀ i, i < len → w.cell? ⟨b, o + i, none⟩ = some (V i)) ∨ (len = 0 ∧ c = 0)) := by
  rcases Go.Deep.open_slice1 ht hce1 h with ⟨rfl, _⟩ | ⟨a, len, cap, m, n, V, D, Pl, rfl, _, hl, hm, hmm, _, hx⟩
  · exact ⟨none, 0, 0, fun _ => undef, fun _ => [], rfl, Nat.le_refl _, Nat.zero_le _, fun i hi => absurd hi (Nat.not_lt_zero i), .inr ⟨rfl, rfl⟩⟩
  · simp only [if_true] at hmm
    subst hmm
    have hrow : ∀ i, i < m → ∃ R : List (List Int), RowIn w sz (V i) R := fun i hi => by
      obtain ⟨_, h2⟩ := hx i hi
      obtain ⟨A, ln, c, rows, e1, e2, e3, e4, e5, e6⟩ := open_recs hsz he hai hce h2
      injection e1 with e1
      subst e2
      exact ⟨rows, by rw [e1]; rfl, e4, e5, A, c, e1, e3, e6⟩
    obtain ⟨R, hR⟩ := Go.Deep.choose_lt (α := List (List Int)) hrow
    refine ⟨some a, len, m, V, R, rfl, hl, by omega, fun i hi => hR i (by omega), ?_⟩
    by_cases hm0 : m = 0
    · right; omega
    · left
      have h0 := (hx 0 (by omega)).1
      have hsp : a.spot = none := by
        have := World.cell?_spot h0
        simpa [Addr.add] using this
      obtain ⟨b, o, s⟩ := a
      simp only at hsp
      subst hsp
      refine ⟨b, o, rfl, fun i hi => ?_⟩
      have := (hx i (by omega)).1
      rw [show (Addr.add ⟨b, o, none⟩ i) = ⟨b, o + i, none⟩ by unfold Addr.add; split <;> simp_all] at this
      exact this

variable {ρ : Rho} {N : Nat} {G : Heap}

/-- What is known of a slice of slices that came in. -/
def OpenNest (ρ : Rho) (N : Nat) (G : Heap) (w : World) (cs : List Value) (o : AObj) (n : Nat) : Prop :=
  ∃ v ρ', cs = [v] ∧ v.oneCell' = true ∧ Came ρ' (N + 1 + 1) ((N + 1, .flat false (.rows N 0 n)) :: (N, o) :: G) w ∧ (∀ id, id < N → ρ' id = ρ id) ∧ VR ρ' (N + 1 + 1) (.sl (N + 1) []) v

/-- The rows beside the header. -/
theorem Came.nest (hc : Came ρ N G w) {sz : Nat} (hsz : 0 < sz) {A : Option Addr} {len c : Nat} {V : Nat → Value} {R : Nat → List (List Int)} (hlc : len ≤ c) (hR : ∀ i, i < len → RowIn w sz (V i) (R i))
    (hA : (∃ b o, A = some ⟨b, o, none⟩ ∧ ∀ i, i < len → w.cell? ⟨b, o + i, none⟩ = some (V i)) ∨ (len = 0 ∧ c = 0)) {o : AObj} (ho : o.own = false)
    (hnd : ∀ p nd, o.node N p = some nd → ∃ y, p = [y] ∧ y < len ∧ nd.sz = sz ∧ nd.n = (R y).length ∧ ∀ i, i < nd.n → ∀ j, j < sz → nd.cell i j = .int .i64 (((R y).getD i []).getD j 0)) :
    OpenNest ρ N G w [.slice A len c] o len := by
  have h1 := hc.rep.foreign hc.no (o := o) ho (fun p => match p with
    | [y] => vBlk sz (V y)
    | _ => ⟨0, 0, sz, 0, 0⟩) (fun p nd hp => by
      obtain ⟨y, rfl, hy, s1, s2, s3⟩ := hnd p nd hp
      obtain ⟨A', c', e, hle, hcase⟩ := (hR y hy).ex
      dsimp only
      rw [s1]
      rcases hcase with ⟨b, oo, rfl, hcell⟩ | ⟨h0, h0'⟩
      · rw [e]
        simp only [vBlk]
        refine ⟨by first | trivial | rfl, s2.symm, hsz, fun i hi j hj => ⟨_, hcell i (by omega) j hj, ?_, rfl⟩⟩
        rw [s3 i hi j hj]
        simp only [VR]
      · have hB : (vBlk sz (V y)).sz = sz ∧ (vBlk sz (V y)).n = 0 := by
          rw [e, h0]; cases A' <;> exact ⟨rfl, rfl⟩
        exact ⟨hB.1, by rw [hB.2]; omega, hsz, fun i hi => by omega⟩)
  obtain ⟨h1, h1n⟩ := h1
  have hag := updρ_lt ρ N (fun p => match p with
    | [y] => vBlk sz (V y)
    | _ => ⟨0, 0, sz, 0, 0⟩)
  have hc1 : Came _ (N + 1) ((N, o) :: G) w := ⟨h1, h1n⟩
  obtain ⟨ρ2, k1, k2, k3⟩ := hc1.flat (.rows N 0 len) (by simp [Flat.sz]) (A := A) (c := c) hlc (by
    rcases hA with ⟨b, oo, rfl, hcell⟩ | ⟨h0, h0'⟩
    · refine .inl ⟨b, oo, rfl, fun i hi j hj => ⟨V i, ?_, ?_, ?_⟩⟩
      · simp only [Flat.sz, Flat.n] at hi hj ⊢
        obtain rfl : j = 0 := by omega
        simpa using hcell i hi
      · simp only [Flat.n] at hi
        obtain ⟨A', c', e, hle, hcase⟩ := (hR i hi).ex
        simp only [Flat.cell, offs, VR, updρ_at]
        refine ⟨Nat.lt_succ_self N, A', c', ?_, ?_⟩
        · rw [e]
          rcases hcase with ⟨b', o', rfl, _⟩ | ⟨h0, _⟩
          · rfl
          · rw [h0]; cases A' <;> rfl
        · rw [e]
          rcases hcase with ⟨b', o', rfl, _⟩ | ⟨h0, h0'⟩
          · left
            exact ⟨by simp [vBlk], hle, by simp [vBlk]⟩
          · right
            exact ⟨by rw [h0]; cases A' <;> rfl, h0'⟩
      · simp only [Flat.n] at hi
        exact (hR i hi).one
    · exact .inr ⟨h0, h0'⟩)
  refine ⟨_, ρ2, rfl, rfl, k1, fun id hid => (k2 id (by omega)).trans (hag id hid), k3⟩

theorem open_nest_i64 {t e e2 : TypeId} {fuel : Nat} {cs : List Value} {x : DataW H × List MemPlace} (hc : Came ρ N G w) (ht : P.underlying t = some (.slice e)) (hce1 : P.cellsOf e = 1) (he : P.underlying e = some (.slice e2)) (hai : allIntsB P 8 e2 1 = true) (hce : P.cellsOf e2 = 1)
    (h : DataW.trod enc P w base (fun _ => true) held fuel t cs = some x) : ∃ xss : List (List Int), xss.length ≤ maxLen ∧ (∀ xs ∈ xss, xs.length ≤ maxLen ∧ ∀ k ∈ xs, inI64 k) ∧ OpenNest ρ N G w cs (.nestI false .i64 xss) xss.length := by
  obtain ⟨A, len, c, V, R, rfl, h1, h2, h3, h4⟩ := open_rows (by omega) ht hce1 he hai hce h
  have hlen : ((List.range len).map fun i => (R i).map fun r => r.getD 0 0).length = len := by simp
  have hget : ∀ y, y < len → ((List.range len).map fun i => (R i).map fun r => r.getD 0 0).getD y [] = (R y).map fun r => r.getD 0 0 := fun y hy => by
    simp [List.getD, hy]
  refine ⟨(List.range len).map fun i => (R i).map fun r => r.getD 0 0, by simpa using h2, fun xs hxs => ?_, ?_⟩
  · obtain ⟨i, hi, rfl⟩ := List.mem_map.1 hxs
    have hr := h3 i (List.mem_range.1 hi)
    refine ⟨by simpa using hr.len, fun k hk => ?_⟩
    obtain ⟨r, hr', rfl⟩ := List.mem_map.1 hk
    obtain ⟨q1, q2⟩ := hr.rng r hr'
    match r, q1 with
    | [a], _ => exact q2 a (by simp)
  · rw [hlen]
    refine hc.nest (sz := 1) (by omega) h1 h3 h4 rfl (fun p nd hp => ?_)
    obtain ⟨y, rfl⟩ := nest_nodes (o := .nestI false .i64 _) rfl N p nd hp
    simp only [AObj.node] at hp
    split at hp
    · next hy =>
      rw [hlen] at hy
      injection hp with hp
      rw [hget y hy] at hp
      subst hp
      refine ⟨y, rfl, hy, rfl, by simp [Flat.node, Flat.n], fun i hi j hj => ?_⟩
      simp only [Flat.node, Flat.n, List.length_map] at hi
      obtain rfl : j = 0 := by omega
      simp [Flat.node, Flat.cell, List.getD, List.getElem?_eq_getElem hi]
    · cases hp
theorem open_nest_r2 {t e e2 : TypeId} {fuel : Nat} {cs : List Value} {x : DataW H × List MemPlace} (hc : Came ρ N G w) (ht : P.underlying t = some (.slice e)) (hce1 : P.cellsOf e = 1) (he : P.underlying e = some (.slice e2)) (hai : allIntsB P 8 e2 2 = true) (hce : P.cellsOf e2 = 2)
    (h : DataW.trod enc P w base (fun _ => true) held fuel t cs = some x) : ∃ xss : List (List R2), xss.length ≤ maxLen ∧ (∀ xs ∈ xss, xs.length ≤ maxLen ∧ ∀ k ∈ xs, inI64 k.a ∧ inI64 k.b) ∧ OpenNest ρ N G w cs (.nestR2 false xss) xss.length := by
  obtain ⟨A, len, c, V, R, rfl, h1, h2, h3, h4⟩ := open_rows (by omega) ht hce1 he hai hce h
  have hlen : ((List.range len).map fun i => (R i).map fun r => (⟨r.getD 0 0, r.getD 1 0⟩ : R2)).length = len := by simp
  have hget : ∀ y, y < len → ((List.range len).map fun i => (R i).map fun r => (⟨r.getD 0 0, r.getD 1 0⟩ : R2)).getD y [] = (R y).map fun r => (⟨r.getD 0 0, r.getD 1 0⟩ : R2) := fun y hy => by
    simp [List.getD, hy]
  refine ⟨(List.range len).map fun i => (R i).map fun r => (⟨r.getD 0 0, r.getD 1 0⟩ : R2), by simpa using h2, fun xs hxs => ?_, ?_⟩
  · obtain ⟨i, hi, rfl⟩ := List.mem_map.1 hxs
    have hr := h3 i (List.mem_range.1 hi)
    refine ⟨by simpa using hr.len, fun k hk => ?_⟩
    obtain ⟨r, hr', rfl⟩ := List.mem_map.1 hk
    obtain ⟨q1, q2⟩ := hr.rng r hr'
    match r, q1 with
    | [a, b], _ => exact ⟨q2 a (by simp), q2 b (by simp)⟩
  · rw [hlen]
    refine hc.nest (sz := 2) (by omega) h1 h3 h4 rfl (fun p nd hp => ?_)
    obtain ⟨y, rfl⟩ := nest_nodes (o := .nestR2 false _) rfl N p nd hp
    simp only [AObj.node] at hp
    split at hp
    · next hy =>
      rw [hlen] at hy
      injection hp with hp
      rw [hget y hy] at hp
      subst hp
      refine ⟨y, rfl, hy, rfl, by simp [Flat.node, Flat.n], fun i hi j hj => ?_⟩
      simp only [Flat.node, Flat.n, List.length_map] at hi
      have hj2 : j = 0 ∨ j = 1 := by omega
      rcases hj2 with rfl | rfl <;> simp [Flat.node, Flat.cell, R2.get, List.getD, List.getElem?_eq_getElem hi]
    · cases hp

end Go.Sx

/-
  Bytes that came in.
-/
namespace Go.Sx
set_option linter.unusedVariables false
set_option linter.unusedSimpArgs false
open Go
open Go.RowKit
section
variable {H : Type} {enc : TypeId × Value → H} {P : Program} {w : World} {base : Nat} {held : Bool} {ρ : Rho} {N : Nat} {G : Heap}

theorem open_sl_u8 {t e : TypeId} {fuel : Nat} {cs : List Value} {x : DataW H × List MemPlace} (hc : Came ρ N G w) (ht : P.underlying t = some (.slice e)) (he : P.underlying e = some (.int .u8)) (hce : P.cellsOf e = 1)
    (h : DataW.trod enc P w base (fun _ => true) held fuel t cs = some x) : ∃ xs : List Int, xs.length ≤ maxLen ∧ (∀ k ∈ xs, 0 ≤ k ∧ k ≤ 255) ∧ OpenSl ρ N G w cs (.ints .u8 xs) := by
  have main : ∃ (A : Option Addr) (c : Nat) (xs : List Int), cs = [.slice A xs.length c] ∧ xs.length ≤ c ∧ xs.length ≤ maxLen ∧ (∀ k ∈ xs, 0 ≤ k ∧ k ≤ 255) ∧
      ((∃ b o, A = some ⟨b, o, none⟩ ∧ ∀ i, i < xs.length → w.cell? ⟨b, o + i, none⟩ = some (.int .u8 (xs.getD i 0))) ∨ (xs.length = 0 ∧ c = 0)) := by
    rcases Go.Deep.open_slice ht h with ⟨rfl, _⟩ | ⟨a, len, cap, m, n, D, Pl, rfl, _, hl, hm, hmm, _, hx⟩
    · exact ⟨none, 0, [], rfl, Nat.le_refl _, Nat.zero_le _, by simp, .inr ⟨rfl, rfl⟩⟩
    · simp only [if_true] at hmm
      subst hmm
      rw [hce] at hx
      have hrow : ∀ i, i < m → ∃ k : Int, (0 ≤ k ∧ k ≤ 255) ∧ w.cell? (a.add i) = some (.int .u8 k) := fun i hi => by
        obtain ⟨us, h1, h2⟩ := hx i hi
        obtain ⟨k, rfl, _, hw⟩ := DataW.trod_int he h2
        obtain ⟨_, _, hc⟩ := World.cells?_some h1
        refine ⟨k, bounds_u8 hw, ?_⟩
        have := hc 0 (by omega)
        rw [Go.Deep.add_add] at this
        simpa using this
      obtain ⟨R, hR⟩ := Go.Deep.choose_lt (α := Int) hrow
      refine ⟨some a, m, (List.range len).map R, by simp, by simpa using hl, by simp; omega, fun r hr => ?_, ?_⟩
      · obtain ⟨i, hi, rfl⟩ := List.mem_map.1 hr
        exact (hR i (by have := List.mem_range.1 hi; omega)).1
      · by_cases hm0 : m = 0
        · right; simp; omega
        · left
          have h0 := (hR 0 (by omega)).2
          have hsp : a.spot = none := by
            have := World.cell?_spot h0
            simpa [Addr.add] using this
          obtain ⟨b, o, s⟩ := a
          simp only at hsp
          subst hsp
          refine ⟨b, o, rfl, fun i hi => ?_⟩
          simp only [List.length_map, List.length_range] at hi
          have := (hR i (by omega)).2
          rw [show (Addr.add ⟨b, o, none⟩ i) = ⟨b, o + i, none⟩ by unfold Addr.add; split <;> simp_all] at this
          rw [this]
          simp [List.getD, hi]
  obtain ⟨A, c, xs, rfl, hlc, hm, hr, hA⟩ := main
  refine ⟨xs, hm, hr, ?_⟩
  obtain ⟨ρ', h1, h2, h3⟩ := hc.flat (.ints .u8 xs) (by simp [Flat.sz]) (A := A) (c := c) (by simpa [Flat.n] using hlc) (by
    rcases hA with ⟨b, o, rfl, hcell⟩ | ⟨e1, e2⟩
    · refine .inl ⟨b, o, rfl, fun i hi j hj => ?_⟩
      simp only [Flat.sz, Flat.n] at hi hj ⊢
      obtain rfl : j = 0 := by omega
      refine ⟨.int .u8 (xs.getD i 0), by simpa using hcell i hi, ?_, rfl⟩
      simp only [Flat.cell, VR]
    · exact .inr ⟨by simpa [Flat.n] using e1, e2⟩)
  exact ⟨_, ρ', rfl, rfl, h1, h2, by simpa [Flat.n] using h3⟩
end
end Go.Sx

/-
  Structs of int64 fields, by value, that came in as a law's arguments.
-/
namespace Go.Sx
set_option linter.unusedVariables false
set_option linter.unusedSimpArgs false
open Go
open Go.ChangeShapes Go.WideShapes Go.ChangeAt Go.RowKit Go.Joins Go.Deep
variable {H : Type} {enc : TypeId × Value → H} {P : Program} {w : World} {base : Nat} {spare : Nat → Bool} {held : Bool}

theorem open_aggI {r : Reach} {b0 : Nat} {t : TypeId} {fs : Array Field} {v : Value} {d : DataW H} {p : List MemPlace} {n : Nat} (hs : P.underlying t = some (.struct fs)) (hai : allIntsB P 8 t n = true)
    (hv : Value.okWide P w r b0 t v) (h : DataW.Trod enc P w base spare held t v d p) :
    ∃ ns : List Int, v = .agg ((ns.map (Value.int .i64)).toArray) ∧ ns.length = n ∧ ∀ k ∈ ns, inI64 k := by
  obtain ⟨cs, rfl, hsz⟩ := okWide_struct hs hv
  obtain ⟨fuel, hf⟩ := h
  obtain ⟨ns, e1, e2, e3⟩ := allIntsB_sound 8 t n _ fuel _ hai hf
  refine ⟨ns, ?_, e2, e3⟩
  rw [← e1]
  simp [Value.cells]
theorem list4 {α : Type} {ns : List α} (h : ns.length = 4) : ∃ a b c d, ns = [a, b, c, d] := by
  match ns, h with
  | [a, b, c, d], _ => exact ⟨a, b, c, d, rfl⟩
end Go.Sx

/-
  Lists of strings that came in.
-/
namespace Go.Sx
set_option linter.unusedVariables false
set_option linter.unusedSimpArgs false
open Go
open Go.RowKit
section
variable {H : Type} {enc : TypeId × Value → H} {P : Program} {w : World} {base : Nat} {held : Bool} {ρ : Rho} {N : Nat} {G : Heap}

theorem open_sl_str {t e : TypeId} {fuel : Nat} {cs : List Value} {x : DataW H × List MemPlace} (hc : Came ρ N G w) (ht : P.underlying t = some (.slice e)) (he : P.underlying e = some .string) (hce : P.cellsOf e = 1)
    (h : DataW.trod enc P w base (fun _ => true) held fuel t cs = some x) : ∃ xs : List ByteArray, xs.length ≤ maxLen ∧ (∀ s ∈ xs, s.size ≤ maxLen) ∧ OpenSl ρ N G w cs (.strs xs) := by
  have main : ∃ (A : Option Addr) (c : Nat) (xs : List ByteArray), cs = [.slice A xs.length c] ∧ xs.length ≤ c ∧ xs.length ≤ maxLen ∧ (∀ s ∈ xs, s.size ≤ maxLen) ∧
      ((∃ b o, A = some ⟨b, o, none⟩ ∧ ∀ i, i < xs.length → w.cell? ⟨b, o + i, none⟩ = some (.string (xs.getD i ByteArray.empty))) ∨ (xs.length = 0 ∧ c = 0)) := by
    rcases Go.Deep.open_slice ht h with ⟨rfl, _⟩ | ⟨a, len, cap, m, n, D, Pl, rfl, _, hl, hm, hmm, _, hx⟩
    · exact ⟨none, 0, [], rfl, Nat.le_refl _, Nat.zero_le _, by simp, .inr ⟨rfl, rfl⟩⟩
    · simp only [if_true] at hmm
      subst hmm
      rw [hce] at hx
      have hrow : ∀ i, i < m → ∃ s : ByteArray, s.size ≤ maxLen ∧ w.cell? (a.add i) = some (.string s) := fun i hi => by
        obtain ⟨us, h1, h2⟩ := hx i hi
        obtain ⟨s, rfl, _, hw⟩ := DataW.trod_string he h2
        obtain ⟨_, _, hc⟩ := World.cells?_some h1
        refine ⟨s, hw, ?_⟩
        have := hc 0 (by omega)
        rw [Go.Deep.add_add] at this
        simpa using this
      obtain ⟨R, hR⟩ := Go.Deep.choose_lt (α := ByteArray) hrow
      refine ⟨some a, m, (List.range len).map R, by simp, by simpa using hl, by simp; omega, fun r hr => ?_, ?_⟩
      · obtain ⟨i, hi, rfl⟩ := List.mem_map.1 hr
        exact (hR i (by have := List.mem_range.1 hi; omega)).1
      · by_cases hm0 : m = 0
        · right; simp; omega
        · left
          have h0 := (hR 0 (by omega)).2
          have hsp : a.spot = none := by
            have := World.cell?_spot h0
            simpa [Addr.add] using this
          obtain ⟨b, o, s⟩ := a
          simp only at hsp
          subst hsp
          refine ⟨b, o, rfl, fun i hi => ?_⟩
          simp only [List.length_map, List.length_range] at hi
          have := (hR i (by omega)).2
          rw [show (Addr.add ⟨b, o, none⟩ i) = ⟨b, o + i, none⟩ by unfold Addr.add; split <;> simp_all] at this
          rw [this]
          simp [List.getD, hi]
  obtain ⟨A, c, xs, rfl, hlc, hm, hr, hA⟩ := main
  refine ⟨xs, hm, hr, ?_⟩
  obtain ⟨ρ', h1, h2, h3⟩ := hc.flat (.strs xs) (by simp [Flat.sz]) (A := A) (c := c) (by simpa [Flat.n] using hlc) (by
    rcases hA with ⟨b, o, rfl, hcell⟩ | ⟨e1, e2⟩
    · refine .inl ⟨b, o, rfl, fun i hi j hj => ?_⟩
      simp only [Flat.sz, Flat.n] at hi hj ⊢
      obtain rfl : j = 0 := by omega
      refine ⟨.string (xs.getD i ByteArray.empty), by simpa using hcell i hi, ?_, rfl⟩
      simp only [Flat.cell, VR]
    · exact .inr ⟨by simpa [Flat.n] using e1, e2⟩)
  exact ⟨_, ρ', rfl, rfl, h1, h2, by simpa [Flat.n] using h3⟩
end
end Go.Sx

/-
  Small laws on lists for loops.
-/
namespace Go.Sx
set_option linter.unusedVariables false
set_option linter.unusedSimpArgs false

theorem all_succ {α : Type} {xs : List α} {p : α → Bool} {i : Nat} (d : α) (hi : i < xs.length) : (xs.take (i + 1)).all p = ((xs.take i).all p && p (xs.getD i d)) := by
  rw [List.take_succ_eq_append_getElem hi, List.all_append]
  simp [List.getD, List.getElem?_eq_getElem hi]
theorem all_no {α : Type} {xs : List α} {p : α → Bool} {i : Nat} {d : α} (hi : i < xs.length) (h : p (xs.getD i d) = false) : xs.all p = false := by
  rw [List.all_eq_false]
  refine ⟨xs[i], List.getElem_mem hi, ?_⟩
  simpa [List.getD, List.getElem?_eq_getElem hi] using h
theorem any_succ {α : Type} {xs : List α} {p : α → Bool} {i : Nat} (d : α) (hi : i < xs.length) : (xs.take (i + 1)).any p = ((xs.take i).any p || p (xs.getD i d)) := by
  rw [List.take_succ_eq_append_getElem hi, List.any_append]
  simp [List.getD, List.getElem?_eq_getElem hi]
theorem any_yes {α : Type} {xs : List α} {p : α → Bool} {i : Nat} {d : α} (hi : i < xs.length) (h : p (xs.getD i d) = true) : xs.any p = true := by
  rw [List.any_eq_true]
  refine ⟨xs[i], List.getElem_mem hi, ?_⟩
  simpa [List.getD, List.getElem?_eq_getElem hi] using h
theorem take_all {α : Type} {xs : List α} {i : Nat} (h : xs.length ≤ i) : xs.take i = xs := List.take_of_length_le h
theorem getD_map_lt {α β : Type} {xs : List α} {f : α → β} {i : Nat} (hi : i < xs.length) (d : α) (e : β) : (xs.map f).getD i e = f (xs.getD i d) := by
  simp [List.getD, List.getElem?_eq_getElem hi]
theorem take_snoc {α : Type} {xs : List α} {i : Nat} (d : α) (hi : i < xs.length) : xs.take (i + 1) = xs.take i ++ [xs.getD i d] := by
  rw [List.take_succ_eq_append_getElem hi]
  simp [List.getD, List.getElem?_eq_getElem hi]
theorem set_fill {α : Type} (xs : List α) (n i : Nat) (d z : α) (hi : i < xs.length) (hn : xs.length ≤ n) : (xs.take i ++ List.replicate (n - i) z).set i (xs.getD i d) = xs.take (i + 1) ++ List.replicate (n - (i + 1)) z := by
  rw [List.set_append_right _ _ (by simp [List.length_take]; omega), take_snoc d hi]
  have e : i - (xs.take i).length = 0 := by simp [List.length_take]; omega
  rw [e, show n - i = (n - (i + 1)) + 1 by omega, List.replicate_succ, List.set_cons_zero, List.append_assoc]
  rfl
theorem eq_of_all {α : Type} [DecidableEq α] {xs ys : List α} (d : α) (hl : xs.length = ys.length) : ∀ {i : Nat}, i ≤ xs.length → xs.take i = ys.take i → (i < xs.length → (xs.getD i d ≠ ys.getD i d → xs ≠ ys) ∧ (xs.getD i d = ys.getD i d → xs.take (i + 1) = ys.take (i + 1))) ∧ (xs.length ≤ i → xs = ys) := by
  intro i hi h
  refine ⟨fun hlt => ⟨fun hne e => hne (by rw [e]), fun he => ?_⟩, fun hge => ?_⟩
  · rw [take_snoc d hlt, take_snoc d (by omega), h, he]
  · rw [List.take_of_length_le hge, List.take_of_length_le (by omega)] at h
    exact h
theorem any_not_all {α : Type} (xs : List α) (f : α → Bool) : (xs.any fun n => !f n) = !xs.all f := by
  induction xs with
  | nil => rfl
  | cons a xs ih => simp only [List.any_cons, List.all_cons, ih]; cases f a <;> rfl
theorem all_not_any {α : Type} (xs : List α) (f : α → Bool) : (xs.all fun n => !f n) = !xs.any f := by
  induction xs with
  | nil => rfl
  | cons a xs ih => simp only [List.any_cons, List.all_cons, ih]; cases f a <;> rfl
/-- The first place that has a property, as Go tells it. -/
def idxF {α : Type} (p : α → Bool) (xs : List α) : Int := if xs.any p = true then (xs.findIdx p : Int) else -1
theorem idxF_yes {α : Type} {xs : List α} {p : α → Bool} {i : Nat} {d : α} (hi : i < xs.length) (h0 : (xs.take i).any p = false) (h : p (xs.getD i d) = true) : idxF p xs = i := by
  have h1 : xs.any p = true := any_yes hi h
  unfold idxF
  rw [if_pos h1]
  congr 1
  rw [List.findIdx_eq hi]
  refine ⟨by simpa [List.getD, List.getElem?_eq_getElem hi] using h, fun j hj => ?_⟩
  rw [List.any_eq_false] at h0
  have := h0 (xs[j]) (by rw [List.mem_take_iff_getElem]; exact ⟨j, by omega, rfl⟩)
  simpa using this
theorem idxF_no {α : Type} {xs : List α} {p : α → Bool} (h0 : xs.any p = false) : idxF p xs = -1 := by
  unfold idxF; rw [h0]; rfl
theorem idxF_ge {α : Type} {xs : List α} {p : α → Bool} : decide (0 ≤ idxF p xs) = xs.any p := by
  unfold idxF
  cases h : xs.any p <;> simp
theorem getD_set_self {α : Type} {xs : List α} {i : Nat} {v d : α} (h : i < xs.length) : (xs.set i v).getD i d = v := by
  simp [List.getD, h]
end Go.Sx

/-
  A slice's beginning, as an object of its own.
-/
namespace Go.Sx
set_option linter.unusedVariables false
set_option linter.unusedSimpArgs false
open Go

section
variable {P : Program} {ρ : Rho} {N : Nat} {G : Heap} {w : World}

theorem HeapRep.cut (hH : HeapRep ρ N G w) {id : Nat} {f f' : Flat} (ho : hget G id = some (.flat true f)) (hn : f'.n ≤ f.n) (hsz : f'.sz = f.sz) (hc : ∀ i, i < f'.n → ∀ j, j < f.sz → f'.cell i j = f.cell i j) (hty : f'.ty = none := by rfl) :
    HeapRep (updR ρ N fun _ => ⟨(ρ id []).b, (ρ id []).o, (ρ id []).sz, f'.n, (ρ id []).tot⟩) (N + 1) ((N, .flat true f') :: hdel G id) w ∧
      ∀ b, Owns (updR ρ N fun _ => ⟨(ρ id []).b, (ρ id []).o, (ρ id []).sz, f'.n, (ρ id []).tot⟩) ((N, .flat true f') :: hdel G id) b → Owns ρ G b := by
  have hρ := updR_lt ρ N (fun _ => (⟨(ρ id []).b, (ρ id []).o, (ρ id []).sz, f'.n, (ρ id []).tot⟩ : Blk))
  have hsub : ∀ i o, hget (hdel G id) i = some o → hget G i = some o := fun i o h => hdel_sub G id i o h
  have hnone : hget (hdel G id) N = none := by
    cases h : hget (hdel G id) N with
    | none => rfl
    | some o => exact absurd (hH.keys N o (hsub _ _ h)) (Nat.lt_irrefl N)
  have hup : ∀ {i p nd own}, NodeAt (hdel G id) i p nd own → NodeAt G i p nd own ∧ i < N := fun {i p nd own} hx => by
    obtain ⟨o, h1, h2, h3⟩ := hx.ex
    exact ⟨⟨⟨o, hsub _ _ h1, h2, h3⟩⟩, hH.keys _ _ (hsub _ _ h1)⟩
  have hnode : NodeAt G id [] f.node true := NodeAt.of_get ho rfl
  obtain ⟨s1, s2, s3⟩ := hH.shape _ _ _ _ hnode
  refine ⟨((hH.sub hsub).mono (Nat.le_succ N) hρ).put (Nat.lt_succ_self N) hnone rfl fun p nd hnd => ?_, fun b hb' => ?_⟩
  · match p with
    | _ :: _ => simp [AObj.node] at hnd
    | [] =>
      simp only [AObj.node, Option.some.injEq] at hnd
      subst hnd
      simp only [updR_at]
      refine ⟨s1.trans hsz.symm, rfl, by show 0 < f'.sz; rw [hsz]; exact s3, fun i hi j hj => ?_, ?_, fun ht => ⟨fun p' nd' hnd' hne ht' => ?_, fun id' p' nd' own' hn' hs' => ?_⟩⟩
      · simp only [Flat.node] at hi hj ⊢
        rw [hsz] at hj ⊢
        obtain ⟨v, q1, q2, q3⟩ := hH.rd _ _ _ _ hnode i (Nat.lt_of_lt_of_le hi hn) j hj
        refine ⟨v, q1, ?_, q3⟩
        rw [hc i hi j hj]
        exact q2.mono (Nat.le_succ N) hρ
      · rcases hH.ow _ _ _ hnode with ⟨h1, h2, _⟩ | h
        · simp only [Flat.node] at h2 ⊢
          exact .inl ⟨h1, by omega, trivial⟩
        · obtain ⟨ob, q1, ⟨c, t, rfl, q2, _⟩, q3⟩ := h
          exact .inr ⟨_, q1, ⟨c, t, rfl, q2, fun t' ht' => nomatch hty.symm.trans ht'⟩, q3⟩
      · match p' with
        | [] => exact absurd rfl hne
        | _ :: _ => simp [AObj.node] at hnd'
      · obtain ⟨hn1, hlt⟩ := hup hn'
        have e : updR ρ N (fun _ => (⟨(ρ id []).b, (ρ id []).o, (ρ id []).sz, f'.n, (ρ id []).tot⟩ : Blk)) id' p' = ρ id' p' := by rw [hρ id' hlt]
        rw [e] at hs' ⊢
        refine hH.sep _ _ _ _ _ _ _ hnode hn1 (fun e => ?_) ht hs'
        obtain ⟨o', q1, _⟩ := hn'.ex
        rw [← e.1, hdel_none] at q1
        cases q1
  · obtain ⟨id', p, nd, hn', ht, rfl⟩ := hb'
    obtain ⟨o', h1, h2, h3⟩ := hn'.ex
    rw [hget_cons] at h1
    split at h1
    · next he =>
      subst he
      injection h1 with h1
      subst h1
      rw [updR_at] at ht ⊢
      exact ⟨id, [], f.node, hnode, ht, rfl⟩
    · have hlt := hH.keys _ _ (hsub _ _ h1)
      rw [hρ id' hlt] at ht ⊢
      exact ⟨id', p, nd, ⟨⟨o', hsub _ _ h1, h2, h3⟩⟩, ht, rfl⟩

/-- A contract whose outcome is the beginning of an own list, told as a list of its own. -/
theorem FnIs.cut {f : Nat} {args : List AV} {id m n : Nat} {g : Heap} {f0 f1 : Flat} (h : FnIs P f args N G (.sub id [] 0 m none) n g) (ho : hget g id = some (.flat true f0)) (hm : f1.n = m) (hle : f1.n ≤ f0.n) (hsz : f1.sz = f0.sz)
    (hc : ∀ i, i < f1.n → ∀ j, j < f0.sz → f1.cell i j = f0.cell i j) (hty : f1.ty = none := by rfl) : FnIs P f args N G (.sl n []) (n + 1) ((n, .flat true f1) :: hdel g id) := by
  refine ⟨⟨h.call.ok, fun ρ w cargs hgk hH hv => (h.call.run ρ w cargs hgk hH hv).mono fun e w' ⟨v, he, hout⟩ => ⟨v, he, ?_⟩⟩⟩
  obtain ⟨av, ρ', N', G', ⟨rfl, rfl, rfl⟩, h2, h3, h4, h5, h6, h7⟩ := hout.ex
  obtain ⟨k1, k2⟩ := h3.cut ho hle hsz hc hty
  have hρ := updR_lt ρ' N' (fun _ => (⟨(ρ' id []).b, (ρ' id []).o, (ρ' id []).sz, f1.n, (ρ' id []).tot⟩ : Blk))
  refine ⟨⟨_, _, _, _, ⟨rfl, rfl, rfl⟩, ?_, k1, Nat.le_succ_of_le h4, fun i hi => (hρ i (Nat.lt_of_lt_of_le hi h4)).trans (h5 i hi), h6, fun b hb => h7 b (k2 b hb)⟩⟩
  simp only [VR, updR_at] at h2 ⊢
  obtain ⟨_, A, c, rfl, hsl, _⟩ := h2
  exact ⟨Nat.lt_succ_self _, A, c, by rw [hm], by rw [hm]; exact hsl⟩
end
end Go.Sx
