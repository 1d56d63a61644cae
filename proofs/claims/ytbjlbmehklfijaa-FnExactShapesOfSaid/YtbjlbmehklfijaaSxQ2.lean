/-
  Rows handed to functions: the row as an object of its own, for the time of the call.
-/
import Derived.Test.YtbjlbmehklfijaaSxQ
namespace Go.Sx
set_option linter.unusedVariables false
set_option linter.unusedSimpArgs false
open Go
open Go.RowKit

section
variable {P : Program} {ρ : Rho} {N : Nat} {G : Heap} {w : World}

theorem delL_sub (W : List Nat) (G : Heap) : ∀ i o, hget (delL W G) i = some o → hget G i = some o ∧ memB W i = false := fun i o h => by
  rw [hget_delL] at h
  split at h
  · cases h
  · rename_i hm; exact ⟨h, by simpa using hm⟩

/-- One object more under a name that stands for its blocks already: it takes over nodes of objects that fall. -/
theorem HeapRep.takeAt (hH : HeapRep ρ N G w) {M : Nat} (hM : M < N) {Gd : Heap} (hsub : ∀ i o, hget Gd i = some o → hget G i = some o) (hMd : hget Gd M = none) {o : AObj} (hown : o.own = true) (src : List Nat → Option (Nat × List Nat))
    (hb : ∀ p nd, o.node M p = some nd → ∃ id0 p0, src p = some (id0, p0) ∧ NodeAt G id0 p0 nd true ∧ hget Gd id0 = none ∧ ρ M p = ρ id0 p0)
    (hinj : ∀ p p' x, src p = some x → src p' = some x → p = p') :
    HeapRep ρ N ((M, o) :: Gd) w ∧ ∀ b, Owns ρ ((M, o) :: Gd) b → Owns ρ G b := by
  have hup : ∀ {i p nd own}, NodeAt Gd i p nd own → NodeAt G i p nd own := fun {i p nd own} hx => by
    obtain ⟨o, h1, h2, h3⟩ := hx.ex
    exact ⟨⟨o, hsub _ _ h1, h2, h3⟩⟩
  refine ⟨(hH.sub hsub).put hM hMd hown fun p nd hnd => ?_, fun b hb' => ?_⟩
  · obtain ⟨id0, p0, hs, hn, hg, hB⟩ := hb p nd hnd
    obtain ⟨s1, s2, s3⟩ := hH.shape _ _ _ _ hn
    rw [hB]
    refine ⟨s1, s2, s3, fun i hi j hj => hH.rd _ _ _ _ hn i hi j hj, hH.ow _ _ _ hn, fun ht => ⟨fun p' nd' hnd' hne ht' => ?_, fun id' p' nd' own' hn' hs' => ?_⟩⟩
    · obtain ⟨id1, p1, hs1, hn1, _, hB1⟩ := hb p' nd' hnd'
      rw [hB1] at ht' ⊢
      refine hH.sep _ _ _ _ _ _ _ hn hn1 (fun e => hne ?_) ht (by simpa [Solid] using ht')
      obtain ⟨rfl, rfl⟩ := e
      exact hinj _ _ _ hs hs1
    · refine hH.sep _ _ _ _ _ _ _ hn (hup hn') (fun e => ?_) ht hs'
      obtain ⟨o', q1, _⟩ := hn'.ex
      rw [← e.1, hg] at q1
      cases q1
  · obtain ⟨id, p, nd, hn, ht, rfl⟩ := hb'
    obtain ⟨o', h1, h2, h3⟩ := hn.ex
    rw [hget_cons] at h1
    split at h1
    · next he =>
      subst he
      injection h1 with h1
      subst h1
      obtain ⟨id0, p0, _, hn0, _, hB⟩ := hb p nd h2
      rw [hB] at ht ⊢; exact ⟨id0, p0, nd, hn0, ht, rfl⟩
    · exact ⟨id, p, nd, ⟨⟨o', hsub _ _ h1, h2, h3⟩⟩, ht, rfl⟩

/-- A node, read under a name of its own. -/
theorem HeapRep.alias (hH : HeapRep ρ N G w) {Gd : Heap} (hsub : ∀ i o, hget Gd i = some o → hget G i = some o) {id0 : Nat} {p0 : List Nat} {f : Flat} {own0 : Bool} (hn : NodeAt G id0 p0 f.node own0) (hdrop : own0 = true → hget Gd id0 = none) :
    HeapRep (updR ρ N fun _ => ρ id0 p0) (N + 1) ((N, .flat false f) :: Gd) w ∧ ∀ b, Owns (updR ρ N fun _ => ρ id0 p0) ((N, .flat false f) :: Gd) b → Owns ρ Gd b := by
  have hρ := updR_lt ρ N (fun _ => ρ id0 p0)
  have hup : ∀ {i p nd own}, NodeAt Gd i p nd own → NodeAt G i p nd own ∧ i < N := fun {i p nd own} hx => by
    obtain ⟨o, h1, h2, h3⟩ := hx.ex
    exact ⟨⟨⟨o, hsub _ _ h1, h2, h3⟩⟩, hH.keys _ _ (hsub _ _ h1)⟩
  have hD := (hH.sub hsub).mono (Nat.le_succ N) hρ
  have hc : ∀ {i p nd own}, NodeAt ((N, .flat false f) :: Gd) i p nd own → (i = N ∧ p = [] ∧ nd = f.node ∧ own = false) ∨ (i < N ∧ NodeAt Gd i p nd own) := fun {i p nd own} hx => by
    obtain ⟨o, h1, h2, h3⟩ := hx.ex
    rw [hget_cons] at h1
    split at h1
    · next he =>
      injection h1 with h1
      subst h1
      cases p with
      | nil => simp only [AObj.node, Option.some.injEq] at h2; exact .inl ⟨he, rfl, h2.symm, h3.symm⟩
      | cons _ _ => simp [AObj.node] at h2
    · have hx' : NodeAt Gd i p nd own := ⟨⟨o, h1, h2, h3⟩⟩
      exact .inr ⟨(hup hx').2, hx'⟩
  obtain ⟨s1, s2, s3⟩ := hH.shape _ _ _ _ hn
  refine ⟨⟨fun id o h => ?_, fun i p nd own hx => ?_, fun i p nd own hx a ha b hb => ?_, fun i p nd hx => ?_, fun i p nd i' p' nd' own' hx hx' hd ht hs => ?_⟩, fun b hb => ?_⟩
  · rw [hget_cons] at h
    split at h
    · omega
    · exact Nat.lt_succ_of_lt (hH.keys _ _ (hsub _ _ h))
  · rcases hc hx with ⟨rfl, rfl, rfl, rfl⟩ | ⟨_, h⟩
    · rw [updR_at]; exact ⟨s1, s2, s3⟩
    · exact hD.shape _ _ _ _ h
  · rcases hc hx with ⟨rfl, rfl, rfl, rfl⟩ | ⟨_, h⟩
    · rw [updR_at]
      obtain ⟨v, q1, q2, q3⟩ := hH.rd _ _ _ _ hn a ha b hb
      exact ⟨v, q1, q2.mono (Nat.le_succ _) hρ, q3⟩
    · exact hD.rd _ _ _ _ h a ha b hb
  · rcases hc hx with ⟨_, _, _, h⟩ | ⟨_, h⟩
    · cases h
    · exact hD.ow _ _ _ h
  · rcases hc hx with ⟨_, _, _, h⟩ | ⟨hi, h⟩
    · cases h
    · rcases hc hx' with ⟨rfl, rfl, rfl, rfl⟩ | ⟨_, h'⟩
      · rw [updR_at] at hs ⊢
        rw [hρ i hi] at ht ⊢
        refine hH.sep _ _ _ _ _ _ own0 (hup h).1 hn (fun e => ?_) ht (hH.solid hn (by simpa [Solid] using hs))
        obtain ⟨o, g1, _, g3⟩ := h.ex
        obtain ⟨o', g1', _, g3'⟩ := hn.ex
        have := hsub _ _ g1
        rw [e.1, g1'] at this
        injection this with this
        subst this
        have := hdrop (g3'.symm.trans g3)
        rw [← e.1, g1] at this
        cases this
      · exact hD.sep _ _ _ _ _ _ _ h h' hd ht hs
  · obtain ⟨i, p, nd, hx, ht, rfl⟩ := hb
    rcases hc hx with ⟨_, _, _, h⟩ | ⟨hi, h⟩
    · cases h
    · rw [hρ i hi] at ht ⊢
      exact ⟨i, p, nd, h, ht, rfl⟩

theorem VRL.repl {ρ' : Rho} {N' : Nat} {a b : AV} (hab : ∀ v, VR ρ N a v → VR ρ' N' b v) (hm : ∀ x v, VR ρ N x v → VR ρ' N' x v) : ∀ {d r : List AV} {vs : List Value}, VRL ρ N (d ++ a :: r) vs → VRL ρ' N' (d ++ b :: r) vs
  | [], r, vs, h => by
    simp only [List.nil_append, VRL] at h ⊢
    obtain ⟨v, q, rfl, h1, h2⟩ := h
    refine ⟨v, q, rfl, hab v h1, ?_⟩
    have : ∀ (l : List AV) (us : List Value), VRL ρ N l us → VRL ρ' N' l us := fun l => by
      induction l with
      | nil => intro us h; simpa only [VRL] using h
      | cons x l ih =>
        intro us h
        simp only [VRL] at h ⊢
        obtain ⟨v, r, e, h1, h2⟩ := h
        exact ⟨v, r, e, hm x v h1, ih r h2⟩
    exact this r q h2
  | x :: d, r, vs, h => by
    simp only [List.cons_append, VRL] at h ⊢
    obtain ⟨v, q, rfl, h1, h2⟩ := h
    exact ⟨v, q, rfl, hm x v h1, VRL.repl hab hm h2⟩

def ownW (o : AObj) (M : Nat) : List Nat :=
  match o.own with
  | true => [M]
  | false => []
theorem memB_ownW (o : AObj) (M : Nat) : o.own = true → memB (ownW o M) M = true := fun h => by
  simp [ownW, h, memB]

/-- A row that is only read. -/
theorem ACall.focus_rd {f : Nat} {d r : List AV} {K : AV → Nat → Heap → Prop} {M y : Nat} {o : AObj} {fl : Flat} (ho : hget G M = some o) (hnd : o.node M [y] = some fl.node)
    (h : ACall P f (d ++ .sl N [] :: r) (N + 1) ((N, .flat false fl) :: delL (ownW o M) G) fun v N' G' => K v N' (backL (ownW o M) G G')) : ACall P f (d ++ .sl M [y] :: r) N G K := by
  refine ⟨h.ok, fun ρ w cargs hH hv => ?_⟩
  have hn : NodeAt G M [y] fl.node o.own := ⟨⟨o, ho, hnd, rfl⟩⟩
  obtain ⟨hH1, hO1⟩ := hH.alias (fun i x hx => (delL_sub (ownW o M) G i x hx).1) hn (fun e => by
    rw [hget_delL, if_pos (memB_ownW o M e)])
  have hρ := updR_lt ρ N (fun _ => ρ M [y])
  have hargs := VRL.repl (ρ' := updR ρ N fun _ => ρ M [y]) (N' := N + 1) (a := .sl M [y]) (b := .sl N []) (fun v h => by
    simp only [VR, updR_at] at h ⊢
    exact ⟨Nat.lt_succ_self N, h.2⟩) (fun x v h => h.mono (Nat.le_succ N) hρ) hv
  refine (h.run _ w cargs hH1 hargs).mono fun e w' ⟨v, he, hout⟩ => ⟨v, he, ?_⟩
  have h2 : Out ρ N (delL (ownW o M) G) w _ v w' := Out.ghost (Nat.le_succ N) hρ hO1 hout
  obtain ⟨⟨av, ρ', N', G', hK, q1, q2, q3, q4, q5, q6, _⟩, _⟩ := out_frame hH (ownW o M) h2
  exact ⟨⟨av, ρ', N', _, hK, q1, q2, q3, q4, q5, q6⟩⟩

/-- An empty content of the kind of an object. -/
def nilFl (o : Option AObj) (K : Flat → Prop) (X : Prop) : Prop :=
  match o with
  | some (.flat own f) => match own with
    | true => X
    | false => match f with
      | .ints k _ => K (.ints k [])
      | .r2 _ => K (.r2 [])
      | .r3 _ => K (.r3 [])
      | .r4 _ => K (.r4 [])
      | .bools _ => K (.bools [])
      | .strs _ => K (.strs [])
      | .gen _ _ => X
      | .rows _ _ _ => X
  | _ => X
theorem nilFl_spec {o : Option AObj} {K : Flat → Prop} {X : Prop} (h : nilFl o K X) : X ∨ ∃ f, K f ∧ f.node.n = 0 ∧ 0 < f.node.sz := by
  unfold nilFl at h
  split at h
  · split at h
    · exact .inl h
    · split at h
      all_goals first | exact .inl h | exact .inr ⟨_, h, rfl, by simp [Flat.node, Flat.sz]⟩
  · exact .inl h
theorem delL_nil : ∀ G : Heap, delL [] G = G
  | [] => rfl
  | (k, o) :: r => by simp [delL, memB, delL_nil r]
/-- An empty object under a name of its own. -/
theorem HeapRep.ghost0 (hH : HeapRep ρ N G w) {f : Flat} (h0 : f.node.n = 0) (hsz : 0 < f.node.sz) :
    HeapRep (updR ρ N fun _ => ⟨0, 0, f.node.sz, 0, 0⟩) (N + 1) ((N, .flat false f) :: G) w ∧ ∀ b, Owns (updR ρ N fun _ => ⟨0, 0, f.node.sz, 0, 0⟩) ((N, .flat false f) :: G) b → Owns ρ G b := by
  have hρ := updR_lt ρ N (fun _ => (⟨0, 0, f.node.sz, 0, 0⟩ : Blk))
  have hD := hH.mono (Nat.le_succ N) hρ
  have hc : ∀ {i p nd own}, NodeAt ((N, .flat false f) :: G) i p nd own → (i = N ∧ p = [] ∧ nd = f.node ∧ own = false) ∨ (i < N ∧ NodeAt G i p nd own) := fun {i p nd own} hx => by
    obtain ⟨o, h1, h2, h3⟩ := hx.ex
    rw [hget_cons] at h1
    split at h1
    · next he =>
      injection h1 with h1
      subst h1
      cases p with
      | nil => simp only [AObj.node, Option.some.injEq] at h2; exact .inl ⟨he, rfl, h2.symm, h3.symm⟩
      | cons _ _ => simp [AObj.node] at h2
    · exact .inr ⟨hH.keys _ _ h1, ⟨⟨o, h1, h2, h3⟩⟩⟩
  refine ⟨⟨fun id o h => ?_, fun i p nd own hx => ?_, fun i p nd own hx a ha b hb => ?_, fun i p nd hx => ?_, fun i p nd i' p' nd' own' hx hx' hd ht hs => ?_⟩, fun b hb => ?_⟩
  · rw [hget_cons] at h
    split at h
    · omega
    · exact Nat.lt_succ_of_lt (hH.keys _ _ h)
  · rcases hc hx with ⟨rfl, rfl, rfl, rfl⟩ | ⟨_, h⟩
    · rw [updR_at]; exact ⟨rfl, h0.symm, hsz⟩
    · exact hD.shape _ _ _ _ h
  · rcases hc hx with ⟨rfl, rfl, rfl, rfl⟩ | ⟨_, h⟩
    · omega
    · exact hD.rd _ _ _ _ h a ha b hb
  · rcases hc hx with ⟨_, _, _, h⟩ | ⟨_, h⟩
    · cases h
    · exact hD.ow _ _ _ h
  · rcases hc hx with ⟨_, _, _, h⟩ | ⟨hi, h⟩
    · cases h
    · rcases hc hx' with ⟨rfl, rfl, rfl, rfl⟩ | ⟨_, h'⟩
      · simp [Solid, h0] at hs
      · exact hD.sep _ _ _ _ _ _ _ h h' hd ht hs
  · obtain ⟨i, p, nd, hx, ht, rfl⟩ := hb
    rcases hc hx with ⟨_, _, _, h⟩ | ⟨hi, h⟩
    · cases h
    · rw [hρ i hi] at ht ⊢
      exact ⟨i, p, nd, h, ht, rfl⟩
/-- A list that is not there, handed on as an empty one. -/
theorem ACall.focus_nil {f : Nat} {d r : List AV} {K : AV → Nat → Heap → Prop} {fl : Flat} (h0 : fl.node.n = 0) (hsz : 0 < fl.node.sz)
    (h : ACall P f (d ++ .sl N [] :: r) (N + 1) ((N, .flat false fl) :: G) fun v N' G' => K v N' (backL [] G G')) : ACall P f (d ++ .nilsl :: r) N G K := by
  refine ⟨h.ok, fun ρ w cargs hH hv => ?_⟩
  obtain ⟨hH1, hO1⟩ := hH.ghost0 h0 hsz
  have hρ := updR_lt ρ N (fun _ => (⟨0, 0, fl.node.sz, 0, 0⟩ : Blk))
  have hargs := VRL.repl (ρ' := updR ρ N fun _ => (⟨0, 0, fl.node.sz, 0, 0⟩ : Blk)) (N' := N + 1) (a := .nilsl) (b := .sl N []) (fun v h => by
    simp only [VR, updR_at] at h ⊢
    exact ⟨Nat.lt_succ_self N, none, 0, h, .inr ⟨rfl, rfl⟩⟩) (fun x v h => h.mono (Nat.le_succ N) hρ) hv
  refine (h.run _ w cargs hH1 hargs).mono fun e w' ⟨v, he, hout⟩ => ⟨v, he, ?_⟩
  have h2 : Out ρ N (delL [] G) w _ v w' := Out.ghost (Nat.le_succ N) hρ (fun b hb => by rw [delL_nil]; exact hO1 b hb) hout
  obtain ⟨⟨av, ρ', N', G', hK, q1, q2, q3, q4, q5, q6, _⟩, _⟩ := out_frame hH [] h2
  exact ⟨⟨av, ρ', N', _, hK, q1, q2, q3, q4, q5, q6⟩⟩

theorem rowIn_twice {o oy : AObj} {y : Nat} {f : Flat} {K : AObj → Prop} (hy : rowIn o y none fun o' => o' = oy) (h : rowIn o y (some f) K) : rowIn oy y (some f) K := by
  cases o with
  | flat _ _ => exact h.elim
  | nestI own k xss =>
    simp only [rowIn] at hy
    subst hy
    cases f <;> simp only [rowIn] at h ⊢
    simpa only [List.set_set] using h
  | nestR2 own xss =>
    simp only [rowIn] at hy
    subst hy
    cases f <;> simp only [rowIn] at h ⊢
    simpa only [List.set_set] using h
/-- A row that is written, or read, as one's own. -/
theorem ACall.focus_wr {f : Nat} {d r : List AV} {K : AV → Nat → Heap → Prop} {M y : Nat} {o oy : AObj} {fl : Flat} (ho : hget G M = some o) (hown : o.own = true) (hnd : o.node M [y] = some fl.node) (hy : rowIn o y none fun o' => o' = oy)
    (h : ACall P f (d ++ .sl (N + 1) [] :: r) (N + 1 + 1) ((N + 1, .flat true fl) :: delL [M] G) fun v N' G' => ∃ f', hget G' (N + 1) = some (.flat true f') ∧ hget G' M = none ∧ rowIn o y (some f') fun o' => K v N' ((M, o') :: hdel (hdel (backL [N] ((N + 1, .flat true fl) :: (N, oy) :: delL [M] G) G') (N + 1)) N)) : ACall P f (d ++ .sl M [y] :: r) N G K := by
  refine ⟨h.ok, fun ρ w cargs hH hv => ?_⟩
  have hMN := hH.keys _ _ ho
  have hn : NodeAt G M [y] fl.node true := ⟨⟨o, ho, hnd, hown⟩⟩
  obtain ⟨oy', ⟨rfl, hnest⟩, hown', hoth, hat, _⟩ := rowIn_spec (rowIn_nest hy)
  obtain ⟨sz, hsz, hszs⟩ := nest_sz hnest
  have hsub : ∀ i x, hget (delL [M] G) i = some x → hget G i = some x := fun i x hx => (delL_sub [M] G i x hx).1
  have hMd : hget (delL [M] G) M = none := by rw [hget_delL]; simp [memB]
  obtain ⟨hH1, hO1⟩ := hH.take hsub (o := oy') (hown'.trans hown) (rowB ρ M y none sz) (rowS M y none) (fun q nd hq => by
    obtain ⟨a, rfl⟩ := nest_nodes hnest N q nd hq
    by_cases ha : a = y
    · subst ha
      have h4 := hat N nd hq
      simp only at h4
      simp only [rowS, rowB, if_true]
      exact .inl ⟨rfl, h4.1, h4.2, by rw [hszs N [a] nd hq]⟩
    · simp only [rowS, rowB, if_neg ha]
      refine .inr ⟨M, [a], rfl, ⟨⟨o, ho, ?_, hown⟩⟩, hMd, rfl⟩
      rw [← hoth N M [a] (by simpa using ha)]
      exact hq) (fun q q' x h1 h2 => by
    match q, q' with
    | [a], [b] =>
      simp only [rowS, Option.map_none] at h1 h2
      split at h1
      · cases h1
      · split at h2
        · cases h2
        · rw [← h1] at h2; simp at h2; rw [h2]
    | [], _ => simp [rowS] at h1
    | _ :: _ :: _, _ => simp [rowS] at h1
    | [_], [] => simp [rowS] at h2
    | [_], _ :: _ :: _ => simp [rowS] at h2)
  have hρ1 := updR_lt ρ N (rowB ρ M y none sz)
  -- the row beside it
  have hρ2 := updR_lt (updR ρ N (rowB ρ M y none sz)) (N + 1) (fun _ => ρ M [y])
  have hρ : ∀ id, id < N → updR (updR ρ N (rowB ρ M y none sz)) (N + 1) (fun _ => ρ M [y]) id = ρ id := fun id hid => (hρ2 id (by omega)).trans (hρ1 id hid)
  obtain ⟨s1, s2, s3⟩ := hH.shape _ _ _ _ hn
  have hnone : hget ((N, oy') :: delL [M] G) (N + 1) = none := by
    cases hh : hget ((N, oy') :: delL [M] G) (N + 1) with
    | none => rfl
    | some x => exact absurd (hH1.keys _ _ hh) (Nat.lt_irrefl _)
  have hH2 : HeapRep (updR (updR ρ N (rowB ρ M y none sz)) (N + 1) (fun _ => ρ M [y])) (N + 1 + 1) ((N + 1, .flat true fl) :: (N, oy') :: delL [M] G) w := (hH1.mono (Nat.le_succ (N + 1)) hρ2).put (Nat.lt_succ_self (N + 1)) hnone rfl (fun p nd hp => by
    cases p with
    | cons _ _ => simp [AObj.node] at hp
    | nil =>
      simp only [AObj.node, Option.some.injEq] at hp
      subst hp
      simp only [updR_at]
      refine ⟨s1, s2, s3, fun i hi j hj => ?_, hH.ow _ _ _ hn, fun ht => ⟨fun p' nd' hnd' hne => ?_, fun id' p' nd' own' hn' hs' => ?_⟩⟩
      · obtain ⟨v, q1, q2, q3⟩ := hH.rd _ _ _ _ hn i hi j hj
        exact ⟨v, q1, q2.mono (by omega) hρ, q3⟩
      · cases p' with
        | nil => exact absurd rfl hne
        | cons _ _ => simp [AObj.node] at hnd'
      · obtain ⟨x, h1, h2, h3⟩ := hn'.ex
        have hlt := hH1.keys _ _ h1
        rw [hρ2 id' hlt] at hs' ⊢
        rw [hget_cons] at h1
        split at h1
        · next he =>
          subst he
          injection h1 with h1
          subst h1
          rw [updR_at] at hs' ⊢
          obtain ⟨a, rfl⟩ := nest_nodes hnest _ _ _ h2
          have : own' = true := h3.symm.trans (hown'.trans hown)
          subst this
          simp only [Solid, if_true] at hs'
          by_cases ha : a = y
          · subst ha; simp [rowB] at hs'
          · simp only [rowB, if_neg ha] at hs' ⊢
            refine hH.sep M [y] _ M [a] nd' true hn ⟨⟨o, ho, ?_, hown⟩⟩ (fun e => ha ?_) ht (by simpa [Solid] using hs')
            · rw [← hoth id' M [a] (by simpa using ha)]; exact h2
            · have := e.2; simp at this; exact this.symm
        · have hlt' := hH.keys _ _ (hsub _ _ h1)
          rw [hρ1 id' hlt'] at hs' ⊢
          refine hH.sep M [y] _ id' p' nd' own' hn ⟨⟨x, hsub _ _ h1, h2, h3⟩⟩ (fun e => ?_) ht hs'
          rw [← e.1, hMd] at h1; cases h1)
  have hO2 : ∀ b, Owns (updR (updR ρ N (rowB ρ M y none sz)) (N + 1) (fun _ => ρ M [y])) ((N + 1, .flat true fl) :: (N, oy') :: delL [M] G) b → Owns ρ G b := fun b hb => by
    obtain ⟨id, p, nd, hx, ht, rfl⟩ := hb
    obtain ⟨x, h1, h2, h3⟩ := hx.ex
    rw [hget_cons] at h1
    split at h1
    · next he =>
      subst he
      injection h1 with h1
      subst h1
      rw [updR_at] at ht ⊢
      exact ⟨M, [y], _, hn, ht, rfl⟩
    · have hlt := hH1.keys _ _ h1
      rw [hρ2 id hlt] at ht ⊢
      exact hO1 _ ⟨id, p, nd, ⟨⟨x, h1, h2, h3⟩⟩, ht, rfl⟩
  have hdl : ∀ i, hget (delL [N] ((N + 1, .flat true fl) :: (N, oy') :: delL [M] G)) i = hget ((N + 1, .flat true fl) :: delL [M] G) i := fun i => by
    rw [hget_delL, hget_cons, hget_cons, hget_cons]
    by_cases h1 : i = N
    · subst h1
      rw [if_pos (by simp [memB]), if_neg (by omega)]
      cases hh : hget (delL [M] G) i with
      | none => rfl
      | some x => exact absurd (hH.keys _ _ (hsub _ _ hh)) (Nat.lt_irrefl _)
    · rw [if_neg (by simp only [memB]; cases hb : Nat.beq N i with
        | true => have := Nat.eq_of_beq_eq_true hb; omega
        | false => simp), if_neg h1]
  have hH3 := (hH2.sub (G' := delL [N] ((N + 1, .flat true fl) :: (N, oy') :: delL [M] G)) (fun i x hx => (delL_sub [N] _ i x hx).1)).congr hdl
  have hargs := VRL.repl (ρ' := updR (updR ρ N (rowB ρ M y none sz)) (N + 1) (fun _ => ρ M [y])) (N' := N + 1 + 1) (a := .sl M [y]) (b := .sl (N + 1) []) (fun v h => by
    simp only [VR, updR_at] at h ⊢
    exact ⟨Nat.lt_succ_self _, h.2⟩) (fun x v h => h.mono (by omega) hρ) hv
  refine (h.run _ w cargs hH3 hargs).mono fun e w' ⟨v, he, hout⟩ => ⟨v, he, ?_⟩
  have hout2 : Out (updR (updR ρ N (rowB ρ M y none sz)) (N + 1) (fun _ => ρ M [y])) (N + 1 + 1) (delL [N] ((N + 1, .flat true fl) :: (N, oy') :: delL [M] G)) w _ v w' := Out.ghost (Nat.le_refl _) (fun _ _ => rfl) (fun b hb => by
    obtain ⟨id, p, nd, hx, ht, e⟩ := hb
    exact ⟨id, p, nd, hx.congr (fun i => (hdl i).symm), ht, e⟩) hout
  obtain ⟨⟨av, ρ', N', G', ⟨f', hf', hfM, hK⟩, q1, q2, q3, q4, q5, q6, q7⟩, _⟩ := out_frame hH2 [N] hout2
  obtain ⟨o', ⟨hK, hnest2⟩, hown2, hoth2, hat2, _⟩ := rowIn_spec (rowIn_nest (rowIn_twice hy hK))
  have hNk : hget (backL [N] ((N + 1, .flat true fl) :: (N, oy') :: delL [M] G) G') N = some oy' := by
    rw [q7 N (.inl (by simp [memB])) (by rw [hget_cons, if_neg (by omega), hget_cons, if_pos rfl]; simp), hget_cons, if_neg (by omega), hget_cons, if_pos rfl]
  have hRk : hget (backL [N] ((N + 1, .flat true fl) :: (N, oy') :: delL [M] G) G') (N + 1) = some (.flat true f') := by
    unfold backL
    have hkb : keepB [N] ((N + 1, .flat true fl) :: (N, oy') :: delL [M] G) (N + 1) = false := by
      unfold keepB
      rw [hget_cons, if_pos rfl]
      simp only [AObj.own, Bool.not_true, Bool.or_false, memB]
      cases hb : Nat.beq N (N + 1) with
      | true => have := Nat.eq_of_beq_eq_true hb; omega
      | false => rfl
    rw [hget_keepL, hkb]
    simp only [Bool.false_eq_true, if_false]
    rw [hget_ownL, hkb]
    have : ownB G' (N + 1) = true := by unfold ownB; rw [hf']; rfl
    rw [this]
    simpa using hf'
  have e1 : ∀ id, id < N → ρ' id = ρ id := fun id hid => (q4 id (by omega)).trans (hρ id hid)
  obtain ⟨hH4, hO4⟩ := q2.takeAt (M := M) (Gd := hdel (hdel (backL [N] ((N + 1, .flat true fl) :: (N, oy') :: delL [M] G) G') (N + 1)) N) (by omega) (fun i x hx => hdel_sub _ (N + 1) i x (hdel_sub _ N i x hx)) (o := o') (by
      -- nobody else bears the name
      rw [hdel_ne (show M ≠ N by omega), hdel_ne (show M ≠ N + 1 by omega)]
      cases hh : hget (backL [N] ((N + 1, .flat true fl) :: (N, oy') :: delL [M] G) G') M with
      | none => rfl
      | some x =>
        exfalso
        rcases backL_get hh with ⟨_, h1⟩ | ⟨_, h1, h2⟩
        · rw [hget_cons, if_neg (by omega), hget_cons, if_neg (by omega), hMd] at h1; cases h1
        · rw [hfM] at h1; cases h1) (hown2.trans (hown'.trans hown)) (fun q => match q with
      | [a] => if a = y then some (N + 1, []) else some (N, [a])
      | _ => none) (fun p nd hp => by
      obtain ⟨a, rfl⟩ := nest_nodes hnest2 M p nd hp
      by_cases ha : a = y
      · subst ha
        have h4 := hat2 M nd hp
        simp only at h4
        subst h4
        refine ⟨N + 1, [], by simp, NodeAt.of_get hRk rfl, ?_, ?_⟩
        · rw [hdel_ne (show N + 1 ≠ N by omega)]; exact hdel_none _ _
        · rw [e1 M hMN, q4 (N + 1) (Nat.lt_succ_self _), updR_at]
      · refine ⟨N, [a], by simp [ha], ⟨⟨oy', hNk, ?_, hown'.trans hown⟩⟩, hdel_none _ _, ?_⟩
        · rw [← hoth2 M N [a] (by simpa using ha)]; exact hp
        · rw [e1 M hMN, q4 N (by omega), hρ2 N (Nat.lt_succ_self _), updR_at]
          simp [rowB, ha]) (fun p p' x h1 h2 => by
      match p, p' with
      | [a], [b] =>
        simp only at h1 h2
        split at h1 <;> split at h2
        · subst_vars; rfl
        · rw [← h1] at h2; simp at h2
        · rw [← h1] at h2; simp at h2
        · rw [← h1] at h2; simp at h2; rw [h2]
      | [], _ => simp at h1
      | _ :: _ :: _, _ => simp at h1
      | [_], [] => simp at h2
      | [_], _ :: _ :: _ => simp at h2)
  exact ⟨⟨av, ρ', N', _, hK, q1, hH4, by omega, e1, ⟨q5.os, q5.tape, q5.output, q5.size, fun k hk hno => q5.block k hk fun hb => hno (hO2 k hb)⟩, fun b hb => (q6 b (hO4 b hb)).imp id (hO2 b)⟩⟩

/-- A contract used at a call, rows handed on as objects of their own. -/
def useF (args0 : List AV) (N0 : Nat) (G0 : Heap) (R : PostR) (done todo0 todo : List AV) (N : Nat) (G : Heap) (K : AV → Nat → Heap → Prop) : Prop :=
  match todo0 with
  | [] => match todo with
    | [] => useA args0 N0 G0 R done N G K
    | _ :: _ => False
  | a0 :: r0 => match todo with
    | [] => False
    | a :: r => match a with
      | .sl M p => match p with
        | [] => useF args0 N0 G0 R (done ++ [.sl M []]) r0 r N G K
        | y :: q => match q with
          | _ :: _ => False
          | [] => match a0 with
            | .sl id0 _ => match hget G M with
              | some o => nodeV o M [y] fun C V => match V with
                | .fl fl => match ownAt G0 id0 with
                  | false => need C (natK (N + 1) fun N1 => tidyN (delL (ownW o M) G) fun Gd => useF args0 N0 G0 R (done ++ [.sl N []]) r0 r N1 ((N, .flat false fl) :: Gd) fun v N' G' => tidyN G' fun G' => K v N' (backL (ownW o M) G G'))
                  | true => match o.own with
                    | true => rowIn o y none fun oy => need C (natK (N + 1) fun N1 => natK (N + 1 + 1) fun N2 => tidyN (delL [M] G) fun Gd => useF args0 N0 G0 R (done ++ [.sl N1 []]) r0 r N2 ((N1, .flat true fl) :: Gd) fun v N' G' => tidyN G' fun G' => match hget G' N1 with
                      | some o1 => match o1 with
                        | .flat own1 f' => match own1 with
                          | true => hget G' M = none ∧ (rowIn o y (some f') fun o' => tidyN (backL [N] ((N1, .flat true fl) :: (N, oy) :: Gd) G') fun Gb => K v N' ((M, o') :: hdel (hdel Gb N1) N))
                          | false => False
                        | _ => False
                      | none => False)
                    | false => False
              | none => False
            | _ => False
      | .nilsl => match a0 with
        | .sl id0 _ => nilFl (hget G0 id0) (fun f0 => natK (N + 1) fun N1 => useF args0 N0 G0 R (done ++ [.sl N []]) r0 r N1 ((N, .flat false f0) :: G) fun v N' G' => tidyN G' fun G' => K v N' (backL [] G G')) (useF args0 N0 G0 R (done ++ [.nilsl]) r0 r N G K)
        | _ => useF args0 N0 G0 R (done ++ [.nilsl]) r0 r N G K
      | a => useF args0 N0 G0 R (done ++ [a]) r0 r N G K

theorem useF_sound {f : Nat} {args0 : List AV} {N0 : Nat} {G0 : Heap} {R : PostR} (h : FnR P f args0 N0 G0 R) : ∀ (todo0 todo done : List AV) (N : Nat) (G : Heap) (K : AV → Nat → Heap → Prop), useF args0 N0 G0 R done todo0 todo N G K → ACall P f (done ++ todo) N G K := by
  intro todo0
  induction todo0 with
  | nil =>
    intro todo done N G K hu
    cases todo with
    | nil =>
      simp only [useF] at hu
      simp only [List.append_nil]
      exact h.useA hu
    | cons _ _ => simp only [useF] at hu
  | cons a0 r0 ih =>
    intro todo done N G K hu
    cases todo with
    | nil => simp only [useF] at hu
    | cons a r =>
      simp only [useF] at hu
      have hstep : ∀ b, done ++ b :: r = (done ++ [b]) ++ r := fun b => by simp
      split at hu
      · rename_i M p
        split at hu
        · rw [hstep]; exact ih _ _ _ _ _ hu
        · rename_i y q
          split at hu
          · exact hu.elim
          · split at hu
            · rename_i id0 q0
              split at hu
              · rename_i o ho
                obtain ⟨C, V, hu, hn⟩ := nodeV_spec hu
                obtain ⟨fl⟩ := V
                simp only at hu
                split at hu
                · obtain ⟨hC, hu⟩ := need_spec hu
                  rw [natK_eq, tidyN_eq] at hu
                  simp only [tidyN_eq] at hu
                  refine ACall.focus_rd ho (hn hC) ?_
                  rw [hstep]
                  exact ih _ _ _ _ _ hu
                · split at hu
                  · rename_i hown
                    have key : ∀ {oy : AObj}, (need C (natK (N + 1) fun N1 => natK (N + 1 + 1) fun N2 => tidyN (delL [M] G) fun Gd => useF args0 N0 G0 R (done ++ [.sl N1 []]) r0 r N2 ((N1, .flat true fl) :: Gd) fun v N' G' => tidyN G' fun G' => match hget G' N1 with
                      | some o1 => match o1 with
                        | .flat own1 f' => match own1 with
                          | true => hget G' M = none ∧ (rowIn o y (some f') fun o' => tidyN (backL [N] ((N1, .flat true fl) :: (N, oy) :: Gd) G') fun Gb => K v N' ((M, o') :: hdel (hdel Gb N1) N))
                          | false => False
                        | _ => False
                      | none => False)) → (rowIn o y none fun o' => o' = oy) → ACall P f (done ++ .sl M [y] :: r) N G K := fun {oy} hu hy => by
                      obtain ⟨hC, hu⟩ := need_spec hu
                      rw [natK_eq, natK_eq, tidyN_eq] at hu
                      simp only [tidyN_eq] at hu
                      refine ACall.focus_wr ho hown (hn hC) hy ?_
                      rw [hstep]
                      refine (ih _ _ _ _ _ hu).mono fun v N' G' hk => ?_
                      split at hk
                      · rename_i o1 ho1
                        split at hk
                        · split at hk
                          · exact ⟨_, ho1, hk.1, hk.2⟩
                          · exact hk.elim
                        · exact hk.elim
                      · exact hk.elim
                    cases o with
                    | flat _ _ => exact hu.elim
                    | nestI _ _ _ => exact key hu rfl
                    | nestR2 _ _ => exact key hu rfl
                  · exact hu.elim
              · exact hu.elim
            · exact hu.elim
      · split at hu
        · rcases nilFl_spec hu with hu | ⟨f0, hu, h0, hsz⟩
          · rw [hstep]; exact ih _ _ _ _ _ hu
          · rw [natK_eq] at hu
            simp only [tidyN_eq] at hu
            refine ACall.focus_nil h0 hsz ?_
            rw [hstep]
            exact ih _ _ _ _ _ hu
        · rw [hstep]; exact ih _ _ _ _ _ hu
      · rw [hstep]; exact ih _ _ _ _ _ hu
theorem FnIs.useF {f : Nat} {args0 : List AV} {N0 : Nat} {G0 : Heap} {v : AV} {n : Nat} {g : Heap} (h : FnIs P f args0 N0 G0 v n g) {args : List AV} {N : Nat} {G : Heap} {K : AV → Nat → Heap → Prop}
    (hu : Go.Sx.useF args0 N0 G0 (isR N0 G0 v n g) [] args0 args N G K) : ACall P f args N G K := useF_sound h.r args0 args [] N G K hu
/-- The numbers among the arguments. -/
def intsOf : List AV → List Int
  | [] => []
  | .int _ n :: r => n :: intsOf r
  | _ :: r => intsOf r
theorem FnIs.useE {f : Nat} {args0 : List AV} {N0 : Nat} {G0 : Heap} {v : AV} {n : Nat} {g : Heap} (h : FnIs P f args0 N0 G0 v n g) {args : List AV} {N : Nat} {G : Heap} {K : AV → Nat → Heap → Prop}
    (he : intsOf args0 = intsOf args) (hu : Go.Sx.useF args0 N0 G0 (isR N0 G0 v n g) [] args0 args N G K) : ACall P f args N G K := h.useF hu
theorem FnEx.useF {f : Nat} {args0 : List AV} {N0 : Nat} {G0 : Heap} {α : Type} {p : α → Prop} {v : α → AV} {n : Nat} {g : α → Heap} (h : FnEx P f args0 N0 G0 p v n g) {args : List AV} {N : Nat} {G : Heap} {K : AV → Nat → Heap → Prop}
    (hu : Go.Sx.useF args0 N0 G0 (exR N0 G0 p v n g) [] args0 args N G K) : ACall P f args N G K := useF_sound h.r args0 args [] N G K hu

end
end Go.Sx
