/-
  Regions whose order is drawn: all orders together.
-/
import Derived.Test.YtbjlbmehklfijaaSxT
namespace Go.Sx
set_option linter.unusedVariables false
set_option linter.unusedSimpArgs false
open Go
open Go.RowKit

theorem memB_cons1 (a : Nat) (l : List Nat) (i : Nat) : memB (a :: l) i = (decide (a = i) || memB l i) := by
  simp only [memB]
  cases h : Nat.beq a i with
  | true => simp [Nat.eq_of_beq_eq_true h]
  | false =>
    have : a ≠ i := fun e => by subst e; simp at h
    simp [this]
def unl (l : List Bool) : Nat := l.count false
theorem unl_set : ∀ {l : List Bool} {i : Nat}, l[i]? = some false → unl (l.set i true) + 1 = unl l
  | [], i, h => by simp at h
  | b :: r, 0, h => by
    simp only [List.getElem?_cons_zero, Option.some.injEq] at h
    subst h
    simp [unl]
  | b :: r, i + 1, h => by
    simp only [List.getElem?_cons_succ] at h
    have ih := unl_set h
    simp only [unl, List.set_cons_succ, List.count_cons] at ih ⊢
    omega

structure Rel (n : Nat) (D : List Nat) (listed : Array Bool) : Prop where
  size : listed.size = n
  mem : ∀ i, listed.getD i false = memB D i
theorem Rel.getT {n : Nat} {D : List Nat} {listed : Array Bool} (h : Rel n D listed) {i : Nat} (hi : i < n) : listed.getD i true = memB D i := by
  have := h.mem i
  rw [← this]
  have hlt : i < listed.size := h.size ▸ hi
  simp [Array.getD, hlt]
theorem Rel.set {n : Nat} {D : List Nat} {listed : Array Bool} (h : Rel n D listed) {i : Nat} (hi : i < n) : Rel n (i :: D) (listed.setIfInBounds i true) := by
  refine ⟨by simp [h.size], fun j => ?_⟩
  rw [memB_cons1]
  by_cases hij : i = j
  · subst hij
    have hlt : i < listed.size := h.size ▸ hi
    simp [hlt]
  · rw [getD_set_ne false hij, h.mem j]
    simp [hij]
theorem Rel.unl {n : Nat} {D : List Nat} {listed : Array Bool} (h : Rel n D listed) {i : Nat} (hi : i < n) (hm : memB D i = false) : unl (listed.setIfInBounds i true).toList + 1 = Sx.unl listed.toList := by
  have hlt : i < listed.size := h.size ▸ hi
  have : listed.toList[i]? = some false := by
    have h1 := h.mem i
    rw [hm] at h1
    simp only [Array.getD, hlt, dif_pos] at h1
    simpa [Array.getElem?_eq_getElem hlt] using h1
  rw [Array.toList_setIfInBounds]
  exact unl_set this
theorem Rel.ready {n : Nat} {D : List Nat} {listed : Array Bool} {ops : Array Oper} (h : Rel n D listed) (hn : ops.size = n) {j : Nat} : j ∈ Region.ready .any ops listed ↔ memB D j = false ∧ ∃ o, ops[j]? = some o ∧ allIn D o.after.toList = true := by
  rw [mem_ready]
  constructor
  · rintro ⟨h0, o, ho, hall⟩
    have hj : j < n := hn ▸ (Array.getElem?_eq_some_iff.1 ho).1
    refine ⟨by rw [← h.getT hj]; exact h0, o, ho, allIn_spec.2 fun e he hb => ?_⟩
    rw [← h.mem]
    exact hall e (by simpa using he) hb
  · rintro ⟨h0, o, ho, hall⟩
    have hj : j < n := hn ▸ (Array.getElem?_eq_some_iff.1 ho).1
    refine ⟨by rw [h.getT hj]; exact h0, o, ho, fun e he hb => ?_⟩
    rw [h.mem]
    exact allIn_spec.1 hall e (by simpa using he) hb

/-- What is kept for those taken early hangs on watched objects alone. -/
def PW (ρ : Rho) (G : Heap) (w : World) (W : List (Nat × Nat)) (pend : List (Nat × (World → Prop))) : Prop :=
  ∀ x ∈ pend, (∀ w', x.2 w') ∨ ∃ id, (x.1, id) ∈ W ∧ hget G id ≠ none ∧ ∀ w', Same ρ G (some id) w w' → x.2 w'

def depOf (ops : Array Oper) (i j : Nat) : Bool :=
  match ops[j]? with
  | some o => onE i o.after.toList
  | none => false
theorem depOf_ok {ops : Array Oper} (i j : Nat) (oj : Oper) (h : ops[j]? = some oj) (hd : depOf ops i j = true) : ∃ e ∈ oj.after, Region.binds .any e = true ∧ e.on = i := by
  unfold depOf at hd
  rw [h] at hd
  obtain ⟨e, he, h1⟩ := onE_spec.1 hd
  exact ⟨e, by simpa using he, h1⟩

section
variable {E : Env} {B : Entry} {ops : Array Oper} {Q : Exit → Act → World → Prop}

theorem PW.now {ρ : Rho} {G : Heap} {w : World} {W : List (Nat × Nat)} {pend : List (Nat × (World → Prop))} (h : PW ρ G w W pend) : ∀ x ∈ pend, x.2 w := fun x hx => by
  rcases h x hx with h | ⟨id, _, _, h⟩
  · exact h w
  · exact h w (Same.refl _ _ _ _)

theorem noSel_spec : ∀ {l : List Oper}, noSel l = true → ∀ o ∈ l, ∀ cs b, o.op ≠ .select cs b
  | [], _, o, ho => by cases ho
  | x :: r, h, o, ho => by
    simp only [noSel, Bool.and_eq_true] at h
    rcases List.mem_cons.1 ho with rfl | ho
    · intro cs b e
      rw [e] at h
      exact absurd h.1 (by simp)
    · exact noSel_spec h.2 o ho

theorem scanD_sound (hT : TblOK E.P E.T) (hsel : noSel ops.toList = true) (hQ : ∀ c a w, ¬ Q (.panic c) a w) {ρ : Rho} {N : Nat} {G : Heap} {w : World} {K : List Nat → Slots → List (Nat × Nat) → Prop}
    (hK : ∀ D s W listed fuel pend a, K D s W → StR E B ρ s N G a w → Rel ops.size D listed → unl listed.toList ≤ fuel → PW ρ G w W pend → wpG E.P ops Q (depOf ops) fuel pend listed a w) :
    ∀ (r : List Oper) (i : Nat) (D : List Nat) (s : Slots) (W : List (Nat × Nat)) (listed : Array Bool) (fuel : Nat) (pend : List (Nat × (World → Prop))) (a : Act), ops.toList.drop i = r →
      scanD E ops ops.toList i r D s G W K → StR E B ρ s N G a w → Rel ops.size D listed → unl listed.toList ≤ fuel → PW ρ G w W pend → wpG E.P ops Q (depOf ops) fuel pend listed a w
  | [], i, D, s, W, listed, fuel, pend, a, _, h, hS, hR, hf, hp => hK D s W listed fuel pend a (by simpa only [scanD] using h) hS hR hf hp
  | o :: r, i, D, s, W, listed, fuel, pend, a, hd, h, hS, hR, hf, hp => by
    have hlt : i < ops.toList.length := by
      rcases Nat.lt_or_ge i ops.toList.length with h | h
      · exact h
      · rw [List.drop_eq_nil_of_le h] at hd; cases hd
    rw [List.drop_eq_getElem_cons hlt] at hd
    injection hd with hd1 hd2
    have hi : ops[i]? = some o := by
      have : i < ops.size := by simpa using hlt
      rw [Array.getElem?_eq_getElem this, ← hd1]; simp
    have hin : i < ops.size := by simpa using hlt
    simp only [scanD] at h
    cases hb : (!memB D i && allIn D o.after.toList && !isEffect o.op && freeQ ops D i o 0 ops.toList) with
    | false =>
      simp only [hb, cond_false] at h
      exact scanD_sound hT hsel hQ hK r (i + 1) D s W listed fuel pend a hd2 h hS hR hf hp
    | true =>
      simp only [hb, cond_true] at h
      simp only [Bool.and_eq_true, Bool.not_eq_true'] at hb
      obtain ⟨⟨⟨b1, b2⟩, _⟩, b4⟩ := hb
      obtain ⟨v, s', hk, hS', hrun⟩ := qstep_sound hT h hS
      have hu := hR.unl hin b1
      obtain ⟨fuel', rfl⟩ : ∃ f, fuel = f + 1 := ⟨fuel - 1, by omega⟩
      have hrdy : i ∈ Region.ready .any ops listed := (hR.ready rfl).2 ⟨b1, o, hi, b2⟩
      refine wpG_first (v := v) (S := fun w' => Region.wanted o (yielded ops a.tmps) = true → (execOp a.eval o).run E.P w' = .ok (.value v) w') depOf_ok hi (fun j oj cs b hj => noSel_spec hsel oj (by
          have := Array.mem_of_getElem? hj
          simpa using this) cs b) (fun c a w hq => absurd hq (hQ _ _ _)) fuel' pend listed a w (fun j oj hj hne hun hno => ?_) hrdy ?_ ?_ hp.now ?_
      · have hjn : j < ops.size := (Array.getElem?_eq_some_iff.1 hj).1
        refine freeQ_spec b4 j oj (by rw [← hj]; simp) (by simpa using hne) (by rw [Nat.zero_add, ← hR.getT hjn]; exact hun) ?_
        cases h1 : onE i oj.after.toList with
        | false => rfl
        | true =>
          obtain ⟨e, he, hb, ho⟩ := onE_spec.1 h1
          exact absurd ho (hno e (by simpa using he) hb)
      · rcases hrun with ⟨hw, hrun⟩ | ⟨hw, rfl⟩
        · exact .inl ⟨hw, fun w' hS => hS hw⟩
        · exact .inr ⟨hw, rfl⟩
      · intro hw
        rcases hrun with ⟨_, hrun⟩ | ⟨hw', _⟩
        · exact hrun w (Same.refl _ _ _ _)
        · rw [hw] at hw'; cases hw'
      · refine scanD_sound hT hsel hQ hK r (i + 1) (i :: D) s' (watch (qidOf o s) i W) (listed.setIfInBounds i true) fuel' _ (a.put o.dst v) hd2 hk hS' (hR.set hin) (by omega) ?_
        intro x hx
        rcases List.mem_cons.1 hx with rfl | hx
        · simp only
          cases hq : qidOf o s with
          | none =>
            left
            intro w' hw
            rcases hrun with ⟨_, hrun⟩ | ⟨hw', _⟩
            · exact hrun w' (by rw [hq]; intro id e; cases e)
            · rw [hw] at hw'; cases hw'
          | some id =>
            by_cases hg : hget G id = none
            · left
              intro w' hw
              rcases hrun with ⟨_, hrun⟩ | ⟨hw', _⟩
              · refine hrun w' (by
                  rw [hq]
                  intro id' e p nd own hn _
                  injection e with e
                  subst e
                  obtain ⟨o', h1, _⟩ := hn.ex
                  rw [hg] at h1; cases h1)
              · rw [hw] at hw'; cases hw'
            · right
              refine ⟨id, by simp [watch], hg, fun w' hsame hw => ?_⟩
              rcases hrun with ⟨_, hrun⟩ | ⟨hw', _⟩
              · exact hrun w' (by rw [hq]; exact hsame)
              · rw [hw] at hw'; cases hw'
        · rcases hp x hx with h | ⟨id, h1, h2, h3⟩
          · exact .inl h
          · refine .inr ⟨id, ?_, h2, h3⟩
            unfold watch
            split
            · exact List.mem_cons_of_mem _ h1
            · exact h1

theorem readyL_mem {D : List Nat} : ∀ {l : List Oper} {i j : Nat} {o : Oper}, (j, o) ∈ readyL D i l → ∃ d, j = i + d ∧ l[d]? = some o ∧ memB D j = false ∧ allIn D o.after.toList = true
  | [], _, _, _, h => by simp [readyL] at h
  | x :: r, i, j, o, h => by
    simp only [readyL] at h
    cases hb : (!memB D i && allIn D x.after.toList) with
    | true =>
      simp only [hb, cond_true] at h
      simp only [Bool.and_eq_true, Bool.not_eq_true'] at hb
      rcases List.mem_cons.1 h with e | h
      · injection e with e1 e2
        subst e1 e2
        exact ⟨0, rfl, rfl, hb.1, hb.2⟩
      · obtain ⟨d, rfl, h1, h2⟩ := readyL_mem h
        exact ⟨d + 1, by omega, by simpa using h1, h2⟩
    | false =>
      simp only [hb, cond_false] at h
      obtain ⟨d, rfl, h1, h2⟩ := readyL_mem h
      exact ⟨d + 1, by omega, by simpa using h1, h2⟩

theorem drawD_sound (hT : TblOK E.P E.T) (hsel : noSel ops.toList = true) (hQp : ∀ c a w, ¬ Q (.panic c) a w) {K : Slots → Nat → Heap → Prop} (hQ : ∀ s' N' G' a' w', K s' N' G' → St E B s' N' G' a' w' → Q .normal a' w') :
    ∀ (f : Nat) (D : List Nat) (s : Slots) (N : Nat) (G : Heap) (W : List (Nat × Nat)) (listed : Array Bool) (fuel : Nat) (pend : List (Nat × (World → Prop))) (ρ : Rho) (a : Act) (w : World),
      drawD E ops ops.toList f D s N G W K → StR E B ρ s N G a w → Rel ops.size D listed → unl listed.toList ≤ fuel → PW ρ G w W pend → wpG E.P ops Q (depOf ops) fuel pend listed a w
  | 0, _, _, _, _, _, _, _, _, _, _, _, h, _, _, _, _ => by simp only [drawD] at h
  | f + 1, D, s, N, G, W, listed, fuel, pend, ρ, a, w, h, hS, hR, hf, hp => by
    simp only [drawD] at h
    refine scanD_sound hT hsel hQp (fun D s W listed fuel pend a h hS hR hf hp => ?_) ops.toList 0 D s W listed fuel pend a rfl h hS hR hf hp
    have hnone : readyL D 0 ops.toList = [] → Region.ready .any ops listed = [] := fun hr => by
      cases hk : Region.ready .any ops listed with
      | nil => rfl
      | cons j l =>
        obtain ⟨h0, o, ho, hall⟩ := (hR.ready rfl).1 (hk ▸ List.mem_cons_self .. : j ∈ Region.ready .any ops listed)
        have := readyL_spec (D := D) (l := ops.toList) (i := 0) (d := j) (o := o) (by rw [← ho]; simp) (by simpa using h0) hall
        rw [hr] at this; cases this
    split at h
    · rename_i hr
      have hn := hnone hr
      have hq := hQ s N G a w h hS.st
      cases fuel with
      | zero => exact ⟨hn, hq⟩
      | succ n => exact ⟨fun _ => hq, by rw [hn]; simp⟩
    · rename_i x l hr
      have hstep : ∀ j ∈ Region.ready .any ops listed, ∃ o, ops[j]? = some o ∧ memB D j = false ∧ j < ops.size ∧ (match isEffect o.op with
          | true => estep E ops.toList o s N G (wIds o.after.toList W) fun s' N' G' => drawD E ops ops.toList f (j :: D) s' N' G' (wRest o.after.toList W) K
          | false => qstep E ops.toList o s G fun s' => drawD E ops ops.toList f (j :: D) s' N G (wRest o.after.toList W) K) := fun j hj => by
        obtain ⟨h0, o, ho, hall⟩ := (hR.ready rfl).1 hj
        have hm := readyL_spec (D := D) (l := ops.toList) (i := 0) (d := j) (o := o) (by rw [← ho]; simp) (by simpa using h0) hall
        rw [hr, Nat.zero_add] at hm
        exact ⟨o, ho, h0, (Array.getElem?_eq_some_iff.1 ho).1, eachR_spec h _ hm⟩
      have hsome : Region.ready .any ops listed ≠ [] := fun hn => by
        obtain ⟨d, h1, h2, h3, h4⟩ := readyL_mem (D := D) (l := ops.toList) (i := 0) (j := x.1) (o := x.2) (hr ▸ List.mem_cons_self ..)
        have := (hR.ready (ops := ops) rfl (j := x.1)).2 ⟨h3, x.2, by rw [h1, Nat.zero_add]; simpa using h2, h4⟩
        rw [hn] at this; cases this
      have hpos : ∃ n, fuel = n + 1 := by
        cases hk : Region.ready .any ops listed with
        | nil => exact absurd hk hsome
        | cons j l' =>
          obtain ⟨o, ho, h0, hlt, _⟩ := hstep j (hk ▸ List.mem_cons_self ..)
          have := hR.unl hlt h0
          exact ⟨fuel - 1, by omega⟩
      obtain ⟨n, rfl⟩ := hpos
      refine ⟨fun hn => ?_, fun j hj => ?_⟩
      · exact absurd hn hsome
      obtain ⟨o, ho, h0, hlt, hst⟩ := hstep j hj
      have hu := hR.unl hlt h0
      have hfl : ∀ x ∈ pend.filter (fun x => !depOf ops x.1 j), x ∈ pend ∧ onE x.1 o.after.toList = false := fun x hx => by
        obtain ⟨h1, h2⟩ := List.mem_filter.1 hx
        refine ⟨h1, ?_⟩
        simpa [depOf, ho] using h2
      cases he : isEffect o.op with
      | true =>
        rw [he] at hst
        simp only at hst
        have := estep_sound hT hst hS (Q := Q) (next := fun a' w' => (∀ x ∈ pend, depOf ops x.1 j = false → x.2 w') ∧ wpG E.P ops Q (depOf ops) n (pend.filter fun x => !depOf ops x.1 j) (listed.setIfInBounds j true) a' w')
          (fun s' N' G' a' w' ρ' hk hS' hN' hag hsame hkp => ⟨fun x hx hd => ?_, drawD_sound hT hsel hQp hQ f _ s' N' G' _ _ n _ ρ' a' w' hk hS' (hR.set hlt) (by omega) (fun x hx => ?_)⟩)
        · unfold wpOp
          simp only [ho]
          split
          · rename_i hw; rw [if_pos hw] at this; exact .inl this
          · rename_i hw; rw [if_neg hw] at this; exact this
        · rcases hp x hx with h | ⟨id, h1, h2, h3⟩
          · exact h w'
          · exact h3 w' (hsame id (wIds_mem (by simpa [depOf, ho] using hd) h1))
        · obtain ⟨q1, q2⟩ := hfl x hx
          rcases hp x q1 with h | ⟨id, h1, h2, h3⟩
          · exact .inl h
          · have hmem := wIds_mem q2 h1
            have hkid := hkp id hmem h2
            refine .inr ⟨id, wRest_mem q2 h1, by rw [hkid]; exact h2, fun w'' hs => h3 w'' ?_⟩
            intro id' e p nd own hn hsol
            injection e with e
            subst e
            have hidN : id < N := by
              cases hg : hget G id with
              | none => exact absurd hg h2
              | some o' => exact hS.hH.keys id o' hg
            have hn' : NodeAt G' id p nd own := by
              obtain ⟨o', g1, g2, g3⟩ := hn.ex
              exact ⟨⟨o', hkid.trans g1, g2, g3⟩⟩
            have := hs id rfl p nd own hn' (by rw [hag id hidN]; exact hsol)
            rw [hag id hidN] at this
            exact this.trans (hsame id hmem id rfl p nd own hn hsol)
      | false =>
        rw [he] at hst
        simp only at hst
        obtain ⟨v, s', hk, hS', hrun⟩ := qstep_sound hT hst hS
        have hnext : (∀ x ∈ pend, depOf ops x.1 j = false → x.2 w) ∧ wpG E.P ops Q (depOf ops) n (pend.filter fun x => !depOf ops x.1 j) (listed.setIfInBounds j true) (a.put o.dst v) w := by
          refine ⟨fun x hx _ => hp.now x hx, drawD_sound hT hsel hQp hQ f _ s' N G _ _ n _ ρ _ w hk hS' (hR.set hlt) (by omega) (fun x hx => ?_)⟩
          obtain ⟨q1, q2⟩ := hfl x hx
          rcases hp x q1 with h | ⟨id, h1, h2, h3⟩
          · exact .inl h
          · exact .inr ⟨id, wRest_mem q2 h1, h2, h3⟩
        unfold wpOp
        simp only [ho]
        rcases hrun with ⟨hw, hrun⟩ | ⟨hw, rfl⟩
        · rw [if_pos hw]
          left
          unfold Oper.wp
          rw [hrun w (Same.refl _ _ _ _)]
          exact hnext
        · rw [if_neg (by rw [hw]; simp)]
          exact hnext

end
end Go.Sx
