/-
  Code, loops, and the function rule.
-/
import Derived.Test.YtbjlbmehklfijaaSxU
namespace Go.Sx
set_option linter.unusedVariables false
set_option linter.unusedSimpArgs false
open Go
open Go.RowKit

inductive Ex where
  | normal
  | exit (id : Nat)
  | ret

/-- A loop: its head's states, whatever the round, and what becomes less. -/
structure LoopG (N0 : Nat) (s : Slots) (N : Nat) (G : Heap) (F : Slots → Nat → Heap → (Slots → Nat → Heap → Prop) → Prop) : Prop where
  ex : ∃ (α : Type) (p : α → Prop) (S : α → Slots × Nat × Heap) (μ : α → Nat) (R : α → Slots → Nat → Heap → Prop), (∀ a s N G, R a s N G → Sub N0 s N G (S a).1 (S a).2.1 (S a).2.2) ∧ (∃ a, p a ∧ R a s N G) ∧
      ∀ a, p a → F (S a).1 (S a).2.1 (S a).2.2 fun s N G => ∃ b, p b ∧ μ b < μ a ∧ R b s N G

/-! ### The slots that are still wanted behind a region (none named: all) -/
def rmK (t : Nat) : List Nat → (List Nat → Prop) → Prop
  | [], K => K []
  | k :: r, K => bif Nat.beq k t then rmK t r K else rmK t r fun r' => K (k :: r')
def trimS : List Nat → Slots → (Slots → Prop) → Prop
  | _, [], K => K []
  | ks, (t, v) :: r, K => bif memB ks t then rmK t ks fun ks' => trimS ks' r fun r' => K ((t, v) :: r') else trimS ks r K
def trimK (ks : List Nat) (s : Slots) (K : Slots → Prop) : Prop :=
  match ks with
  | [] => K s
  | k :: r => trimS (k :: r) s K
theorem rmK_spec {t : Nat} : ∀ {l : List Nat} {K : List Nat → Prop}, rmK t l K → ∃ l', K l' ∧ ∀ i, memB l i = false → memB l' i = false
  | [], K, h => ⟨[], h, fun _ h => h⟩
  | k :: r, K, h => by
    simp only [rmK] at h
    cases hb : Nat.beq k t with
    | true =>
      simp only [hb, cond_true] at h
      obtain ⟨l', h1, h3⟩ := rmK_spec h
      refine ⟨l', h1, fun i hi => h3 i ?_⟩
      simp only [memB] at hi
      cases hk : Nat.beq k i with
      | true => rw [hk] at hi; cases hi
      | false => rw [hk] at hi; exact hi
    | false =>
      simp only [hb, cond_false] at h
      obtain ⟨l', h1, h3⟩ := rmK_spec h
      refine ⟨k :: l', h1, fun i hi => ?_⟩
      simp only [memB] at hi ⊢
      cases hk : Nat.beq k i with
      | true => rw [hk] at hi; cases hi
      | false => rw [hk] at hi; exact h3 i hi
theorem trimS_spec : ∀ {s : Slots} {ks : List Nat} {K : Slots → Prop}, trimS ks s K → ∃ s', K s' ∧ (∀ t, look s' t = look s t ∨ look s' t = .top) ∧ ∀ t, memB ks t = false → look s' t = .top
  | [], ks, K, h => ⟨[], by cases ks <;> exact h, fun t => .inl rfl, fun _ _ => rfl⟩
  | (t, v) :: r, ks, K, h => by
    simp only [trimS] at h
    cases hb : memB ks t with
    | true =>
      simp only [hb, cond_true] at h
      obtain ⟨ks', h, h2⟩ := rmK_spec h
      obtain ⟨s', h3, h4, h5⟩ := trimS_spec h
      refine ⟨_, h3, fun i => ?_, fun i hi => ?_⟩
      · simp only [look]
        cases hti : Nat.beq t i with
        | true => exact .inl rfl
        | false => exact h4 i
      · simp only [look]
        cases hti : Nat.beq t i with
        | true =>
          have := Nat.eq_of_beq_eq_true hti
          subst this
          rw [hb] at hi
          cases hi
        | false => exact h5 i (h2 i hi)
    | false =>
      simp only [hb, cond_false] at h
      obtain ⟨s', h3, h4, h5⟩ := trimS_spec h
      refine ⟨s', h3, fun i => ?_, h5⟩
      simp only [look]
      cases hti : Nat.beq t i with
      | true =>
        have := Nat.eq_of_beq_eq_true hti
        subst this
        exact .inr (h5 t hb)
      | false => exact h4 i
theorem trimK_spec {ks : List Nat} {s : Slots} {K : Slots → Prop} (h : trimK ks s K) : ∃ s', K s' ∧ ∀ t, look s' t = look s t ∨ look s' t = .top := by
  cases ks with
  | nil => exact ⟨s, h, fun _ => .inl rfl⟩
  | cons k r =>
    obtain ⟨s', h1, h2, _⟩ := trimS_spec h
    exact ⟨s', h1, h2⟩
theorem St.trim {E : Env} {B : Entry} {s s' : Slots} {N : Nat} {G : Heap} {a : Act} {w : World} (h : St E B s N G a w) (hs : ∀ t, look s' t = look s t ∨ look s' t = .top) : St E B s' N G a w := by
  obtain ⟨⟨ρ, h1, h2⟩, h3, h4⟩ := h
  refine ⟨⟨ρ, fun t => ?_, h2⟩, h3, h4⟩
  rcases hs t with e | e
  · rw [e]; exact h1 t
  · rw [e]; simp only [VR]

/-- Two states of which the second is the first, or an instance of it. -/
structure CutS (N0 : Nat) (s1 : Slots) (N1 : Nat) (G1 : Heap) (s' : Slots) (N' : Nat) (G' : Heap) : Prop where
  h : (s1 = s' ∧ N1 = N' ∧ G1 = G') ∨ Sub N0 s1 N1 G1 s' N' G'
/-- Whatever the order, one state: what comes behind it is looked at once. -/
structure CutG (N0 : Nat) (F : (Slots → Nat → Heap → Prop) → Prop) (K : Slots → Nat → Heap → Prop) : Prop where
  h : F K ∨ ∃ s' N' G', F (fun s1 N1 G1 => CutS N0 s1 N1 G1 s' N' G') ∧ K s' N' G'
theorem cut_auto {N0 : Nat} {F : (Slots → Nat → Heap → Prop) → Prop} {K : Slots → Nat → Heap → Prop} {s' : Slots} {N' : Nat} {G' : Heap} (h1 : F (fun s1 N1 G1 => CutS N0 s1 N1 G1 s' N' G')) (h2 : K s' N' G') : CutG N0 F K :=
  ⟨.inr ⟨s', N', G', h1, h2⟩⟩

def ev (E : Env) (N0 : Nat) : Code → Slots → Nat → Heap → (Ex → Slots → Nat → Heap → Prop) → Prop
  | .skip, s, N, G, Q => Q .normal s N G
  | .region _ ops draw, s, N, G, Q => match draw with
    | true => bif noSel ops.toList && E.P.follows .mixedOrders then CutG N0 (fun K => drawD E ops ops.toList (ops.toList.length + 1) [] s N G [] fun s N G => trimK E.keep s fun s => K s N G) (fun s N G => Q .normal s N G) else False
    | false => runOps E ops.toList ops.toList s N G fun s N G => trimK E.keep s fun s => Q .normal s N G
  | .seq x y, s, N, G, Q => ev E N0 x s N G fun e s N G => match e with
    | .normal => ev E N0 y s N G Q
    | .exit i => Q (.exit i) s N G
    | .ret => Q .ret s N G
  | .cond c x y, s, N, G, Q => match ao s c with
    | .bool b => cond b (ev E N0 x s N G Q) (ev E N0 y s N G Q)
    | _ => False
  | .block id x, s, N, G, Q => ev E N0 x s N G fun e s N G => match e with
    | .normal => Q .normal s N G
    | .exit i => bif Nat.beq i id then Q .normal s N G else Q (.exit i) s N G
    | .ret => Q .ret s N G
  | .loop x, s, N, G, Q => LoopG N0 s N G fun s N G k => ev E N0 x s N G fun e s N G => match e with
      | .normal => k s N G
      | .exit i => Q (.exit i) s N G
      | .ret => Q .ret s N G
  | .exit id, s, N, G, Q => Q (.exit id) s N G
  | .ret, s, N, G, Q => Q .ret s N G
  | .label _, s, N, G, Q => Q .normal s N G
  | _, _, _, _, _ => False

section
variable {E : Env} {B : Entry}

def postOf (E : Env) (B : Entry) (Q : Ex → Slots → Nat → Heap → Prop) : Exit → Act → World → Prop
  | .normal, a, w => ∃ s N G, Q .normal s N G ∧ St E B s N G a w
  | .exit i, a, w => ∃ s N G, Q (.exit i) s N G ∧ St E B s N G a w
  | .ret, a, w => ∃ s N G, Q .ret s N G ∧ St E B s N G a w
  | _, _, _ => False

/-- A loop whose relation bears its own measure. -/
theorem wp_loop_ghost {P : Program} {Q : Exit → Act → World → Prop} {c : Code} (I : Nat → Act → World → Prop)
    (round : ∀ n a w, I n a w → c.wp P (Exit.then (fun a' w' => ∃ m, m < n ∧ I m a' w') Q) a w) : ∀ n a w, I n a w → (Code.loop c).wp P Q a w := by
  have key : ∀ n a w, I n a w → ∀ (b : Frame) (k : List Item) (cs : List Frame), ∃ e a' w', Q e a' w' ∧ Arrives P (lone (b.at a (.code c :: .inLoop c :: k)) cs w) b k cs e a' w' := by
    intro n
    induction n using Nat.strongRecOn with
    | _ n ih =>
      intro a w hI b k cs
      obtain ⟨e, a1, w1, hq, harr⟩ := round n a w hI b (.inLoop c :: k) cs
      cases e with
      | normal =>
        obtain ⟨m, hlt, hm⟩ := hq
        obtain ⟨e2, a2, w2, hq2, harr2⟩ := ih m hlt a1 w1 hm b k cs
        exact ⟨e2, a2, w2, hq2, .of_steps (Steps.trans harr (.one step_inLoop)) harr2⟩
      | exit id => exact ⟨_, a1, w1, hq, .pass (x := .inLoop c) rfl (fun _ _ => .inl (by simp)) harr⟩
      | goto l => exact ⟨_, a1, w1, hq, .pass (x := .inLoop c) rfl (fun _ _ => .inl (by simp)) harr⟩
      | ret => exact ⟨_, a1, w1, hq, .pass (x := .inLoop c) rfl (fun _ _ => .inl (by simp)) harr⟩
      | panic ch => exact ⟨_, a1, w1, hq, .pass (x := .inLoop c) rfl (fun _ _ => .inl (by simp)) harr⟩
      | outgrown => exact ⟨_, a1, w1, hq, .pass (x := .inLoop c) rfl (fun _ _ => .inl (by simp)) harr⟩
  intro n a w hI b k cs
  obtain ⟨e, a', w', hq, harr⟩ := key n a w hI b k cs
  exact ⟨e, a', w', hq, .of_steps (.one step_loop) harr⟩

theorem ev_sound (hT : TblOK E.P E.T) : ∀ (c : Code) (s : Slots) (N : Nat) (G : Heap) (Q : Ex → Slots → Nat → Heap → Prop) (a : Act) (w : World), ev E B.N c s N G Q → St E B s N G a w → c.wp E.P (postOf E B Q) a w
  | .skip, s, N, G, Q, a, w, h, hS => wp_skip ⟨s, N, G, h, hS⟩
  | .region id ops draw, s, N, G, Q, a, w, h, hS => by
    simp only [ev] at h
    cases draw with
    | true =>
      simp only at h
      cases hb : (noSel ops.toList && E.P.follows .mixedOrders) with
      | false => simp only [hb, cond_false] at h
      | true =>
        simp only [hb, cond_true] at h
        simp only [Bool.and_eq_true] at hb
        obtain ⟨ρ, hR⟩ := hS.str
        have hR' : StR E B ρ s N G a { w with drawn := w.drawn + 1 } := ⟨hR.hs, hR.hH.frame (frame_drew w) (fun _ _ _ _ _ _ h => h), hR.hN, hR.hag, hR.hfr.trans (frame_drew w) (fun _ _ h => h.elim), hR.hown, hR.size, hR.defers⟩
        refine wp_region_any hb.2 (wpAny_of_wpG (dep := depOf ops) _ [] _ _ _ ?_)
        obtain ⟨K', h, hK'⟩ : ∃ K' : Slots → Nat → Heap → Prop, drawD E ops ops.toList (ops.toList.length + 1) [] s N G [] K' ∧ ∀ s' N' G' a' w', K' s' N' G' → St E B s' N' G' a' w' → postOf E B Q .normal a' w' := by
          rcases h.h with h | ⟨s0, N0, G0, h, hk⟩
          · refine ⟨_, h, fun s' N' G' a' w' hk hS' => ?_⟩
            obtain ⟨s2, hk, ht⟩ := trimK_spec hk
            exact ⟨s2, N', G', hk, hS'.trim ht⟩
          · refine ⟨_, h, fun s' N' G' a' w' hc hS' => ⟨s0, N0, G0, hk, ?_⟩⟩
            obtain ⟨s2, hc, ht⟩ := trimK_spec hc
            replace hS' := hS'.trim ht
            rcases hc.h with ⟨rfl, rfl, rfl⟩ | hc
            · exact hS'
            · exact hS'.forget hc
        refine drawD_sound (B := B) hT hb.1 (fun c a w hq => hq) hK' _ [] s N G [] _ _ [] ρ a _ h hR' ⟨by simp, fun i => ?_⟩ ?_ (fun x hx => by cases hx)
        · simp only [memB, Array.getD_eq_getD_getElem?, Array.getElem?_replicate]
          split <;> rfl
        · simp only [unl]
          refine Nat.le_trans List.count_le_length ?_
          simp
    | false =>
      refine wp_region ?_
      have := runOps_sound (B := B) hT (ops := ops) (K := fun s N G => trimK E.keep s fun s => Q .normal s N G) (Q := postOf E B Q) (fun s' N' G' a' w' hk hS' => by obtain ⟨s2, hk, ht⟩ := trimK_spec hk; exact ⟨s2, N', G', hk, hS'.trim ht⟩) ops.size 0 s N G a w (by omega) (by simpa using h) hS
      rwa [← List.range_eq_range'] at this
  | .seq x y, s, N, G, Q, a, w, h, hS => by
    simp only [ev] at h
    refine wp_seq (wp_mono (ev_sound hT x s N G _ a w h hS) fun e a' w' hq => ?_)
    cases e with
    | normal =>
      obtain ⟨s', N', G', h1, h2⟩ := hq
      exact ev_sound hT y s' N' G' Q a' w' h1 h2
    | exit i => exact hq
    | ret => exact hq
    | goto _ => exact hq
    | panic _ => exact hq
    | outgrown => exact hq
  | .cond c x y, s, N, G, Q, a, w, h, hS => by
    simp only [ev] at h
    split at h
    case h_2 => exact h.elim
    rename_i b hb
    obtain ⟨ρ, hs, _⟩ := hS.ex
    have hv := VR_ao hs c
    rw [hb] at hv
    simp only [VR] at hv
    refine wp_cond hv ?_
    cases b with
    | true => exact ev_sound hT x s N G Q a w h hS
    | false => exact ev_sound hT y s N G Q a w h hS
  | .block id x, s, N, G, Q, a, w, h, hS => by
    simp only [ev] at h
    refine wp_block (wp_mono (ev_sound hT x s N G _ a w h hS) fun e a' w' hq => ?_)
    cases e with
    | normal => exact hq
    | exit i =>
      obtain ⟨s', N', G', h1, h2⟩ := hq
      simp only [Exit.inBlock]
      simp only at h1
      cases hb : Nat.beq i id with
      | true =>
        simp only [hb, cond_true] at h1
        rw [if_pos (Nat.eq_of_beq_eq_true hb)]
        exact ⟨s', N', G', h1, h2⟩
      | false =>
        simp only [hb, cond_false] at h1
        rw [if_neg (fun e => by subst e; simp at hb)]
        exact ⟨s', N', G', h1, h2⟩
    | ret => exact hq
    | goto _ => exact hq
    | panic _ => exact hq
    | outgrown => exact hq
  | .loop x, s, N, G, Q, a, w, h, hS => by
    simp only [ev] at h
    obtain ⟨α, p, S, μ, R, hR, ⟨a0, hp0, hsub⟩, hround⟩ := h.ex
    refine wp_loop_ghost (fun n a w => ∃ g, p g ∧ μ g = n ∧ St E B (S g).1 (S g).2.1 (S g).2.2 a w) (fun n a w hI => ?_) (μ a0) a w ⟨a0, hp0, rfl, hS.forget (hR _ _ _ _ hsub)⟩
    obtain ⟨g, hg, hμ, hSt⟩ := hI
    refine wp_mono (ev_sound hT x (S g).1 (S g).2.1 (S g).2.2 _ a w (hround g hg) hSt) fun e a' w' hq => ?_
    cases e with
    | normal =>
      obtain ⟨s', N', G', ⟨b, hb, hlt, hsub'⟩, hS'⟩ := hq
      exact ⟨μ b, hμ ▸ hlt, b, hb, rfl, hS'.forget (hR _ _ _ _ hsub')⟩
    | exit i => exact hq
    | ret => exact hq
    | goto _ => exact hq
    | panic _ => exact hq
    | outgrown => exact hq
  | .exit id, s, N, G, Q, a, w, h, hS => wp_exit ⟨s, N, G, h, hS⟩
  | .ret, s, N, G, Q, a, w, h, hS => wp_ret ⟨s, N, G, h, hS⟩
  | .label _, s, N, G, Q, a, w, h, hS => wp_label ⟨s, N, G, h, hS⟩
  | .rangeFunc _ _ _ _, _, _, _, _, _, _, h, _ => by simp only [ev] at h
  | .scope _, _, _, _, _, _, _, h, _ => by simp only [ev] at h
  | .goto _, _, _, _, _, _, _, h, _ => by simp only [ev] at h
  | .refuse _, _, _, _, _, _, _, h, _ => by simp only [ev] at h

/-! ### The function rule -/
def initSlots : Nat → List AV → Slots
  | _, [] => []
  | i, v :: r => (i, v) :: initSlots (i + 1) r

/-- What is handed back. -/
def resK (s : Slots) : List ResultVar → (Cnd → List AV → Prop) → Heap → Tbl → Prop
  | [], K, _, _ => K none []
  | .tmp t :: r, K, G, T => forceK (look s t) fun v => resK s r (fun C vs => K C (v :: vs)) G T
  | .cell p t :: r, K, G, T => qLoad T G t (look s p) fun C v => forceK v fun v => resK s r (fun C' vs => K (cAnd C C') (v :: vs)) G T
def retV : List AV → AV
  | [v] => v
  | vs => .tuple vs

/-- The end of a call: the result, and what of the heap is told (the rest is forgotten, under other names). -/
def RetVC (E : Env) (rs : List ResultVar) (s : Slots) (N : Nat) (G : Heap) (R : AV → Nat → Heap → Prop) : Prop :=
  resK s rs (fun C vs => need C (R (retV vs) N G)) G E.T

theorem look_init (ρ : Rho) (N : Nat) : ∀ (as : List AV) (vs : List Value) (i : Nat), VRL ρ N as vs → ∀ t, VR ρ N (look (initSlots i as) t) (if i ≤ t then vs.getD (t - i) undef else undef)
  | [], vs, i, h, t => by simp only [initSlots, look, VR]
  | a :: as, vs, i, h, t => by
    simp only [VRL] at h
    obtain ⟨v, r, rfl, h1, h2⟩ := h
    simp only [initSlots, look]
    cases hb : Nat.beq i t with
    | true =>
      have := Nat.eq_of_beq_eq_true hb
      subst this
      simpa using h1
    | false =>
      have hne : i ≠ t := fun e => by subst e; simp at hb
      have := look_init ρ N as r (i + 1) h2 t
      simp only [cond_false]
      by_cases hle : i ≤ t
      · rw [if_pos hle]
        rw [if_pos (by omega)] at this
        rw [show t - i = (t - (i + 1)) + 1 by omega]
        simpa using this
      · rw [if_neg hle]
        rw [if_neg (by omega)] at this
        exact this

theorem resK_sound (hT : TblOK E.P E.T) {ρ : Rho} {N : Nat} {G : Heap} {w : World} (hH : HeapRep ρ N G w) {s : Slots} {a : Act} (hs : ∀ t, VR ρ N (look s t) (a.tmps.getD t undef)) :
    ∀ (rs : List ResultVar) (K : Cnd → List AV → Prop), resK s rs K G E.T → ∃ C vs, K C vs ∧ (C.holds → ∃ us : List Value, VRL ρ N vs us ∧
      (rs.mapM (m := Sem) fun x => match x with | .tmp t => pure (a.tmps.getD t undef) | .cell p t => do loadVar t (← asAddr (a.tmps.getD p undef))).run E.P w = .ok us w)
  | [], K, h => ⟨_, _, h, fun _ => ⟨[], by simp [VRL], by simp⟩⟩
  | .tmp t :: r, K, h => by
    simp only [resK] at h
    obtain ⟨C, vs, hK, hr⟩ := resK_sound hT hH hs r _ (forceK_eq h)
    refine ⟨_, _, hK, fun hc => ?_⟩
    obtain ⟨us, h1, h2⟩ := hr hc
    refine ⟨a.tmps.getD t undef :: us, by simp only [VRL]; exact ⟨_, _, rfl, hs t, h1⟩, ?_⟩
    simp only [List.mapM_cons, Sem.run_bind, Sem.run_pure, Result.andThen_ok, h2]
  | .cell p t :: r, K, h => by
    simp only [resK] at h
    have hq : quiet E.T (fun x => match x with | .tmp p => look s p | _ => .top) G (.load t (.tmp p)) (fun C v => forceK v fun v => resK s r (fun C' vs => K (cAnd C C') (v :: vs)) G E.T) := h
    obtain ⟨C, v, h, hrun⟩ := quiet_sound (a := a) (o := ⟨none, .load t (.tmp p), 0, "", #[], none⟩) hT hH (fun x => by cases x <;> simp only [VR]; exact hs _) hq
    obtain ⟨C', vs, hK, hr⟩ := resK_sound hT hH hs r _ (forceK_eq h)
    refine ⟨_, _, hK, fun hc => ?_⟩
    obtain ⟨c1, c2⟩ := cAnd_holds hc
    obtain ⟨us, h1, h2⟩ := hr c2
    obtain ⟨cv, q1, q2⟩ := hrun c1
    refine ⟨cv :: us, by simp only [VRL]; exact ⟨_, _, rfl, q1, h1⟩, ?_⟩
    have hv := hs p
    have hl : (Instr.loadAt t (a.tmps.getD p undef)).run E.P w = .ok cv w := by
      simp only [execOp, Act.eval, Sem.run_bind] at q2
      cases hr : (Instr.loadAt t (a.tmps.getD p undef)).run E.P w with
      | ok x w1 => rw [hr] at q2; simp at q2; rw [q2.1, q2.2]
      | halt x w1 => rw [hr] at q2; simp at q2
    have hp : ∃ A, a.tmps.getD p undef = .pointer (some A) := by
      simp only [quiet, qLoad] at hq
      split at hq
      case h_2 => exact hq.elim
      split at hq
      case h_2 => exact hq.elim
      rename_i hlk
      rw [hlk] at hv
      simp only [VR] at hv
      exact ⟨_, hv.2⟩
    obtain ⟨A, hA⟩ := hp
    rw [hA] at hl
    have hl' : (loadVar t A).run E.P w = .ok cv w := by
      simpa only [Instr.loadAt, Instr.sureAddr, Sem.run_bind, Sem.run_pure, Result.andThen_ok] using hl
    have hasA : (asAddr (.pointer (some A)) : Sem Addr) = pure A := rfl
    have hhd : Sem.run E.P (do loadVar t (← asAddr (a.tmps.getD p undef))) w = .ok cv w := by
      rw [hA, hasA]; simpa only [Sem.run_bind, Sem.run_pure, Result.andThen_ok] using hl'
    simp only [List.mapM_cons, Sem.run_bind] at hhd ⊢
    simp only [hhd, Result.andThen_ok, h2, Sem.run_pure]

/-- The frame's act at the entrance. -/
theorem st_enter {E : Env} {ρ : Rho} {N : Nat} {G : Heap} {w : World} (hH : HeapRep ρ N G w) {args : List AV} {cargs : List Value} (hv : VRL ρ N args cargs) (hle : Nat.ble args.length E.nt = true) :
    St E ⟨ρ, N, G, w⟩ (initSlots 0 args) N G { tmps := cargs.toArray ++ Array.replicate (E.nt - cargs.toArray.size) undef, defers := [] } w := by
  have hl := hv.length
  have hle := Nat.le_of_ble_eq_true hle
  refine ⟨⟨ρ, fun t => ?_, hH, Nat.le_refl _, fun _ _ => rfl, FrameW.refl _ _, fun b h => .inr h⟩, by simp; omega, rfl⟩
  have := look_init ρ N args cargs 0 hv t
  simp only [Nat.zero_le, if_true, Nat.sub_zero] at this
  have he : (cargs.toArray ++ Array.replicate (E.nt - cargs.toArray.size) (undef : Value)).getD t undef = cargs.getD t undef := by
    simp only [Array.getD_eq_getD_getElem?, List.getD_eq_getElem?_getD, Array.getElem?_append, List.size_toArray, Array.getElem?_replicate]
    by_cases h : t < cargs.length
    · simp [h]
    · simp only [h, if_false, List.getElem?_eq_none (Nat.le_of_not_lt h)]
      split <;> rfl
  rw [he]
  exact this

theorem acall_of_ev {ks : List Nat} {P : Program} {T : Tbl} (hT : TblOK P T) {f : Nat} {fn : Func} {c : Code} (hf : P.funcs[f]? = some fn) (hb : fn.body = some c) (hok : FnOK P f) {args : List AV} {N : Nat} {G : Heap} {K : AV → Nat → Heap → Prop}
    (hle : Nat.ble args.length fn.ntmps = true) {R : AV → Nat → Heap → Prop} (hR : ∀ rv N' G', R rv N' G' → ∃ v' N2 G2, Sub N [(0, rv)] N' G' [(0, v')] N2 G2 ∧ K v' N2 G2)
    (h : ev ⟨P, T, fn.ntmps, ks⟩ N c (initSlots 0 args) N G (fun e s N' G' => match e with
      | .exit _ => False
      | _ => RetVC ⟨P, T, fn.ntmps, ks⟩ fn.results.toList s N' G' R)) : ACall P f args N G K := by
  refine ⟨hok, fun ρ w cargs hH hv => ?_⟩
  refine calls_of_wp hf hb ?_
  have := ev_sound (E := ⟨P, T, fn.ntmps, ks⟩) (B := ⟨ρ, N, G, w⟩) hT c _ N G _ _ w h (st_enter hH hv hle)
  refine wp_mono this fun e a' w' hq => ?_
  have key : ∀ {s N' G'}, RetVC ⟨P, T, fn.ntmps, ks⟩ fn.results.toList s N' G' R → St ⟨P, T, fn.ntmps, ks⟩ ⟨ρ, N, G, w⟩ s N' G' a' w' → a'.defers = [] ∧ ∃ v, (results fn a'.tmps).run P w' = .ok v w' ∧ (∃ u, Ending.returned v = .returned u ∧ Out ρ N G w K u w') := fun {s N' G'} hr hS => by
    obtain ⟨⟨ρ', hs, hH', hN, hag, hfr, hown⟩, hz, hdf⟩ := hS
    refine ⟨hdf, ?_⟩
    obtain ⟨C, vs, hK, hrun⟩ := resK_sound (E := ⟨P, T, fn.ntmps, ks⟩) hT hH' hs fn.results.toList _ hr
    obtain ⟨hc, hK⟩ := need_spec hK
    obtain ⟨v', N2, G2, ⟨m, z, h1, h2, h3⟩, hK⟩ := hR _ _ _ hK
    obtain ⟨us, hu, hrun⟩ := hrun hc
    obtain ⟨hb1, _⟩ := bcond h1
    simp only [Bool.and_eq_true, Nat.ble_eq] at hb1
    obtain ⟨⟨⟨b1, b2⟩, b3⟩, b4⟩ := hb1
    obtain ⟨q1, q2⟩ := hH'.forget h3 b4
    simp only [slotsLe, look, cond_true, Nat.beq_refl, and_true] at h2
    have hl := hu.length
    refine ⟨if h : us.toArray.size = 1 then us.toArray[0] else .tuple us.toArray, ?_, _, rfl, ?_⟩
    · unfold results
      simp only [Array.mapM_eq_mapM_toList, map_eq_pure_bind, Sem.run_bind]
      simp only [Sem.run_pure]
      exact congrArg (fun r => (Result.andThen (Result.andThen r fun a w' => .ok (List.toArray a) w') fun (a : Array Value) w' => .ok (if h : a.size = 1 then a[0] else .tuple a) w')) hrun
    · have hret : VR ρ' N' (retV vs) (if h : us.toArray.size = 1 then us.toArray[0] else .tuple us.toArray) := by
        match vs, us, hu with
        | [], [], _ => simp [retV, VR, VRL]
        | [v], [u], hu =>
          simp only [VRL] at hu
          obtain ⟨_, _, e, h1, h2⟩ := hu
          simp only [List.cons.injEq] at e
          obtain ⟨rfl, _⟩ := e
          simpa [retV] using h1
        | v :: v2 :: r, u :: u2 :: q, hu =>
          have hne : ¬ (u :: u2 :: q).toArray.size = 1 := by simp
          rw [dif_neg hne]
          simp only [retV, VR]
          exact ⟨_, rfl, hu⟩
        | [], _ :: _, hu => exact absurd hu.length (by simp)
        | [_], [], hu => exact absurd hu.length (by simp)
        | [_], _ :: _ :: _, hu => exact absurd hu.length (by simp)
        | _ :: _ :: _, [], hu => exact absurd hu.length (by simp)
        | _ :: _ :: _, [_], hu => exact absurd hu.length (by simp)
      refine ⟨⟨v', _, N2, G2, hK, AV.le_sound (G' := G2) _ _ _ h2 hret, q1, b3, fun id hid => ?_, hfr, fun b hb => hown b (q2 b hb)⟩⟩
      funext p
      have hz0 : memB z id = false := memB_ge b2 hid
      have hm0 : mlook m id = id := mlook_ge b1 hid
      simp only [reρ, hz0, Bool.false_eq_true, if_false, hm0]
      exact congrFun (hag id hid) p
  cases e with
  | normal =>
    obtain ⟨s, N', G', h1, h2⟩ := hq
    exact key h1 h2
  | exit i =>
    obtain ⟨s, N', G', h1, h2⟩ := hq
    exact h1.elim
  | ret =>
    obtain ⟨s, N', G', h1, h2⟩ := hq
    exact key h1 h2
  | goto _ => exact hq.elim
  | panic _ => exact hq.elim
  | outgrown => exact hq.elim

end
end Go.Sx
