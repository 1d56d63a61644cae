/-
  Regions whose order is drawn: the evaluator.
-/
import Derived.Test.YtbjlbmehklfijaaSxR
namespace Go.Sx
set_option linter.unusedVariables false
set_option linter.unusedSimpArgs false
open Go
open Go.RowKit

def bnd (e : Edge) : Bool := match e.ground with
  | .textOnly _ => false
  | .gcOnly _ => false
  | _ => true
theorem bnd_eq (e : Edge) : Region.binds .any e = bnd e := by
  unfold Region.binds bnd
  cases e.ground <;> rfl
def onE (i : Nat) : List Edge → Bool
  | [] => false
  | e :: r => (bnd e && Nat.beq e.on i) || onE i r
theorem onE_spec {i : Nat} : ∀ {l : List Edge}, onE i l = true ↔ ∃ e ∈ l, Region.binds .any e = true ∧ e.on = i
  | [] => by simp [onE]
  | e :: r => by
    have ih := onE_spec (i := i) (l := r)
    simp only [onE, Bool.or_eq_true, Bool.and_eq_true, ih, bnd_eq, List.mem_cons, exists_eq_or_imp, Nat.beq_eq]
def allIn (D : List Nat) : List Edge → Bool
  | [] => true
  | e :: r => (!bnd e || memB D e.on) && allIn D r
theorem allIn_spec {D : List Nat} : ∀ {l : List Edge}, allIn D l = true ↔ ∀ e ∈ l, Region.binds .any e = true → memB D e.on = true
  | [] => by simp [allIn]
  | e :: r => by
    have ih := allIn_spec (D := D) (l := r)
    simp only [allIn, Bool.and_eq_true, ih, bnd_eq, List.mem_cons, forall_eq_or_imp, Bool.or_eq_true, Bool.not_eq_true']
    constructor
    · rintro ⟨h1, h2⟩
      exact ⟨fun hb => h1.resolve_left (by simp [hb]), h2⟩
    · rintro ⟨h1, h2⟩
      refine ⟨?_, h2⟩
      cases hb : bnd e with
      | false => exact .inl rfl
      | true => exact .inr (h1 hb)
/-! ### Operands as lists -/
def sndL {α β : Type} : List (α × β) → List β
  | [] => []
  | (_, b) :: r => b :: sndL r
theorem sndL_eq {α β : Type} : ∀ (l : List (α × β)), sndL l = l.map (·.2)
  | [] => rfl
  | (_, _) :: r => by simp [sndL, sndL_eq r]
def appL {α : Type} : List α → List α → List α
  | [], l => l
  | x :: r, l => x :: appL r l
theorem appL_eq {α : Type} : ∀ (x y : List α), appL x y = x ++ y
  | [], _ => rfl
  | _ :: r, y => by simp [appL, appL_eq r y]
def opndL (op : Op) : List Operand :=
  match op with
  | .alloc _ => []
  | .move x => [x]
  | .assign x => [x]
  | .box _ x => [x]
  | .load _ x => [x]
  | .nilCheck x => [x]
  | .unOp _ _ x => [x]
  | .convert _ _ x => [x]
  | .fieldAddr _ x _ => [x]
  | .extract x _ => [x]
  | .pick c a b => [c, a, b]
  | .build _ ps => sndL ps.toList
  | .buildSlice _ _ ps => sndL ps.toList
  | .store _ a v => [a, v]
  | .binOp _ _ a v _ => [a, v]
  | .makeSlice _ a v => [a, v]
  | .indexAddr _ a v => [a, v]
  | .makeFunc _ first captured => appL first.toList captured.toList
  | .call c => match c.callee with
    | .value f => f :: c.args.toList
    | .invoke r _ => r :: c.args.toList
    | .builtin _ => c.args.toList
  | op => op.operands.toList
theorem opndL_eq (op : Op) : opndL op = op.operands.toList := by
  unfold opndL
  split <;> simp [Op.operands, sndL_eq, appL_eq]
  rename_i c
  unfold Call.operands
  split <;> simp_all
def usesT (d : Nat) : List Operand → Bool
  | [] => false
  | o :: r => (match o with
    | .tmp t => Nat.beq t d
    | _ => false) || usesT d r
theorem usesT_spec {d : Nat} : ∀ {l : List Operand}, usesT d l = false → d ∉ l.filterMap fun | .tmp t => some t | _ => none
  | [], _ => by simp
  | o :: r, h => by
    simp only [usesT, Bool.or_eq_false_iff] at h
    have ih := usesT_spec (l := r) h.2
    intro hm
    simp only [List.filterMap_cons] at hm
    cases o with
    | tmp t =>
      simp only [List.mem_cons] at hm
      rcases hm with e | hm
      · subst e
        have := h.1
        simp at this
      · exact ih hm
    | _ => exact ih hm
def grdQ (all : List Oper) (d : Nat) (o : Oper) : Bool :=
  match o.guard with
  | some jw => match getDst all jw.1 with
    | some t => Nat.beq t d
    | none => false
  | none => false
def noLook (all : List Oper) (d : Nat) (o : Oper) : Bool := !usesT d (opndL o.op) && !grdQ all d o
theorem noLook_spec {ops : Array Oper} {d : Nat} {o : Oper} (h : noLook ops.toList d o = true) : d ∉ o.looksAt ops := by
  simp only [noLook, Bool.and_eq_true, Bool.not_eq_true'] at h
  have h1 := usesT_spec h.1
  rw [opndL_eq] at h1
  have h2 := h.2
  intro hm
  unfold Oper.looksAt at hm
  rcases List.mem_append.1 hm with hm | hm
  · exact h1 hm
  · unfold grdQ at h2
    cases hg : o.guard with
    | none => rw [hg] at hm; simp at hm
    | some jw =>
      obtain ⟨g, b⟩ := jw
      rw [hg] at hm h2
      simp only [getDst_eq, Array.getElem?_toList] at h2
      simp only at hm
      cases hx : ops[g]?.bind (·.dst) with
      | none => rw [hx] at hm; simp at hm
      | some t =>
        rw [hx] at hm h2
        simp only [Option.toList_some, List.mem_singleton] at hm
        subst hm
        simp at h2
def dstNe (x : Option Nat) (d : Nat) : Bool :=
  match x with
  | some e => !Nat.beq e d
  | none => true
def apartQ (all : List Oper) (x y : Oper) : Bool :=
  (match x.dst with
   | some d => noLook all d y && dstNe y.dst d
   | none => true) &&
  (match y.dst with
   | some d => noLook all d x
   | none => true)
theorem apartQ_spec {ops : Array Oper} {x y : Oper} (h : apartQ ops.toList x y = true) : x.apart ops y = true := by
  unfold apartQ at h
  simp only [Bool.and_eq_true] at h
  obtain ⟨h1, h2⟩ := h
  unfold Oper.apart
  simp only [Bool.and_eq_true]
  constructor
  · cases hx : x.dst with
    | none => rfl
    | some d =>
      rw [hx] at h1
      simp only [Bool.and_eq_true] at h1 ⊢
      refine ⟨by simpa using noLook_spec h1.1, ?_⟩
      have h3 := h1.2
      cases hy : y.dst with
      | none => rfl
      | some e =>
        rw [hy] at h3
        simp only [dstNe, Bool.not_eq_true'] at h3
        have : e ≠ d := fun e1 => by subst e1; simp at h3
        simpa using this
  · cases hy : y.dst with
    | none => rfl
    | some d =>
      rw [hy] at h2
      simpa using noLook_spec h2

def freeQ (ops : Array Oper) (D : List Nat) (i : Nat) (oi : Oper) : Nat → List Oper → Bool
  | _, [] => true
  | j, oj :: r => (Nat.beq j i || memB D j || onE i oj.after.toList || apartQ ops.toList oi oj) && freeQ ops D i oi (j + 1) r
theorem freeQ_spec {ops : Array Oper} {D : List Nat} {i : Nat} {oi : Oper} : ∀ {l : List Oper} {j : Nat}, freeQ ops D i oi j l = true → ∀ (d : Nat) (oj : Oper), l[d]? = some oj → j + d ≠ i → memB D (j + d) = false → onE i oj.after.toList = false → oi.apart ops oj = true
  | [], j, _, d, oj, h, _, _, _ => by simp at h
  | o :: r, j, h, d, oj, hd, h1, h2, h3 => by
    simp only [freeQ, Bool.and_eq_true, Bool.or_eq_true] at h
    cases d with
    | zero =>
      simp only [List.getElem?_cons_zero, Option.some.injEq] at hd
      subst hd
      simp only [Nat.add_zero] at h1 h2
      rcases h.1 with ((h4 | h4) | h4) | h4
      · exact absurd (Nat.eq_of_beq_eq_true h4) h1
      · rw [h2] at h4; cases h4
      · rw [h3] at h4; cases h4
      · exact apartQ_spec h4
    | succ d =>
      simp only [List.getElem?_cons_succ] at hd
      exact freeQ_spec h.2 d oj hd (by omega) (by rw [show j + 1 + d = j + (d + 1) by omega]; exact h2) h3
def readyL (D : List Nat) : Nat → List Oper → List (Nat × Oper)
  | _, [] => []
  | i, o :: r => bif !memB D i && allIn D o.after.toList then (i, o) :: readyL D (i + 1) r else readyL D (i + 1) r
theorem readyL_spec {D : List Nat} : ∀ {l : List Oper} {i d : Nat} {o : Oper}, l[d]? = some o → memB D (i + d) = false → allIn D o.after.toList = true → (i + d, o) ∈ readyL D i l
  | [], _, _, _, h, _, _ => by simp at h
  | x :: r, i, d, o, h, h1, h2 => by
    simp only [readyL]
    cases d with
    | zero =>
      simp only [List.getElem?_cons_zero, Option.some.injEq] at h
      subst h
      simp only [Nat.add_zero] at h1 ⊢
      simp [h1, h2]
    | succ d =>
      simp only [List.getElem?_cons_succ] at h
      have ih := readyL_spec (i := i + 1) h (by rw [show i + 1 + d = i + (d + 1) by omega]; exact h1) h2
      rw [show i + 1 + d = i + (d + 1) by omega] at ih
      cases (!memB D i && allIn D x.after.toList) with
      | true => exact List.mem_cons_of_mem _ ih
      | false => exact ih
def eachR : List (Nat × Oper) → (Nat → Oper → Prop) → Prop
  | [], _ => True
  | x :: r, F => match r with
    | [] => F x.1 x.2
    | _ :: _ => F x.1 x.2 ∧ eachR r F
theorem eachR_spec {F : Nat → Oper → Prop} : ∀ {l : List (Nat × Oper)}, eachR l F → ∀ x ∈ l, F x.1 x.2
  | [], _, _, h => by cases h
  | [y], h, x, hx => by
    simp only [List.mem_singleton] at hx
    subst hx
    exact h
  | y :: z :: r, h, x, hx => by
    simp only [eachR] at h
    rcases List.mem_cons.1 hx with rfl | hx
    · exact h.1
    · exact eachR_spec (l := z :: r) h.2 x hx

def wIds (es : List Edge) : List (Nat × Nat) → List Nat
  | [] => []
  | (i, id) :: r => bif onE i es then wIds es r else id :: wIds es r
def wRest (es : List Edge) : List (Nat × Nat) → List (Nat × Nat)
  | [] => []
  | (i, id) :: r => bif onE i es then wRest es r else (i, id) :: wRest es r
theorem wIds_mem {es : List Edge} {i id : Nat} (h : onE i es = false) : ∀ {W : List (Nat × Nat)}, (i, id) ∈ W → memB (wIds es W) id = true
  | [], hm => by cases hm
  | (k, x) :: r, hm => by
    simp only [wIds]
    rcases List.mem_cons.1 hm with e | hm
    · injection e with e1 e2
      subst e1 e2
      simp [h, memB]
    · have ih := wIds_mem h hm
      cases onE k es with
      | true => exact ih
      | false => simp only [cond_false, memB, ih]; cases Nat.beq x id <;> rfl
theorem wRest_mem {es : List Edge} {i id : Nat} (h : onE i es = false) : ∀ {W : List (Nat × Nat)}, (i, id) ∈ W → (i, id) ∈ wRest es W
  | [], hm => by cases hm
  | (k, x) :: r, hm => by
    simp only [wRest]
    rcases List.mem_cons.1 hm with e | hm
    · injection e with e1 e2
      subst e1 e2
      simp [h]
    · have ih := wRest_mem h hm
      cases onE k es with
      | true => exact ih
      | false => exact List.mem_cons_of_mem _ ih
def watch (x : Option Nat) (i : Nat) (W : List (Nat × Nat)) : List (Nat × Nat) :=
  match x with
  | some id => (i, id) :: W
  | none => W

/-! ### One step -/
def qstep (E : Env) (all : List Oper) (o : Oper) (s : Slots) (G : Heap) (K : Slots → Prop) : Prop :=
  match o.guard with
  | none => quiet E.T (ao s) G o.op fun C v => need C (putK E o.dst v s K)
  | some jw => match getDst all jw.1 with
    | some gt => guardK (look s gt) jw.2 fun g w => GuardO g w (putK E o.dst (.opt gt w g .top) s K) <| optCnd s (optOps o.op) none fun C0 => needG g w C0 (quiet E.T (lkG s o.op) G o.op fun C v => needG g w C (putK E o.dst (.opt gt w g v) s K))
    | none => False
def qidOf (o : Oper) (s : Slots) : Option Nat :=
  match o.guard with
  | none => qId (ao s) o.op
  | some _ => qId (lkG s o.op) o.op
def estep (E : Env) (all : List Oper) (o : Oper) (s : Slots) (N : Nat) (G : Heap) (W : List Nat) (K : Slots → Nat → Heap → Prop) : Prop :=
  match o.guard with
  | none => effect E.P E.T (ao s) N (delL (ownIds G W) G) o.op fun v N' G' => putK E o.dst v s fun s' => tidyK (backL (ownIds G W) G G') fun G' => K s' N' G'
  | some jw => match getDst all jw.1 with
    | some gt => guardK (look s gt) jw.2 fun g w => GuardO g w (putK E o.dst (.opt gt w g .top) s fun s' => K s' N G) <| Guess fun v => (g = w → optCnd s o.op.operands.toList none fun C' => need C' (effect E.P E.T (aoS s) N (delL (ownIds G W) G) o.op fun v' N' G' => v' = v ∧ N' = N ∧ sameH G' (delL (ownIds G W) G))) ∧ putK E o.dst (.opt gt w g v) s fun s' => K s' N G
    | none => False

def scanD (E : Env) (ops : Array Oper) (all : List Oper) : Nat → List Oper → List Nat → Slots → Heap → List (Nat × Nat) → (List Nat → Slots → List (Nat × Nat) → Prop) → Prop
  | _, [], D, s, _, W, K => K D s W
  | i, o :: r, D, s, G, W, K => bif !memB D i && allIn D o.after.toList && !isEffect o.op && freeQ ops D i o 0 all then qstep E all o s G fun s' => scanD E ops all (i + 1) r (i :: D) s' G (watch (qidOf o s) i W) K else scanD E ops all (i + 1) r D s G W K
def drawD (E : Env) (ops : Array Oper) (all : List Oper) : Nat → List Nat → Slots → Nat → Heap → List (Nat × Nat) → (Slots → Nat → Heap → Prop) → Prop
  | 0, _, _, _, _, _, _ => False
  | f + 1, D, s, N, G, W, K => scanD E ops all 0 all D s G W fun D s W => match readyL D 0 all with
    | [] => K s N G
    | x :: l => eachR (x :: l) fun j o => match isEffect o.op with
      | true => estep E all o s N G (wIds o.after.toList W) fun s' N' G' => drawD E ops all f (j :: D) s' N' G' (wRest o.after.toList W) K
      | false => qstep E all o s G fun s' => drawD E ops all f (j :: D) s' N G (wRest o.after.toList W) K
def noSel : List Oper → Bool
  | [] => true
  | o :: r => (match o.op with
    | .select _ _ => false
    | _ => true) && noSel r
def evDraw (E : Env) (ops : Array Oper) (s : Slots) (N : Nat) (G : Heap) (K : Slots → Nat → Heap → Prop) : Prop :=
  bif noSel ops.toList && E.P.follows .mixedOrders then drawD E ops ops.toList (ops.toList.length + 1) [] s N G [] K else False

end Go.Sx
