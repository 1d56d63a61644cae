/-
  Regions whose order is drawn: the evaluator.
-/
import Derived.Test.YtbdbjeflgbmejaaSxR
namespace Go.Sx
set_option linter.unusedVariables false
set_option linter.unusedSimpArgs false
open Go
open Go.RowKit

def bnd (e : Edge) : Bool := match e.ground with
  | .textOnly _ => false
  | .gcOnly _ => false
  | _ => true
theorem bnd_eq (e : Edge) : Region.binds .any e = bnd e := by
  unfold Region.binds bnd
  cases e.ground <;> rfl
def onE (i : Nat) : List Edge → Bool
  | [] => false
  | e :: r => (bnd e && Nat.beq e.on i) || onE i r
theorem onE_spec {i : Nat} : ∀ {l : List Edge}, onE i l = true ↔ ∃ e ∈ l, Region.binds .any e = true ∧ e.on = i
  | [] => by simp [onE]
  | e :: r => by
    have ih := onE_spec (i := i) (l := r)
    simp only [onE, Bool.or_eq_true, Bool.and_eq_true, ih, bnd_eq, List.mem_cons, exists_eq_or_imp, Nat.beq_eq]
def allIn (D : List Nat) : List Edge → Bool
  | [] => true
  | e :: r => (!bnd e || memB D e.on) && allIn D r
theorem allIn_spec {D : List Nat} : ∀ {l : List Edge}, allIn D l = true ↔ ∀ e ∈ l, Region.binds .any e = true → memB D e.on = true
  | [] => by simp [allIn]
  | e :: r => by
    have ih := allIn_spec (D := D) (l := r)
    simp only [allIn, Bool.and_eq_true, ih, bnd_eq, List.mem_cons, forall_eq_or_imp, Bool.or_eq_true, Bool.not_eq_true']
    constructor
    · rintro ⟨h1, h2⟩
      exact ⟨fun hb => h1.resolve_left (by simp [hb]), h2⟩
    · rintro ⟨h1, h2⟩
      refine ⟨?_, h2⟩
      cases hb : bnd e with
      | false => exact .inl rfl
      | true => exact .inr (h1 hb)
def freeQ (ops : Array Oper) (D : List Nat) (i : Nat) (oi : Oper) : Nat → List Oper → Bool
  | _, [] => true
  | j, oj :: r => (Nat.beq j i || memB D j || onE i oj.after.toList || oi.apart ops oj) && freeQ ops D i oi (j + 1) r
theorem freeQ_spec {ops : Array Oper} {D : List Nat} {i : Nat} {oi : Oper} : ∀ {l : List Oper} {j : Nat}, freeQ ops D i oi j l = true → ∀ (d : Nat) (oj : Oper), l[d]? = some oj → j + d ≠ i → memB D (j + d) = false → onE i oj.after.toList = false → oi.apart ops oj = true
  | [], j, _, d, oj, h, _, _, _ => by simp at h
  | o :: r, j, h, d, oj, hd, h1, h2, h3 => by
    simp only [freeQ, Bool.and_eq_true, Bool.or_eq_true] at h
    cases d with
    | zero =>
      simp only [List.getElem?_cons_zero, Option.some.injEq] at hd
      subst hd
      simp only [Nat.add_zero] at h1 h2
      rcases h.1 with ((h4 | h4) | h4) | h4
      · exact absurd (Nat.eq_of_beq_eq_true h4) h1
      · rw [h2] at h4; cases h4
      · rw [h3] at h4; cases h4
      · exact h4
    | succ d =>
      simp only [List.getElem?_cons_succ] at hd
      exact freeQ_spec h.2 d oj hd (by omega) (by rw [show j + 1 + d = j + (d + 1) by omega]; exact h2) h3
def readyL (D : List Nat) : Nat → List Oper → List (Nat × Oper)
  | _, [] => []
  | i, o :: r => bif !memB D i && allIn D o.after.toList then (i, o) :: readyL D (i + 1) r else readyL D (i + 1) r
theorem readyL_spec {D : List Nat} : ∀ {l : List Oper} {i d : Nat} {o : Oper}, l[d]? = some o → memB D (i + d) = false → allIn D o.after.toList = true → (i + d, o) ∈ readyL D i l
  | [], _, _, _, h, _, _ => by simp at h
  | x :: r, i, d, o, h, h1, h2 => by
    simp only [readyL]
    cases d with
    | zero =>
      simp only [List.getElem?_cons_zero, Option.some.injEq] at h
      subst h
      simp only [Nat.add_zero] at h1 ⊢
      simp [h1, h2]
    | succ d =>
      simp only [List.getElem?_cons_succ] at h
      have ih := readyL_spec (i := i + 1) h (by rw [show i + 1 + d = i + (d + 1) by omega]; exact h1) h2
      rw [show i + 1 + d = i + (d + 1) by omega] at ih
      cases (!memB D i && allIn D x.after.toList) with
      | true => exact List.mem_cons_of_mem _ ih
      | false => exact ih
def eachR : List (Nat × Oper) → (Nat → Oper → Prop) → Prop
  | [], _ => True
  | x :: r, F => match r with
    | [] => F x.1 x.2
    | _ :: _ => F x.1 x.2 ∧ eachR r F
theorem eachR_spec {F : Nat → Oper → Prop} : ∀ {l : List (Nat × Oper)}, eachR l F → ∀ x ∈ l, F x.1 x.2
  | [], _, _, h => by cases h
  | [y], h, x, hx => by
    simp only [List.mem_singleton] at hx
    subst hx
    exact h
  | y :: z :: r, h, x, hx => by
    simp only [eachR] at h
    rcases List.mem_cons.1 hx with rfl | hx
    · exact h.1
    · exact eachR_spec (l := z :: r) h.2 x hx

def wIds (es : List Edge) : List (Nat × Nat) → List Nat
  | [] => []
  | (i, id) :: r => bif onE i es then wIds es r else id :: wIds es r
def wRest (es : List Edge) : List (Nat × Nat) → List (Nat × Nat)
  | [] => []
  | (i, id) :: r => bif onE i es then wRest es r else (i, id) :: wRest es r
theorem wIds_mem {es : List Edge} {i id : Nat} (h : onE i es = false) : ∀ {W : List (Nat × Nat)}, (i, id) ∈ W → memB (wIds es W) id = true
  | [], hm => by cases hm
  | (k, x) :: r, hm => by
    simp only [wIds]
    rcases List.mem_cons.1 hm with e | hm
    · injection e with e1 e2
      subst e1 e2
      simp [h, memB]
    · have ih := wIds_mem h hm
      cases onE k es with
      | true => exact ih
      | false => simp only [cond_false, memB, ih]; cases Nat.beq x id <;> rfl
theorem wRest_mem {es : List Edge} {i id : Nat} (h : onE i es = false) : ∀ {W : List (Nat × Nat)}, (i, id) ∈ W → (i, id) ∈ wRest es W
  | [], hm => by cases hm
  | (k, x) :: r, hm => by
    simp only [wRest]
    rcases List.mem_cons.1 hm with e | hm
    · injection e with e1 e2
      subst e1 e2
      simp [h]
    · have ih := wRest_mem h hm
      cases onE k es with
      | true => exact ih
      | false => exact List.mem_cons_of_mem _ ih
def watch (x : Option Nat) (i : Nat) (W : List (Nat × Nat)) : List (Nat × Nat) :=
  match x with
  | some id => (i, id) :: W
  | none => W

/-! ### One step -/
def qstep (E : Env) (all : List Oper) (o : Oper) (s : Slots) (G : Heap) (K : Slots → Prop) : Prop :=
  match o.guard with
  | none => quiet E.T (ao s) G o.op fun C v => need C (putK E o.dst v s K)
  | some jw => match getDst all jw.1 with
    | some gt => match look s gt with
      | .bool g => optCnd s o.op.operands.toList none fun C0 => needG g jw.2 C0 (quiet E.T (aoS s) G o.op fun C v => needG g jw.2 C (putK E o.dst (.opt gt jw.2 g v) s K))
      | _ => False
    | none => False
def qidOf (o : Oper) (s : Slots) : Option Nat :=
  match o.guard with
  | none => qId (ao s) o.op
  | some _ => qId (aoS s) o.op
def estep (E : Env) (all : List Oper) (o : Oper) (s : Slots) (N : Nat) (G : Heap) (W : List Nat) (K : Slots → Nat → Heap → Prop) : Prop :=
  match o.guard with
  | none => effect E.P E.T (ao s) N (delL W G) o.op fun v N' G' => putK E o.dst v s fun s' => tidyK (backL W G G') fun G' => K s' N' G'
  | some jw => match getDst all jw.1 with
    | some gt => match look s gt with
      | .bool g => Guess fun v => (g = jw.2 → optCnd s o.op.operands.toList none fun C' => need C' (effect E.P E.T (aoS s) N (delL W G) o.op fun v' N' G' => v' = v ∧ N' = N ∧ sameH G' (delL W G))) ∧ putK E o.dst (.opt gt jw.2 g v) s fun s' => K s' N G
      | _ => False
    | none => False

def scanD (E : Env) (ops : Array Oper) (all : List Oper) : Nat → List Oper → List Nat → Slots → Heap → List (Nat × Nat) → (List Nat → Slots → List (Nat × Nat) → Prop) → Prop
  | _, [], D, s, _, W, K => K D s W
  | i, o :: r, D, s, G, W, K => bif !memB D i && allIn D o.after.toList && !isEffect o.op && freeQ ops D i o 0 all then qstep E all o s G fun s' => scanD E ops all (i + 1) r (i :: D) s' G (watch (qidOf o s) i W) K else scanD E ops all (i + 1) r D s G W K
def drawD (E : Env) (ops : Array Oper) (all : List Oper) : Nat → List Nat → Slots → Nat → Heap → List (Nat × Nat) → (Slots → Nat → Heap → Prop) → Prop
  | 0, _, _, _, _, _, _ => False
  | f + 1, D, s, N, G, W, K => scanD E ops all 0 all D s G W fun D s W => match readyL D 0 all with
    | [] => K s N G
    | x :: l => eachR (x :: l) fun j o => match isEffect o.op with
      | true => estep E all o s N G (wIds o.after.toList W) fun s' N' G' => drawD E ops all f (j :: D) s' N' G' (wRest o.after.toList W) K
      | false => qstep E all o s G fun s' => drawD E ops all f (j :: D) s' N G (wRest o.after.toList W) K
def noSel : List Oper → Bool
  | [] => true
  | o :: r => (match o.op with
    | .select _ _ => false
    | _ => true) && noSel r
def evDraw (E : Env) (ops : Array Oper) (s : Slots) (N : Nat) (G : Heap) (K : Slots → Nat → Heap → Prop) : Prop :=
  bif noSel ops.toList && E.P.follows .mixedOrders then drawD E ops ops.toList (ops.toList.length + 1) [] s N G [] K else False

end Go.Sx
