/-
  The state of a function's run, its operations one after another, and its code.
-/
import Derived.Test.YtbjlbmehklfijaaSxZ2
import Derived.Test.YtbjlbmehklfijaaSxClr
namespace Go.Sx
set_option linter.unusedVariables false
set_option linter.unusedSimpArgs false
open Go
open Go.RowKit

abbrev Slots := List (Nat × AV)
def look : Slots → Nat → AV
  | [], _ => .top
  | (k, v) :: r, t => bif Nat.beq k t then v else look r t

def constAV (v : Value) : AV :=
  match v with
  | .int k n => .int k n
  | .bool b => .bool b
  | .string s => .str s
  | .slice a n c => match a with
    | none => match n with
      | 0 => match c with
        | 0 => .nilsl
        | _ + 1 => .top
      | _ + 1 => .top
    | some _ => .top
  | .pointer a => match a with
    | none => .nilptr
    | some _ => .top
  | .map a => match a with
    | none => .nilmap
    | some _ => .top
  | _ => .top
theorem constAV_ok (ρ : Rho) (N : Nat) (v : Value) : VR ρ N (constAV v) v := by
  unfold constAV
  repeat' split
  all_goals simp only [VR]

def ao (s : Slots) (x : Operand) : AV :=
  match x with
  | .tmp t => look s t
  | .const v => constAV v
  | .func f => .func f []
  | .global _ => .top
/-- A guarded value, seen where its guard is known. -/
def AV.strip (v : AV) : AV :=
  match v with
  | .opt _ _ _ a => a
  | v => v
def aoS (s : Slots) (x : Operand) : AV := (ao s x).strip
/-- The operands of a guarded operation: those of a choice are seen as they are. -/
def opEq (x y : Operand) : Bool :=
  match x with
  | .tmp t => match y with
    | .tmp u => Nat.beq t u
    | _ => false
  | _ => false
theorem opEq_eq {x y : Operand} (h : opEq x y = true) : x = y := by
  unfold opEq at h
  split at h
  · split at h
    · rw [Nat.eq_of_beq_eq_true h]
    · cases h
  · cases h
def lkG (s : Slots) (op : Op) : Operand → AV :=
  match op with
  | .pick c _ _ => fun x => match opEq x c with
    | true => aoS s x
    | false => ao s x
  | _ => aoS s
def optOps (op : Op) : List Operand :=
  match op with
  | .pick c _ _ => [c]
  | op => op.operands.toList
/-- What must be known of the guards of the operands. -/
def optC (s : Slots) : List Operand → (Prop → Prop) → Prop → Prop
  | [], K, c => K c
  | x :: r, K, c => match ao s x with
    | .opt _ w g _ => optC s r K (g = w ∧ c)
    | _ => optC s r K c

/-- A value laid open, for what follows. -/
def forceK (v : AV) (K : AV → Prop) : Prop :=
  match v with
  | .int k n => K (.int k n)
  | .bool b => K (.bool b)
  | .str s => K (.str s)
  | .ptr id p i j => K (.ptr id p i j)
  | .sl id p => K (.sl id p)
  | .sub id p i len cap => K (.sub id p i len cap)
  | .nilsl => K .nilsl
  | .nilptr => K .nilptr
  | .nilmap => K .nilmap
  | .map id => K (.map id)
  | .func f caps => K (.func f caps)
  | .agg cs => K (.agg cs)
  | .tuple vs => K (.tuple vs)
  | .opt gt w g a => K (.opt gt w g a)
  | .top => K .top
theorem forceK_eq {v : AV} {K : AV → Prop} (h : forceK v K) : K v := by
  cases v <;> exact h

structure Env where
  P : Program
  T : Tbl
  nt : Nat
  keep : List Nat

/-- Into a slot. -/
def putK (E : Env) (dst : Option Nat) (v : AV) (s : Slots) (K : Slots → Prop) : Prop :=
  match dst with
  | none => K s
  | some d => bif Nat.blt d E.nt then forceK v fun v => K ((d, v) :: s) else False

def eCall (P : Program) (lk : Operand → AV) (f : Operand) (args : List Operand) (N : Nat) (G : Heap) (K : AV → Nat → Heap → Prop) : Prop :=
  match lk f with
  | .func g caps => ACall P g (args.map lk ++ caps) N G K
  | _ => False

/-- The operations that turn the world. -/
def effect (P : Program) (T : Tbl) (lk : Operand → AV) (N : Nat) (G : Heap) (op : Op) (K : AV → Nat → Heap → Prop) : Prop :=
  match op with
  | .alloc t => eAlloc T t N G K
  | .box _ x => cellsK (lk x) fun cs => eBox cs N G K
  | .store t a x => eStoreX T t (lk a) (lk x) N G K
  | .makeSlice t l c => eMakeX T lk t l c N G K
  | .buildSlice t len parts => eBuildX T lk t len parts.toList N G K
  | .call c => match c.callee with
    | .builtin b => match b with
      | .append => match c.args.toList with
        | [s, x] => match c.argTypes.toList with
          | [t, t2] => eAppendX T t t2 (lk s) (lk x) N G K
          | _ => False
        | _ => False
      | .copy => match c.args.toList with
        | [s, x] => match c.argTypes.toList with
          | [t, _] => eCopy T t (lk s) (lk x) N G K
          | _ => False
        | _ => False
      | .clear => match c.args.toList with
        | [x] => match c.argTypes.toList with
          | [t] => eClear T t (lk x) N G K
          | _ => False
        | _ => False
      | _ => False
    | .value f => eCall P lk f c.args.toList N G K
    | .invoke _ _ => False
  | _ => False

/-- Which operations turn the world? -/
def isEffect (op : Op) : Bool :=
  match op with
  | .alloc _ => true
  | .box _ _ => true
  | .store _ _ _ => true
  | .makeSlice _ _ _ => true
  | .buildSlice _ _ _ => true
  | .call c => match c.callee with
    | .builtin b => match b with
      | .append => true
      | .copy => true
      | .clear => true
      | _ => false
    | .value _ => true
    | .invoke _ _ => true
  | _ => false

section
variable {P : Program} {T : Tbl} {ρ : Rho} {N : Nat} {G : Heap} {w : World}

theorem run_callFunc {f : Nat} (h : FnOK P f) (args : Array Value) (w : World) : (callFunc f args).run P w = .ok (.enter f args) w := by
  obtain ⟨fn, h1, h2, h3⟩ := h.ex
  have h2' : ¬ fn.name = "runtime.NumGoroutine" := by simpa using h2
  have h3' : ¬ fn.body = none := fun e => by rw [e] at h3; cases h3
  simp [callFunc, h1, h2', h3']

theorem VRL_map {lk : Operand → AV} {ev : Operand → Value} (hlk : ∀ x, VR ρ N (lk x) (ev x)) : ∀ l : List Operand, VRL ρ N (l.map lk) (l.map ev)
  | [] => by simp [VRL]
  | x :: r => by simp only [List.map_cons, VRL]; exact ⟨_, _, rfl, hlk x, VRL_map hlk r⟩

theorem effect_sound {lk : Operand → AV} {a : Act} (hT : TblOK P T) (hH : HeapRep ρ N G w) (hlk : ∀ x, VR ρ N (lk x) (a.eval x)) {o : Oper} {K : AV → Nat → Heap → Prop} (h : effect P T lk N G o.op K) (Q : Exit → Act → World → Prop) :
    o.wp P a w (fun a' w' => ∃ v, a' = a.put o.dst v ∧ Out ρ N G w K v w') Q := by
  obtain ⟨dst, op, ty, pos, after, guard⟩ := o
  simp only at h
  have hval : ∀ {s : Sem Next} {v w'}, execOp a.eval ⟨dst, op, ty, pos, after, guard⟩ = s → s.run P w = .ok (.value v) w' → Out ρ N G w K v w' → Oper.wp P ⟨dst, op, ty, pos, after, guard⟩ a w (fun a' w' => ∃ v, a' = a.put dst v ∧ Out ρ N G w K v w') Q := fun {s v w'} he hr ho => by
    unfold Oper.wp; rw [he, hr]; exact ⟨v, rfl, ho⟩
  cases op <;> simp only [effect] at h
  case alloc t =>
    obtain ⟨v, w', h1, h2⟩ := eAlloc_sound hT hH h
    exact hval rfl (by simp [execOp, h1]) h2
  case box t x =>
    obtain ⟨cs, us, h, hc, hu, h1⟩ := cellsK_spec h (hlk x)
    have := eBox_sound hH hu h1 h t
    refine hval rfl (v := .pointer (some ⟨w.heap.size, 0, none⟩)) (w' := w.alloc (.cells us.toArray t)) ?_ this
    simp [execOp, Instr.box, newVar, newRow, hc]
  case store t p x =>
    obtain ⟨w', h1, h2⟩ := eStoreX_sound hT hH h (hlk p) (hlk x)
    unfold Oper.wp
    have : (execOp a.eval ⟨dst, .store t p x, ty, pos, after, guard⟩).run P w = .ok .skip w' := by simp [execOp, h1]
    rw [this]
    exact ⟨undef, rfl, h2⟩
  case makeSlice t l c =>
    obtain ⟨v, w', h1, h2⟩ := eMakeX_sound hT hH hlk (fun x y hs => by
      unfold sameOpd at hs
      split at hs
      · have := Nat.eq_of_beq_eq_true hs; subst this; rfl
      · cases hs) h
    exact hval rfl (by simp [execOp, h1]) h2
  case buildSlice t len parts =>
    obtain ⟨v, w', h1, h2⟩ := eBuildX_sound hT hH hlk h
    refine hval rfl ?_ h2
    have : (parts.map fun x => (x.1, a.eval x.2)) = (parts.toList.map fun x => (x.1, a.eval x.2)).toArray := Array.ext' (by simp)
    simp only [execOp]
    rw [show (parts.map fun (i, x) => (i, a.eval x)) = (parts.toList.map fun x => (x.1, a.eval x.2)).toArray from this]
    simp [h1]
  case call c =>
    split at h
    · rename_i b hcal
      split at h
      case h_4 => exact h.elim
      case h_3 =>
        split at h
        case h_2 => exact h.elim
        rename_i x hargs
        split at h
        case h_2 => exact h.elim
        rename_i t hts
        have ha : c.args = #[x] := Array.ext' hargs
        have ht0 : c.argTypes = #[t] := Array.ext' hts
        obtain ⟨v, w', h1, h2⟩ := eClear_sound (ty := ty) hT hH h (hlk x)
        exact hval rfl (by simp [execOp, resolve, hcal, ha, ht0, invoke, builtin, h1]) h2
      case h_1 =>
        split at h
        case h_2 => exact h.elim
        rename_i s x hargs
        split at h
        case h_2 => exact h.elim
        rename_i t t2 hts
        have ha : c.args = #[s, x] := Array.ext' hargs
        have ht0 : c.argTypes = #[t, t2] := Array.ext' hts
        obtain ⟨v, w', h1, h2⟩ := eAppendX_sound (ty := ty) hT hH h (hlk s) (hlk x)
        exact hval rfl (by simp [execOp, resolve, hcal, ha, ht0, invoke, builtin, h1]) h2
      case h_2 =>
        split at h
        case h_2 => exact h.elim
        rename_i s x hargs
        split at h
        case h_2 => exact h.elim
        rename_i t t2 hts
        have ha : c.args = #[s, x] := Array.ext' hargs
        have ht0 : c.argTypes = #[t, t2] := Array.ext' hts
        obtain ⟨v, w', h1, h2⟩ := eCopy_sound (t2 := t2) (ty := ty) hT hH h (hlk s) (hlk x)
        exact hval rfl (by simp [execOp, resolve, hcal, ha, ht0, invoke, builtin, h1]) h2
    · rename_i f hcal
      unfold eCall at h
      split at h
      case h_2 => exact h.elim
      rename_i g caps hf
      have hv := hlk f
      rw [hf] at hv
      simp only [VR] at hv
      obtain ⟨cs, hev, hcs⟩ := hv
      obtain ⟨hok, hcall⟩ := h
      have hargs := (VRL_map hlk c.args.toList).append hcs
      have hc := hcall ρ w _ hH hargs
      unfold Oper.wp
      have : (execOp a.eval ⟨dst, .call c, ty, pos, after, guard⟩).run P w = .ok (.enter g (c.args.toList.map a.eval ++ cs).toArray) w := by
        simp only [execOp, resolve, hcal, Sem.run_bind, hev, Deferred.ofValue, Sem.run_pure, Result.andThen_ok, invoke]
        rw [show (#[] ++ c.args.map a.eval ++ cs.toArray) = (c.args.toList.map a.eval ++ cs).toArray from Array.ext' (by simp)]
        exact run_callFunc hok _ _
      rw [this]
      simp only [Oper.upon]
      refine hc.mono fun e w' ⟨v, he, ho⟩ => ?_
      subst he
      exact ⟨v, rfl, ho⟩
    · exact h.elim

end
end Go.Sx
