/-
  The state; regions in the order of the text; code without loops; the function rule.
-/
import Derived.Test.YtbjlbmehklfijaaSxL
namespace Go.Sx
set_option linter.unusedVariables false
set_option linter.unusedSimpArgs false
open Go
open Go.RowKit

/-- What stood when the function was entered. -/
structure Entry where
  ρ : Rho
  N : Nat
  G : Heap
  w : World

structure St (E : Env) (B : Entry) (s : Slots) (N : Nat) (G : Heap) (a : Act) (w : World) : Prop where
  ex : ∃ ρ, (∀ t, VR ρ N (look s t) (a.tmps.getD t undef)) ∧ HeapRep ρ N G w ∧ B.N ≤ N ∧ (∀ id, id < B.N → ρ id = B.ρ id) ∧ FrameW (Owns B.ρ B.G) B.w w ∧ ∀ b, Owns ρ G b → B.w.heap.size ≤ b ∨ Owns B.ρ B.G b
  size : a.tmps.size = E.nt
  defers : a.defers = []

/-! ### The heap written out -/
def rowK : List AV → (List AV → Prop) → Prop
  | [], K => K []
  | v :: r, K => forceK v fun v => rowK r fun r' => K (v :: r')
theorem rowK_eq : ∀ {l : List AV} {K : List AV → Prop}, rowK l K → K l
  | [], _, h => h
  | v :: r, K, h => by
    simp only [rowK] at h
    exact rowK_eq (K := fun r' => K (v :: r')) (forceK_eq h)
def rowsK : List (List AV) → (List (List AV) → Prop) → Prop
  | [], K => K []
  | v :: r, K => rowK v fun v => rowsK r fun r' => K (v :: r')
theorem rowsK_eq : ∀ {l : List (List AV)} {K : List (List AV) → Prop}, rowsK l K → K l
  | [], _, h => h
  | v :: r, K, h => by
    simp only [rowsK] at h
    exact rowsK_eq (K := fun r' => K (v :: r')) (rowK_eq h)
def objK (o : AObj) (K : AObj → Prop) : Prop :=
  match o with
  | .flat own f => match f with
    | .gen sz rows => rowsK rows fun rows => K (.flat own (.gen sz rows))
    | .ints k xs => K (.flat own (.ints k xs))
    | .r2 xs => K (.flat own (.r2 xs))
    | .r3 xs => K (.flat own (.r3 xs))
    | .r4 xs => K (.flat own (.r4 xs))
    | .bools xs => K (.flat own (.bools xs))
    | .strs xs => K (.flat own (.strs xs))
    | .rows M off n => K (.flat own (.rows M off n))
  | .nestI own k xss => K (.nestI own k xss)
  | .nestR2 own xss => K (.nestR2 own xss)
theorem objK_eq {o : AObj} {K : AObj → Prop} (h : objK o K) : K o := by
  unfold objK at h
  split at h
  · split at h
    · exact rowsK_eq (K := fun rows => K (.flat _ (.gen _ rows))) h
    all_goals exact h
  · exact h
  · exact h

def tidyK : Heap → (Heap → Prop) → Prop
  | [], K => K []
  | (k, o) :: r, K => objK o fun o' => tidyK r fun r' => K ((k, o') :: r')
theorem tidyK_eq : ∀ {G : Heap} {K : Heap → Prop}, tidyK G K → K G
  | [], _, h => h
  | (k, o) :: r, K, h => by
    simp only [tidyK] at h
    exact tidyK_eq (K := fun r' => K ((k, o) :: r')) (objK_eq h)

def sameH : Heap → Heap → Prop
  | [], [] => True
  | (k, o) :: r, (k', o') :: r' => (bif Nat.beq k k' then o = o' else False) ∧ sameH r r'
  | [], _ :: _ => False
  | _ :: _, [] => False
theorem sameH_eq : ∀ {G G' : Heap}, sameH G G' → G = G'
  | [], [], _ => rfl
  | (k, o) :: r, (k', o') :: r', h => by
    simp only [sameH] at h
    obtain ⟨h1, h2⟩ := h
    cases hb : Nat.beq k k' with
    | true =>
      simp only [hb, cond_true] at h1
      rw [Nat.eq_of_beq_eq_true hb, h1, sameH_eq h2]
    | false => simp [hb] at h1
  | [], _ :: _, h => h.elim
  | _ :: _, [], h => h.elim
/-- A guarded call: its value is told ahead. -/
structure Guess (X : AV → Prop) : Prop where
  ex : ∃ v, X v
theorem guess {A B : AV → Prop} (v : AV) (h : A v) (k : B v) : Guess fun v => A v ∧ B v := ⟨v, h, k⟩

def getDst : List Oper → Nat → Option Nat
  | [], _ => none
  | o :: _, 0 => o.dst
  | _ :: r, j + 1 => getDst r j
theorem getDst_eq : ∀ (l : List Oper) (j : Nat), getDst l j = (l[j]?).bind (·.dst)
  | [], _ => by simp [getDst]
  | _ :: _, 0 => by simp [getDst]
  | _ :: r, j + 1 => by simp [getDst, getDst_eq r j]

def optCnd (s : Slots) : List Operand → Cnd → (Cnd → Prop) → Prop
  | [], c, K => K c
  | x :: r, c, K => match ao s x with
    | .opt _ w g _ => optCnd s r (cAnd (some (g = w)) c) K
    | _ => optCnd s r c K
theorem optCnd_spec (s : Slots) : ∀ {l : List Operand} {c : Cnd} {K : Cnd → Prop}, optCnd s l c K → ∃ c', K c' ∧ (c'.holds → c.holds ∧ ∀ x ∈ l, ∀ gt w g v, ao s x = .opt gt w g v → g = w)
  | [], c, K, h => ⟨c, h, fun hc => ⟨hc, by simp⟩⟩
  | x :: r, c, K, h => by
    simp only [optCnd] at h
    split at h
    · rename_i gt w g v hx
      obtain ⟨c', hK, hc⟩ := optCnd_spec s h
      refine ⟨c', hK, fun hh => ?_⟩
      obtain ⟨h1, h2⟩ := hc hh
      obtain ⟨h3, h4⟩ := cAnd_holds h1
      refine ⟨h4, fun y hy gt' w' g' v' he => ?_⟩
      rcases List.mem_cons.1 hy with rfl | hy
      · rw [hx] at he; cases he; exact h3
      · exact h2 y hy gt' w' g' v' he
    · rename_i hx
      obtain ⟨c', hK, hc⟩ := optCnd_spec s h
      refine ⟨c', hK, fun hh => ?_⟩
      obtain ⟨h1, h2⟩ := hc hh
      refine ⟨h1, fun y hy gt' w' g' v' he => ?_⟩
      rcases List.mem_cons.1 hy with rfl | hy
      · exact absurd he (hx _ _ _ _)
      · exact h2 y hy gt' w' g' v' he

def needG (g want : Bool) (C : Cnd) (X : Prop) : Prop :=
  match C with
  | none => X
  | some c => Side (g = want → c) ∧ X
theorem needG_spec {g want : Bool} {C : Cnd} {X : Prop} (h : needG g want C X) : (g = want → C.holds) ∧ X := by
  cases C with
  | none => exact ⟨fun _ => trivial, h⟩
  | some c => exact ⟨h.1.h, h.2⟩

/-- A guard, that may stand behind another one. -/
def guardK (v : AV) (want : Bool) (K : Bool → Bool → Prop) : Prop :=
  match v with
  | .bool g => K g want
  | .opt _ w g u => match u with
    | .bool b => match w with
      | true => match want with
        | true => K (g && b) true
        | false => K (g && !b) true
      | false => match want with
        | true => K (!g && b) true
        | false => K (!g && !b) true
    | _ => False
  | _ => False
theorem guardK_spec {v : AV} {want : Bool} {K : Bool → Bool → Prop} (h : guardK v want K) : ∃ g w, K g w ∧ ∀ (ρ : Rho) (N : Nat) (u : Value), VR ρ N v u → (u = .bool want ↔ g = w) := by
  unfold guardK at h
  split at h
  · exact ⟨_, _, h, fun ρ N u hu => by simp only [VR] at hu; subst hu; simp⟩
  · split at h
    case h_2 => exact h.elim
    rename_i _ _ w g _ b
    cases w <;> cases want <;> simp only at h <;> refine ⟨_, _, h, fun ρ N u hu => ?_⟩ <;> simp only [VR] at hu <;> obtain ⟨h1, h2⟩ := hu <;> cases g <;> simp at h1 h2 <;> subst_vars <;> cases b <;> simp [undef]
  · exact h.elim

/-- A guard that is seen to say no, or is not seen. -/
structure GuardO (g w : Bool) (A B : Prop) : Prop where
  h : (g ≠ w ∧ A) ∨ B
theorem guard_no {g w : Bool} {A B : Prop} (h : ¬ g = w) (a : A) : GuardO g w A B := ⟨.inl ⟨h, a⟩⟩
theorem guard_go {g w : Bool} {A B : Prop} (b : B) : GuardO g w A B := ⟨.inr b⟩

/-- One operation. -/
def stepK (E : Env) (all : List Oper) (o : Oper) (s : Slots) (N : Nat) (G : Heap) (K : Slots → Nat → Heap → Prop) : Prop :=
  match o.guard with
  | none => match isEffect o.op with
    | true => effect E.P E.T (ao s) N G o.op fun v N' G' => putK E o.dst v s fun s' => tidyK G' fun G' => K s' N' G'
    | false => quiet E.T (ao s) G o.op fun C v => need C (putK E o.dst v s fun s' => K s' N G)
  | some jw => match getDst all jw.1 with
    | some gt => guardK (look s gt) jw.2 fun g w => GuardO g w (putK E o.dst (.opt gt w g .top) s fun s' => K s' N G) <| match isEffect o.op with
      | false => optCnd s (optOps o.op) none fun C0 => needG g w C0 (quiet E.T (lkG s o.op) G o.op fun C v => needG g w C (putK E o.dst (.opt gt w g v) s fun s' => K s' N G))
      | true => Guess fun v => (g = w → optCnd s o.op.operands.toList none fun C' => need C' (effect E.P E.T (aoS s) N G o.op fun v' N' G' => v' = v ∧ N' = N ∧ sameH G' G)) ∧ putK E o.dst (.opt gt w g v) s fun s' => K s' N G
    | none => False

def runOps (E : Env) (all : List Oper) : List Oper → Slots → Nat → Heap → (Slots → Nat → Heap → Prop) → Prop
  | [], s, N, G, K => K s N G
  | o :: r, s, N, G, K => stepK E all o s N G fun s' N' G' => runOps E all r s' N' G' K

section
variable {E : Env} {B : Entry} {s : Slots} {N : Nat} {G : Heap} {a : Act} {w : World}

theorem undef_ne_bool (g : Bool) : (undef : Value) ≠ .bool g := by
  intro h; cases h

theorem VR_ao {ρ : Rho} (h : ∀ t, VR ρ N (look s t) (a.tmps.getD t undef)) (x : Operand) : VR ρ N (ao s x) (a.eval x) := by
  cases x with
  | tmp t => exact h t
  | const v => exact constAV_ok ρ N v
  | global g => simp only [ao, VR]
  | func f => simp only [ao, VR, Act.eval]; exact ⟨[], rfl, by simp [VRL]⟩

/-- The state behind a step that put 'v' into 'dst'. -/
theorem St.put {ρ : Rho} (hs : ∀ t, VR ρ N (look s t) (a.tmps.getD t undef)) (hz : a.tmps.size = E.nt) {dst : Option Nat} {av : AV} {v : Value} {K : Slots → Prop} (h : putK E dst av s K) (hv : VR ρ N av v) :
    ∃ s', K s' ∧ (∀ t, VR ρ N (look s' t) ((a.put dst v).tmps.getD t undef)) ∧ (a.put dst v).tmps.size = E.nt ∧ (a.put dst v).defers = a.defers := by
  cases dst with
  | none => exact ⟨s, h, hs, hz, rfl⟩
  | some d =>
    simp only [putK] at h
    cases hb : Nat.blt d E.nt with
    | false => simp [hb] at h
    | true =>
      simp only [hb, cond_true] at h
      have hd : d < E.nt := by simpa [Nat.blt_eq] using hb
      refine ⟨_, forceK_eq h, fun t => ?_, by simpa [Act.put] using hz, rfl⟩
      simp only [look, Act.put]
      cases h2 : Nat.beq d t with
      | true =>
        have := Nat.eq_of_beq_eq_true h2
        subst this
        simp only [cond_true]
        have : ((a.tmps.setIfInBounds d v).getD d undef) = v := by simp [Array.getD, hz, hd]
        rw [this]; exact hv
      | false =>
        have hne : d ≠ t := fun e => by subst e; simp at h2
        simp only [cond_false]
        have : ((a.tmps.setIfInBounds d v).getD t undef) = a.tmps.getD t undef := by
          simp only [Array.getD_eq_getD_getElem?, Array.getElem?_setIfInBounds_ne hne]
        rw [this]; exact hs t

theorem wanted_none {o : Oper} (h : o.guard = none) (ops : Array Oper) (tmps : Array Value) : Region.wanted o (yielded ops tmps) = true := by simp [Region.wanted, h]
theorem wanted_guard {o : Oper} {jw : Nat × Bool} (h : o.guard = some jw) {ops : Array Oper} {gt : Nat} (hd : getDst ops.toList jw.1 = some gt) {g w : Bool} (hg : a.tmps.getD gt undef = .bool jw.2 ↔ g = w) : Region.wanted o (yielded ops a.tmps) = (g == w) := by
  obtain ⟨j, want⟩ := jw
  have h1 : (ops[j]?).bind (·.dst) = some gt := by rw [getDst_eq] at hd; simpa using hd
  have h3 : Region.wanted o (yielded ops a.tmps) = true ↔ a.tmps.getD gt undef = .bool want := by
    simp only [Region.wanted, h, yielded, h1, Option.bind_some]
    rw [Array.getD_eq_getD_getElem?]
    cases a.tmps[gt]? with
    | none => simp [undef]
    | some v => cases v <;> simp
  rw [Bool.eq_iff_iff, h3, hg]
  simp
/-- The operands of a guarded operation, seen where the guard says yes. -/
theorem seen_opsG {ρ : Rho} (hs : ∀ t, VR ρ N (look s t) (a.tmps.getD t undef)) {op : Op} (hall : ∀ x ∈ optOps op, ∀ gt w g v, ao s x = .opt gt w g v → g = w) :
    ∃ lk : Operand → AV, (∀ x ∈ op.operands.toList, lkG s op x = lk x) ∧ ∀ x, VR ρ N (lk x) (a.eval x) := by
  classical
  have strip : ∀ x ∈ optOps op, VR ρ N (aoS s x) (a.eval x) := fun x hx => by
    have h1 := VR_ao hs x
    unfold aoS AV.strip
    split
    · rename_i gt' w' g' v' he
      rw [he] at h1
      simp only [VR] at h1
      exact h1.1 (hall x hx _ _ _ _ he)
    · exact h1
  refine ⟨fun x => if x ∈ op.operands.toList then lkG s op x else .top, fun x hx => by simp [hx], fun x => ?_⟩
  simp only
  split
  · rename_i hx
    by_cases hp : ∃ c p q, op = .pick c p q
    · obtain ⟨c, p, q, rfl⟩ := hp
      simp only [lkG]
      split
      · rename_i he
        rw [opEq_eq he]
        exact strip c (by simp [optOps])
      · exact VR_ao hs x
    · have e1 : lkG s op = aoS s := by
        cases op <;> first | rfl | exact absurd ⟨_, _, _, rfl⟩ hp
      have e2 : optOps op = op.operands.toList := by
        cases op <;> first | rfl | exact absurd ⟨_, _, _, rfl⟩ hp
      rw [e1]
      exact strip x (by rw [e2]; exact hx)
  · simp only [VR]

theorem partsK_congr {lk lk' : Operand → AV} {fs : List (Nat × Nat × Bool)} : ∀ {parts : List (Nat × Operand)}, (∀ x ∈ parts.map (·.2), lk x = lk' x) → ∀ (cs : List AV) (K : List AV → Prop), partsK lk fs parts cs K = partsK lk' fs parts cs K
  | [], _, _, _ => rfl
  | (i, x) :: r, he, cs, K => by
    have hx : lk x = lk' x := he x (by simp)
    have ih := partsK_congr (fs := fs) (parts := r) (fun y hy => he y (by simp only [List.map_cons, List.mem_cons]; exact .inr hy))
    simp only [partsK, hx, ih]
theorem collectK_congr {lk lk' : Operand → AV} {esz : Nat} : ∀ {parts : List (Nat × Operand)}, (∀ x ∈ parts.map (·.2), lk x = lk' x) → ∀ (k : Nat) (K : List (List AV) → Prop), collectK lk esz k parts K = collectK lk' esz k parts K
  | [], _, _, _ => rfl
  | (i, x) :: r, he, k, K => by
    have hx : lk x = lk' x := he x (by simp)
    have ih := collectK_congr (esz := esz) (parts := r) (fun y hy => he y (by simp only [List.map_cons, List.mem_cons]; exact .inr hy))
    simp only [collectK, hx, ih]

theorem partsK_some {lk : Operand → AV} {fs : List (Nat × Nat × Bool)} : ∀ {parts : List (Nat × Operand)} {cs : List AV} {K : List AV → Prop}, partsK lk fs parts cs K → ∃ ds, K ds
  | [], cs, _, h => ⟨cs, h⟩
  | (i, x) :: r, cs, K, h => by
    simp only [partsK] at h
    obtain ⟨⟨off, sz, ag⟩, _, h⟩ := lrowK_spec h
    have hite : ∀ {b : Bool} {X : Prop}, (bif b then X else False) → X := fun {b X} h => by
      cases b with
      | false => exact h.elim
      | true => exact h
    split at h
    · split at h <;> try exact h.elim
      exact partsK_some (hite h)
    · exact partsK_some (hite h)
    · exact h.elim

theorem quiet_some {T : Tbl} {lk : Operand → AV} {op : Op} {G : Heap} {K : Cnd → AV → Prop} (h : quiet T lk G op K) : ∃ C v, K C v := by
  have hite : ∀ {b : Bool} {X : Prop}, (bif b then X else False) → X := fun {b X} h => by
    cases b with
    | false => exact h.elim
    | true => exact h
  have hite' : ∀ {b : Bool} {X : Prop}, (bif b then False else X) → X := fun {b X} h => by
    cases b with
    | false => exact h
    | true => exact h.elim
  cases op <;> simp only [quiet] at h
  case move x => exact ⟨_, _, h⟩
  case assign x => exact ⟨_, _, h⟩
  case pick c x y =>
    unfold qPick at h
    split at h
    · obtain ⟨C1, b1, h, _⟩ := pickB_spec (ρ := fun _ _ => ⟨0, 0, 0, 0, 0⟩) (N := 0) h
      obtain ⟨C2, b2, h, _⟩ := pickB_spec (ρ := fun _ _ => ⟨0, 0, 0, 0, 0⟩) (N := 0) h
      exact ⟨_, _, h⟩
    · exact h.elim
  case nilCheck x =>
    unfold qNil at h
    split at h
    · exact ⟨_, _, h⟩
    · exact h.elim
  case fieldAddr s x f =>
    unfold qField at h
    repeat' (split at h)
    all_goals try exact h.elim
    obtain ⟨o, _, h⟩ := lrowK_spec h
    exact ⟨_, _, h⟩
  case load t x =>
    unfold qLoad at h
    split at h
    case h_2 => exact h.elim
    split at h
    case h_2 => exact h.elim
    split at h
    case h_2 => exact h.elim
    obtain ⟨C, V, h, _⟩ := nodeV_spec h
    split at h
    · obtain ⟨C, v, h, _⟩ := rdA_spec h; exact ⟨_, _, h⟩
    · obtain ⟨C, v, h, _⟩ := rdC_spec h; exact ⟨_, _, h⟩
  case indexAddr t x ix =>
    unfold qIndex at h
    split at h
    case h_2 => exact h.elim
    split at h
    case h_2 => exact h.elim
    split at h
    case h_2 => exact h.elim
    split at h
    case h_3 => exact h.elim
    · split at h
      case h_2 => exact h.elim
      obtain ⟨C, V, h, _⟩ := nodeV_spec h
      have h := hite h
      rw [NV.nK_eq] at h
      exact ⟨_, _, h⟩
    · split at h
      case h_2 => exact h.elim
      obtain ⟨C, V, h, _⟩ := nodeV_spec h
      exact ⟨_, _, hite h⟩
  case binOp op t x y u =>
    have hnil : ∀ {v : AV} {K : Cnd → Bool → Prop}, nilK G v K → ∃ C b, K C b := fun {v} {K} h => by
      unfold nilK at h
      split at h
      · exact ⟨_, _, h⟩
      · split at h
        case h_2 => exact h.elim
        obtain ⟨C, V, h, _⟩ := nodeV_spec h
        rw [NV.nK_eq] at h
        exact ⟨_, false, h _ (fun _ e => by cases e)⟩
      · exact ⟨_, false, h _ (fun e => by cases e)⟩
      · exact h.elim
    have hen : ∀ {op : BinOp} {x y : AV}, eqNilK T G op t x y K → ∃ C v, K C v := fun {op} {x y} h => by
      unfold eqNilK at h
      split at h
      case h_2 => exact h.elim
      split at h
      case h_2 => exact h.elim
      split at h
      case h_2 => exact h.elim
      split at h
      case h_3 => exact h.elim
      all_goals
        obtain ⟨C, b, h⟩ := hnil h
        exact ⟨_, _, h⟩
    have hbit : ∀ {op : BinOp} {x y : AV}, bitsK op x y K → ∃ C v, K C v := fun {op} {x y} h => by
      unfold bitsK at h
      split at h
      case h_2 => exact h.elim
      split at h
      case h_2 => exact h.elim
      split at h
      case h_1 | h_2 | h_3 => exact ⟨_, _, hite h⟩
      case h_4 | h_5 => exact ⟨_, _, h⟩
      case h_6 => exact h.elim
    unfold qBin at h
    split at h
    · split at h
      · split at h
        · split at h
          · split at h
            · exact ⟨_, _, h⟩
            · exact ⟨_, _, h⟩
            · exact h.elim
          · exact h.elim
        · exact h.elim
      · exact h.elim
    · unfold strK at h
      split at h
      case h_2 => exact h.elim
      split at h
      case h_5 => exact h.elim
      all_goals exact ⟨_, _, h⟩
    · exact hen h
    · exact hen h
    · exact hen h
    · unfold aggEqK at h
      split at h
      case h_2 => exact h.elim
      split at h
      case h_2 => exact h.elim
      obtain ⟨xs, h, _⟩ := aggIK_spec (ρ := fun _ _ => ⟨0, 0, 0, 0, 0⟩) (N := 0) h
      obtain ⟨ys, h, _⟩ := aggIK_spec (ρ := fun _ _ => ⟨0, 0, 0, 0, 0⟩) (N := 0) h
      have h := hite h
      split at h
      · exact ⟨_, _, eqLK_spec (bdLK_spec (bdLK_spec h))⟩
      · exact ⟨_, _, eqLK_spec (bdLK_spec (bdLK_spec h))⟩
      · exact h.elim
    split at h
    case h_1 | h_2 | h_3 | h_4 | h_5 => exact hbit h
    unfold binK at h
    split at h
    case h_12 => exact h.elim
    case h_1 | h_2 | h_3 =>
      obtain ⟨C, m, h, _⟩ := arK_spec (hite h)
      exact ⟨_, _, h⟩
    all_goals exact ⟨_, _, hite h⟩
  case unOp op t x =>
    unfold qUn at h
    split at h
    · split at h
      · exact ⟨_, _, h⟩
      · exact h.elim
    · split at h
      · obtain ⟨C, m, h, _⟩ := arK_spec h
        exact ⟨_, _, h⟩
      · exact h.elim
    · exact h.elim
  case extract x i =>
    unfold qExtract at h
    split at h
    · obtain ⟨o, _, h⟩ := lrowK_spec h
      exact ⟨_, _, h⟩
    · exact h.elim
  case makeFunc fn first caps =>
    unfold qFunc at h
    split at h
    · split at h
      · exact ⟨_, _, h⟩
      · exact h.elim
    · exact h.elim
  case build t parts =>
    unfold qBuild at h
    split at h
    case h_2 => exact h.elim
    split at h
    case h_2 => exact h.elim
    obtain ⟨ds, h⟩ := partsK_some (hite' h)
    exact ⟨_, _, h⟩
  case call c =>
    have hlen : ∀ {v : AV} {K : Cnd → Nat → Prop}, lenK G v K → ∃ C n, K C n := fun {v K} h => by
      unfold lenK at h
      split at h
      · split at h
        · obtain ⟨C, V, h, _⟩ := nodeV_spec h; rw [NV.nK_eq] at h; exact ⟨_, _, h⟩
        · exact h.elim
      · exact ⟨_, _, h⟩
      · exact ⟨_, _, h⟩
      · exact h.elim
    unfold qCall at h
    split at h
    case h_2 => exact h.elim
    split at h
    case h_4 => exact h.elim
    · split at h
      case h_2 => exact h.elim
      split at h
      case h_2 => exact h.elim
      unfold qLen at h
      split at h
      case h_2 => exact h.elim
      split at h
      · obtain ⟨C, n, h⟩ := hlen h; exact ⟨_, _, h⟩
      · split at h
        · exact ⟨_, _, h⟩
        · exact h.elim
      · exact h.elim
    · split at h
      case h_2 => exact h.elim
      unfold qMax at h
      split at h
      case h_2 => exact h.elim
      split at h
      case h_2 => exact h.elim
      exact ⟨_, _, h⟩
    · split at h
      case h_2 => exact h.elim
      unfold qMin at h
      split at h
      case h_2 => exact h.elim
      split at h
      case h_2 => exact h.elim
      exact ⟨_, _, h⟩
  case slice t x lo hi mx =>
    have hhi : ∀ {n : Nat} {K : Cnd → Nat → Prop}, hiK lk hi n K → ∃ C n, K C n := fun {n K} h => by
      unfold hiK at h
      repeat' (split at h)
      all_goals first | exact h.elim | exact ⟨_, _, h⟩
    have hlo : ∀ {n : Nat} {K : Cnd → Nat → Prop}, loK lk lo n K → ∃ C n, K C n := fun {n K} h => by
      unfold loK at h
      repeat' (split at h)
      all_goals first | exact h.elim | exact ⟨_, _, h⟩
    have hsl : ∀ {id : Nat} {p : List Nat} {i len : Nat} {K : Cnd → AV → Prop}, sliceK lk id p i len lo hi mx K → ∃ C v, K C v := fun {id p i len K} h => by
      unfold sliceK at h
      obtain ⟨_, _, h⟩ := hhi h
      obtain ⟨_, _, h⟩ := hlo h
      repeat' (split at h)
      all_goals first | exact h.elim | exact ⟨_, _, h⟩
    unfold qSlice at h
    split at h
    case h_2 => exact h.elim
    split at h
    case h_3 => exact h.elim
    · split at h
      case h_4 => exact h.elim
      · split at h
        case h_2 => exact h.elim
        obtain ⟨C, V, h, _⟩ := nodeV_spec h
        have h := hite h
        rw [NV.nK_eq] at h
        obtain ⟨_, _, h⟩ := hsl h
        exact ⟨_, _, h⟩
      · split at h
        case h_2 => exact h.elim
        obtain ⟨C, V, h, _⟩ := nodeV_spec h
        obtain ⟨_, _, h⟩ := hsl (hite h)
        exact ⟨_, _, h⟩
      · split at h
        case h_2 => exact h.elim
        obtain ⟨_, _, h⟩ := hhi h
        obtain ⟨_, _, h⟩ := hlo h
        exact ⟨_, _, h⟩
    · split at h
      case h_2 => exact h.elim
      split at h
      case h_2 => exact h.elim
      obtain ⟨_, _, h⟩ := hhi h
      obtain ⟨_, _, h⟩ := hlo h
      exact ⟨_, _, h⟩
  case convert s t x =>
    unfold qConv at h
    split at h
    case h_2 => exact h.elim
    split at h
    case h_2 => exact h.elim
    split at h
    case h_2 => exact h.elim
    split at h
    case h_2 => exact h.elim
    exact ⟨_, _, h⟩

theorem quiet_congr {T : Tbl} {lk lk' : Operand → AV} {op : Op} (h : ∀ x ∈ op.operands.toList, lk x = lk' x) (G : Heap) (K : Cnd → AV → Prop) : quiet T lk G op K = quiet T lk' G op K := by
  cases op <;> simp only [quiet]
  case move x => rw [h x (by simp [Op.operands])]
  case assign x => rw [h x (by simp [Op.operands])]
  case pick c x y => simp only [qPick, h c (by simp [Op.operands]), h x (by simp [Op.operands]), h y (by simp [Op.operands])]
  case nilCheck x => rw [h x (by simp [Op.operands])]
  case fieldAddr s x f => rw [h x (by simp [Op.operands])]
  case load t x => rw [h x (by simp [Op.operands])]
  case indexAddr t x ix => rw [h x (by simp [Op.operands]), h ix (by simp [Op.operands])]
  case binOp o t x y u => rw [h x (by simp [Op.operands]), h y (by simp [Op.operands])]
  case unOp o t x => rw [h x (by simp [Op.operands])]
  case extract x i => rw [h x (by simp [Op.operands])]
  case convert s t x => rw [h x (by simp [Op.operands])]
  case slice t x lo hi mx =>
    have e1 : ∀ n K, hiK lk hi n K = hiK lk' hi n K := fun n K => by
      cases hi with
      | none => rfl
      | some y => simp only [hiK, h y (by simp [Op.operands])]
    have e2 : ∀ n K, loK lk lo n K = loK lk' lo n K := fun n K => by
      cases lo with
      | none => rfl
      | some y => simp only [loK, h y (by simp [Op.operands])]
    have e3 : ∀ id p i len K, sliceK lk id p i len lo hi mx K = sliceK lk' id p i len lo hi mx K := fun id p i len K => by
      cases mx with
      | none => simp only [sliceK, e1, e2]
      | some y => simp only [sliceK, e1, e2, h y (by simp [Op.operands])]
    simp only [qSlice, e1, e2, e3, h x (by simp [Op.operands])]
  case makeFunc fn first caps =>
    have : caps.toList.map lk = caps.toList.map lk' := List.map_congr_left fun x hx => h x (by simp [Op.operands]; exact .inr (by simpa using hx))
    simp only [qFunc, this]
  case build t parts =>
    have : ∀ fs cs K, partsK lk fs parts.toList cs K = partsK lk' fs parts.toList cs K := fun fs cs K => partsK_congr (fun x hx => h x (by simpa [Op.operands] using hx)) cs K
    simp only [qBuild, this]
  case call c =>
    have hargs : ∀ x ∈ c.args.toList, lk x = lk' x := fun x hx => h x (by simp [Op.operands, Call.operands]; exact .inr (by simpa using hx))
    unfold qCall
    split
    · split
      · split
        · rename_i x hx; simp only [hargs x (by simp [hx])]
        · rfl
      · split
        · rename_i x y hx; simp only [hargs x (by simp [hx]), hargs y (by simp [hx])]
        · rfl
      · split
        · rename_i x y hx; simp only [hargs x (by simp [hx]), hargs y (by simp [hx])]
        · rfl
      · rfl
    · rfl

theorem effect_congr {P : Program} {T : Tbl} {lk lk' : Operand → AV} {op : Op} (h : ∀ x ∈ op.operands.toList, lk x = lk' x) (N : Nat) (G : Heap) (K : AV → Nat → Heap → Prop) : effect P T lk N G op K = effect P T lk' N G op K := by
  cases op <;> simp only [effect]
  case box t x => rw [h x (by simp [Op.operands])]
  case store t x y => rw [h x (by simp [Op.operands]), h y (by simp [Op.operands])]
  case makeSlice t l c => simp only [eMakeX, eMake, h l (by simp [Op.operands])]
  case buildSlice t len parts =>
    have : ∀ esz k K, collectK lk esz k parts.toList K = collectK lk' esz k parts.toList K := fun esz k K => collectK_congr (fun x hx => h x (by simpa [Op.operands] using hx)) k K
    simp only [eBuildX, eBuildSlice, this]
  case call c =>
    have hargs : ∀ x ∈ c.args.toList, lk x = lk' x := fun x hx => h x (by simp [Op.operands, Call.operands]; exact .inr (by simpa using hx))
    split
    · split
      · split
        · rename_i s x hx; simp only [hargs s (by simp [hx]), hargs x (by simp [hx])]
        · rfl
      · split
        · rename_i s x hx; simp only [hargs s (by simp [hx]), hargs x (by simp [hx])]
        · rfl
      · split
        · rename_i x hx; simp only [hargs x (by simp [hx])]
        · rfl
      · rfl
    · rename_i f hcal
      have hm : c.args.toList.map lk = c.args.toList.map lk' := List.map_congr_left hargs
      have hf : lk f = lk' f := h f (by simp [Op.operands, Call.operands, hcal])
      simp only [eCall, hm, hf]
    · rfl

/-- One operation is sound: whatever comes next is met in the state behind it. -/
theorem stepK_sound (hT : TblOK E.P E.T) {ops : Array Oper} {o : Oper} {K : Slots → Nat → Heap → Prop} (h : stepK E ops.toList o s N G K) (hS : St E B s N G a w) {next : Act → World → Prop} {Q : Exit → Act → World → Prop}
    (hnext : ∀ s' N' G' a' w', K s' N' G' → St E B s' N' G' a' w' → next a' w') :
    if Region.wanted o (yielded ops a.tmps) = true then o.wp E.P a w next Q else next (a.put o.dst undef) w := by
  obtain ⟨⟨ρ, hs, hH, hN, hag, hfr, hown⟩, hz, hdf⟩ := hS
  have hquiet : ∀ {C : Cnd} {v : AV} {K' : Slots → Prop}, (∃ cv, VR ρ N v cv ∧ (execOp a.eval o).run E.P w = .ok (.value cv) w) → putK E o.dst v s K' → (∀ s', K' s' → K s' N G) → o.wp E.P a w next Q := fun {C v K'} ⟨cv, hv, hr⟩ hp hk => by
    obtain ⟨s', hK', q1, q2, q3⟩ := St.put hs hz hp hv
    unfold Oper.wp
    rw [hr]
    exact hnext s' N G _ w (hk s' hK') ⟨⟨ρ, q1, hH, hN, hag, hfr, hown⟩, q2, q3.trans hdf⟩
  unfold stepK at h
  split at h
  · rename_i hg
    rw [if_pos (wanted_none hg ops a.tmps)]
    split at h
    · have hw := effect_sound hT hH (VR_ao hs) h Q
      unfold Oper.wp at hw ⊢
      revert hw
      generalize (execOp a.eval o).run E.P w = r
      have key : ∀ v w', Out ρ N G w (fun v N' G' => putK E o.dst v s fun s' => tidyK G' fun G' => K s' N' G') v w' → next (a.put o.dst v) w' := fun v w' ho => by
        obtain ⟨av, ρ', N', G', hp, hv, hH', hN', hag', hfr', hown'⟩ := ho.ex
        obtain ⟨s', hK', q1, q2, q3⟩ := St.put (fun t => (hs t).mono hN' hag') hz hp hv
        refine hnext s' N' G' _ w' (tidyK_eq hK') ⟨⟨ρ', q1, hH', Nat.le_trans hN hN', fun id hid => (hag' id (Nat.lt_of_lt_of_le hid hN)).trans (hag id hid), ?_, fun b hb => ?_⟩, q2, q3.trans hdf⟩
        · refine hfr.trans hfr' fun i hi ho => ?_
          rcases hown i ho with h | h
          · omega
          · exact h
        · rcases hown' b hb with h | h
          · exact .inl (Nat.le_trans hfr.size h)
          · exact hown b h
      intro hw
      unfold Oper.upon at hw ⊢
      split at hw
      · obtain ⟨v, e, ho⟩ := hw; rw [e]; exact key v _ ho
      · obtain ⟨v, e, ho⟩ := hw; rw [e]; exact key v _ ho
      · obtain ⟨v, e, ho⟩ := hw; rw [e]; exact key v _ ho
      · refine hw.mono fun e w' he => ?_
        cases e with
        | returned u => obtain ⟨v, e, ho⟩ := he; show next (a.put o.dst u) w'; rw [e]; exact key v _ ho
        | panicked c => exact he
        | outgrown => exact he
      · refine hw.mono fun u w' he => ?_
        obtain ⟨v, e, ho⟩ := he; rw [e]; exact key v _ ho
      · exact hw
      · exact hw.elim
    · obtain ⟨C, v, h, hr⟩ := quiet_sound hT hH (VR_ao hs) h
      obtain ⟨hc, hp⟩ := need_spec h
      exact hquiet (C := C) (hr hc) hp (fun _ h => h)
  · rename_i jw hg
    split at h
    case h_2 => exact h.elim
    rename_i gt hd
    obtain ⟨g, gw, h, hgv⟩ := guardK_spec h
    have hwant := wanted_guard hg hd (hgv ρ N _ (hs gt))
    rw [hwant]
    have hskip : (g == gw) = false → ∀ {v : AV} {K' : Slots → Prop}, putK E o.dst (.opt gt gw g v) s K' → (∀ s', K' s' → K s' N G) → next (a.put o.dst undef) w := fun hf {v K'} hp hk => by
      have hne : ¬ g = gw := by simpa using hf
      obtain ⟨s', hK', q1, q2, q3⟩ := St.put (v := undef) hs hz hp (by simp only [VR]; exact ⟨fun e => absurd e hne, fun _ => by trivial⟩)
      exact hnext s' N G _ w (hk s' hK') ⟨⟨ρ, q1, hH, hN, hag, hfr, hown⟩, q2, q3.trans hdf⟩
    rcases h.h with ⟨hno, hp⟩ | h
    · rw [if_neg (by simpa using hno)]
      exact hskip (by simpa using hno) hp (fun _ h => h)
    -- the operands, seen where the guard says yes
    have hlkS : (∀ x ∈ o.op.operands.toList, ∀ gt w g v, ao s x = .opt gt w g v → g = w) → ∃ lk : Operand → AV, (∀ x ∈ o.op.operands.toList, aoS s x = lk x) ∧ ∀ x, VR ρ N (lk x) (a.eval x) := fun hall => by
      classical
      refine ⟨fun x => if x ∈ o.op.operands.toList then aoS s x else .top, fun x hx => by simp [hx], fun x => ?_⟩
      simp only
      split
      · rename_i hx
        have h1 := VR_ao hs x
        unfold aoS AV.strip
        split
        · rename_i gt' w' g' v' he
          rw [he] at h1
          simp only [VR] at h1
          exact h1.1 (hall x hx _ _ _ _ he)
        · exact h1
      · simp only [VR]
    split at h
    · obtain ⟨C0, h, hc0⟩ := optCnd_spec s h
      obtain ⟨h0, h⟩ := needG_spec h
      cases hgw : (g == gw) with
      | true =>
        rw [if_pos rfl]
        have hge : g = gw := by simpa using hgw
        obtain ⟨lk, e1, e2⟩ := seen_opsG hs (hc0 (h0 hge)).2
        rw [quiet_congr e1] at h
        obtain ⟨C, v, h, hr⟩ := quiet_sound hT hH e2 h
        obtain ⟨hc, hp⟩ := needG_spec h
        obtain ⟨cv, hv, hrun⟩ := hr (hc hge)
        exact hquiet (C := C) ⟨cv, by simp only [VR]; exact ⟨fun _ => hv, fun e => absurd hge e⟩, hrun⟩ hp (fun _ h => h)
      | false =>
        rw [if_neg (by simp)]
        obtain ⟨C, v, h⟩ := quiet_some h
        exact hskip hgw (needG_spec h).2 (fun _ h => h)
    · obtain ⟨v, hv, hp⟩ := h.ex
      cases hgw : (g == gw) with
      | false =>
        rw [if_neg (by simp)]
        exact hskip hgw hp (fun _ h => h)
      | true =>
        rw [if_pos rfl]
        have hge : g = gw := by simpa using hgw
        obtain ⟨C', hv, hc⟩ := optCnd_spec s (hv hge)
        obtain ⟨h1, hv⟩ := need_spec hv
        obtain ⟨lk, e1, e2⟩ := hlkS (hc h1).2
        rw [effect_congr e1] at hv
        have hw := effect_sound hT hH e2 hv Q
        unfold Oper.wp at hw ⊢
        revert hw
        generalize (execOp a.eval o).run E.P w = r
        have key : ∀ u w', Out ρ N G w (fun v' N' G' => v' = v ∧ N' = N ∧ sameH G' G) u w' → next (a.put o.dst u) w' := fun u w' ho => by
          have ho := ho.mono (K' := fun v' N' G' => v' = v ∧ N' = N ∧ G' = G) fun _ _ _ ⟨x, y, z⟩ => ⟨x, y, sameH_eq z⟩
          obtain ⟨av, ρ', N', G', ⟨rfl, rfl, rfl⟩, hv', hH', hN', hag', hfr', hown'⟩ := ho.ex
          obtain ⟨s', hK', q1, q2, q3⟩ := St.put (v := u) (fun t => (hs t).mono hN' hag') hz hp (by simp only [VR]; exact ⟨fun _ => hv', fun e => absurd hge e⟩)
          refine hnext s' _ _ _ w' hK' ⟨⟨ρ', q1, hH', hN, fun id hid => (hag' id (Nat.lt_of_lt_of_le hid hN)).trans (hag id hid), ?_, fun b hb => ?_⟩, q2, q3.trans hdf⟩
          · refine hfr.trans hfr' fun i hi ho => ?_
            rcases hown i ho with h | h
            · omega
            · exact h
          · rcases hown' b hb with h | h
            · exact .inl (Nat.le_trans hfr.size h)
            · exact hown b h
        intro hw
        unfold Oper.upon at hw ⊢
        split at hw
        · obtain ⟨v, e, ho⟩ := hw; rw [e]; exact key v _ ho
        · obtain ⟨v, e, ho⟩ := hw; rw [e]; exact key v _ ho
        · obtain ⟨v, e, ho⟩ := hw; rw [e]; exact key v _ ho
        · refine hw.mono fun e w' he => ?_
          cases e with
          | returned u => obtain ⟨v, e, ho⟩ := he; show next (a.put o.dst u) w'; rw [e]; exact key v _ ho
          | panicked c => exact he
          | outgrown => exact he
        · refine hw.mono fun u w' he => ?_
          obtain ⟨v, e, ho⟩ := he; rw [e]; exact key v _ ho
        · exact hw
        · exact hw.elim

theorem runOps_sound (hT : TblOK E.P E.T) {ops : Array Oper} {K : Slots → Nat → Heap → Prop} {Q : Exit → Act → World → Prop} (hQ : ∀ s' N' G' a' w', K s' N' G' → St E B s' N' G' a' w' → Q .normal a' w') :
    ∀ (n i : Nat) (s : Slots) (N : Nat) (G : Heap) (a : Act) (w : World), i + n = ops.size → runOps E ops.toList (ops.toList.drop i) s N G K → St E B s N G a w → wpOps E.P ops Q (List.range' i n) a w
  | 0, i, s, N, G, a, w, hi, h, hS => by
    have : ops.toList.drop i = [] := List.drop_eq_nil_of_le (by simp; omega)
    rw [this] at h
    exact hQ s N G a w h hS
  | n + 1, i, s, N, G, a, w, hi, h, hS => by
    have hlt : i < ops.toList.length := by simp; omega
    rw [List.drop_eq_getElem_cons hlt] at h
    simp only [runOps] at h
    have hget : ops[i]? = some (ops.toList[i]) := by simp [Array.getElem?_eq_getElem (show i < ops.size by omega)]
    have := stepK_sound hT h hS (next := wpOps E.P ops Q (List.range' (i + 1) n)) (Q := Q) (fun s' N' G' a' w' hk hS' => runOps_sound hT hQ n (i + 1) s' N' G' a' w' (by omega) hk hS')
    simp only [List.range'_succ, wpOps, hget]
    split
    · rename_i hw
      rw [if_pos hw] at this
      exact .inl this
    · rename_i hw
      rw [if_neg hw] at this
      exact this

end
end Go.Sx
