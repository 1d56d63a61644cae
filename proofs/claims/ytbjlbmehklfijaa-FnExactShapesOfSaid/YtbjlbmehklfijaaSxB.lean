/-
  The evaluator's quiet operations (those that leave the world as it is), and that they are sound.
-/
import Derived.Test.YtbjlbmehklfijaaSxA
import Derived.Test.YtbjlbmehklfijaaSxEq
namespace Go.Sx
set_option linter.unusedVariables false
set_option linter.unusedSimpArgs false
open Go

/-! ### Types -/
inductive EK where
  | ints (k : IntKind)
  | r2
  | r3
  | r4
  | bools
  | strs
  | nestI (k : IntKind)
  | nestR2
  | other
  deriving DecidableEq
inductive TD where
  | scalar
  | bool
  | str
  | int (k : IntKind)
  | struct (fs : List (Nat × Nat × Bool))
  | slice (e esz ebytes : Nat) (k : EK)
structure TI where
  d : TD
  size : Nat
  bytes : Nat
  zero : List AV
  eqn : Nat
abbrev Tbl := List (Nat × TI)
def tget : Tbl → Nat → Option TI
  | [], _ => none
  | (k, o) :: r, t => bif Nat.beq k t then some o else tget r t

/-- The cells of an element kind's zero value. -/
def EK.zero : EK → List AV
  | .ints k => [.int k 0]
  | .r2 => [.int .i64 0, .int .i64 0]
  | .r3 => [.int .i64 0, .int .i64 0, .int .i64 0]
  | .r4 => [.int .i64 0, .int .i64 0, .int .i64 0, .int .i64 0]
  | .bools => [.bool false]
  | .strs => [.str ByteArray.empty]
  | .nestI _ => [.nilsl]
  | .nestR2 => [.nilsl]
  | .other => []

def TD.agg : TD → Bool
  | .struct _ => true
  | _ => false

def DescOK (P : Program) (t : TypeId) : TD → Prop
  | .scalar => ∃ d, P.underlying t = some d ∧ (∀ fs, d ≠ .struct fs) ∧ ∀ n e, d ≠ .array n e
  | .bool => P.underlying t = some .bool
  | .str => P.underlying t = some .string
  | .int k => P.underlying t = some (.int k)
  | .struct fs => ∃ fields, P.underlying t = some (.struct fields) ∧ fs.length = fields.size ∧ ∀ (j off sz : Nat) (ag : Bool), fs[j]? = some (off, sz, ag) → ∃ (f : Field) (i : TypeInfo), fields[j]? = some f ∧ f.offset = off ∧ P.info? f.type = some i ∧ i.size = sz ∧ 0 < sz ∧
      (∃ d, P.underlying f.type = some d ∧ (ag = true → ∃ gs, d = .struct gs) ∧ (ag = false → (∀ gs, d ≠ .struct gs) ∧ ∀ n e, d ≠ .array n e))
  | .slice e esz eb k => P.underlying t = some (.slice e) ∧ ∃ i z, P.info? e = some i ∧ i.size = esz ∧ i.bytes = eb ∧ 0 < esz ∧ eb ≤ 64 ∧ i.zero = some z ∧ z.cells.size = esz ∧ (k ≠ .other → k.zero.length = esz ∧ ∀ ρ N, VRL ρ N k.zero z.cells.toList) ∧ ∀ u ∈ z.cells, u.oneCell' = true

structure TIok (P : Program) (t : TypeId) (i : TI) : Prop where
  info : ∃ j z, P.info? t = some j ∧ j.size = i.size ∧ j.bytes = i.bytes ∧ j.zero = some z ∧ (i.zero.length ≠ 0 → z.cells.size = i.size ∧ (∀ ρ N, VRL ρ N i.zero z.cells.toList) ∧ ∀ u ∈ z.cells, u.oneCell' = true)
  desc : DescOK P t i.d
  eq : i.eqn ≠ 0 → EqOK P t i.eqn

def TblOK (P : Program) (T : Tbl) : Prop := ∀ t i, tget T t = some i → TIok P t i

/-! ### A check of the table by reckoning -/
def zchk1 : AV → Value → Bool
  | .int k n, .int k' n' => k == k' && n == n'
  | .bool b, .bool b' => b == b'
  | .str s, .string s' => s.data.toList == s'.data.toList
  | .nilsl, .slice none 0 0 => true
  | .nilptr, .pointer none => true
  | .nilmap, .map none => true
  | _, _ => false
def zchk : List AV → List Value → Bool
  | [], [] => true
  | a :: as, v :: vs => zchk1 a v && zchk as vs
  | _, _ => false

theorem zchk1_sound {a : AV} {v : Value} (h : zchk1 a v = true) : (∀ ρ N, VR ρ N a v) ∧ v.oneCell' = true := by
  cases a <;> cases v <;> simp only [zchk1, Bool.false_eq_true, Bool.and_eq_true, beq_iff_eq] at h
  · obtain ⟨rfl, rfl⟩ := h; exact ⟨fun _ _ => by simp only [VR], rfl⟩
  · subst h; exact ⟨fun _ _ => by simp only [VR], rfl⟩
  · rename_i s s'
    have : s = s' := by
      cases s; cases s'; simp only at h; congr 1; exact Array.ext' h
    subst this; exact ⟨fun _ _ => by simp only [VR], rfl⟩
  · rename_i x l c
    cases x <;> cases l <;> cases c <;> simp only [zchk1, Bool.false_eq_true] at h
    exact ⟨fun _ _ => by simp only [VR], rfl⟩
  · rename_i x
    cases x <;> simp only [zchk1, Bool.false_eq_true] at h
    exact ⟨fun _ _ => by simp only [VR], rfl⟩
  · rename_i x
    cases x <;> simp only [zchk1, Bool.false_eq_true] at h
    exact ⟨fun _ _ => by simp only [VR], rfl⟩

theorem zchk_sound : ∀ {as : List AV} {vs : List Value}, zchk as vs = true → as.length = vs.length ∧ (∀ ρ N, VRL ρ N as vs) ∧ ∀ u ∈ vs, u.oneCell' = true
  | [], [], _ => ⟨rfl, fun _ _ => by simp only [VRL], by simp⟩
  | [], _ :: _, h => by simp [zchk] at h
  | _ :: _, [], h => by simp [zchk] at h
  | a :: as, v :: vs, h => by
    simp only [zchk, Bool.and_eq_true] at h
    obtain ⟨h1, h2⟩ := zchk1_sound h.1
    obtain ⟨l, k1, k2⟩ := zchk_sound h.2
    refine ⟨by simp [l], fun ρ N => ?_, ?_⟩
    · simp only [VRL]; exact ⟨v, vs, rfl, h1 ρ N, k1 ρ N⟩
    · intro u hu
      rcases List.mem_cons.1 hu with rfl | hu
      · exact h2
      · exact k2 u hu

def isPlain : TypeDesc → Bool
  | .struct _ => false
  | .array _ _ => false
  | _ => true
def isStructD : TypeDesc → Bool
  | .struct _ => true
  | _ => false

def fchk (P : Program) : List (Nat × Nat × Bool) → List Field → Bool
  | [], [] => true
  | [], _ :: _ => false
  | (off, sz, ag) :: fs, f :: gs => (f.offset == off) && ((P.info? f.type).any fun i => i.size == sz) && (decide (0 < sz)) && ((P.underlying f.type).any fun d => if ag then isStructD d else isPlain d) && fchk P fs gs
  | _ :: _, [] => false

def dchk (P : Program) (t : TypeId) : TD → Bool
  | .scalar => (P.underlying t).any isPlain
  | .bool => (P.underlying t).any fun d => match d with | .bool => true | _ => false
  | .str => (P.underlying t).any fun d => match d with | .string => true | _ => false
  | .int k => (P.underlying t).any fun d => match d with | .int k' => k == k' | _ => false
  | .struct fs => (P.underlying t).any fun d => match d with | .struct fields => fchk P fs fields.toList | _ => false
  | .slice e esz eb k => ((P.underlying t).any fun d => match d with | .slice e' => e == e' | _ => false) &&
    ((P.info? e).any fun i => i.size == esz && i.bytes == eb && decide (0 < esz) && decide (eb ≤ 64) && (i.zero.any fun z => (z.cells.size == esz) && (z.cells.toList.all fun u => u.oneCell') && (k == .other || (k.zero.length == esz && zchk k.zero z.cells.toList))))
def tchk1 (P : Program) (t : TypeId) (i : TI) : Bool :=
  ((P.info? t).any fun j => j.size == i.size && j.bytes == i.bytes && (j.zero.any fun z => i.zero.length == 0 || (z.cells.size == i.size && zchk i.zero z.cells.toList))) && (dchk P t i.d && (i.eqn == 0 || eqchk P t i.eqn))
def tchk (P : Program) (T : Tbl) : Bool := T.all fun x => tchk1 P x.1 x.2

theorem fchk_length {P : Program} : ∀ {fs : List (Nat × Nat × Bool)} {gs : List Field}, fchk P fs gs = true → fs.length = gs.length
  | [], [], _ => rfl
  | [], _ :: _, h => by simp [fchk] at h
  | _ :: _, [], h => by simp [fchk] at h
  | (_, _, _) :: fs, _ :: gs, h => by
    simp only [fchk, Bool.and_eq_true] at h
    simp [fchk_length h.2]
theorem fchk_sound {P : Program} : ∀ {fs : List (Nat × Nat × Bool)} {gs : List Field}, fchk P fs gs = true → ∀ (j off sz : Nat) (ag : Bool), fs[j]? = some (off, sz, ag) → ∃ (f : Field) (i : TypeInfo), gs[j]? = some f ∧ f.offset = off ∧ P.info? f.type = some i ∧ i.size = sz ∧ 0 < sz ∧
      (∃ d, P.underlying f.type = some d ∧ (ag = true → ∃ gs, d = .struct gs) ∧ (ag = false → (∀ gs, d ≠ .struct gs) ∧ ∀ n e, d ≠ .array n e))
  | [], _, _, j, _, _, _, h => by simp at h
  | _ :: _, [], h, _, _, _, _, _ => by simp [fchk] at h
  | (off, sz, ag) :: fs, f :: gs, h, j, off', sz', ag', hj => by
    simp only [fchk, Bool.and_eq_true, beq_iff_eq, decide_eq_true_eq] at h
    obtain ⟨⟨⟨⟨h1, h2⟩, h3⟩, h4⟩, h5⟩ := h
    cases j with
    | zero =>
      simp only [List.getElem?_cons_zero, Option.some.injEq, Prod.mk.injEq] at hj
      obtain ⟨rfl, rfl, rfl⟩ := hj
      obtain ⟨i, hi, hs⟩ := (Option.any_eq_true _ _).1 h2
      obtain ⟨d, hd, hds⟩ := (Option.any_eq_true _ _).1 h4
      refine ⟨f, i, rfl, h1, hi, by simpa using hs, h3, d, hd, ?_, ?_⟩
      · intro e; subst e
        cases d <;> simp [isStructD] at hds
        exact ⟨_, rfl⟩
      · intro e; subst e
        constructor
        · intro gs' e; subst e; simp [isPlain] at hds
        · intro n e' e; subst e; simp [isPlain] at hds
    | succ j =>
      simp only [List.getElem?_cons_succ] at hj ⊢
      exact fchk_sound h5 j off' sz' ag' hj

theorem dchk_sound {P : Program} {t : TypeId} {d : TD} (h : dchk P t d = true) : DescOK P t d := by
  cases d with
  | scalar =>
    simp only [dchk] at h
    obtain ⟨d, hd, hp⟩ := (Option.any_eq_true _ _).1 h
    exact ⟨d, hd, fun fs e => by subst e; simp [isPlain] at hp, fun n e' e => by subst e; simp [isPlain] at hp⟩
  | bool =>
    simp only [dchk] at h
    obtain ⟨d, hd, hp⟩ := (Option.any_eq_true _ _).1 h
    cases d <;> simp at hp
    exact hd
  | str =>
    simp only [dchk] at h
    obtain ⟨d, hd, hp⟩ := (Option.any_eq_true _ _).1 h
    cases d <;> simp at hp
    exact hd
  | int k =>
    simp only [dchk] at h
    obtain ⟨d, hd, hp⟩ := (Option.any_eq_true _ _).1 h
    cases d <;> simp at hp
    subst hp; exact hd
  | struct fs =>
    simp only [dchk] at h
    obtain ⟨d, hd, hp⟩ := (Option.any_eq_true _ _).1 h
    cases d <;> simp at hp
    rename_i fields
    refine ⟨fields, hd, by simpa using fchk_length hp, fun j off sz ag hj => ?_⟩
    obtain ⟨f, i, hf, hr⟩ := fchk_sound hp j off sz ag hj
    exact ⟨f, i, by simpa using hf, hr⟩
  | slice e esz eb k =>
    simp only [dchk, Bool.and_eq_true] at h
    obtain ⟨h1, h2⟩ := h
    obtain ⟨d, hd, hp⟩ := (Option.any_eq_true _ _).1 h1
    cases d <;> simp at hp
    subst hp
    obtain ⟨i, hi, hq⟩ := (Option.any_eq_true _ _).1 h2
    simp only [Bool.and_eq_true, beq_iff_eq, decide_eq_true_eq] at hq
    obtain ⟨⟨⟨⟨q1, q2⟩, q3⟩, q5⟩, q4⟩ := hq
    obtain ⟨z, hz, hr⟩ := (Option.any_eq_true _ _).1 q4
    simp only [Bool.and_eq_true, beq_iff_eq, Bool.or_eq_true] at hr
    obtain ⟨⟨r1, r2⟩, r3⟩ := hr
    refine ⟨hd, i, z, hi, q1, q2, q3, q5, hz, r1, fun hk => ?_, ?_⟩
    · rcases r3 with r3 | ⟨r3, r4⟩
      · exact absurd r3 hk
      · exact ⟨r3, (zchk_sound r4).2.1⟩
    · intro u hu
      exact List.all_eq_true.1 r2 u (by simpa using hu)

theorem tchk_sound {P : Program} {T : Tbl} (h : tchk P T = true) : TblOK P T := by
  intro t i hti
  have hmem : (t, i) ∈ T := by
    clear h
    induction T with
    | nil => simp [tget] at hti
    | cons x r ih =>
      obtain ⟨k, o⟩ := x
      simp only [tget] at hti
      cases hb : Nat.beq k t with
      | true =>
        simp only [hb, cond_true, Option.some.injEq] at hti
        have := Nat.eq_of_beq_eq_true hb
        subst this hti
        exact List.mem_cons_self
      | false =>
        simp only [hb, cond_false] at hti
        exact List.mem_cons_of_mem _ (ih hti)
  have h1 := List.all_eq_true.1 h _ hmem
  simp only [tchk1, Bool.and_eq_true] at h1
  obtain ⟨h1, h2, h3⟩ := h1
  obtain ⟨j, hj, hq⟩ := (Option.any_eq_true _ _).1 h1
  simp only [Bool.and_eq_true, beq_iff_eq] at hq
  obtain ⟨⟨q1, q2⟩, q3⟩ := hq
  obtain ⟨z, hz, hr⟩ := (Option.any_eq_true _ _).1 q3
  simp only [Bool.or_eq_true, Bool.and_eq_true, beq_iff_eq] at hr
  refine ⟨⟨j, z, hj, q1, q2, hz, fun h0 => ?_⟩, dchk_sound h2, fun h0 => ?_⟩
  rcases hr with hr | ⟨r1, r2⟩
  · exact absurd hr h0
  · obtain ⟨_, k1, k2⟩ := zchk_sound r2
    exact ⟨r1, k1, fun u hu => k2 u (by simpa using hu)⟩
  · simp only [Bool.or_eq_true, beq_iff_eq] at h3
    rcases h3 with h3 | h3
    · exact absurd h3 h0
    · exact eqchk_sound h3

end Go.Sx
