/-
  A library of symbolic execution over the kit (part Sa): its own parts, one behind another.
-/
import Derived.WalkKit
import Derived.Lib.ItoaNum
import Derived.Orders
import Derived.MapKept
import Derived.DeepKeys
import Derived.DeepKeys3
import Derived.Laws.BytesArg
/-
  The package-level variables whose contents are known at this program: the block of each, and what its cells are.
-/
namespace Go.Sx
set_option linter.unusedVariables false
set_option linter.unusedSimpArgs false
open Go
def glT : List (Nat × (Array Value → Prop)) := [(1, fun a => a = (Lib.pow10Tab.map fun z => Value.int .u64 z).toArray)]
end Go.Sx

/-
  A library of symbolic execution over the kit's 'Code.wp', typed for this claim: abstract values that name memory objects by numbers, an abstract heap, and what it means that a world bears them.
-/
namespace Go.Sx
set_option linter.unusedVariables false
set_option linter.unusedSimpArgs false
open Go

structure R2 where
  a : Int
  b : Int
  deriving DecidableEq, Inhabited
structure R3 where
  a : Int
  b : Int
  c : Int
  deriving DecidableEq, Inhabited
structure R4 where
  a : Int
  b : Int
  c : Int
  d : Int
  deriving DecidableEq, Inhabited

/-- Where a node of an object lies: block, cell of its first element, cells of an element, number of elements, cells that a slice of it may reach. -/
structure Blk where
  b : Nat
  o : Nat
  sz : Nat
  n : Nat
  tot : Nat

inductive AV where
  | int (k : IntKind) (n : Int)
  | bool (b : Bool)
  | str (s : ByteArray)
  | ptr (id : Nat) (p : List Nat) (i j : Nat)
  | sl (id : Nat) (p : List Nat)
  | sub (id : Nat) (p : List Nat) (i len : Nat) (cap : Option Nat)
  | nilsl
  | nilptr
  | nilmap
  | map (id : Nat)
  | iter (id m : Nat)
  | func (f : Nat) (caps : List AV)
  | agg (cs : List AV)
  | tuple (vs : List AV)
  | opt (gt : Nat) (want : Bool) (g : Bool) (v : AV)
  | top
  deriving Inhabited

/-- The address of a part of a node, as a slice value bears it. -/
def SlRel (B : Blk) (i len c : Nat) (A : Option Addr) : Prop :=
  (A = some ⟨B.b, B.o + i * B.sz, none⟩ ∧ len ≤ c ∧ B.o + (i + c) * B.sz ≤ B.tot) ∨ (len = 0 ∧ c = 0)

abbrev Rho := Nat → List Nat → Blk

mutual
def VR (ρ : Rho) (N : Nat) : AV → Value → Prop
  | .int k n, v => v = .int k n
  | .bool b, v => v = .bool b
  | .str s, v => v = .string s
  | .ptr id p i j, v => id < N ∧ v = .pointer (some ⟨(ρ id p).b, (ρ id p).o + (i * (ρ id p).sz + j), none⟩)
  | .sl id p, v => id < N ∧ ∃ A c, v = .slice A (ρ id p).n c ∧ SlRel (ρ id p) 0 (ρ id p).n c A
  | .sub id p i len cap, v => id < N ∧ ∃ A c, v = .slice A len c ∧ SlRel (ρ id p) i len c A ∧ ∀ c', cap = some c' → c = c'
  | .nilsl, v => v = .slice none 0 0
  | .nilptr, v => v = .pointer none
  | .nilmap, v => v = .map none
  | .map id, v => id < N ∧ v = .map (some (ρ id []).b)
  | .iter id m, v => id < N ∧ m < N ∧ v = .pointer (some ⟨(ρ id []).b, 0, none⟩) ∧ (ρ id []).tot = (ρ m []).b + 1
  | .func f caps, v => ∃ cs, v = .func (.func f) #[] cs.toArray ∧ VRL ρ N caps cs
  | .agg cs, v => ∃ vs, v = .agg vs.toArray ∧ VRL ρ N cs vs ∧ ∀ u ∈ vs, u.oneCell' = true
  | .tuple cs, v => ∃ vs, v = .tuple vs.toArray ∧ VRL ρ N cs vs
  | .opt _ want g a, v => (g = want → VR ρ N a v) ∧ (¬ g = want → v = undef)
  | .top, _ => True
def VRL (ρ : Rho) (N : Nat) : List AV → List Value → Prop
  | [], vs => vs = []
  | a :: as, vs => ∃ v r, vs = v :: r ∧ VR ρ N a v ∧ VRL ρ N as r
end

mutual
theorem VR.mono {ρ ρ' : Rho} {N N' : Nat} (hN : N ≤ N') (hρ : ∀ id, id < N → ρ' id = ρ id) : ∀ (a : AV) (v : Value), VR ρ N a v → VR ρ' N' a v
  | .int _ _, _, h => h
  | .bool _, _, h => h
  | .str _, _, h => h
  | .ptr id p i j, v, h => by simp only [VR] at h ⊢; rw [hρ id h.1]; exact ⟨Nat.lt_of_lt_of_le h.1 hN, h.2⟩
  | .sl id p, v, h => by simp only [VR] at h ⊢; rw [hρ id h.1]; exact ⟨Nat.lt_of_lt_of_le h.1 hN, h.2⟩
  | .sub id p i len cap, v, h => by simp only [VR] at h ⊢; rw [hρ id h.1]; exact ⟨Nat.lt_of_lt_of_le h.1 hN, h.2⟩
  | .nilsl, _, h => h
  | .nilptr, _, h => h
  | .nilmap, _, h => h
  | .map id, v, h => by simp only [VR] at h ⊢; rw [hρ id h.1]; exact ⟨Nat.lt_of_lt_of_le h.1 hN, h.2⟩
  | .iter id m, v, h => by simp only [VR] at h ⊢; rw [hρ id h.1, hρ m h.2.1]; exact ⟨Nat.lt_of_lt_of_le h.1 hN, Nat.lt_of_lt_of_le h.2.1 hN, h.2.2⟩
  | .func f caps, v, h => by
    simp only [VR] at h ⊢
    obtain ⟨cs, e, hc⟩ := h
    exact ⟨cs, e, VRL.mono hN hρ caps cs hc⟩
  | .agg cs, v, h => by
    simp only [VR] at h ⊢
    obtain ⟨vs, e, hc, h1⟩ := h
    exact ⟨vs, e, VRL.mono hN hρ cs vs hc, h1⟩
  | .tuple cs, v, h => by
    simp only [VR] at h ⊢
    obtain ⟨vs, e, hc⟩ := h
    exact ⟨vs, e, VRL.mono hN hρ cs vs hc⟩
  | .opt _ want g a, v, h => by
    simp only [VR] at h ⊢
    exact ⟨fun e => VR.mono hN hρ a v (h.1 e), h.2⟩
  | .top, _, _ => by simp only [VR]
theorem VRL.mono {ρ ρ' : Rho} {N N' : Nat} (hN : N ≤ N') (hρ : ∀ id, id < N → ρ' id = ρ id) : ∀ (as : List AV) (vs : List Value), VRL ρ N as vs → VRL ρ' N' as vs
  | [], _, h => by simp only [VRL] at h ⊢; exact h
  | a :: as, vs, h => by
    simp only [VRL] at h ⊢
    obtain ⟨v, r, e, h1, h2⟩ := h
    exact ⟨v, r, e, VR.mono hN hρ a v h1, VRL.mono hN hρ as r h2⟩
end

theorem VRL.length {ρ : Rho} {N : Nat} : ∀ {as : List AV} {vs : List Value}, VRL ρ N as vs → vs.length = as.length
  | [], _, h => by simp only [VRL] at h; simp [h]
  | _ :: _, _, h => by
    simp only [VRL] at h
    obtain ⟨v, r, rfl, _, h2⟩ := h
    simp [VRL.length h2]

theorem VRL.get {ρ : Rho} {N : Nat} : ∀ {as : List AV} {vs : List Value} (_ : VRL ρ N as vs) (i : Nat) (_ : i < as.length), ∃ v, vs[i]? = some v ∧ VR ρ N (as.getD i .top) v
  | [], _, _, i, hi => by simp at hi
  | a :: as, _, h, i, hi => by
    simp only [VRL] at h
    obtain ⟨v, r, rfl, h1, h2⟩ := h
    cases i with
    | zero => exact ⟨v, rfl, h1⟩
    | succ i => exact VRL.get h2 i (by simpa using hi)

theorem VRL.append {ρ : Rho} {N : Nat} : ∀ {as : List AV} {vs : List Value} {bs : List AV} {us : List Value}, VRL ρ N as vs → VRL ρ N bs us → VRL ρ N (as ++ bs) (vs ++ us)
  | [], _, _, _, h, h' => by simp only [VRL] at h; subst h; exact h'
  | _ :: _, _, _, _, h, h' => by
    simp only [VRL] at h
    obtain ⟨v, r, rfl, h1, h2⟩ := h
    simp only [List.cons_append, VRL]
    exact ⟨v, _, rfl, h1, VRL.append h2 h'⟩

/-! ### Renaming -/
mutual
def AV.ren (m : Nat → Nat) : AV → AV
  | .ptr id p i j => .ptr (m id) p i j
  | .sl id p => .sl (m id) p
  | .sub id p i len cap => .sub (m id) p i len cap
  | .map id => .map (m id)
  | .iter id i => .iter (m id) (m i)
  | .func f caps => .func f (AV.renL m caps)
  | .agg cs => .agg (AV.renL m cs)
  | .tuple cs => .tuple (AV.renL m cs)
  | .opt gt want g a => .opt gt want g (AV.ren m a)
  | .int k n => .int k n
  | .bool b => .bool b
  | .str s => .str s
  | .nilsl => .nilsl
  | .nilptr => .nilptr
  | .nilmap => .nilmap
  | .top => .top
def AV.renL (m : Nat → Nat) : List AV → List AV
  | [] => []
  | a :: as => AV.ren m a :: AV.renL m as
end

-- What holds under the renamed names holds under the names themselves, read through the renaming.
mutual
theorem VR.of_ren {ρ : Rho} {m : Nat → Nat} {N M : Nat} (hm : ∀ id, id < N → m id < M) : ∀ (a : AV) (v : Value), VR (fun id => ρ (m id)) N a v → VR ρ M (a.ren m) v
  | .int _ _, _, h => h
  | .bool _, _, h => h
  | .str _, _, h => h
  | .ptr _ _ _ _, _, h => by simp only [VR, AV.ren] at h ⊢; exact ⟨hm _ h.1, h.2⟩
  | .sl _ _, _, h => by simp only [VR, AV.ren] at h ⊢; exact ⟨hm _ h.1, h.2⟩
  | .sub _ _ _ _ _, _, h => by simp only [VR, AV.ren] at h ⊢; exact ⟨hm _ h.1, h.2⟩
  | .nilsl, _, h => h
  | .nilptr, _, h => h
  | .nilmap, _, h => h
  | .map _, _, h => by simp only [VR, AV.ren] at h ⊢; exact ⟨hm _ h.1, h.2⟩
  | .iter _ _, _, h => by simp only [VR, AV.ren] at h ⊢; exact ⟨hm _ h.1, hm _ h.2.1, h.2.2⟩
  | .func f caps, v, h => by
    simp only [VR, AV.ren] at h ⊢
    obtain ⟨cs, e, hc⟩ := h
    exact ⟨cs, e, VRL.of_ren hm caps cs hc⟩
  | .agg cs, v, h => by
    simp only [VR, AV.ren] at h ⊢
    obtain ⟨vs, e, hc, h1⟩ := h
    exact ⟨vs, e, VRL.of_ren hm cs vs hc, h1⟩
  | .tuple cs, v, h => by
    simp only [VR, AV.ren] at h ⊢
    obtain ⟨vs, e, hc⟩ := h
    exact ⟨vs, e, VRL.of_ren hm cs vs hc⟩
  | .opt _ want g a, v, h => by
    simp only [VR, AV.ren] at h ⊢
    exact ⟨fun e => VR.of_ren hm a v (h.1 e), h.2⟩
  | .top, _, _ => by simp only [VR, AV.ren]
theorem VRL.of_ren {ρ : Rho} {m : Nat → Nat} {N M : Nat} (hm : ∀ id, id < N → m id < M) : ∀ (as : List AV) (vs : List Value), VRL (fun id => ρ (m id)) N as vs → VRL ρ M (AV.renL m as) vs
  | [], _, h => by simp only [VRL, AV.renL] at h ⊢; exact h
  | a :: as, vs, h => by
    simp only [VRL, AV.renL] at h ⊢
    obtain ⟨v, r, e, h1, h2⟩ := h
    exact ⟨v, r, e, VR.of_ren hm a v h1, VRL.of_ren hm as r h2⟩
end

-- The way back.
mutual
def AV.ids (N : Nat) : AV → Bool
  | .ptr id _ _ _ => Nat.blt id N
  | .sl id _ => Nat.blt id N
  | .sub id _ _ _ _ => Nat.blt id N
  | .map id => Nat.blt id N
  | .iter id m => Nat.blt id N && Nat.blt m N
  | .func _ caps => AV.idsL N caps
  | .agg cs => AV.idsL N cs
  | .tuple cs => AV.idsL N cs
  | .opt _ _ _ a => AV.ids N a
  | .int _ _ => true
  | .bool _ => true
  | .str _ => true
  | .nilsl => true
  | .nilptr => true
  | .nilmap => true
  | .top => true
def AV.idsL (N : Nat) : List AV → Bool
  | [] => true
  | a :: as => AV.ids N a && AV.idsL N as
end

mutual
theorem VR.to_ren {ρ : Rho} {m : Nat → Nat} {N M : Nat} : ∀ (a : AV) (v : Value), a.ids N = true → VR ρ M (a.ren m) v → VR (fun id => ρ (m id)) N a v
  | .int _ _, _, _, h => h
  | .bool _, _, _, h => h
  | .str _, _, _, h => h
  | .ptr _ _ _ _, _, hb, h => by simp only [VR, AV.ren, AV.ids, Nat.blt_eq] at h hb ⊢; exact ⟨hb, h.2⟩
  | .sl _ _, _, hb, h => by simp only [VR, AV.ren, AV.ids, Nat.blt_eq] at h hb ⊢; exact ⟨hb, h.2⟩
  | .sub _ _ _ _ _, _, hb, h => by simp only [VR, AV.ren, AV.ids, Nat.blt_eq] at h hb ⊢; exact ⟨hb, h.2⟩
  | .nilsl, _, _, h => h
  | .nilptr, _, _, h => h
  | .nilmap, _, _, h => h
  | .map _, _, hb, h => by simp only [VR, AV.ren, AV.ids, Nat.blt_eq] at h hb ⊢; exact ⟨hb, h.2⟩
  | .iter _ _, _, hb, h => by simp only [VR, AV.ren, AV.ids, Nat.blt_eq, Bool.and_eq_true] at h hb ⊢; exact ⟨hb.1, hb.2, h.2.2⟩
  | .func f caps, v, hb, h => by
    simp only [VR, AV.ren, AV.ids] at h hb ⊢
    obtain ⟨cs, e, hc⟩ := h
    exact ⟨cs, e, VRL.to_ren caps cs hb hc⟩
  | .agg cs, v, hb, h => by
    simp only [VR, AV.ren, AV.ids] at h hb ⊢
    obtain ⟨vs, e, hc, h1⟩ := h
    exact ⟨vs, e, VRL.to_ren cs vs hb hc, h1⟩
  | .tuple cs, v, hb, h => by
    simp only [VR, AV.ren, AV.ids] at h hb ⊢
    obtain ⟨vs, e, hc⟩ := h
    exact ⟨vs, e, VRL.to_ren cs vs hb hc⟩
  | .opt _ want g a, v, hb, h => by
    simp only [VR, AV.ren, AV.ids] at h hb ⊢
    exact ⟨fun e => VR.to_ren a v hb (h.1 e), h.2⟩
  | .top, _, _, _ => by simp only [VR]
theorem VRL.to_ren {ρ : Rho} {m : Nat → Nat} {N M : Nat} : ∀ (as : List AV) (vs : List Value), AV.idsL N as = true → VRL ρ M (AV.renL m as) vs → VRL (fun id => ρ (m id)) N as vs
  | [], _, _, h => by simp only [VRL, AV.renL] at h ⊢; exact h
  | a :: as, vs, hb, h => by
    simp only [VRL, AV.renL, AV.idsL, Bool.and_eq_true] at h hb ⊢
    obtain ⟨v, r, e, h1, h2⟩ := h
    exact ⟨v, r, e, VR.to_ren a v hb.1 h1, VRL.to_ren as r hb.2 h2⟩
end

/-! ### Contents -/
/-- Numbers laid together; 0 leaves the other as it is. -/
def offs (off i : Nat) : Nat :=
  match off with
  | 0 => i
  | o + 1 => o + 1 + i
theorem offs_eq (off i : Nat) : offs off i = off + i := by cases off <;> simp [offs]

inductive Flat where
  | ints (k : IntKind) (xs : List Int)
  | r2 (xs : List R2)
  | r3 (xs : List R3)
  | r4 (xs : List R4)
  | bools (xs : List Bool)
  | strs (xs : List ByteArray)
  | gen (sz : Nat) (xs : List (List AV))
  | rows (M off n : Nat)
  | bld (t : Nat) (p s : AV)
  | tby (t : Nat) (xs : List Int)
  | tops (n : Nat)
  | rowl (M : Nat) (is : List Nat)

structure Node where
  n : Nat
  sz : Nat
  cell : Nat → Nat → AV
  x : Option (Nat → Obj → Prop)
  ty : Option Nat
/-- What the block of an own node is. -/
def Node.blk (nd : Node) (B : Blk) (ob : Obj) : Prop :=
  match nd.x with
  | none => ∃ c t, ob = .cells c t (0, 0) ∧ c.size = B.tot ∧ ∀ t', nd.ty = some t' → t = t' ∧ B.o = 0
  | some Q => Q B.tot ob
theorem Node.blk_congr {nd nd' : Node} (h : nd.x = nd'.x) (ht : nd.ty = nd'.ty) (B : Blk) (ob : Obj) : nd.blk B ob = nd'.blk B ob := by
  unfold Node.blk
  rw [h, ht]

def R2.get (x : R2) : Nat → Int
  | 0 => x.a
  | _ => x.b
def R3.get (x : R3) : Nat → Int
  | 0 => x.a
  | 1 => x.b
  | _ => x.c
def R4.get (x : R4) : Nat → Int
  | 0 => x.a
  | 1 => x.b
  | 2 => x.c
  | _ => x.d

def Flat.n : Flat → Nat
  | .ints _ xs => xs.length
  | .r2 xs => xs.length
  | .r3 xs => xs.length
  | .r4 xs => xs.length
  | .bools xs => xs.length
  | .strs xs => xs.length
  | .gen _ xs => xs.length
  | .rows _ _ n => n
  | .bld _ _ _ => 1
  | .tby _ xs => xs.length
  | .tops n => n
  | .rowl _ is => is.length
def Flat.sz : Flat → Nat
  | .ints _ _ => 1
  | .r2 _ => 2
  | .r3 _ => 3
  | .r4 _ => 4
  | .bools _ => 1
  | .strs _ => 1
  | .gen sz _ => sz
  | .rows _ _ _ => 1
  | .bld _ _ _ => 2
  | .tby _ _ => 1
  | .tops _ => 1
  | .rowl _ _ => 1
def Flat.cell : Flat → Nat → Nat → AV
  | .ints k xs, i, _ => .int k (xs.getD i 0)
  | .r2 xs, i, j => .int .i64 ((xs.getD i default).get j)
  | .r3 xs, i, j => .int .i64 ((xs.getD i default).get j)
  | .r4 xs, i, j => .int .i64 ((xs.getD i default).get j)
  | .bools xs, i, _ => .bool (xs.getD i false)
  | .strs xs, i, _ => .str (xs.getD i ByteArray.empty)
  | .gen _ xs, i, j => (xs.getD i []).getD j .top
  | .rows M off _, i, _ => .sl M [offs off i]
  | .bld _ p s, _, j => match j with
    | 0 => p
    | 1 => s
    | _ + 2 => .top
  | .tby _ xs, i, _ => .int .u8 (xs.getD i 0)
  | .tops _, _, _ => .top
  | .rowl M is, i, _ => .sl M [is.getD i 0]
def Flat.ty : Flat → Option Nat
  | .bld t _ _ => some t
  | .tby t _ => some t
  | _ => none
def Flat.node (f : Flat) : Node := ⟨f.n, f.sz, f.cell, none, f.ty⟩

/-! ### Maps: keys are numbers (or structs of numbers), elements are numbers or truth values -/
inductive MapV where
  | ib (kvs : List (Int × Bool))
  | ii (kvs : List (Int × Int))
  | r3 (clock : Nat) (kvs : List (R3 × Int × Nat))
def encI (n : Int) : Value := .int .i64 n
def enc3 (k : R3) : Value := .agg #[.int .i64 k.a, .int .i64 k.b, .int .i64 k.c]
abbrev ok64 (n : Int) : Prop := -9223372036854775808 ≤ n ∧ n ≤ 9223372036854775807
abbrev ok3 (k : R3) : Prop := ok64 k.a ∧ ok64 k.b ∧ ok64 k.c
def encN (x : Int × Nat) : Value := .int .i64 x.1
def MapV.ents : MapV → List (Value × Value)
  | .ib kvs => kvs.map fun e => (encI e.1, .bool e.2)
  | .ii kvs => kvs.map fun e => (encI e.1, encI e.2)
  | .r3 _ kvs => kvs.map fun e => (enc3 e.1, encN e.2)
/-- What else is known: the keys' bounds, and the entries' births. -/
def MapV.more (es : Array MapEntry) (clock : Nat) : MapV → Prop
  | .ib _ => True
  | .ii _ => True
  | .r3 c kvs => clock = c ∧ es.toList.map (·.born) = kvs.map (·.2.2) ∧ ∀ e ∈ kvs, ok3 e.1
/-- A block that holds such a map. -/
def mapQ (m : MapV) (ob : Obj) : Prop :=
  ∃ es clock, ob = .map es clock ∧ es.toList.map (fun e => (e.key, e.val)) = m.ents ∧ MapKept.Stamped es clock ∧ m.more es clock
/-- An iterator's block: the map's block stands in what is told beside it. -/
def itQ (c : Nat) (seen : List Nat) (tot : Nat) (ob : Obj) : Prop := ob = .mapIter (some (tot - 1)) c seen.reverse.toArray c

inductive AObj where
  | flat (own : Bool) (f : Flat)
  | nestI (own : Bool) (k : IntKind) (xss : List (List Int))
  | nestR2 (own : Bool) (xss : List (List R2))
  | nestH (own : Bool) (R : Nat) (segs : List (Nat × Nat))
  | mp (m : MapV)
  | it (c : Nat) (seen : List Nat) (last : Option (R3 × Int × Nat))

def AObj.own : AObj → Bool
  | .flat o _ => o
  | .nestI o _ _ => o
  | .nestR2 o _ => o
  | .nestH o _ _ => o
  | .mp _ => true
  | .it _ _ _ => true

/-- The nodes of an object: the object itself, and its rows. -/
def AObj.node (id : Nat) : AObj → List Nat → Option Node
  | .flat _ f, [] => some f.node
  | .flat _ _, _ => none
  | .nestI _ k xss, [y] => if y < xss.length then some (Flat.ints k (xss.getD y [])).node else none
  | .nestI _ _ _, _ => none
  | .nestR2 _ xss, [y] => if y < xss.length then some (Flat.r2 (xss.getD y [])).node else none
  | .nestR2 _ _, _ => none
  | .nestH _ R segs, [y] => if y < segs.length then some (Flat.rows R (segs.getD y (0, 0)).1 (segs.getD y (0, 0)).2).node else none
  | .nestH _ _ _, _ => none
  | .mp m, [] => some ⟨0, 1, fun _ _ => .top, some (fun _ => mapQ m), none⟩
  | .mp _, _ => none
  | .it c seen _, [] => some ⟨0, 1, fun _ _ => .top, some (itQ c seen), none⟩
  | .it _ _ _, _ => none

abbrev Heap := List (Nat × AObj)

def hget : Heap → Nat → Option AObj
  | [], _ => none
  | (k, o) :: r, id => bif Nat.beq k id then some o else hget r id

structure NodeAt (G : Heap) (id : Nat) (p : List Nat) (nd : Node) (own : Bool) : Prop where
  mk' ::
  ex : ∃ o, hget G id = some o ∧ o.node id p = some nd ∧ o.own = own

theorem AObj.x_none {o : AObj} {id : Nat} {p : List Nat} {nd : Node} (h : o.node id p = some nd) : nd.x = none ∨ nd.n = 0 := by
  unfold AObj.node at h
  split at h
  · injection h with h; subst h; exact .inl rfl
  · cases h
  · split at h
    · injection h with h; subst h; exact .inl rfl
    · cases h
  · cases h
  · split at h
    · injection h with h; subst h; exact .inl rfl
    · cases h
  · cases h
  · split at h
    · injection h with h; subst h; exact .inl rfl
    · cases h
  · cases h
  · injection h with h; subst h; exact .inr rfl
  · cases h
  · injection h with h; subst h; exact .inr rfl
  · cases h
def AObj.plain : AObj → Bool
  | .mp _ => false
  | .it _ _ _ => false
  | .flat _ f => f.ty.isNone
  | _ => true
theorem AObj.plain_x {o : AObj} (hp : o.plain = true) {id : Nat} {p : List Nat} {nd : Node} (h : o.node id p = some nd) : nd.x = none ∧ nd.ty = none := by
  unfold AObj.node at h
  split at h
  · injection h with h; subst h; exact ⟨rfl, by simpa [AObj.plain, Flat.node] using hp⟩
  · cases h
  · split at h
    · injection h with h; subst h; exact ⟨rfl, rfl⟩
    · cases h
  · cases h
  · split at h
    · injection h with h; subst h; exact ⟨rfl, rfl⟩
    · cases h
  · cases h
  · split at h
    · injection h with h; subst h; exact ⟨rfl, rfl⟩
    · cases h
  · cases h
  · cases hp
  · cases h
  · cases hp
  · cases h

/-- Has a node memory of its own to which nobody else may lead? -/
def Solid (B : Blk) (nd : Node) (own : Bool) : Prop := if own = true then 0 < B.tot else 0 < nd.n * nd.sz

structure HeapRep (ρ : Rho) (N : Nat) (G : Heap) (w : World) : Prop where
  keys : ∀ id o, hget G id = some o → id < N
  shape : ∀ id p nd own, NodeAt G id p nd own → (ρ id p).sz = nd.sz ∧ (ρ id p).n = nd.n ∧ 0 < nd.sz
  rd : ∀ id p nd own, NodeAt G id p nd own → ∀ i, i < nd.n → ∀ j, j < nd.sz → ∃ v, w.cell? ⟨(ρ id p).b, (ρ id p).o + (i * nd.sz + j), none⟩ = some v ∧ VR ρ N (nd.cell i j) v ∧ v.oneCell' = true
  ow : ∀ id p nd, NodeAt G id p nd true → ((ρ id p).tot = 0 ∧ nd.n = 0 ∧ nd.x = none) ∨ (∃ ob, w.heap[(ρ id p).b]? = some ob ∧ nd.blk (ρ id p) ob ∧ 0 < (ρ id p).tot)
  sep : ∀ id p nd id' p' nd' own', NodeAt G id p nd true → NodeAt G id' p' nd' own' → ¬ (id = id' ∧ p = p') → 0 < (ρ id p).tot → Solid (ρ id' p') nd' own' → (ρ id p).b ≠ (ρ id' p').b

/-- The blocks that a heap's own nodes hold. -/
def Owns (ρ : Rho) (G : Heap) (b : Nat) : Prop := ∃ id p nd, NodeAt G id p nd true ∧ 0 < (ρ id p).tot ∧ (ρ id p).b = b

/-- What was there and is not in 'may' is as it was. -/
structure FrameW (may : Nat → Prop) (w w' : World) : Prop where
  os : w'.os = w.os
  tape : w'.tape = w.tape
  output : w'.output = w.output
  size : w.heap.size ≤ w'.heap.size
  block : ∀ k, k < w.heap.size → ¬ may k → w'.heap[k]? = w.heap[k]?
  drawn : w.drawn ≤ w'.drawn

theorem FrameW.refl (may : Nat → Prop) (w : World) : FrameW may w w := ⟨rfl, rfl, rfl, Nat.le_refl _, fun _ _ _ => rfl, Nat.le_refl _⟩
theorem FrameW.trans {may may' : Nat → Prop} {a b c : World} (h : FrameW may a b) (k : FrameW may' b c) (hm : ∀ i, i < a.heap.size → may' i → may i) : FrameW may a c :=
  ⟨k.os.trans h.os, k.tape.trans h.tape, k.output.trans h.output, Nat.le_trans h.size k.size, fun i hi hn =>
    (k.block i (Nat.lt_of_lt_of_le hi h.size) (fun hm' => hn (hm i hi hm'))).trans (h.block i hi hn), Nat.le_trans h.drawn k.drawn⟩

/-- The package-level variables whose contents are known lie as they should, and no own object is laid upon them. -/
structure GOK (ρ : Rho) (G : Heap) (w : World) : Prop where
  lie : ∀ x ∈ glT, ∃ arr t f, w.heap[x.1]? = some (.cells arr t f) ∧ x.2 arr
  no : ∀ x ∈ glT, ¬ Owns ρ G x.1
theorem GOK.sub {ρ ρ' : Rho} {G G' : Heap} {w : World} (h : GOK ρ G w) (ho : ∀ b, Owns ρ' G' b → Owns ρ G b) : GOK ρ' G' w :=
  ⟨h.lie, fun x hx hb => h.no x hx (ho _ hb)⟩
theorem GOK.next {ρ ρ' : Rho} {G G' : Heap} {w w' : World} (h : GOK ρ G w) (hf : FrameW (Owns ρ G) w w') (ho : ∀ b, Owns ρ' G' b → w.heap.size ≤ b ∨ Owns ρ G b) : GOK ρ' G' w' := by
  have hlt : ∀ x ∈ glT, x.1 < w.heap.size := fun x hx => by
    obtain ⟨arr, t, f, e, _⟩ := h.lie x hx
    exact (Array.getElem?_eq_some_iff.1 e).1
  refine ⟨fun x hx => ?_, fun x hx hb => ?_⟩
  · obtain ⟨arr, t, f, e, q⟩ := h.lie x hx
    exact ⟨arr, t, f, (hf.block _ (hlt x hx) (h.no x hx)).trans e, q⟩
  · rcases ho _ hb with h1 | h1
    · have := hlt x hx; omega
    · exact h.no x hx h1

end Go.Sx

/-
  == on structs of int64 fields.
-/
namespace Go.Sx
set_option linter.unusedVariables false
set_option linter.unusedSimpArgs false
open Go

def eqFl (P : Program) : List Field → Nat → Bool
  | [], _ => true
  | f :: r, k => (f.offset == k && P.cellsOf f.type == 1 && f.name != "_" && (match P.underlying f.type with | some (.int .i64) => true | _ => false)) && eqFl P r (k + 1)
def eqchk (P : Program) (t : TypeId) (n : Nat) : Bool :=
  (match P.underlying t with | some (.struct fs) => fs.size == n && P.cellsOf t == n && eqFl P fs.toList 0 | _ => false) && (P.keyTypeAt 3 t && !(P.eqGuardType P.depth t))
abbrev bd64 (n : Int) : Prop := -9223372036854775808 ≤ n ∧ n ≤ 9223372036854775807
theorem wf_of_bd {n : Int} (h : bd64 n) : (Lit.int .i64 n).wf = true := by
  obtain ⟨h1, h2⟩ := h
  simp [Lit.wf, show IntKind.i64.min = -9223372036854775808 from rfl]
  omega
theorem eqFl_lits {P : Program} {d : Nat} : ∀ (l : List Field) (k : Nat) (cs : List Int), eqFl P l k = true → l.length + k = cs.length → (∀ x ∈ cs, bd64 x) →
    ∃ parts, l.mapM (fun f => P.keyLits (d + 1) f.type (((cs.map (Value.int .i64)).drop f.offset).take (P.cellsOf f.type))) = some parts ∧ parts.flatten = (cs.drop k).map (Lit.int .i64)
  | [], k, cs, _, hl, _ => ⟨[], by simp, by simp at hl; simp [← hl]⟩
  | f :: r, k, cs, h, hl, hb => by
    simp only [eqFl, Bool.and_eq_true, beq_iff_eq] at h
    obtain ⟨⟨⟨⟨h1, h2⟩, h3⟩, h4⟩, h5⟩ := h
    obtain ⟨parts, p1, p2⟩ := eqFl_lits (d := d) r (k + 1) cs h5 (by simp at hl; omega) hb
    have hk : k < cs.length := by simp at hl; omega
    have hu : P.underlying f.type = some (.int .i64) := by
      split at h4
      · assumption
      · cases h4
    refine ⟨[.int .i64 cs[k]] :: parts, ?_, ?_⟩
    · rw [List.mapM_cons, p1, h1, h2]
      have e : ((cs.map (Value.int .i64)).drop k).take 1 = [.int .i64 cs[k]] := by
        rw [List.drop_eq_getElem_cons (by simpa using hk)]; simp
      rw [e]
      have : P.keyLits (d + 1) f.type [.int .i64 cs[k]] = some [.int .i64 cs[k]] := by
        unfold Program.keyLits
        rw [hu]
        simp only [true_and]
        rw [if_pos (wf_of_bd (hb _ (List.getElem_mem hk)))]
      rw [this]
      rfl
    · rw [List.flatten_cons, p2, List.drop_eq_getElem_cons hk]
      rfl
def EqOK (P : Program) (t : TypeId) (n : Nat) : Prop :=
  P.eqGuardType P.depth t = false ∧ ∀ (xs ys : List Int), xs.length = n → ys.length = n → (∀ k ∈ xs, bd64 k) → (∀ k ∈ ys, bd64 k) → ∀ w : World,
    (Op.equal t (.agg (xs.map (Value.int .i64)).toArray) (.agg (ys.map (Value.int .i64)).toArray)).run P w = .ok (decide (xs = ys)) w
theorem lits_inj {xs ys : List Int} : xs.map (Lit.int .i64) = ys.map (Lit.int .i64) ↔ xs = ys := by
  refine ⟨fun h => ?_, fun h => by rw [h]⟩
  induction xs generalizing ys with
  | nil => cases ys <;> simp at h ⊢
  | cons x xs ih =>
    cases ys with
    | nil => simp at h
    | cons y ys =>
      simp only [List.map_cons, List.cons.injEq, Lit.int.injEq, true_and] at h
      rw [h.1, ih h.2]
theorem eqchk_sound {P : Program} {t : TypeId} {n : Nat} (h : eqchk P t n = true) : EqOK P t n := by
  simp only [eqchk, Bool.and_eq_true, Bool.not_eq_true'] at h
  obtain ⟨h1, h2, h3⟩ := h
  refine ⟨h3, fun xs ys lx ly bx by' w => ?_⟩
  split at h1
  case h_2 => cases h1
  rename_i fs hu
  simp only [Bool.and_eq_true, beq_iff_eq] at h1
  obtain ⟨⟨e1, e2⟩, e3⟩ := h1
  have hnames : ∀ (l : List Field) (k : Nat), eqFl P l k = true → ∀ f ∈ l, (f.name != "_") = true := by
    intro l
    induction l with
    | nil => simp
    | cons f r ih =>
      intro k hk g hg
      simp only [eqFl, Bool.and_eq_true] at hk
      rcases List.mem_cons.1 hg with rfl | hg
      · exact hk.1.1.2
      · exact ih (k + 1) hk.2 g hg
  have hall : fs.all (·.name != "_") = true := by
    rw [Array.all_eq_true']
    intro f hf
    exact hnames _ _ e3 f (by simpa using hf)
  have key : ∀ cs : List Int, cs.length = n → (∀ x ∈ cs, bd64 x) → P.keyLits 2 t (cs.map (Value.int .i64)) = some (cs.map (Lit.int .i64)) := fun cs hl hb => by
    obtain ⟨parts, p1, p2⟩ := eqFl_lits (d := 0) fs.toList 0 cs e3 (by simp; omega) hb
    unfold Program.keyLits
    rw [hu]
    simp only
    rw [if_pos ⟨by simp; omega, hall⟩, p1]
    simp [p2]
  have hf : ∀ cs : List Int, cs.length = n → (Value.agg (cs.map (Value.int .i64)).toArray).formed P t = true := fun cs hl => by
    simp [Value.formed, hu]; omega
  obtain ⟨r, hr, hiff⟩ := run_equalIn_deep 9997 3 t h2 w 2 2 _ _ _ _ (hf xs lx) (hf ys ly) (by simpa [Value.cells] using key xs lx bx) (by simpa [Value.cells] using key ys ly by')
  have : (Op.equal t (.agg (xs.map (Value.int .i64)).toArray) (.agg (ys.map (Value.int .i64)).toArray)).run P w = .ok r w := hr
  rw [this]
  congr 1
  rw [lits_inj] at hiff
  cases r <;> simp_all
/-- Structs of three numbers as keys. -/
theorem key3_sound {P : Program} {t : TypeId} (h : eqchk P t 3 = true) (ht : P.tiled 3 t = true) (hkt : P.keyType t = true) (hsz : 1 ≤ P.types.size) : WideMaps.KeyLaw P t ∧ ∀ x : R3, ok3 x → ∃ l, keyOf P t (enc3 x) = some l := by
  simp only [eqchk, Bool.and_eq_true, Bool.not_eq_true'] at h
  obtain ⟨h1, h2, h3⟩ := h
  split at h1
  case h_2 => cases h1
  rename_i fs hu
  simp only [Bool.and_eq_true, beq_iff_eq] at h1
  obtain ⟨⟨e1, e2⟩, e3⟩ := h1
  refine ⟨deep_law (m := 3) (by omega) h2 ht (by rw [hu]), fun x hx => ?_⟩
  have hnames : ∀ (l : List Field) (k : Nat), eqFl P l k = true → ∀ f ∈ l, (f.name != "_") = true := by
    intro l
    induction l with
    | nil => simp
    | cons f r ih =>
      intro k hk g hg
      simp only [eqFl, Bool.and_eq_true] at hk
      rcases List.mem_cons.1 hg with rfl | hg
      · exact hk.1.1.2
      · exact ih (k + 1) hk.2 g hg
  have hall : fs.all (·.name != "_") = true := by
    rw [Array.all_eq_true']
    intro f hf
    exact hnames _ _ e3 f (by simpa using hf)
  have key : ∀ (d : Nat), P.keyLits (d + 2) t ([x.a, x.b, x.c].map (Value.int .i64)) = some ([x.a, x.b, x.c].map (Lit.int .i64)) := fun d => by
    obtain ⟨parts, p1, p2⟩ := eqFl_lits (d := d) fs.toList 0 [x.a, x.b, x.c] e3 (by simp; omega) (by intro y hy; simp at hy; rcases hy with rfl | rfl | rfl <;> first | exact hx.1 | exact hx.2.1 | exact hx.2.2)
    unfold Program.keyLits
    rw [hu]
    simp only
    rw [if_pos ⟨by simp; omega, hall⟩, p1]
    simp [p2]
  refine ⟨.string (keyBytes ([x.a, x.b, x.c].map (Lit.int .i64))), ?_⟩
  unfold keyOf
  rw [hu]
  have hf : (enc3 x).formed P t = true := by simp [enc3, Value.formed, hu]; omega
  have := key (P.types.size - 1)
  rw [show P.types.size - 1 + 2 = P.types.size + 1 by omega] at this
  simp only []
  rw [if_pos (by rw [hkt, hf]; rfl)]
  simp only [enc3, Value.cells]
  rw [show [Value.int .i64 x.a, Value.int .i64 x.b, Value.int .i64 x.c] = [x.a, x.b, x.c].map (Value.int .i64) from rfl, this]
  rfl
end Go.Sx

/-
  The evaluator's quiet operations (those that leave the world as it is), and that they are sound.
-/
namespace Go.Sx
set_option linter.unusedVariables false
set_option linter.unusedSimpArgs false
open Go

/-! ### Types -/
inductive EK where
  | ints (k : IntKind)
  | r2
  | r3
  | r4
  | bools
  | strs
  | nestI (k : IntKind)
  | nestR2
  | nestH
  | other
  deriving DecidableEq
inductive TD where
  | scalar
  | bool
  | str
  | int (k : IntKind)
  | struct (fs : List (Nat × Nat × Bool))
  | slice (e esz ebytes : Nat) (k : EK)
  | map (kn : Nat) (bv : Bool)
structure TI where
  d : TD
  size : Nat
  bytes : Nat
  zero : List AV
  eqn : Nat
abbrev Tbl := List (Nat × TI)
def tget : Tbl → Nat → Option TI
  | [], _ => none
  | (k, o) :: r, t => bif Nat.beq k t then some o else tget r t

/-- The cells of an element kind's zero value. -/
def EK.zero : EK → List AV
  | .ints k => [.int k 0]
  | .r2 => [.int .i64 0, .int .i64 0]
  | .r3 => [.int .i64 0, .int .i64 0, .int .i64 0]
  | .r4 => [.int .i64 0, .int .i64 0, .int .i64 0, .int .i64 0]
  | .bools => [.bool false]
  | .strs => [.str ByteArray.empty]
  | .nestI _ => [.nilsl]
  | .nestR2 => [.nilsl]
  | .nestH => [.nilsl]
  | .other => []

def TD.agg : TD → Bool
  | .struct _ => true
  | _ => false

/-- What a map with numbers as keys gives where it has nothing. -/
def mzero : Bool → Value
  | true => .bool false
  | false => .int .i64 0
def zeroIs : Bool → Value → Bool
  | true, .bool b => !b
  | false, .int k n => k == .i64 && n == 0
  | _, _ => false
theorem zeroIs_eq {b : Bool} {v : Value} (h : zeroIs b v = true) : v = mzero b := by
  cases b <;> cases v <;> simp [zeroIs] at h
  · obtain ⟨rfl, rfl⟩ := h; rfl
  · subst h; rfl
/-- Keys: numbers, or structs of three numbers. -/
def KeyIs (P : Program) (k : TypeId) : Nat → Prop
  | 0 => P.underlying k = some (.int .i64)
  | 3 => WideMaps.KeyLaw P k ∧ ∀ x : R3, ok3 x → ∃ l, keyOf P k (enc3 x) = some l
  | _ => False
def DescOK (P : Program) (t : TypeId) : TD → Prop
  | .scalar => ∃ d, P.underlying t = some d ∧ (∀ fs, d ≠ .struct fs) ∧ ∀ n e, d ≠ .array n e
  | .bool => P.underlying t = some .bool
  | .str => P.underlying t = some .string
  | .int k => P.underlying t = some (.int k)
  | .struct fs => ∃ fields, P.underlying t = some (.struct fields) ∧ fs.length = fields.size ∧ ∀ (j off sz : Nat) (ag : Bool), fs[j]? = some (off, sz, ag) → ∃ (f : Field) (i : TypeInfo), fields[j]? = some f ∧ f.offset = off ∧ P.info? f.type = some i ∧ i.size = sz ∧ 0 < sz ∧
      (∃ d, P.underlying f.type = some d ∧ (ag = true → ∃ gs, d = .struct gs) ∧ (ag = false → (∀ gs, d ≠ .struct gs) ∧ ∀ n e, d ≠ .array n e))
  | .slice e esz eb k => P.underlying t = some (.slice e) ∧ ∃ i z, P.info? e = some i ∧ i.size = esz ∧ i.bytes = eb ∧ 0 < esz ∧ eb ≤ 64 ∧ i.zero = some z ∧ z.cells.size = esz ∧ (k ≠ .other → k.zero.length = esz ∧ ∀ ρ N, VRL ρ N k.zero z.cells.toList) ∧ ∀ u ∈ z.cells, u.oneCell' = true
  | .map kn bv => ∃ k e i, P.underlying t = some (.map k e) ∧ KeyIs P k kn ∧ P.info? e = some i ∧ i.zero = some (mzero bv)

structure TIok (P : Program) (t : TypeId) (i : TI) : Prop where
  info : ∃ j z, P.info? t = some j ∧ j.size = i.size ∧ j.bytes = i.bytes ∧ j.zero = some z ∧ (i.zero.length ≠ 0 → z.cells.size = i.size ∧ (∀ ρ N, VRL ρ N i.zero z.cells.toList) ∧ ∀ u ∈ z.cells, u.oneCell' = true)
  desc : DescOK P t i.d
  eq : i.eqn ≠ 0 → EqOK P t i.eqn

def TblOK (P : Program) (T : Tbl) : Prop := ∀ t i, tget T t = some i → TIok P t i

/-! ### A check of the table by reckoning -/
def zchk1 : AV → Value → Bool
  | .int k n, .int k' n' => k == k' && n == n'
  | .bool b, .bool b' => b == b'
  | .str s, .string s' => s.data.toList == s'.data.toList
  | .nilsl, .slice none 0 0 => true
  | .nilptr, .pointer none => true
  | .nilmap, .map none => true
  | .top, v => v.oneCell'
  | _, _ => false
def zchk : List AV → List Value → Bool
  | [], [] => true
  | a :: as, v :: vs => zchk1 a v && zchk as vs
  | _, _ => false

theorem zchk1_sound {a : AV} {v : Value} (h : zchk1 a v = true) : (∀ ρ N, VR ρ N a v) ∧ v.oneCell' = true := by
  by_cases ht : a = .top
  · subst ht
    exact ⟨fun _ _ => by simp only [VR], by simpa only [zchk1] using h⟩
  cases a <;> (try exact absurd rfl ht) <;> cases v <;> simp only [zchk1, Bool.false_eq_true, Bool.and_eq_true, beq_iff_eq] at h
  · obtain ⟨rfl, rfl⟩ := h; exact ⟨fun _ _ => by simp only [VR], rfl⟩
  · subst h; exact ⟨fun _ _ => by simp only [VR], rfl⟩
  · rename_i s s'
    have : s = s' := by
      cases s; cases s'; simp only at h; congr 1; exact Array.ext' h
    subst this; exact ⟨fun _ _ => by simp only [VR], rfl⟩
  · rename_i x l c
    cases x <;> cases l <;> cases c <;> simp only [zchk1, Bool.false_eq_true] at h
    exact ⟨fun _ _ => by simp only [VR], rfl⟩
  · rename_i x
    cases x <;> simp only [zchk1, Bool.false_eq_true] at h
    exact ⟨fun _ _ => by simp only [VR], rfl⟩
  · rename_i x
    cases x <;> simp only [zchk1, Bool.false_eq_true] at h
    exact ⟨fun _ _ => by simp only [VR], rfl⟩

theorem zchk_sound : ∀ {as : List AV} {vs : List Value}, zchk as vs = true → as.length = vs.length ∧ (∀ ρ N, VRL ρ N as vs) ∧ ∀ u ∈ vs, u.oneCell' = true
  | [], [], _ => ⟨rfl, fun _ _ => by simp only [VRL], by simp⟩
  | [], _ :: _, h => by simp [zchk] at h
  | _ :: _, [], h => by simp [zchk] at h
  | a :: as, v :: vs, h => by
    simp only [zchk, Bool.and_eq_true] at h
    obtain ⟨h1, h2⟩ := zchk1_sound h.1
    obtain ⟨l, k1, k2⟩ := zchk_sound h.2
    refine ⟨by simp [l], fun ρ N => ?_, ?_⟩
    · simp only [VRL]; exact ⟨v, vs, rfl, h1 ρ N, k1 ρ N⟩
    · intro u hu
      rcases List.mem_cons.1 hu with rfl | hu
      · exact h2
      · exact k2 u hu

def isPlain : TypeDesc → Bool
  | .struct _ => false
  | .array _ _ => false
  | _ => true
def isStructD : TypeDesc → Bool
  | .struct _ => true
  | _ => false

def fchk (P : Program) : List (Nat × Nat × Bool) → List Field → Bool
  | [], [] => true
  | [], _ :: _ => false
  | (off, sz, ag) :: fs, f :: gs => (f.offset == off) && ((P.info? f.type).any fun i => i.size == sz) && (decide (0 < sz)) && ((P.underlying f.type).any fun d => if ag then isStructD d else isPlain d) && fchk P fs gs
  | _ :: _, [] => false

def keychk (P : Program) (k : TypeId) : Nat → Bool
  | 0 => match P.underlying k with
    | some (.int k') => k' == .i64
    | _ => false
  | 3 => eqchk P k 3 && (P.tiled 3 k && (P.keyType k && decide (1 ≤ P.types.size)))
  | _ => false
theorem keychk_sound {P : Program} {k : TypeId} : ∀ {n : Nat}, keychk P k n = true → KeyIs P k n := by
  intro n h
  unfold keychk at h
  split at h
  · split at h
    · rename_i k' hu
      have : k' = .i64 := by simpa using h
      subst this
      exact hu
    · cases h
  · simp only [Bool.and_eq_true, decide_eq_true_eq] at h
    obtain ⟨h1, h2, h3, h4⟩ := h
    exact key3_sound h1 h2 h3 h4
  · cases h
def dchk (P : Program) (t : TypeId) : TD → Bool
  | .scalar => (P.underlying t).any isPlain
  | .bool => (P.underlying t).any fun d => match d with | .bool => true | _ => false
  | .str => (P.underlying t).any fun d => match d with | .string => true | _ => false
  | .int k => (P.underlying t).any fun d => match d with | .int k' => k == k' | _ => false
  | .struct fs => (P.underlying t).any fun d => match d with | .struct fields => fchk P fs fields.toList | _ => false
  | .slice e esz eb k => ((P.underlying t).any fun d => match d with | .slice e' => e == e' | _ => false) &&
    ((P.info? e).any fun i => i.size == esz && i.bytes == eb && decide (0 < esz) && decide (eb ≤ 64) && (i.zero.any fun z => (z.cells.size == esz) && (z.cells.toList.all fun u => u.oneCell') && (k == .other || (k.zero.length == esz && zchk k.zero z.cells.toList))))
  | .map kn bv => (P.underlying t).any fun d => match d with
    | .map k e => keychk P k kn && ((P.info? e).any fun i => i.zero.any fun z => zeroIs bv z)
    | _ => false
def tchk1 (P : Program) (t : TypeId) (i : TI) : Bool :=
  ((P.info? t).any fun j => j.size == i.size && j.bytes == i.bytes && (j.zero.any fun z => i.zero.length == 0 || (z.cells.size == i.size && zchk i.zero z.cells.toList))) && (dchk P t i.d && (i.eqn == 0 || eqchk P t i.eqn))
def tchk (P : Program) (T : Tbl) : Bool := T.all fun x => tchk1 P x.1 x.2

theorem fchk_length {P : Program} : ∀ {fs : List (Nat × Nat × Bool)} {gs : List Field}, fchk P fs gs = true → fs.length = gs.length
  | [], [], _ => rfl
  | [], _ :: _, h => by simp [fchk] at h
  | _ :: _, [], h => by simp [fchk] at h
  | (_, _, _) :: fs, _ :: gs, h => by
    simp only [fchk, Bool.and_eq_true] at h
    simp [fchk_length h.2]
theorem fchk_sound {P : Program} : ∀ {fs : List (Nat × Nat × Bool)} {gs : List Field}, fchk P fs gs = true → ∀ (j off sz : Nat) (ag : Bool), fs[j]? = some (off, sz, ag) → ∃ (f : Field) (i : TypeInfo), gs[j]? = some f ∧ f.offset = off ∧ P.info? f.type = some i ∧ i.size = sz ∧ 0 < sz ∧
      (∃ d, P.underlying f.type = some d ∧ (ag = true → ∃ gs, d = .struct gs) ∧ (ag = false → (∀ gs, d ≠ .struct gs) ∧ ∀ n e, d ≠ .array n e))
  | [], _, _, j, _, _, _, h => by simp at h
  | _ :: _, [], h, _, _, _, _, _ => by simp [fchk] at h
  | (off, sz, ag) :: fs, f :: gs, h, j, off', sz', ag', hj => by
    simp only [fchk, Bool.and_eq_true, beq_iff_eq, decide_eq_true_eq] at h
    obtain ⟨⟨⟨⟨h1, h2⟩, h3⟩, h4⟩, h5⟩ := h
    cases j with
    | zero =>
      simp only [List.getElem?_cons_zero, Option.some.injEq, Prod.mk.injEq] at hj
      obtain ⟨rfl, rfl, rfl⟩ := hj
      obtain ⟨i, hi, hs⟩ := (Option.any_eq_true _ _).1 h2
      obtain ⟨d, hd, hds⟩ := (Option.any_eq_true _ _).1 h4
      refine ⟨f, i, rfl, h1, hi, by simpa using hs, h3, d, hd, ?_, ?_⟩
      · intro e; subst e
        cases d <;> simp [isStructD] at hds
        exact ⟨_, rfl⟩
      · intro e; subst e
        constructor
        · intro gs' e; subst e; simp [isPlain] at hds
        · intro n e' e; subst e; simp [isPlain] at hds
    | succ j =>
      simp only [List.getElem?_cons_succ] at hj ⊢
      exact fchk_sound h5 j off' sz' ag' hj

theorem dchk_sound {P : Program} {t : TypeId} {d : TD} (h : dchk P t d = true) : DescOK P t d := by
  cases d with
  | scalar =>
    simp only [dchk] at h
    obtain ⟨d, hd, hp⟩ := (Option.any_eq_true _ _).1 h
    exact ⟨d, hd, fun fs e => by subst e; simp [isPlain] at hp, fun n e' e => by subst e; simp [isPlain] at hp⟩
  | bool =>
    simp only [dchk] at h
    obtain ⟨d, hd, hp⟩ := (Option.any_eq_true _ _).1 h
    cases d <;> simp at hp
    exact hd
  | str =>
    simp only [dchk] at h
    obtain ⟨d, hd, hp⟩ := (Option.any_eq_true _ _).1 h
    cases d <;> simp at hp
    exact hd
  | int k =>
    simp only [dchk] at h
    obtain ⟨d, hd, hp⟩ := (Option.any_eq_true _ _).1 h
    cases d <;> simp at hp
    subst hp; exact hd
  | struct fs =>
    simp only [dchk] at h
    obtain ⟨d, hd, hp⟩ := (Option.any_eq_true _ _).1 h
    cases d <;> simp at hp
    rename_i fields
    refine ⟨fields, hd, by simpa using fchk_length hp, fun j off sz ag hj => ?_⟩
    obtain ⟨f, i, hf, hr⟩ := fchk_sound hp j off sz ag hj
    exact ⟨f, i, by simpa using hf, hr⟩
  | slice e esz eb k =>
    simp only [dchk, Bool.and_eq_true] at h
    obtain ⟨h1, h2⟩ := h
    obtain ⟨d, hd, hp⟩ := (Option.any_eq_true _ _).1 h1
    cases d <;> simp at hp
    subst hp
    obtain ⟨i, hi, hq⟩ := (Option.any_eq_true _ _).1 h2
    simp only [Bool.and_eq_true, beq_iff_eq, decide_eq_true_eq] at hq
    obtain ⟨⟨⟨⟨q1, q2⟩, q3⟩, q5⟩, q4⟩ := hq
    obtain ⟨z, hz, hr⟩ := (Option.any_eq_true _ _).1 q4
    simp only [Bool.and_eq_true, beq_iff_eq, Bool.or_eq_true] at hr
    obtain ⟨⟨r1, r2⟩, r3⟩ := hr
    refine ⟨hd, i, z, hi, q1, q2, q3, q5, hz, r1, fun hk => ?_, ?_⟩
    · rcases r3 with r3 | ⟨r3, r4⟩
      · exact absurd r3 hk
      · exact ⟨r3, (zchk_sound r4).2.1⟩
    · intro u hu
      exact List.all_eq_true.1 r2 u (by simpa using hu)
  | map kn bv =>
    simp only [dchk] at h
    obtain ⟨d, hd, hp⟩ := (Option.any_eq_true _ _).1 h
    cases d <;> simp only [Bool.false_eq_true] at hp
    rename_i k e
    simp only [Bool.and_eq_true] at hp
    obtain ⟨i, hi, hp2⟩ := (Option.any_eq_true _ _).1 hp.2
    obtain ⟨z, hz, hp3⟩ := (Option.any_eq_true _ _).1 hp2
    exact ⟨k, e, i, hd, keychk_sound hp.1, hi, by rw [hz, zeroIs_eq hp3]⟩

theorem tchk_sound {P : Program} {T : Tbl} (h : tchk P T = true) : TblOK P T := by
  intro t i hti
  have hmem : (t, i) ∈ T := by
    clear h
    induction T with
    | nil => simp [tget] at hti
    | cons x r ih =>
      obtain ⟨k, o⟩ := x
      simp only [tget] at hti
      cases hb : Nat.beq k t with
      | true =>
        simp only [hb, cond_true, Option.some.injEq] at hti
        have := Nat.eq_of_beq_eq_true hb
        subst this hti
        exact List.mem_cons_self
      | false =>
        simp only [hb, cond_false] at hti
        exact List.mem_cons_of_mem _ (ih hti)
  have h1 := List.all_eq_true.1 h _ hmem
  simp only [tchk1, Bool.and_eq_true] at h1
  obtain ⟨h1, h2, h3⟩ := h1
  obtain ⟨j, hj, hq⟩ := (Option.any_eq_true _ _).1 h1
  simp only [Bool.and_eq_true, beq_iff_eq] at hq
  obtain ⟨⟨q1, q2⟩, q3⟩ := hq
  obtain ⟨z, hz, hr⟩ := (Option.any_eq_true _ _).1 q3
  simp only [Bool.or_eq_true, Bool.and_eq_true, beq_iff_eq] at hr
  refine ⟨⟨j, z, hj, q1, q2, hz, fun h0 => ?_⟩, dchk_sound h2, fun h0 => ?_⟩
  rcases hr with hr | ⟨r1, r2⟩
  · exact absurd hr h0
  · obtain ⟨_, k1, k2⟩ := zchk_sound r2
    exact ⟨r1, k1, fun u hu => k2 u (by simpa using hu)⟩
  · simp only [Bool.or_eq_true, beq_iff_eq] at h3
    rcases h3 with h3 | h3
    · exact absurd h3 h0
    · exact eqchk_sound h3

end Go.Sx

/-
  The evaluator's quiet operations, one by one.
-/
namespace Go.Sx
set_option linter.unusedVariables false
set_option linter.unusedSimpArgs false
open Go

abbrev Cnd := Option Prop
def Cnd.holds : Cnd → Prop
  | none => True
  | some c => c
def cAnd : Cnd → Cnd → Cnd
  | none, c => c
  | some a, none => some a
  | some a, some b => some (a ∧ b)
theorem cAnd_holds {a b : Cnd} (h : (cAnd a b).holds) : a.holds ∧ b.holds := by
  cases a <;> cases b <;> simp_all [cAnd, Cnd.holds]

/-! ### Lists that are written out -/
def lrowK {α : Type} : List α → Nat → (α → Prop) → Prop
  | [], _, _ => False
  | x :: _, 0, K => K x
  | _ :: r, i + 1, K => lrowK r i K
theorem lrowK_spec {α : Type} : ∀ {xs : List α} {i : Nat} {K : α → Prop}, lrowK xs i K → ∃ x, xs[i]? = some x ∧ K x
  | [], _, _, h => by simp [lrowK] at h
  | x :: _, 0, _, h => ⟨x, rfl, h⟩
  | _ :: r, i + 1, _, h => by
    obtain ⟨x, hx, hk⟩ := lrowK_spec (xs := r) h
    exact ⟨x, by simpa using hx, hk⟩
/-- m elements from the j-th on. -/
def ltakeK {α : Type} : List α → Nat → Nat → (List α → Prop) → Prop
  | _, _, 0, K => K []
  | [], _, _ + 1, _ => False
  | x :: r, 0, m + 1, K => ltakeK r 0 m fun xs => K (x :: xs)
  | _ :: r, j + 1, m + 1, K => ltakeK r j (m + 1) K
theorem ltakeK_spec {α : Type} : ∀ {xs : List α} {j m : Nat} {K : List α → Prop}, ltakeK xs j m K → ∃ ys : List α, ys.length = m ∧ (∀ d, d < m → ys[d]? = xs[j + d]?) ∧ (0 < m → j + m ≤ xs.length) ∧ K ys
  | xs, _, 0, _, h => ⟨[], rfl, fun d hd => absurd hd (Nat.not_lt_zero d), fun h => absurd h (Nat.lt_irrefl 0), by cases xs <;> simpa only [ltakeK] using h⟩
  | [], _, _ + 1, _, h => by simp [ltakeK] at h
  | x :: r, 0, m + 1, K, h => by
    obtain ⟨ys, hl, hg, hle, hk⟩ := ltakeK_spec (xs := r) (j := 0) (m := m) h
    refine ⟨x :: ys, by simp [hl], fun d hd => ?_, fun _ => ?_, hk⟩
    · cases d with
      | zero => rfl
      | succ d =>
        have := hg d (by omega)
        simp only [Nat.zero_add] at this ⊢
        simpa using this
    · rcases Nat.eq_zero_or_pos m with h0 | h0
      · subst h0; simp
      · have := hle h0; simp; omega
  | _ :: r, j + 1, m + 1, K, h => by
    obtain ⟨ys, hl, hg, hle, hk⟩ := ltakeK_spec (xs := r) (j := j) (m := m + 1) h
    refine ⟨ys, hl, fun d hd => ?_, fun hm => ?_, hk⟩
    · have := hg d hd
      rw [this, show j + 1 + d = (j + d) + 1 by omega, List.getElem?_cons_succ]
    · have := hle hm; simp; omega

/-! ### What a node shows -/
inductive NV where
  | fl (f : Flat)
def NV.node : NV → Node
  | .fl f => f.node
def nodeV (o : AObj) (id : Nat) (p : List Nat) (K : Cnd → NV → Prop) : Prop :=
  match o, p with
  | .flat _ f, [] => K none (.fl f)
  | .nestI _ k xss, [y] => K (some (y < xss.length)) (.fl (.ints k (xss.getD y [])))
  | .nestR2 _ xss, [y] => K (some (y < xss.length)) (.fl (.r2 (xss.getD y [])))
  | .nestH _ R segs, [y] => K (some (y < segs.length)) (.fl (.rows R (segs.getD y (0, 0)).1 (segs.getD y (0, 0)).2))
  | _, _ => False
theorem nodeV_spec {o : AObj} {id : Nat} {p : List Nat} {K : Cnd → NV → Prop} (h : nodeV o id p K) : ∃ C V, K C V ∧ (C.holds → o.node id p = some V.node) := by
  unfold nodeV at h
  split at h
  · exact ⟨_, _, h, fun _ => rfl⟩
  · exact ⟨_, _, h, fun hc => by simp only [Cnd.holds] at hc; simp [AObj.node, hc, NV.node]⟩
  · exact ⟨_, _, h, fun hc => by simp only [Cnd.holds] at hc; simp [AObj.node, hc, NV.node]⟩
  · exact ⟨_, _, h, fun hc => by simp only [Cnd.holds] at hc; simp [AObj.node, hc, NV.node]⟩
  · exact h.elim

/-- How many elements a node has. -/
def NV.n : NV → Nat
  | .fl (.ints _ xs) => xs.length
  | .fl (.r2 xs) => xs.length
  | .fl (.r3 xs) => xs.length
  | .fl (.r4 xs) => xs.length
  | .fl (.bools xs) => xs.length
  | .fl (.strs xs) => xs.length
  | .fl (.gen _ xs) => xs.length
  | .fl (.rows _ _ n) => n
  | .fl (.bld _ _ _) => 1
  | .fl (.tby _ xs) => xs.length
  | .fl (.tops n) => n
  | .fl (.rowl _ is) => is.length
theorem NV.n_eq (V : NV) : V.n = V.node.n := by
  cases V with
  | fl f => cases f <;> rfl

def NV.nK (V : NV) (K : Nat → Prop) : Prop :=
  match V with
  | .fl f => match f with
    | .ints _ xs => K xs.length
    | .r2 xs => K xs.length
    | .r3 xs => K xs.length
    | .r4 xs => K xs.length
    | .bools xs => K xs.length
    | .strs xs => K xs.length
    | .gen _ xs => K xs.length
    | .rows _ _ n => K n
    | .bld _ _ _ => K 1
    | .tby _ xs => K xs.length
    | .tops n => K n
    | .rowl _ is => K is.length
theorem NV.nK_eq (V : NV) (K : Nat → Prop) : V.nK K = K V.n := by
  cases V with
  | fl f => cases f <;> rfl

def NV.sz : NV → Nat
  | .fl (.ints _ _) => 1
  | .fl (.r2 _) => 2
  | .fl (.r3 _) => 3
  | .fl (.r4 _) => 4
  | .fl (.bools _) => 1
  | .fl (.strs _) => 1
  | .fl (.gen sz _) => sz
  | .fl (.rows _ _ _) => 1
  | .fl (.bld _ _ _) => 2
  | .fl (.tby _ _) => 1
  | .fl (.tops _) => 1
  | .fl (.rowl _ _) => 1
theorem NV.sz_eq (V : NV) : V.sz = V.node.sz := by
  cases V with
  | fl f => cases f <;> rfl

/-- One cell. -/
def rdC (V : NV) (i j : Nat) (K : Cnd → AV → Prop) : Prop :=
  match V, j with
  | .fl (.gen sz xs), j => bif Nat.blt j sz then lrowK xs i fun row => lrowK row j (K none) else False
  | .fl (.ints k xs), 0 => K (some (i < xs.length)) (.int k (xs.getD i 0))
  | .fl (.r2 xs), 0 => K (some (i < xs.length)) (.int .i64 (xs.getD i default).a)
  | .fl (.r2 xs), 1 => K (some (i < xs.length)) (.int .i64 (xs.getD i default).b)
  | .fl (.r3 xs), 0 => K (some (i < xs.length)) (.int .i64 (xs.getD i default).a)
  | .fl (.r3 xs), 1 => K (some (i < xs.length)) (.int .i64 (xs.getD i default).b)
  | .fl (.r3 xs), 2 => K (some (i < xs.length)) (.int .i64 (xs.getD i default).c)
  | .fl (.r4 xs), 0 => K (some (i < xs.length)) (.int .i64 (xs.getD i default).a)
  | .fl (.r4 xs), 1 => K (some (i < xs.length)) (.int .i64 (xs.getD i default).b)
  | .fl (.r4 xs), 2 => K (some (i < xs.length)) (.int .i64 (xs.getD i default).c)
  | .fl (.r4 xs), 3 => K (some (i < xs.length)) (.int .i64 (xs.getD i default).d)
  | .fl (.bools xs), 0 => K (some (i < xs.length)) (.bool (xs.getD i false))
  | .fl (.strs xs), 0 => K (some (i < xs.length)) (.str (xs.getD i ByteArray.empty))
  | .fl (.rows M off n), 0 => match off with
    | 0 => K (some (i < n)) (.sl M [i])
    | o + 1 => K (some (i < n)) (.sl M [o + 1 + i])
  | .fl (.bld _ p _), 0 => K (some (i < 1)) p
  | .fl (.bld _ _ s), 1 => K (some (i < 1)) s
  | .fl (.tby _ xs), 0 => K (some (i < xs.length)) (.int .u8 (xs.getD i 0))
  | .fl (.tops n), 0 => K (some (i < n)) .top
  | .fl (.rowl M is), 0 => K (some (i < is.length)) (.sl M [is.getD i 0])
  | _, _ => False
theorem rdC_spec {V : NV} {i j : Nat} {K : Cnd → AV → Prop} (h : rdC V i j K) : ∃ C v, K C v ∧ (C.holds → i < V.node.n ∧ j < V.node.sz ∧ V.node.cell i j = v) := by
  unfold rdC at h
  split at h
  case h_1 sz xs =>
    cases hb : Nat.blt j sz with
    | false => simp [hb] at h
    | true =>
      simp only [hb, cond_true] at h
      obtain ⟨row, hr, h1⟩ := lrowK_spec h
      obtain ⟨v, hv, h2⟩ := lrowK_spec h1
      refine ⟨none, v, h2, fun _ => ⟨?_, Nat.blt_eq ▸ hb, ?_⟩⟩
      · obtain ⟨hi, _⟩ := List.getElem?_eq_some_iff.1 hr
        exact hi
      · simp [NV.node, Flat.node, Flat.cell, List.getD, hr, hv]
  case h_20 => exact h.elim
  case h_14 =>
    split at h
    · exact ⟨_, _, h, fun hc => ⟨hc, by simp [NV.node, Flat.node, Flat.sz], rfl⟩⟩
    · exact ⟨_, _, h, fun hc => ⟨hc, by simp [NV.node, Flat.node, Flat.sz], rfl⟩⟩
  all_goals exact ⟨_, _, h, fun hc => ⟨hc, by simp [NV.node, Flat.node, Flat.sz], rfl⟩⟩

/-- An aggregate of m cells from the j-th on. -/
def rdA (V : NV) (i j m : Nat) (K : Cnd → AV → Prop) : Prop :=
  match V, j, m with
  | .fl (.gen sz xs), j, m => bif Nat.ble (j + m) sz then lrowK xs i fun row => ltakeK row j m fun cs => K none (.agg cs) else False
  | .fl (.r2 xs), 0, 2 => K (some (i < xs.length)) (.agg [.int .i64 (xs.getD i default).a, .int .i64 (xs.getD i default).b])
  | .fl (.r3 xs), 0, 3 => K (some (i < xs.length)) (.agg [.int .i64 (xs.getD i default).a, .int .i64 (xs.getD i default).b, .int .i64 (xs.getD i default).c])
  | .fl (.r4 xs), 0, 4 => K (some (i < xs.length)) (.agg [.int .i64 (xs.getD i default).a, .int .i64 (xs.getD i default).b, .int .i64 (xs.getD i default).c, .int .i64 (xs.getD i default).d])
  | .fl (.r4 xs), 0, 2 => K (some (i < xs.length)) (.agg [.int .i64 (xs.getD i default).a, .int .i64 (xs.getD i default).b])
  | .fl (.r4 xs), 2, 2 => K (some (i < xs.length)) (.agg [.int .i64 (xs.getD i default).c, .int .i64 (xs.getD i default).d])
  | _, _, _ => False
theorem rdA_spec {V : NV} {i j m : Nat} {K : Cnd → AV → Prop} (h : rdA V i j m K) : ∃ C cs, K C (.agg cs) ∧ (C.holds → (0 < m → i < V.node.n) ∧ j + m ≤ V.node.sz ∧ cs.length = m ∧ ∀ d, d < m → cs[d]? = some (V.node.cell i (j + d))) := by
  unfold rdA at h
  split at h
  case h_1 sz xs =>
    cases hb : Nat.ble (j + m) sz with
    | false => simp [hb] at h
    | true =>
      simp only [hb, cond_true] at h
      obtain ⟨row, hr, h1⟩ := lrowK_spec h
      obtain ⟨cs, hl, hg, hle, h2⟩ := ltakeK_spec h1
      refine ⟨none, cs, h2, fun _ => ⟨fun _ => ?_, Nat.le_of_ble_eq_true hb, hl, fun d hd => ?_⟩⟩
      · obtain ⟨hi, _⟩ := List.getElem?_eq_some_iff.1 hr
        exact hi
      · have h3 := hle (by omega)
        rw [hg d hd]
        simp [NV.node, Flat.node, Flat.cell, List.getD, hr, List.getElem?_eq_getElem (show j + d < row.length by omega)]
  case h_7 => exact h.elim
  all_goals
    refine ⟨_, _, h, fun hc => ⟨fun _ => hc, by simp [NV.node, Flat.node, Flat.sz], rfl, fun d hd => ?_⟩⟩
    have hd4 : d = 0 ∨ d = 1 ∨ d = 2 ∨ d = 3 := by omega
    rcases hd4 with rfl | rfl | rfl | rfl <;> first | rfl | omega

/-! ### The operations -/
def pickB (t pol : Bool) (v : AV) (K : Cnd → Bool → Prop) : Prop :=
  match v with
  | .bool x => K none x
  | .opt _ w g (.bool x) => K (some (t = pol → g = w)) x
  | .opt _ _ _ .top => K (some (¬ t = pol)) false
  | _ => False

abbrev inI64 (n : Int) : Prop := -9223372036854775808 ≤ n ∧ n ≤ 9223372036854775807
theorem wrap_in {n : Int} (h : inI64 n) : IntKind.i64.wrap n = n := by
  unfold inI64 at h; unfold IntKind.wrap; simp [IntKind.bits, IntKind.signed]; omega

/-- Arithmetic: on int and int64 a condition that nothing wraps; on the other kinds as it is. -/
def arK (k : IntKind) (n : Int) (K : Cnd → AV → Prop) : Prop :=
  match k with
  | .i64 => K (some (inI64 n)) (.int .i64 n)
  | k => K none (.int k (k.wrap n))
theorem arK_spec {k : IntKind} {n : Int} {K : Cnd → AV → Prop} (h : arK k n K) : ∃ C m, K C (.int k m) ∧ (C.holds → k.wrap n = m) := by
  cases k <;> first
    | exact ⟨_, _, h, fun _ => rfl⟩
    | exact ⟨_, _, h, fun hc => wrap_in hc⟩

def binK (op : BinOp) (x y : AV) (K : Cnd → AV → Prop) : Prop :=
  match op, x, y with
  | .add, .int k a, .int k' b => bif k == k' then arK k (a + b) K else False
  | .sub, .int k a, .int k' b => bif k == k' then arK k (a - b) K else False
  | .mul, .int k a, .int k' b => bif k == k' then arK k (a * b) K else False
  | .quo, .int k a, .int k' b => bif k == k' then K (some (b ≠ 0)) (.int k (k.wrap (a.tdiv b))) else False
  | .rem, .int k a, .int k' b => bif k == k' then K (some (b ≠ 0)) (.int k (a.tmod b)) else False
  | .eql, .int k a, .int k' b => bif k == k' then K none (.bool (decide (a = b))) else False
  | .neq, .int k a, .int k' b => bif k == k' then K none (.bool (decide (a ≠ b))) else False
  | .lss, .int k a, .int k' b => bif k == k' then K none (.bool (decide (a < b))) else False
  | .leq, .int k a, .int k' b => bif k == k' then K none (.bool (decide (a ≤ b))) else False
  | .gtr, .int k a, .int k' b => bif k == k' then K none (.bool (decide (b < a))) else False
  | .geq, .int k a, .int k' b => bif k == k' then K none (.bool (decide (b ≤ a))) else False
  | _, _, _ => False

/-- Numbers as rows of bits. -/
abbrev inB (n : Int) : Prop := 0 ≤ n ∧ n < 9223372036854775808
def andI (k : IntKind) (a b : Int) : Int := k.wrap ((BitVec.ofInt k.bits a &&& BitVec.ofInt k.bits b).toNat : Int)
def orI (k : IntKind) (a b : Int) : Int := k.wrap ((BitVec.ofInt k.bits a ||| BitVec.ofInt k.bits b).toNat : Int)
def xorI (k : IntKind) (a b : Int) : Int := k.wrap ((BitVec.ofInt k.bits a ^^^ BitVec.ofInt k.bits b).toNat : Int)
def shlI (k : IntKind) (a b : Int) : Int := k.wrap (a * 2 ^ (min b.toNat k.bits))
def shrI (k : IntKind) (a b : Int) : Int := a / 2 ^ (min b.toNat k.bits)
def bitsK (op : BinOp) (x y : AV) (K : Cnd → AV → Prop) : Prop :=
  match x with
  | .int k a => match y with
    | .int k' b => match op with
      | .and => bif k == k' then K none (.int k (andI k a b)) else False
      | .or => bif k == k' then K none (.int k (orI k a b)) else False
      | .xor => bif k == k' then K none (.int k (xorI k a b)) else False
      | .shl => K (some (0 ≤ b)) (.int k (shlI k a b))
      | .shr => K (some (0 ≤ b)) (.int k (shrI k a b))
      | _ => False
    | _ => False
  | _ => False
/-- Strings. -/
def strK (op : BinOp) (a : ByteArray) (y : AV) (K : Cnd → AV → Prop) : Prop :=
  match y with
  | .str b => match op with
    | .add => K (some (a.size + b.size ≤ 9223372036854775807)) (.str (a ++ b))
    | .eql => K none (.bool (a.toList == b.toList))
    | .neq => K none (.bool (!(a.toList == b.toList)))
    | .lss => K none (.bool (Op.bytesLess a.toList b.toList))
    | .leq => K none (.bool (Op.bytesLess a.toList b.toList || a.toList == b.toList))
    | .gtr => K none (.bool (!(Op.bytesLess a.toList b.toList || a.toList == b.toList)))
    | .geq => K none (.bool (!Op.bytesLess a.toList b.toList))
    | _ => False
  | _ => False
/-- Is a slice nil? -/
def nilK (G : Heap) (v : AV) (K : Cnd → Bool → Prop) : Prop :=
  match v with
  | .nilsl => K none true
  | .sl id p => match hget G id with
    | some o => nodeV o id p fun C V => V.nK fun l => ∀ b : Bool, (C.holds → b = true → l = 0) → K C b
    | none => False
  | .sub _ _ _ len _ => ∀ b : Bool, (b = true → len = 0) → K none b
  | _ => False
def eqNilK (T : Tbl) (G : Heap) (op : BinOp) (t : Nat) (x y : AV) (K : Cnd → AV → Prop) : Prop :=
  match y with
  | .nilsl => match tget T t with
    | some ti => match ti.d with
      | .slice _ _ _ _ => match op with
        | .eql => nilK G x fun C b => K C (.bool b)
        | .neq => nilK G x fun C b => K C (.bool (!b))
        | _ => False
      | _ => False
    | none => False
  | _ => False

/-- Structs of numbers. -/
def aggIK : List AV → (List Int → Prop) → Prop
  | [], K => K []
  | a :: r, K => match a with
    | .int k n => match k with
      | .i64 => aggIK r fun xs => K (n :: xs)
      | _ => False
    | _ => False
theorem aggIK_spec {ρ : Rho} {N : Nat} : ∀ {cs : List AV} {K : List Int → Prop}, aggIK cs K → ∃ xs : List Int, K xs ∧ ∀ vs, VRL ρ N cs vs → vs = xs.map (Value.int .i64)
  | [], K, h => ⟨[], h, fun vs hv => by simpa only [VRL, List.map_nil] using hv⟩
  | a :: r, K, h => by
    simp only [aggIK] at h
    split at h
    case h_2 => exact h.elim
    split at h
    case h_2 => exact h.elim
    obtain ⟨xs, hk, hx⟩ := aggIK_spec (ρ := ρ) (N := N) h
    refine ⟨_, hk, fun vs hv => ?_⟩
    simp only [VRL, VR] at hv
    obtain ⟨v, r', rfl, rfl, h2⟩ := hv
    rw [hx r' h2]
    rfl
def eqL : List Int → List Int → Bool
  | [], [] => true
  | [a], [b] => decide (a = b)
  | a :: r, b :: s => decide (a = b) && eqL r s
  | [], _ :: _ => false
  | _ :: _, [] => false
theorem eqL_iff : ∀ (xs ys : List Int), eqL xs ys = decide (xs = ys)
  | [], [] => by simp [eqL]
  | [a], [b] => by simp [eqL]
  | a :: c :: r, [b] => by simp [eqL]
  | [a], b :: d :: s => by simp [eqL]
  | a :: c :: r, b :: d :: s => by
    simp only [eqL, eqL_iff (c :: r) (d :: s)]
    by_cases h1 : a = b <;> simp [h1]
  | [], _ :: _ => by simp [eqL]
  | _ :: _, [] => by simp [eqL]
def bdL : List Int → Prop
  | [] => True
  | [a] => inI64 a
  | a :: r => inI64 a ∧ bdL r
theorem bdL_all : ∀ (xs : List Int), bdL xs → ∀ k ∈ xs, inI64 k
  | [], _, _, h => by cases h
  | [a], h, k, hk => by rw [List.mem_singleton.1 hk]; exact h
  | a :: c :: r, h, k, hk => by
    rcases List.mem_cons.1 hk with rfl | hk
    · exact h.1
    · exact bdL_all (c :: r) h.2 k hk
def eqLK : List Int → List Int → (Bool → Prop) → Prop
  | [], ys, K => K (match ys with | [] => true | _ :: _ => false)
  | a :: r, ys, K => match ys with
    | [] => K false
    | b :: s => match r with
      | [] => match s with
        | [] => K (decide (a = b))
        | _ :: _ => K false
      | c :: r' => eqLK (c :: r') s fun e => K (decide (a = b) && e)
theorem eqLK_spec : ∀ {xs ys : List Int} {K : Bool → Prop}, eqLK xs ys K → K (eqL xs ys)
  | [], [], _, h => h
  | [], _ :: _, _, h => h
  | a :: [], [], _, h => by simpa only [eqLK, eqL] using h
  | a :: c :: r, [], _, h => by simpa only [eqLK, eqL] using h
  | a :: [], b :: [], _, h => by simpa only [eqLK, eqL] using h
  | a :: [], b :: d :: s, _, h => by simp only [eqLK] at h; simpa [eqL] using h
  | a :: c :: r, b :: s, K, h => by
    simp only [eqLK] at h
    have := eqLK_spec h
    cases s with
    | nil => simpa [eqL] using this
    | cons d s => simpa only [eqL] using this
def bdLK : List Int → (Prop → Prop) → Prop
  | [], K => K True
  | a :: r, K => match r with
    | [] => K (inI64 a)
    | b :: r' => bdLK (b :: r') fun p => K (inI64 a ∧ p)
theorem bdLK_spec : ∀ {xs : List Int} {K : Prop → Prop}, bdLK xs K → K (bdL xs)
  | [], _, h => h
  | [a], _, h => h
  | a :: b :: r, _, h => bdLK_spec (xs := b :: r) h
def aggEqK (T : Tbl) (op : BinOp) (t : Nat) (cs : List AV) (y : AV) (K : Cnd → AV → Prop) : Prop :=
  match y with
  | .agg ds => match tget T t with
    | some ti => aggIK cs fun xs => aggIK ds fun ys => bif Nat.beq xs.length ti.eqn && Nat.beq ys.length ti.eqn && Nat.blt 0 ti.eqn then match op with
      | .eql => bdLK xs fun p => bdLK ys fun q => eqLK xs ys fun e => K (some (p ∧ q)) (.bool e)
      | .neq => bdLK xs fun p => bdLK ys fun q => eqLK xs ys fun e => K (some (p ∧ q)) (.bool (!e))
      | _ => False
      else False
    | none => False
  | _ => False

/-- Two operands. -/
def qBin (T : Tbl) (G : Heap) (op : BinOp) (t : Nat) (x y : AV) (K : Cnd → AV → Prop) : Prop :=
  match x with
  | .bool a => match y with
    | .bool b => match tget T t with
      | some ti => match ti.d with
        | .bool => match op with
          | .eql => K none (.bool (a == b))
          | .neq => K none (.bool (!(a == b)))
          | _ => False
        | _ => False
      | none => False
    | _ => False
  | .str a => strK op a y K
  | .nilsl => eqNilK T G op t .nilsl y K
  | .sl id p => eqNilK T G op t (.sl id p) y K
  | .sub id p i len cap => eqNilK T G op t (.sub id p i len cap) y K
  | .agg cs => aggEqK T op t cs y K
  | x => match op with
    | .and => bitsK .and x y K
    | .or => bitsK .or x y K
    | .xor => bitsK .xor x y K
    | .shl => bitsK .shl x y K
    | .shr => bitsK .shr x y K
    | op => binK op x y K

/-! ### Slice expressions -/
def hiK (lk : Operand → AV) (hi : Option Operand) (len : Nat) (K : Cnd → Nat → Prop) : Prop :=
  match hi with
  | none => K none len
  | some x => match lk x with
    | .int _ n => K (some (0 ≤ n ∧ n ≤ (len : Int))) n.toNat
    | _ => False
def loK (lk : Operand → AV) (lo : Option Operand) (h : Nat) (K : Cnd → Nat → Prop) : Prop :=
  match lo with
  | none => K none 0
  | some x => match lk x with
    | .int _ n => K (some (0 ≤ n ∧ n ≤ (h : Int))) n.toNat
    | _ => False
def sliceK (lk : Operand → AV) (id : Nat) (p : List Nat) (i len : Nat) (lo hi mx : Option Operand) (K : Cnd → AV → Prop) : Prop :=
  hiK lk hi len fun C1 h => loK lk lo h fun C2 l => match mx with
    | none => K (cAnd C1 C2) (.sub id p (Nat.add i l) (Nat.sub h l) none)
    | some m => match hi with
      | none => False
      | some _ => match lk m with
        | .int _ mm => K (cAnd C1 (cAnd C2 (some ((h : Int) ≤ mm ∧ mm ≤ (len : Int))))) (.sub id p (Nat.add i l) (Nat.sub h l) (some (Nat.sub mm.toNat l)))
        | _ => False
def qSlice (T : Tbl) (lk : Operand → AV) (G : Heap) (t : Nat) (x : AV) (lo hi mx : Option Operand) (K : Cnd → AV → Prop) : Prop :=
  match tget T t with
  | some ti => match ti.d with
    | .slice _ esz _ _ => match x with
      | .sl id p => match hget G id with
        | some o => nodeV o id p fun C V => bif Nat.beq esz V.sz then V.nK fun l => sliceK lk id p 0 l lo hi mx fun C' v => K (cAnd C C') v else False
        | none => False
      | .sub id p i len _ => match hget G id with
        | some o => nodeV o id p fun C V => bif Nat.beq esz V.sz then sliceK lk id p i len lo hi mx fun C' v => K (cAnd C C') v else False
        | none => False
      | .nilsl => match mx with
        | none => hiK lk hi 0 fun C1 h => loK lk lo h fun C2 _ => K (cAnd C1 C2) .nilsl
        | some _ => False
      | _ => False
    | .str => match x with
      | .str s => match mx with
        | none => hiK lk hi s.size fun C1 h => loK lk lo h fun C2 l => K (cAnd C1 C2) (.str (s.extract l h))
        | some _ => False
      | _ => False
    | _ => False
  | none => False

def lenK (G : Heap) (v : AV) (K : Cnd → Nat → Prop) : Prop :=
  match v with
  | .sl id p => match hget G id with
    | some o => nodeV o id p fun C V => V.nK (K C)
    | none => False
  | .sub _ _ _ len _ => K none len
  | .nilsl => K none 0
  | _ => False

def partsK (lk : Operand → AV) (fs : List (Nat × Nat × Bool)) : List (Nat × Operand) → List AV → (List AV → Prop) → Prop
  | [], cs, K => K cs
  | (i, x) :: r, cs, K => lrowK fs i fun f => match f, lk x with
    | (off, sz, false), v => match v with
      | .agg _ => False
      | .tuple _ => False
      | .opt _ _ _ _ => False
      | .top => False
      | v => bif Nat.beq sz 1 && Nat.ble (off + 1) cs.length then partsK lk fs r (cs.set off v) K else False
    | (off, sz, true), .agg us => bif Nat.beq us.length sz && Nat.ble (off + sz) cs.length then partsK lk fs r (cs.take off ++ us ++ cs.drop (off + sz)) K else False
    | _, _ => False

def qPick (lk : Operand → AV) (c a b : Operand) (K : Cnd → AV → Prop) : Prop :=
  match lk c with
  | .bool t => pickB t true (lk a) fun C1 x => pickB t false (lk b) fun C2 y => K (cAnd C1 C2) (.bool (cond t x y))
  | _ => False
def qNil (v : AV) (K : Cnd → AV → Prop) : Prop :=
  match v with
  | .ptr id p i j => K none (.ptr id p i j)
  | _ => False
def qField (T : Tbl) (s : Nat) (v : AV) (f : Nat) (K : Cnd → AV → Prop) : Prop :=
  match tget T s with
  | some ti => match ti.d with
    | .struct fs => match v with
      | .ptr id p i j => lrowK fs f fun o => K none (.ptr id p i (j + o.1))
      | _ => False
    | _ => False
  | none => False
def qLoad (T : Tbl) (G : Heap) (t : Nat) (v : AV) (K : Cnd → AV → Prop) : Prop :=
  match tget T t with
  | some ti => match v with
    | .ptr id p i j => match hget G id with
      | some o => nodeV o id p fun C1 V => match ti.d.agg with
        | true => rdA V i j ti.size fun C2 v => K (cAnd C1 C2) v
        | false => rdC V i j fun C2 v => K (cAnd C1 C2) v
      | none => False
    | _ => False
  | none => False
def qIndex (T : Tbl) (G : Heap) (t : Nat) (x ix : AV) (K : Cnd → AV → Prop) : Prop :=
  match tget T t with
  | some ti => match ti.d with
    | .slice _ esz _ _ => match ix with
      | .int _ n => match x with
        | .sl id p => match hget G id with
          | some o => nodeV o id p fun C V => bif Nat.beq esz V.sz then V.nK fun l => K (cAnd C (some (0 ≤ n ∧ n < (l : Int)))) (.ptr id p n.toNat 0) else False
          | none => False
        | .sub id p i len _ => match hget G id with
          | some o => nodeV o id p fun C V => bif Nat.beq esz V.sz then K (cAnd C (some (0 ≤ n ∧ n < (len : Int)))) (.ptr id p (i + n.toNat) 0) else False
          | none => False
        | _ => False
      | _ => False
    | _ => False
  | none => False
def qUn (op : UnOp) (v : AV) (K : Cnd → AV → Prop) : Prop :=
  match op with
  | .not => match v with
    | .bool b => K none (.bool (!b))
    | _ => False
  | .neg => match v with
    | .int k n => arK k (0 - n) K
    | _ => False
  | _ => False
def qExtract (v : AV) (i : Nat) (K : Cnd → AV → Prop) : Prop :=
  match v with
  | .tuple vs => lrowK vs i (K none)
  | _ => False
def qFunc (lk : Operand → AV) (fn : Fn) (first caps : List Operand) (K : Cnd → AV → Prop) : Prop :=
  match fn with
  | .func f => match first with
    | [] => K none (.func f (caps.map lk))
    | _ :: _ => False
  | _ => False
def qBuild (T : Tbl) (lk : Operand → AV) (t : Nat) (parts : List (Nat × Operand)) (K : Cnd → AV → Prop) : Prop :=
  match tget T t with
  | some ti => match ti.d with
    | .struct fs => bif Nat.beq ti.zero.length 0 then False else partsK lk fs parts ti.zero fun cs => K none (.agg cs)
    | _ => False
  | none => False
def qMax (x y : AV) (K : Cnd → AV → Prop) : Prop :=
  match x with
  | .int k a => match y with
    | .int _ b => K none (.int k (max a b))
    | _ => False
  | _ => False
def qMin (x y : AV) (K : Cnd → AV → Prop) : Prop :=
  match x with
  | .int k a => match y with
    | .int _ b => K none (.int k (min a b))
    | _ => False
  | _ => False
/-! ### Maps -/
section
variable {κ α : Type} [DecidableEq κ]
def mlk : List (κ × α) → κ → Option α
  | [], _ => none
  | e :: r, n => if e.1 = n then some e.2 else mlk r n
def mput : List (κ × α) → κ → α → List (κ × α)
  | [], n, v => [(n, v)]
  | e :: r, n, v => if e.1 = n then (n, v) :: r else e :: mput r n v
def mdel : List (κ × α) → κ → List (κ × α)
  | [], _ => []
  | e :: r, n => if e.1 = n then r else e :: mdel r n
def mhas (kvs : List (κ × α)) (n : κ) : Bool := (mlk kvs n).isSome
end
def mgB (kvs : List (Int × Bool)) (n : Int) : Bool := (mlk kvs n).getD false
def mgI (kvs : List (Int × Int)) (n : Int) : Int := (mlk kvs n).getD 0
def mg3 (kvs : List (R3 × Int × Nat)) (k : R3) : Int := ((mlk kvs k).getD (0, 0)).1
def lookV (ok : Bool) (v : AV) (b : Bool) : AV :=
  match ok with
  | true => .tuple [v, .bool b]
  | false => v
def keyI (ix : AV) (K : Int → Prop) : Prop :=
  match ix with
  | .int k n => match k with
    | .i64 => K n
    | _ => False
  | _ => False
theorem keyI_spec {ix : AV} {K : Int → Prop} (h : keyI ix K) : ∃ n, K n ∧ ∀ ρ N v, VR ρ N ix v → v = encI n := by
  unfold keyI at h
  split at h
  · split at h
    · exact ⟨_, h, fun ρ N v hv => by simp only [VR] at hv; exact hv⟩
    · exact h.elim
  · exact h.elim
def key3 (ix : AV) (K : R3 → Prop) : Prop :=
  match ix with
  | .agg cs => aggIK cs fun xs => match xs with
    | [] => False
    | a :: r1 => match r1 with
      | [] => False
      | b :: r2 => match r2 with
        | [] => False
        | c :: r3 => match r3 with
          | [] => K ⟨a, b, c⟩
          | _ :: _ => False
  | _ => False
theorem key3_spec {ρ : Rho} {N : Nat} {ix : AV} {K : R3 → Prop} (h : key3 ix K) : ∃ k, K k ∧ ∀ v, VR ρ N ix v → v = enc3 k := by
  unfold key3 at h
  split at h
  case h_2 => exact h.elim
  obtain ⟨xs, h, hx⟩ := aggIK_spec (ρ := ρ) (N := N) h
  split at h
  case h_1 => exact h.elim
  split at h
  case h_1 => exact h.elim
  split at h
  case h_1 => exact h.elim
  split at h
  case h_2 => exact h.elim
  refine ⟨_, h, fun v hv => ?_⟩
  simp only [VR] at hv
  obtain ⟨vs, rfl, h1, _⟩ := hv
  rw [hx vs h1]
  rfl
def mapK (G : Heap) (x : AV) (K : Nat → MapV → Prop) : Prop :=
  match x with
  | .map id => match hget G id with
    | some o => match o with
      | .mp m => K id m
      | _ => False
    | none => False
  | _ => False
theorem mapK_spec {G : Heap} {x : AV} {K : Nat → MapV → Prop} (h : mapK G x K) : ∃ id m, x = .map id ∧ hget G id = some (.mp m) ∧ K id m := by
  unfold mapK at h
  split at h
  case h_2 => exact h.elim
  split at h
  case h_2 => exact h.elim
  split at h
  case h_2 => exact h.elim
  exact ⟨_, _, rfl, by assumption, h⟩
def qLook (T : Tbl) (G : Heap) (t : Nat) (x ix : AV) (ok : Bool) (K : Cnd → AV → Prop) : Prop :=
  match tget T t with
  | some ti => match ti.d with
    | .map kn bv => mapK G x fun _ m => match m with
      | .ib kvs => bif Nat.beq kn 0 && bv then keyI ix fun n => K none (lookV ok (.bool (mgB kvs n)) (mhas kvs n)) else False
      | .ii kvs => bif Nat.beq kn 0 && !bv then keyI ix fun n => K none (lookV ok (.int .i64 (mgI kvs n)) (mhas kvs n)) else False
      | .r3 _ kvs => bif Nat.beq kn 3 && !bv then key3 ix fun k => K (some (ok3 k)) (lookV ok (.int .i64 (mg3 kvs k)) (mhas kvs k)) else False
    | _ => False
  | none => False
def mlenK (G : Heap) (v : AV) (K : Cnd → AV → Prop) : Prop :=
  match v with
  | .nilmap => K none (.int .i64 0)
  | .map id => match hget G id with
    | some o => match o with
      | .mp m => match m with
        | .ib kvs => K none (.int .i64 kvs.length)
        | .ii kvs => K none (.int .i64 kvs.length)
        | .r3 _ kvs => K none (.int .i64 kvs.length)
      | _ => False
    | none => False
  | _ => False
def qLen (T : Tbl) (G : Heap) (t : Nat) (v : AV) (K : Cnd → AV → Prop) : Prop :=
  match tget T t with
  | some ti => match ti.d with
    | .slice _ _ _ _ => lenK G v fun C n => K C (.int .i64 n)
    | .str => match v with
      | .str s => K none (.int .i64 s.size)
      | _ => False
    | .map _ _ => mlenK G v K
    | _ => False
  | none => False
def qCall (T : Tbl) (lk : Operand → AV) (G : Heap) (callee : Callee) (args : List Operand) (argTypes : List Nat) (K : Cnd → AV → Prop) : Prop :=
  match callee with
  | .builtin b => match b with
    | .len => match args with
      | [x] => match argTypes with
        | [t] => qLen T G t (lk x) K
        | _ => False
      | _ => False
    | .max => match args with
      | [x, y] => qMax (lk x) (lk y) K
      | _ => False
    | .min => match args with
      | [x, y] => qMin (lk x) (lk y) K
      | _ => False
    | _ => False
  | _ => False
/-- The byte of a string at a place. -/
def bAt (s : ByteArray) (n : Nat) : Int := ((s.data.toList.getD n 0).toNat : Int)
def qIdxS (T : Tbl) (t : Nat) (x ix : AV) (K : Cnd → AV → Prop) : Prop :=
  match tget T t with
  | some ti => match ti.d with
    | .str => match x with
      | .str s => match ix with
        | .int _ n => K (some (0 ≤ n ∧ n < (s.size : Int))) (.int .u8 (bAt s n.toNat))
        | _ => False
      | _ => False
    | _ => False
  | none => False
/-- The bytes of an object as a string. -/
def bytesK (G : Heap) (v : AV) (K : List Int → Prop) : Prop :=
  match v with
  | .nilsl => K []
  | .sl id p => match p with
    | [] => match hget G id with
      | some o => match o with
        | .flat _ f => match f with
          | .ints k xs => match k with
            | .u8 => K xs
            | _ => False
          | _ => False
        | _ => False
      | none => False
    | _ => False
  | _ => False
def isBytes (T : Tbl) (s : Nat) : Bool :=
  match tget T s with
  | some si => match si.d with
    | .slice e _ _ _ => match tget T e with
      | some ei => match ei.d with
        | .int k => match k with
          | .u8 => true
          | _ => false
        | _ => false
      | none => false
    | _ => false
  | none => false
def qConv (T : Tbl) (G : Heap) (s t : Nat) (v : AV) (K : Cnd → AV → Prop) : Prop :=
  match tget T t with
  | some ti => match ti.d with
    | .str => bif isBytes T s then bytesK G v fun xs => K none (.str (strOfNums xs)) else False
    | .int k => match v with
      | .int _ n => match tget T s with
        | some _ => K none (.int k (k.wrap n))
        | none => False
      | _ => False
    | _ => False
  | none => False

def quiet (T : Tbl) (lk : Operand → AV) (G : Heap) (op : Op) (K : Cnd → AV → Prop) : Prop :=
  match op with
  | .move x => K none (lk x)
  | .assign x => K none (lk x)
  | .pick c a b => qPick lk c a b K
  | .nilCheck x => qNil (lk x) K
  | .fieldAddr s x f => qField T s (lk x) f K
  | .load t x => qLoad T G t (lk x) K
  | .indexAddr t x ix => qIndex T G t (lk x) (lk ix) K
  | .binOp op t x y _ => qBin T G op t (lk x) (lk y) K
  | .unOp op _ x => qUn op (lk x) K
  | .extract x i => qExtract (lk x) i K
  | .makeFunc fn first caps => qFunc lk fn first.toList caps.toList K
  | .build t parts => qBuild T lk t parts.toList K
  | .call c => qCall T lk G c.callee c.args.toList c.argTypes.toList K
  | .convert s t x => qConv T G s t (lk x) K
  | .index t x ix => qIdxS T t (lk x) (lk ix) K
  | .lookup t x ix ok => qLook T G t (lk x) (lk ix) ok K
  | .slice t x lo hi mx => qSlice T lk G t (lk x) lo hi mx K
  | _ => False

end Go.Sx

/-
  The quiet operations are sound.
-/
namespace Go.Sx
set_option linter.unusedVariables false
set_option linter.unusedSimpArgs false
open Go

section
variable {P : Program} {T : Tbl} {ρ : Rho} {N : Nat} {G : Heap} {w : World}

theorem NodeAt.of_get {id : Nat} {p : List Nat} {o : AObj} {nd : Node} (h : hget G id = some o) (hn : o.node id p = some nd) : NodeAt G id p nd o.own := ⟨⟨o, h, hn, rfl⟩⟩

theorem run_isAgg_true {t : TypeId} {fs : Array Field} (h : P.underlying t = some (.struct fs)) (w : World) : (isAgg t).run P w = .ok true w := by
  simp [isAgg, run_underlying h]
theorem run_isAgg_false {t : TypeId} {d : TypeDesc} (h : P.underlying t = some d) (h1 : ∀ fs, d ≠ .struct fs) (h2 : ∀ n e, d ≠ .array n e) (w : World) : (isAgg t).run P w = .ok false w := by
  cases d <;> simp_all [isAgg, run_underlying]

theorem DescOK.plain {t : TypeId} {d : TD} (h : DescOK P t d) (hd : d.agg = false) (w : World) : (isAgg t).run P w = .ok false w := by
  cases d with
  | scalar => obtain ⟨d, hd, h1, h2⟩ := h; exact run_isAgg_false hd h1 h2 w
  | bool => exact run_isAgg_false h (by simp) (by simp) w
  | str => exact run_isAgg_false h (by simp) (by simp) w
  | int k => exact run_isAgg_false h (by simp) (by simp) w
  | struct fs => simp [TD.agg] at hd
  | slice e esz eb k => exact run_isAgg_false h.1 (by simp) (by simp) w
  | map kn bv => obtain ⟨k, e, i, h1, _⟩ := h; exact run_isAgg_false h1 (by simp) (by simp) w

theorem run_sizeOf {t : TypeId} {i : TypeInfo} (h : P.info? t = some i) (w : World) : (sizeOf t).run P w = .ok i.size w := by
  simp [sizeOf, typeInfo, h]

/-- One cell out of a node. -/
theorem load_cell (hH : HeapRep ρ N G w) {t : TypeId} {d : TD} (hd : DescOK P t d) (hag : d.agg = false) {id : Nat} {p : List Nat} {nd : Node} {own : Bool} (hn : NodeAt G id p nd own) {i j : Nat} (hi : i < nd.n) (hj : j < nd.sz)
    {pv : Value} (hp : VR ρ N (.ptr id p i j) pv) : ∃ cv, VR ρ N (nd.cell i j) cv ∧ ∀ w' : World, w'.heap[(ρ id p).b]? = w.heap[(ρ id p).b]? → (Instr.loadAt t pv).run P w' = .ok cv w' := by
  simp only [VR] at hp
  obtain ⟨_, rfl⟩ := hp
  obtain ⟨v, hc, hv, _⟩ := hH.rd id p nd own hn i hi j hj
  refine ⟨v, hv, fun w' hw' => ?_⟩
  rw [(hH.shape id p nd own hn).1]
  rw [← World.cell?_of_block (w := w) (w' := w') (a := ⟨(ρ id p).b, (ρ id p).o + (i * nd.sz + j), none⟩) hw'] at hc
  simp [Instr.loadAt, Instr.sureAddr, loadVar, hd.plain hag, hc]

/-- Several cells. -/
theorem load_cells (hH : HeapRep ρ N G w) {t : TypeId} {i0 : TypeInfo} {fs : Array Field} (hd : P.underlying t = some (.struct fs)) (hi0 : P.info? t = some i0) {id : Nat} {p : List Nat} {nd : Node} {own : Bool} (hn : NodeAt G id p nd own) {i j : Nat} {cs : List AV}
    (hi : 0 < i0.size → i < nd.n) (hj : j + i0.size ≤ nd.sz) (hl : cs.length = i0.size) (hcs : ∀ d, d < i0.size → cs[d]? = some (nd.cell i (j + d)))
    {pv : Value} (hp : VR ρ N (.ptr id p i j) pv) : ∃ cv, VR ρ N (.agg cs) cv ∧ ∀ w' : World, (0 < i0.size → w'.heap[(ρ id p).b]? = w.heap[(ρ id p).b]?) → (Instr.loadAt t pv).run P w' = .ok cv w' := by
  simp only [VR] at hp
  obtain ⟨_, rfl⟩ := hp
  have hsz := (hH.shape id p nd own hn).1
  have hall : ∀ d, ∃ v, d < i0.size → w.cell? ⟨(ρ id p).b, (ρ id p).o + (i * nd.sz + (j + d)), none⟩ = some v ∧ VR ρ N (nd.cell i (j + d)) v ∧ v.oneCell' = true := fun d => by
    by_cases hdd : d < i0.size
    · obtain ⟨v, h1⟩ := hH.rd id p nd own hn i (hi (by omega)) (j + d) (by omega)
      exact ⟨v, fun _ => h1⟩
    · exact ⟨undef, fun h => absurd h hdd⟩
  obtain ⟨f, hf⟩ := Classical.axiomOfChoice hall
  refine ⟨.agg ((List.range i0.size).map f).toArray, ?_, ?_⟩
  · simp only [VR]
    refine ⟨_, rfl, ?_, ?_⟩
    · have key : ∀ (as : List AV) (k : Nat), (∀ d, d < as.length → k + d < i0.size ∧ as[d]? = some (nd.cell i (j + (k + d)))) → VRL ρ N as ((List.range as.length).map fun d => f (k + d)) := by
        intro as
        induction as with
        | nil => intro k _; simp [VRL]
        | cons a as ih =>
          intro k h
          simp only [VRL, List.length_cons, List.range_succ_eq_map, List.map_cons, List.map_map]
          refine ⟨_, _, rfl, ?_, ?_⟩
          · obtain ⟨h1, h2⟩ := h 0 (by simp)
            simp at h2
            subst h2
            exact (hf _ h1).2.1
          · have := ih (k + 1) (fun d hd => by
              obtain ⟨h1, h2⟩ := h (d + 1) (by simpa using hd)
              refine ⟨by omega, ?_⟩
              rw [show k + 1 + d = k + (d + 1) by omega]
              simpa using h2)
            refine (congrArg (VRL ρ N as) (List.map_congr_left fun d _ => ?_)).mpr this
            simp [Nat.add_comm 1 d, Nat.add_assoc]
      have := key cs 0 (fun d hd => ⟨by omega, by simpa using hcs d (by omega)⟩)
      simpa [hl] using this
    · intro u hu
      obtain ⟨d, hd, rfl⟩ := List.mem_map.1 hu
      exact (hf d (by simpa using hd)).2.2
  · intro w' hw'
    rw [hsz]
    simp only [Instr.loadAt, Instr.sureAddr, loadVar, Sem.run_bind, Sem.run_pure, Result.andThen_ok, run_isAgg_true hd, if_true, run_sizeOf hi0]
    rw [run_loadCells w' _ i0.size f (fun d hd => by
      have := (hf d hd).1
      rw [← World.cell?_of_block (w := w) (w' := w') (hw' (by omega))] at this
      rw [← this]
      congr 1
      unfold Addr.add
      split
      · next h => subst h; rfl
      · simp [Nat.add_assoc])]
    rfl

theorem lenK_sound (hH : HeapRep ρ N G w) {v : AV} {K : Cnd → Nat → Prop} (h : lenK G v K) {cv : Value} (hv : VR ρ N v cv) : ∃ C n, K C n ∧ (C.holds → ∃ A c, cv = .slice A n c) := by
  unfold lenK at h
  split at h
  · rename_i id p
    split at h
    · rename_i o ho
      obtain ⟨C, V, hK, hn⟩ := nodeV_spec h
      rw [NV.nK_eq] at hK
      refine ⟨C, _, hK, fun hc => ?_⟩
      simp only [VR] at hv
      obtain ⟨_, A, c, rfl, _⟩ := hv
      have := (hH.shape id p _ _ (NodeAt.of_get ho (hn hc))).2.1
      rw [V.n_eq, ← this]
      exact ⟨A, c, rfl⟩
    · exact h.elim
  · refine ⟨_, _, h, fun _ => ?_⟩
    simp only [VR] at hv
    obtain ⟨_, A, c, rfl, _⟩ := hv
    exact ⟨A, c, rfl⟩
  · refine ⟨_, _, h, fun _ => ?_⟩
    simp only [VR] at hv
    exact ⟨_, _, hv⟩
  · exact h.elim

theorem binK_sound {op : BinOp} {x y : AV} {K : Cnd → AV → Prop} (h : binK op x y K) {u v : Value} (hx : VR ρ N x u) (hy : VR ρ N y v) (t : TypeId) : ∃ C r, K C r ∧ (C.holds → ∃ cv, VR ρ N r cv ∧ (∀ w : World, (binOp op t u v).run P w = .ok cv w) ∧ (∀ (x y : Operand), eqGuard op t x y u v = pure ())) := by
  have hite : ∀ {k k' : IntKind} {X : Prop}, (bif k == k' then X else False) → k = k' ∧ X := fun {k k'} {X} h => by
    cases hb : k == k' with
    | false => simp [hb] at h
    | true => simp only [hb, cond_true] at h; exact ⟨by simpa using hb, h⟩
  unfold binK at h
  split at h
  case h_12 => exact h.elim
  all_goals
    obtain ⟨rfl, h1⟩ := hite h
    clear h
    simp only [VR] at hx hy
    subst hx hy
  case h_1 | h_2 | h_3 =>
    obtain ⟨C, m, hK, hm⟩ := arK_spec h1
    refine ⟨C, _, hK, fun hc => ⟨.int _ m, by simp only [VR]; rfl, ?_, fun _ _ => rfl⟩⟩
    have := hm hc
    intro _
    simp [go_sem, Op.intArith, this]
  case h_4 | h_5 =>
    refine ⟨_, _, h1, fun hc => ⟨_, by simp only [VR]; rfl, ?_, fun _ _ => rfl⟩⟩
    simp only [Cnd.holds] at hc
    intro _
    simp [go_sem, Op.intDiv, hc]
  all_goals
    refine ⟨_, _, h1, fun hc => ⟨_, by simp only [VR]; rfl, ?_, fun _ _ => rfl⟩⟩
    intro _
    simp [go_sem]
    try rfl

theorem run_eq_bool {t : TypeId} (h : P.underlying t = some .bool) (a b : Bool) (w : World) : (Op.equal t (.bool a) (.bool b)).run P w = .ok (a == b) w := by
  unfold Op.equal
  rw [show Op.maxDepth = 9999 + 1 from rfl, Op.equalIn]
  simp only [Sem.run_bind, run_underlying h, Result.andThen_ok, Sem.run_pure]
theorem bitvec_toNat {a : Int} (h : inB a) : (BitVec.ofInt 64 a).toNat = a.toNat := by
  obtain ⟨h1, h2⟩ := h
  rw [BitVec.toNat_ofInt]
  have : a % ((2 ^ 64 : Nat) : Int) = a := Int.emod_eq_of_lt h1 (by omega)
  rw [this]
theorem toNat_lt {a : Int} (h : inB a) : a.toNat < 2 ^ 63 := by
  obtain ⟨h1, h2⟩ := h; omega
theorem wrap_nat {k : IntKind} (hk : k = .i64 ∨ k = .u64) {n : Nat} (h : n < 2 ^ 63) : k.wrap (n : Int) = (n : Int) := by
  rcases hk with rfl | rfl <;> (unfold IntKind.wrap; simp [IntKind.bits, IntKind.signed]; omega)
theorem andI_nat {k : IntKind} (hk : k = .i64 ∨ k = .u64) {a b : Int} (ha : inB a) (hb : inB b) : andI k a b = ((a.toNat &&& b.toNat : Nat) : Int) := by
  unfold andI
  rcases hk with rfl | rfl <;> (rw [BitVec.toNat_and]; simp only [IntKind.bits]; rw [bitvec_toNat ha, bitvec_toNat hb]; exact wrap_nat (by simp) (Nat.lt_of_le_of_lt Nat.and_le_left (toNat_lt ha)))
theorem orI_nat {k : IntKind} (hk : k = .i64 ∨ k = .u64) {a b : Int} (ha : inB a) (hb : inB b) : orI k a b = ((a.toNat ||| b.toNat : Nat) : Int) := by
  unfold orI
  rcases hk with rfl | rfl <;> (rw [BitVec.toNat_or]; simp only [IntKind.bits]; rw [bitvec_toNat ha, bitvec_toNat hb]; exact wrap_nat (by simp) (Nat.or_lt_two_pow (toNat_lt ha) (toNat_lt hb)))
theorem xorI_nat {k : IntKind} (hk : k = .i64 ∨ k = .u64) {a b : Int} (ha : inB a) (hb : inB b) : xorI k a b = ((a.toNat ^^^ b.toNat : Nat) : Int) := by
  unfold xorI
  rcases hk with rfl | rfl <;> (rw [BitVec.toNat_xor]; simp only [IntKind.bits]; rw [bitvec_toNat ha, bitvec_toNat hb]; exact wrap_nat (by simp) (Nat.xor_lt_two_pow (toNat_lt ha) (toNat_lt hb)))
theorem shlI_in {a b : Int} (hb : b < 64) (h : inI64 (a * 2 ^ b.toNat)) : shlI .i64 a b = a * 2 ^ b.toNat := by
  unfold shlI
  rw [show min b.toNat (IntKind.i64).bits = b.toNat by simp [IntKind.bits]; omega, wrap_in h]
theorem shlI_u {a b : Int} (hb : b < 64) : shlI .u64 a b = IntKind.u64.wrap (a * 2 ^ b.toNat) := by
  unfold shlI
  rw [show min b.toNat (IntKind.u64).bits = b.toNat by simp [IntKind.bits]; omega]
theorem shrI_in {k : IntKind} (hk : k = .i64 ∨ k = .u64) {a b : Int} (hb : b < 64) : shrI k a b = a / 2 ^ b.toNat := by
  unfold shrI
  rw [show min b.toNat k.bits = b.toNat by rcases hk with rfl | rfl <;> simp [IntKind.bits] <;> omega]
theorem bitsK_sound {op : BinOp} {x y : AV} {K : Cnd → AV → Prop} (h : bitsK op x y K) {u v : Value} (hx : VR ρ N x u) (hy : VR ρ N y v) (t : TypeId) : ∃ C r, K C r ∧ (C.holds → ∃ cv, VR ρ N r cv ∧ (∀ w : World, (binOp op t u v).run P w = .ok cv w) ∧ (∀ (x y : Operand), eqGuard op t x y u v = pure ())) := by
  have hite : ∀ {k k' : IntKind} {X : Prop}, (bif k == k' then X else False) → k = k' ∧ X := fun {k k'} {X} h => by
    cases hb : k == k' with
    | false => simp [hb] at h
    | true => simp only [hb, cond_true] at h; exact ⟨by simpa using hb, h⟩
  have hdiv : ∀ (a : Int) (n : Nat), a.fdiv (2 ^ n) = a / 2 ^ n := fun a n => Int.fdiv_eq_ediv_of_nonneg _ (Int.le_of_lt (Int.pow_pos (by omega)))
  unfold bitsK at h
  split at h
  case h_2 => exact h.elim
  split at h
  case h_2 => exact h.elim
  rename_i k a _ k' b
  simp only [VR] at hx hy
  subst hx hy
  split at h
  case h_1 =>
    obtain ⟨rfl, h2⟩ := hite h
    refine ⟨_, _, h2, fun hc => ⟨_, by simp only [VR]; rfl, fun w => ?_, fun _ _ => rfl⟩⟩
    simp only [binOp, ne_eq, not_true_eq_false, if_false, Op.intBits, andI]
    rfl
  case h_2 =>
    obtain ⟨rfl, h2⟩ := hite h
    refine ⟨_, _, h2, fun hc => ⟨_, by simp only [VR]; rfl, fun w => ?_, fun _ _ => rfl⟩⟩
    simp only [binOp, ne_eq, not_true_eq_false, if_false, Op.intBits, orI]
    rfl
  case h_3 =>
    obtain ⟨rfl, h2⟩ := hite h
    refine ⟨_, _, h2, fun hc => ⟨_, by simp only [VR]; rfl, fun w => ?_, fun _ _ => rfl⟩⟩
    simp only [binOp, ne_eq, not_true_eq_false, if_false, Op.intBits, xorI]
    rfl
  case h_4 =>
    refine ⟨_, _, h, fun hc => ⟨_, by simp only [VR]; rfl, fun w => ?_, fun _ _ => rfl⟩⟩
    simp only [Cnd.holds] at hc
    simp only [binOp, Op.shift, shlI]
    rw [if_neg (by omega)]
    rfl
  case h_5 =>
    refine ⟨_, _, h, fun hc => ⟨_, by simp only [VR]; rfl, fun w => ?_, fun _ _ => rfl⟩⟩
    simp only [Cnd.holds] at hc
    simp only [binOp, Op.shift, shrI]
    rw [if_neg (by omega), hdiv]
    rfl
  case h_6 => exact h.elim
theorem strK_sound {op : BinOp} {a : ByteArray} {y : AV} {K : Cnd → AV → Prop} (h : strK op a y K) {v : Value} (hy : VR ρ N y v) (t : TypeId) : ∃ C r, K C r ∧ (C.holds → ∃ cv, VR ρ N r cv ∧ (∀ w : World, (binOp op t (.string a) v).run P w = .ok cv w) ∧ (∀ (x y : Operand), eqGuard op t x y (.string a) v = pure ())) := by
  unfold strK at h
  split at h
  case h_2 => exact h.elim
  simp only [VR] at hy
  subst hy
  split at h
  case h_8 => exact h.elim
  case h_1 =>
    refine ⟨_, _, h, fun hc => ⟨_, by simp only [VR]; rfl, fun w => ?_, fun _ _ => rfl⟩⟩
    simp only [Cnd.holds] at hc
    simp only [binOp, Op.stringOp]
    rw [if_neg (by simp [IntKind.max, IntKind.bits, IntKind.signed]; omega)]
    rfl
  all_goals
    refine ⟨_, _, h, fun hc => ⟨_, by simp only [VR]; rfl, fun w => ?_, fun _ _ => rfl⟩⟩
    simp [binOp, Op.stringOp]
theorem run_eq_nil {t e : TypeId} (h : P.underlying t = some (.slice e)) (A : Option Addr) (n c : Nat) (w : World) : (Op.equal t (.slice A n c) (.slice none 0 0)).run P w = .ok A.isNone w := by
  unfold Op.equal
  rw [show Op.maxDepth = 9999 + 1 from rfl, Op.equalIn]
  cases A <;> simp [Sem.run_bind, run_underlying h, Result.andThen_ok, Sem.run_pure]
theorem SlRel.nil {B : Blk} {i len c : Nat} {A : Option Addr} (h : SlRel B i len c A) (hA : A.isNone = true) : len = 0 := by
  rcases h with ⟨rfl, _⟩ | ⟨h, _⟩
  · simp at hA
  · exact h
theorem nilK_sound (hH : HeapRep ρ N G w) {v : AV} {K : Cnd → Bool → Prop} (h : nilK G v K) {cv : Value} (hv : VR ρ N v cv) : ∃ C b, K C b ∧ (C.holds → ∃ A n c, cv = .slice A n c ∧ b = A.isNone) := by
  unfold nilK at h
  split at h
  · simp only [VR] at hv
    exact ⟨_, _, h, fun _ => ⟨none, 0, 0, hv, rfl⟩⟩
  · rename_i id p
    simp only [VR] at hv
    obtain ⟨_, A, c, rfl, hsl⟩ := hv
    split at h
    case h_2 => exact h.elim
    rename_i o ho
    obtain ⟨C, V, h, hn⟩ := nodeV_spec h
    rw [NV.nK_eq] at h
    refine ⟨C, A.isNone, h _ (fun hc hA => ?_), fun _ => ⟨_, _, _, rfl, rfl⟩⟩
    obtain ⟨_, s2, _⟩ := hH.shape id p _ _ (NodeAt.of_get ho (hn hc))
    rw [V.n_eq, ← s2]
    exact hsl.nil hA
  · rename_i id p i len cap
    simp only [VR] at hv
    obtain ⟨_, A, c, rfl, hsl, _⟩ := hv
    exact ⟨_, A.isNone, h _ (fun hA => hsl.nil hA), fun _ => ⟨_, _, _, rfl, rfl⟩⟩
  · exact h.elim
theorem eqNilK_sound (hT : TblOK P T) (hH : HeapRep ρ N G w) {op : BinOp} {x y : AV} {K : Cnd → AV → Prop} {t : TypeId} (h : eqNilK T G op t x y K) {u v : Value} (hx : VR ρ N x u) (hy : VR ρ N y v) : ∃ C r, K C r ∧ (C.holds → ∃ cv, VR ρ N r cv ∧ (∀ w : World, (binOp op t u v).run P w = .ok cv w) ∧ (∀ (x y : Operand), eqGuard op t x y u v = pure ())) := by
  unfold eqNilK at h
  split at h
  case h_2 => exact h.elim
  simp only [VR] at hy
  subst hy
  split at h
  case h_2 => exact h.elim
  rename_i ti ht
  split at h
  case h_2 => exact h.elim
  rename_i hd1
  have hd0 := (hT _ _ ht).desc
  rw [hd1] at hd0
  obtain ⟨hd, _⟩ := hd0
  split at h
  case h_3 => exact h.elim
  all_goals
    obtain ⟨C, b, hK, hb⟩ := nilK_sound hH h hx
    refine ⟨C, _, hK, fun hc => ?_⟩
    obtain ⟨A, n, c, rfl, rfl⟩ := hb hc
    refine ⟨_, by simp only [VR]; rfl, fun w => ?_, fun _ _ => rfl⟩
    simp [binOp, run_eq_nil hd]

theorem guard_conv {op : BinOp} {t : TypeId} {K : Cnd → AV → Prop} {u v : Value} (h : ∃ C r, K C r ∧ (C.holds → ∃ cv, VR ρ N r cv ∧ (∀ w : World, (binOp op t u v).run P w = .ok cv w) ∧ (∀ (x y : Operand), eqGuard op t x y u v = pure ()))) :
    ∃ C r, K C r ∧ (C.holds → ∃ cv, VR ρ N r cv ∧ (∀ w : World, (binOp op t u v).run P w = .ok cv w) ∧ (∀ (x y : Operand) (w : World), (eqGuard op t x y u v).run P w = .ok () w)) := by
  obtain ⟨C, r, hK, h⟩ := h
  refine ⟨C, r, hK, fun hc => ?_⟩
  obtain ⟨cv, h1, h2, h3⟩ := h hc
  exact ⟨cv, h1, h2, fun x y w => by rw [h3]; rfl⟩
theorem aggEqK_sound {op : BinOp} {cs : List AV} {y : AV} {K : Cnd → AV → Prop} (hT : TblOK P T) {t : TypeId} (h : aggEqK T op t cs y K) {u v : Value} (hx : VR ρ N (.agg cs) u) (hy : VR ρ N y v) :
    ∃ C r, K C r ∧ (C.holds → ∃ cv, VR ρ N r cv ∧ (∀ w : World, (binOp op t u v).run P w = .ok cv w) ∧ (∀ (x y : Operand) (w : World), (eqGuard op t x y u v).run P w = .ok () w)) := by
  unfold aggEqK at h
  split at h
  case h_2 => exact h.elim
  split at h
  case h_2 => exact h.elim
  rename_i ti ht
  obtain ⟨xs, h, hxs⟩ := aggIK_spec (ρ := ρ) (N := N) h
  obtain ⟨ys, h, hys⟩ := aggIK_spec (ρ := ρ) (N := N) h
  simp only [VR] at hx hy
  obtain ⟨us, rfl, hu, _⟩ := hx
  obtain ⟨vs, rfl, hv, _⟩ := hy
  rw [hxs us hu, hys vs hv]
  cases hb : (Nat.beq xs.length ti.eqn && Nat.beq ys.length ti.eqn && Nat.blt 0 ti.eqn) with
  | false => simp [hb] at h
  | true =>
    simp only [hb, cond_true] at h
    simp only [Bool.and_eq_true, Nat.beq_eq, Nat.blt_eq] at hb
    obtain ⟨⟨e1, e2⟩, e3⟩ := hb
    obtain ⟨hg, he⟩ := (hT _ _ ht).eq (by omega)
    have hgu : ∀ (op : BinOp) (x y : Operand) (w : World), (eqGuard op t x y (.agg (xs.map (Value.int .i64)).toArray) (.agg (ys.map (Value.int .i64)).toArray)).run P w = .ok () w := fun op x y w => by
      cases op <;> simp [eqGuard, hg]
    split at h
    · have h := eqLK_spec (bdLK_spec (bdLK_spec h))
      refine ⟨_, _, h, fun hc => ⟨.bool (eqL xs ys), by simp only [VR], fun w => ?_, hgu _⟩⟩
      obtain ⟨b1, b2⟩ := hc
      have := he xs ys e1 e2 (bdL_all xs b1) (bdL_all ys b2) w
      rw [eqL_iff]
      simp [binOp, this]
    · have h := eqLK_spec (bdLK_spec (bdLK_spec h))
      refine ⟨_, _, h, fun hc => ⟨.bool (!(eqL xs ys)), by simp only [VR], fun w => ?_, hgu _⟩⟩
      obtain ⟨b1, b2⟩ := hc
      have := he xs ys e1 e2 (bdL_all xs b1) (bdL_all ys b2) w
      rw [eqL_iff]
      simp [binOp, this]
    · exact h.elim
theorem qBin_sound {op : BinOp} {x y : AV} {K : Cnd → AV → Prop} (hT : TblOK P T) (hH : HeapRep ρ N G w) {t : TypeId} (h : qBin T G op t x y K) {u v : Value} (hx : VR ρ N x u) (hy : VR ρ N y v) : ∃ C r, K C r ∧ (C.holds → ∃ cv, VR ρ N r cv ∧ (∀ w : World, (binOp op t u v).run P w = .ok cv w) ∧ (∀ (x y : Operand) (w : World), (eqGuard op t x y u v).run P w = .ok () w)) := by
  unfold qBin at h
  split at h
  · split at h
    · split at h
      · rename_i a _ b _ ti ht
        split at h
        · rename_i hd1
          have hd0 := (hT _ _ ht).desc
          rw [hd1] at hd0
          have hd : P.underlying t = some .bool := hd0
          simp only [VR] at hx hy
          subst hx hy
          split at h
          · refine ⟨_, _, h, fun _ => ⟨.bool (a == b), by simp only [VR], fun w => ?_, fun _ _ _ => rfl⟩⟩
            simp [binOp, run_eq_bool hd]
          · refine ⟨_, _, h, fun _ => ⟨.bool (!(a == b)), by simp only [VR], fun w => ?_, fun _ _ _ => rfl⟩⟩
            simp [binOp, run_eq_bool hd]
          · exact h.elim
        · exact h.elim
      · exact h.elim
    · exact h.elim
  · simp only [VR] at hx
    subst hx
    exact guard_conv (strK_sound h hy t)
  · exact guard_conv (eqNilK_sound hT hH h hx hy)
  · exact guard_conv (eqNilK_sound hT hH h hx hy)
  · exact guard_conv (eqNilK_sound hT hH h hx hy)
  · exact aggEqK_sound hT h hx hy
  · split at h
    · exact guard_conv (bitsK_sound h hx hy t)
    · exact guard_conv (bitsK_sound h hx hy t)
    · exact guard_conv (bitsK_sound h hx hy t)
    · exact guard_conv (bitsK_sound h hx hy t)
    · exact guard_conv (bitsK_sound h hx hy t)
    · exact guard_conv (binK_sound h hx hy t)

theorem hiK_spec {lk : Operand → AV} {ev : Operand → Value} (hlk : ∀ x, VR ρ N (lk x) (ev x)) {hi : Option Operand} {len : Nat} {K : Cnd → Nat → Prop} (h : hiK lk hi len K) :
    ∃ C n, K C n ∧ (C.holds → n ≤ len ∧ (hi = none → n = len) ∧ ∀ x, hi = some x → ∃ k, ev x = .int k (n : Int)) := by
  unfold hiK at h
  split at h
  · exact ⟨_, _, h, fun _ => ⟨Nat.le_refl _, fun _ => rfl, fun x hx => by cases hx⟩⟩
  · rename_i x
    split at h
    · rename_i k n hx
      refine ⟨_, _, h, fun hc => ?_⟩
      simp only [Cnd.holds] at hc
      have hv := hlk x
      rw [hx] at hv
      simp only [VR] at hv
      refine ⟨by omega, (fun e => by cases e), fun y hy => ?_⟩
      injection hy with hy
      subst hy
      exact ⟨k, by rw [hv, Int.toNat_of_nonneg hc.1]⟩
    · exact h.elim
theorem loK_spec {lk : Operand → AV} {ev : Operand → Value} (hlk : ∀ x, VR ρ N (lk x) (ev x)) {lo : Option Operand} {len : Nat} {K : Cnd → Nat → Prop} (h : loK lk lo len K) :
    ∃ C n, K C n ∧ (C.holds → n ≤ len ∧ (lo = none → n = 0) ∧ ∀ x, lo = some x → ∃ k, ev x = .int k (n : Int)) := by
  unfold loK at h
  split at h
  · exact ⟨_, _, h, fun _ => ⟨Nat.zero_le _, fun _ => rfl, fun x hx => by cases hx⟩⟩
  · rename_i x
    split at h
    · rename_i k n hx
      refine ⟨_, _, h, fun hc => ?_⟩
      simp only [Cnd.holds] at hc
      have hv := hlk x
      rw [hx] at hv
      simp only [VR] at hv
      refine ⟨by omega, (fun e => by cases e), fun y hy => ?_⟩
      injection hy with hy
      subst hy
      exact ⟨k, by rw [hv, Int.toNat_of_nonneg hc.1]⟩
    · exact h.elim

theorem run_bound {k : IntKind} {n y : Nat} (h : n ≤ y) (c : BoundsCode) (w : World) : (Instr.sliceBound (.int k (n : Int)) y c).run P w = .ok n w := by
  have h1 : ((n : Int) ≤ (y : Int)) := by omega
  simp [Instr.sliceBound, asIntOf, h1]

/-- The bounds, run. -/
theorem run_bounds {b : Bool} {len cap h l m : Nat} {lo hi mx : Option Value} (hh : h ≤ len) (hc : len ≤ cap) (hl : l ≤ h)
    (h1 : hi = none → h = len) (h2 : ∀ v, hi = some v → ∃ k, v = .int k (h : Int)) (l1 : lo = none → l = 0) (l2 : ∀ v, lo = some v → ∃ k, v = .int k (l : Int))
    (m1 : mx = none → m = cap) (m2 : ∀ v, mx = some v → hi ≠ none ∧ h ≤ m ∧ m ≤ len ∧ ∃ k, v = .int k (m : Int)) (w : World) : (Instr.sliceBounds b len cap lo hi mx).run P w = .ok (l, h, m) w := by
  unfold Instr.sliceBounds
  cases mx with
  | none =>
    have e := m1 rfl
    subst e
    cases hi with
    | none =>
      have e := h1 rfl
      subst e
      cases lo with
      | none => have e := l1 rfl; subst e; simp
      | some x =>
        obtain ⟨k, rfl⟩ := l2 x rfl
        simp [run_bound hl]
    | some y =>
      obtain ⟨k', rfl⟩ := h2 y rfl
      cases lo with
      | none => have e := l1 rfl; subst e; simp [run_bound (Nat.le_trans hh hc)]
      | some x =>
        obtain ⟨k, rfl⟩ := l2 x rfl
        simp [run_bound hl, run_bound (Nat.le_trans hh hc)]
  | some z =>
    obtain ⟨n1, n2, n3, k0, rfl⟩ := m2 z rfl
    cases hi with
    | none => exact absurd rfl n1
    | some y =>
      obtain ⟨k', rfl⟩ := h2 y rfl
      cases lo with
      | none => have e := l1 rfl; subst e; simp [run_bound (Nat.le_trans n3 hc), run_bound n2]
      | some x =>
        obtain ⟨k, rfl⟩ := l2 x rfl
        simp [run_bound hl, run_bound (Nat.le_trans n3 hc), run_bound n2]

theorem sliceK_spec {lk : Operand → AV} {ev : Operand → Value} (hlk : ∀ x, VR ρ N (lk x) (ev x)) {id : Nat} {p : List Nat} {i len : Nat} {lo hi mx : Option Operand} {K : Cnd → AV → Prop} (h : sliceK lk id p i len lo hi mx K) :
    ∃ C v, K C v ∧ (C.holds → ∀ {t e : TypeId} {ti : TypeInfo} (A : Option Addr) (c : Nat), P.underlying t = some (.slice e) → P.info? e = some ti → ti.size = (ρ id p).sz → id < N → SlRel (ρ id p) i len c A →
      ∃ cv, VR ρ N v cv ∧ ∀ w : World, (Instr.slice t (.slice A len c) (lo.map ev) (hi.map ev) (mx.map ev)).run P w = .ok cv w) := by
  unfold sliceK at h
  obtain ⟨C1, hh, h, hC1⟩ := hiK_spec hlk h
  obtain ⟨C2, l, h, hC2⟩ := loK_spec hlk h
  have fin : ∀ {t e : TypeId} {ti : TypeInfo} (A : Option Addr) (c m : Nat) (oc : Option Nat), P.underlying t = some (.slice e) → P.info? e = some ti → ti.size = (ρ id p).sz → id < N → SlRel (ρ id p) i len c A →
      C1.holds → C2.holds → (mx = none → m = c) → (∀ x, mx = some x → hi ≠ none ∧ hh ≤ m ∧ m ≤ len ∧ ∃ k, ev x = .int k (m : Int)) → (∀ c', oc = some c' → m - l = c') →
      ∃ cv, VR ρ N (.sub id p (Nat.add i l) (Nat.sub hh l) oc) cv ∧ ∀ w : World, (Instr.slice t (.slice A len c) (lo.map ev) (hi.map ev) (mx.map ev)).run P w = .ok cv w := by
    intro t e ti A c m oc ht he hs hid hA c1 c2 m1 m2 hoc
    obtain ⟨a1, a2, a3⟩ := hC1 c1
    obtain ⟨b1, b2, b3⟩ := hC2 c2
    have hlc : len ≤ c := by rcases hA with ⟨_, h, _⟩ | ⟨h, h'⟩ <;> omega
    have hmc : hh ≤ m ∧ m ≤ c := by
      cases hmx : mx with
      | none => have := m1 hmx; omega
      | some x => obtain ⟨_, q1, q2, _⟩ := m2 x hmx; omega
    refine ⟨.slice (if m = l then A else A.map (·.add (l * ti.size))) (hh - l) (m - l), ?_, fun w => ?_⟩
    · simp only [VR]
      refine ⟨hid, _, _, rfl, ?_, hoc⟩
      rcases hA with ⟨rfl, _, q⟩ | ⟨q1, q2⟩
      · by_cases hml : m = l
        · right; exact ⟨by show hh - l = 0; omega, by omega⟩
        · left
          rw [if_neg hml]
          refine ⟨?_, by show hh - l ≤ m - l; omega, ?_⟩
          · rw [hs]
            simp only [Option.map_some, Option.some.injEq]
            unfold Addr.add
            show (if l * (ρ id p).sz = 0 then _ else _) = (⟨(ρ id p).b, (ρ id p).o + (i + l) * (ρ id p).sz, none⟩ : Addr)
            split
            · next h0 => simp only [Addr.mk.injEq, true_and, and_true]; rw [Nat.add_mul, h0]; omega
            · simp only [Addr.mk.injEq, true_and, and_true]; rw [Nat.add_mul]; omega
          · refine Nat.le_trans (Nat.add_le_add_left (Nat.mul_le_mul_right _ ?_) _) q
            show i + l + (m - l) ≤ i + c
            omega
      · right; exact ⟨by show hh - l = 0; omega, by omega⟩
    · unfold Instr.slice
      have hb := run_bounds (P := P) (b := true) (lo := lo.map ev) (hi := hi.map ev) (mx := mx.map ev) (m := m) a1 hlc b1
        (fun e => a2 (by simpa using e)) (fun v e => by obtain ⟨x, hx, rfl⟩ := Option.map_eq_some_iff.1 e; exact a3 x hx)
        (fun e => b2 (by simpa using e)) (fun v e => by obtain ⟨x, hx, rfl⟩ := Option.map_eq_some_iff.1 e; exact b3 x hx)
        (fun e => m1 (by simpa using e)) (fun v e => by obtain ⟨x, hx, rfl⟩ := Option.map_eq_some_iff.1 e; obtain ⟨q0, q⟩ := m2 x hx; exact ⟨by simpa using q0, q⟩) w
      simp only [Sem.run_bind, run_underlying ht, Result.andThen_ok, hb, run_sizeOf he, Sem.run_pure]
  cases mx with
  | none =>
    refine ⟨_, _, h, fun hc {t e ti} A c ht he hs hid hA => ?_⟩
    obtain ⟨c1, c2⟩ := cAnd_holds hc
    exact fin A c c none ht he hs hid hA c1 c2 (fun _ => rfl) (fun x hx => by cases hx) (fun c' e => by cases e)
  | some mo =>
    cases hi with
    | none => exact h.elim
    | some y =>
      simp only at h
      split at h
      · rename_i k mm hm
        refine ⟨_, _, h, fun hc {t e ti} A c ht he hs hid hA => ?_⟩
        obtain ⟨c1, hc⟩ := cAnd_holds hc
        obtain ⟨c2, hc⟩ := cAnd_holds hc
        simp only [Cnd.holds] at hc
        have hv := hlk mo
        rw [hm] at hv
        simp only [VR] at hv
        refine fin A c mm.toNat _ ht he hs hid hA c1 c2 (fun e => by cases e) (fun x hx => ?_) (fun c' e => by injection e)
        injection hx with hx
        subst hx
        refine ⟨by simp, by omega, by omega, k, ?_⟩
        rw [hv, Int.toNat_of_nonneg (by omega)]
      · exact h.elim

theorem pickB_spec {t pol : Bool} {v : AV} {K : Cnd → Bool → Prop} (h : pickB t pol v K) : ∃ C x, K C x ∧ ∀ (cv : Value), VR ρ N v cv → C.holds → t = pol → cv = .bool x := by
  unfold pickB at h
  split at h
  · exact ⟨_, _, h, fun cv hv _ _ => by simpa only [VR] using hv⟩
  · refine ⟨_, _, h, fun cv hv hc ht => ?_⟩
    simp only [VR, Cnd.holds] at hv hc
    exact hv.1 (hc ht)
  · exact ⟨_, _, h, fun cv _ hc ht => absurd ht hc⟩
  · exact h.elim

theorem VRL.take {as : List AV} {vs : List Value} (h : VRL ρ N as vs) (n : Nat) : VRL ρ N (as.take n) (vs.take n) := by
  induction as generalizing vs n with
  | nil => simp only [VRL] at h; subst h; simp [VRL]
  | cons a as ih =>
    simp only [VRL] at h
    obtain ⟨v, r, rfl, h1, h2⟩ := h
    cases n with
    | zero => simp [VRL]
    | succ n => simp only [List.take_succ_cons, VRL]; exact ⟨v, _, rfl, h1, ih h2 n⟩
theorem VRL.drop {as : List AV} {vs : List Value} (h : VRL ρ N as vs) (n : Nat) : VRL ρ N (as.drop n) (vs.drop n) := by
  induction as generalizing vs n with
  | nil => simp only [VRL] at h; subst h; simp [VRL]
  | cons a as ih =>
    obtain ⟨v, r, rfl, h1, h2⟩ : ∃ v r, vs = v :: r ∧ VR ρ N a v ∧ VRL ρ N as r := by simpa only [VRL] using h
    cases n with
    | zero => exact h
    | succ n => simpa only [List.drop_succ_cons] using ih h2 n
theorem VRL.set {as : List AV} {vs : List Value} (h : VRL ρ N as vs) (n : Nat) {a : AV} {v : Value} (ha : VR ρ N a v) : VRL ρ N (as.set n a) (vs.set n v) := by
  induction as generalizing vs n with
  | nil => simp only [VRL] at h; subst h; simp [VRL]
  | cons b as ih =>
    simp only [VRL] at h
    obtain ⟨u, r, rfl, h1, h2⟩ := h
    cases n with
    | zero => simp only [List.set_cons_zero, VRL]; exact ⟨v, _, rfl, ha, h2⟩
    | succ n => simp only [List.set_cons_succ, VRL]; exact ⟨u, _, rfl, h1, ih h2 n⟩

theorem set_take {α : Type} : ∀ (l : List α) (i : Nat) (u : α), i < l.length → (l.set i u).take (i + 1) = l.take i ++ [u]
  | [], _, _, h => by simp at h
  | _ :: _, 0, _, _ => by simp
  | x :: r, i + 1, u, h => by simp [set_take r i u (by simpa using h)]
theorem set_drop {α : Type} : ∀ (l : List α) (i m : Nat) (u : α), i < m → (l.set i u).drop m = l.drop m
  | [], _, _, _, _ => by simp
  | _ :: _, 0, m + 1, _, _ => by simp
  | x :: r, i + 1, m + 1, u, h => by simp [set_drop r i m u (by omega)]

theorem foldl_set (off : Nat) : ∀ (us : List Value) (k : Nat) (cells : List Value), off + k + us.length ≤ cells.length →
    (us.zipIdx k).foldl (fun (cs : Array Value) x => cs.setIfInBounds (off + x.2) x.1) cells.toArray = (cells.take (off + k) ++ us ++ cells.drop (off + k + us.length)).toArray
  | [], k, cells, _ => by simp
  | u :: us, k, cells, h => by
    simp only [List.zipIdx_cons, List.foldl_cons, List.setIfInBounds_toArray, List.length_cons] at h ⊢
    rw [foldl_set off us (k + 1) (cells.set (off + k) u) (by simp; omega)]
    rw [show off + (k + 1) = (off + k) + 1 by omega, set_take _ _ _ (by omega), set_drop _ _ _ _ (by omega)]
    simp only [List.append_assoc, List.singleton_append]
    rw [show off + k + (us.length + 1) = off + k + 1 + us.length by omega]

theorem fill_cons {place : Nat → Option (Nat × Nat)} {i off : Nat} {v : Value} {us vs : List Value} (hv : v.cells = us.toArray) (hp : place i = some (off, us.length)) (hle : off + us.length ≤ vs.length) (rest : List (Nat × Value)) :
    Instr.fill place vs.toArray ((i, v) :: rest) = Instr.fill place (vs.take off ++ us ++ vs.drop (off + us.length)).toArray rest := by
  simp only [Instr.fill, hp, hv]
  rw [if_neg (by simp; omega)]
  have := foldl_set off us 0 vs (by omega)
  rw [← Array.foldl_toList, Array.toList_zipIdx]
  simp only [Nat.add_zero] at this
  rw [this]

theorem partsK_sound {lk : Operand → AV} {ev : Operand → Value} (hlk : ∀ x, VR ρ N (lk x) (ev x)) {fields : Array Field} {fs : List (Nat × Nat × Bool)}
    (hfs : ∀ (j off sz : Nat) (ag : Bool), fs[j]? = some (off, sz, ag) → ∃ (f : Field) (i : TypeInfo), fields[j]? = some f ∧ f.offset = off ∧ P.info? f.type = some i ∧ i.size = sz) {place : Nat → Option (Nat × Nat)}
    (hpl : ∀ (j : Nat) (f : Field) (i : TypeInfo), fields[j]? = some f → P.info? f.type = some i → place j = some (f.offset, i.size)) :
    ∀ {parts : List (Nat × Operand)} {cs : List AV} {K : List AV → Prop} (_ : partsK lk fs parts cs K) {vs : List Value} (_ : VRL ρ N cs vs) (_ : ∀ u ∈ vs, u.oneCell' = true),
      ∃ ds, K ds ∧ ∃ us, VRL ρ N ds us ∧ (∀ u ∈ us, u.oneCell' = true) ∧ us.length = vs.length ∧ Instr.fill place vs.toArray (parts.map fun x => (x.1, ev x.2)) = some us.toArray
  | [], cs, K, h, vs, hv, h1 => ⟨cs, h, vs, hv, h1, rfl, rfl⟩
  | (i, x) :: r, cs, K, h, vs, hv, h1 => by
    simp only [partsK] at h
    obtain ⟨⟨off, sz, ag⟩, hf, h⟩ := lrowK_spec h
    obtain ⟨f, ti, hf1, hf2, hf3, hf4⟩ := hfs i off sz ag hf
    have hp := hpl i f ti hf1 hf3
    rw [hf2, hf4] at hp
    have hx := hlk x
    have hvl := VRL.length hv
    have key : ∀ (a : AV) (v : Value), VR ρ N a v → v.oneCell' = true → (bif Nat.beq sz 1 && Nat.ble (off + 1) cs.length then partsK lk fs r (cs.set off a) K else False) → ev x = v →
        ∃ ds, K ds ∧ ∃ us, VRL ρ N ds us ∧ (∀ u ∈ us, u.oneCell' = true) ∧ us.length = vs.length ∧ Instr.fill place vs.toArray (((i, x) :: r).map fun x => (x.1, ev x.2)) = some us.toArray := by
      intro a v ha ho hh hev
      cases hb : (Nat.beq sz 1 && Nat.ble (off + 1) cs.length) with
      | false => simp [hb] at hh
      | true =>
        simp only [hb, cond_true] at hh
        simp only [Bool.and_eq_true, Nat.beq_eq, Nat.ble_eq] at hb
        obtain ⟨rfl, hb2⟩ := hb
        have hcells : v.cells = [v].toArray := by cases v <;> simp_all [Value.cells, Value.oneCell']
        obtain ⟨ds, hK, us, k1, k2, kl, k3⟩ := partsK_sound hlk hfs hpl hh (hv.set off ha) (vs := vs.set off v) (fun u hu => by
          rcases List.mem_or_eq_of_mem_set hu with hu | rfl
          · exact h1 u hu
          · exact ho)
        refine ⟨ds, hK, us, k1, k2, by simpa using kl, ?_⟩
        rw [List.map_cons, hev, fill_cons hcells hp (by simp; omega), ← k3]
        congr 2
        rw [List.set_eq_take_append_cons_drop, if_pos (by omega)]
        simp
    split at h
    · rename_i off' sz' heq
      simp only [Prod.mk.injEq] at heq
      obtain ⟨rfl, rfl, rfl⟩ := heq
      split at h
      · exact h.elim
      · exact h.elim
      · exact h.elim
      · exact h.elim
      · rename_i hna hnt hno hnp
        refine key _ _ hx ?_ h rfl
        generalize lk x = a at *
        generalize ev x = v at *
        cases a <;> simp only [VR] at hx
        · subst hx; rfl
        · subst hx; rfl
        · subst hx; rfl
        · obtain ⟨_, rfl⟩ := hx; rfl
        · obtain ⟨_, _, _, rfl, _⟩ := hx; rfl
        · obtain ⟨_, _, _, rfl, _⟩ := hx; rfl
        · subst hx; rfl
        · subst hx; rfl
        · subst hx; rfl
        · obtain ⟨_, rfl⟩ := hx; rfl
        · obtain ⟨_, _, rfl, _⟩ := hx; rfl
        · obtain ⟨_, rfl, _⟩ := hx; rfl
        · exact absurd rfl (hna _)
        · exact absurd rfl (hnt _)
        · exact absurd rfl (hno _ _ _ _)
        · exact absurd rfl hnp
    · rename_i off' sz' us' heq hag
      simp only [Prod.mk.injEq] at heq
      obtain ⟨rfl, rfl, rfl⟩ := heq
      cases hb : (Nat.beq us'.length sz && Nat.ble (off + sz) cs.length) with
      | false => simp [hb] at h
      | true =>
        simp only [hb, cond_true] at h
        simp only [Bool.and_eq_true, Nat.beq_eq, Nat.ble_eq] at hb
        obtain ⟨hl, hb2⟩ := hb
        rw [hag] at hx
        simp only [VR] at hx
        obtain ⟨ws, hev, hw, hw1⟩ := hx
        have hwl := VRL.length hw
        obtain ⟨ds, hK, us, k1, k2, kl, k3⟩ := partsK_sound hlk hfs hpl h (((hv.take off).append hw).append (hv.drop (off + sz))) (fun u hu => by
          simp only [List.mem_append] at hu
          rcases hu with (hu | hu) | hu
          · exact h1 u (List.mem_of_mem_take hu)
          · exact hw1 u hu
          · exact h1 u (List.mem_of_mem_drop hu))
        refine ⟨ds, hK, us, k1, k2, ?_, ?_⟩
        · rw [kl]; simp; omega
        · rw [List.map_cons, hev, fill_cons (us := ws) rfl (by rw [hp, hwl, hl]) (by omega), ← k3, hwl, hl]
    · exact h.elim

theorem places_list : ∀ {fs : List (Nat × Nat × Bool)} {gs : List Field}, fs.length = gs.length → (∀ (j off sz : Nat) (ag : Bool), fs[j]? = some (off, sz, ag) → ∃ (f : Field) (i : TypeInfo), gs[j]? = some f ∧ P.info? f.type = some i) →
    ∃ places, gs.mapM (fun f => (P.info? f.type).map fun i => (f.offset, i.size)) = some places ∧ ∀ (j : Nat) (f : Field) (i : TypeInfo), gs[j]? = some f → P.info? f.type = some i → places[j]? = some (f.offset, i.size)
  | [], [], _, _ => ⟨[], by simp, by simp⟩
  | [], _ :: _, h, _ => by simp at h
  | _ :: _, [], h, _ => by simp at h
  | (off, sz, ag) :: fs, g :: gs, hl, h => by
    obtain ⟨f, i, h1, h2⟩ := h 0 off sz ag rfl
    simp only [List.getElem?_cons_zero, Option.some.injEq] at h1
    subst h1
    obtain ⟨ps, p1, p2⟩ := places_list (fs := fs) (gs := gs) (by simpa using hl) (fun j o s a hj => by
      obtain ⟨f, i, k1, k2⟩ := h (j + 1) o s a (by simpa using hj)
      exact ⟨f, i, by simpa using k1, k2⟩)
    refine ⟨(g.offset, i.size) :: ps, ?_, ?_⟩
    · simp [List.mapM_cons, h2, p1]
    · intro j f i' hj hi'
      cases j with
      | zero =>
        simp only [List.getElem?_cons_zero, Option.some.injEq] at hj
        subst hj
        rw [h2] at hi'
        injection hi' with hi'
        subst hi'
        rfl
      | succ j => simpa using p2 j f i' (by simpa using hj) hi'
theorem places_of {fs : List (Nat × Nat × Bool)} {fields : Array Field} (hl : fs.length = fields.size) (h : ∀ (j off sz : Nat) (ag : Bool), fs[j]? = some (off, sz, ag) → ∃ (f : Field) (i : TypeInfo), fields[j]? = some f ∧ f.offset = off ∧ P.info? f.type = some i ∧ i.size = sz ∧ 0 < sz ∧
      (∃ d, P.underlying f.type = some d ∧ (ag = true → ∃ gs, d = .struct gs) ∧ (ag = false → (∀ gs, d ≠ .struct gs) ∧ ∀ n e, d ≠ .array n e))) :
    ∃ places, fields.toList.mapM (fun f => (P.info? f.type).map fun i => (f.offset, i.size)) = some places ∧ ∀ (j : Nat) (f : Field) (i : TypeInfo), fields[j]? = some f → P.info? f.type = some i → places[j]? = some (f.offset, i.size) := by
  obtain ⟨ps, p1, p2⟩ := places_list (P := P) (fs := fs) (gs := fields.toList) (by simpa using hl) (fun j o s a hj => by
    obtain ⟨f, i, k1, _, k2, _⟩ := h j o s a hj
    exact ⟨f, i, by simpa using k1, k2⟩)
  exact ⟨ps, p1, fun j f i hj hi => p2 j f i (by simpa using hj) hi⟩

theorem isBytes_spec (hT : TblOK P T) {s : Nat} (h : isBytes T s = true) : ∃ e, P.underlying s = some (.slice e) ∧ P.underlying e = some (.int .u8) := by
  unfold isBytes at h
  split at h
  case h_2 => cases h
  rename_i si hs
  split at h
  case h_2 => cases h
  rename_i e _ _ _ hd
  split at h
  case h_2 => cases h
  rename_i ei he
  split at h
  case h_2 => cases h
  rename_i k hk
  split at h
  case h_2 => cases h
  have h1 := (hT _ _ hs).desc
  have h2 := (hT _ _ he).desc
  rw [hd] at h1
  rw [hk] at h2
  exact ⟨e, h1.1, h2⟩
/-- The object that a load looks at. -/
def qId (lk : Operand → AV) (op : Op) : Option Nat :=
  match op with
  | .load _ x => match lk x with
    | .ptr id _ _ _ => some id
    | _ => none
  | .convert _ _ x => match lk x with
    | .sl id _ => some id
    | _ => none
  | .lookup _ x _ _ => match lk x with
    | .map id => some id
    | _ => none
  | .call c => match c.callee with
    | .builtin b => match b with
      | .len => match c.args.toList with
        | [x] => match lk x with
          | .map id => some id
          | _ => none
        | _ => none
      | _ => none
    | _ => none
  | _ => none
/-- The blocks of an object are as they were. -/
def Same (ρ : Rho) (G : Heap) (x : Option Nat) (w w' : World) : Prop :=
  ∀ id, x = some id → ∀ p nd own, NodeAt G id p nd own → Solid (ρ id p) nd own → w'.heap[(ρ id p).b]? = w.heap[(ρ id p).b]?
theorem Same.refl (ρ : Rho) (G : Heap) (x : Option Nat) (w : World) : Same ρ G x w w := fun _ _ _ _ _ _ _ => rfl

theorem HeapRep.solid (hH : HeapRep ρ N G w) {id : Nat} {p : List Nat} {nd : Node} {own : Bool} (hn : NodeAt G id p nd own) (h : 0 < nd.n * nd.sz) : Solid (ρ id p) nd own := by
  cases own with
  | false => simpa only [Solid, Bool.false_eq_true, if_false] using h
  | true =>
    simp only [Solid, if_true]
    rcases hH.ow id p nd hn with ⟨_, h0, _⟩ | ⟨_, _, _, h0⟩
    · rw [h0] at h; omega
    · exact h0

/-- The block of a map, and what it holds. -/
theorem mp_block (hH : HeapRep ρ N G w) {id : Nat} {m : MapV} (ho : hget G id = some (.mp m)) :
    ∃ es clock, w.heap[(ρ id []).b]? = some (.map es clock) ∧ es.toList.map (fun e => (e.key, e.val)) = m.ents ∧ MapKept.Stamped es clock ∧ m.more es clock ∧ 0 < (ρ id []).tot := by
  rcases hH.ow id [] _ ⟨⟨_, ho, rfl, rfl⟩⟩ with ⟨_, _, h⟩ | ⟨ob, h1, ⟨es, clock, rfl, h2, h3, h5⟩, h4⟩
  · cases h
  · exact ⟨es, clock, h1, h2, h3, h5, h4⟩
/-- Keys of a kind, as the model handles them. -/
structure KK (P : Program) (kt : TypeId) {κ : Type} (ok : κ → Prop) (enc : κ → Value) : Prop where
  check : ∀ k, ok k → ∀ (em : Bool) (w : World), (Instr.checkKey em 10000 kt (enc k)).run P w = .ok () w
  inj : ∀ a b, enc a = enc b → a = b
  find : ∀ k, ok k → ∀ es : List MapEntry, (∀ e ∈ es, ∃ a, ok a ∧ e.key = enc a) → ∀ w : World, ((Instr.findKey kt (enc k) es).run P w = .ok none w ∧ ∀ e ∈ es, e.key ≠ enc k) ∨
    ∃ j e, (Instr.findKey kt (enc k) es).run P w = .ok (some (j, e.val)) w ∧ es[j]? = some e ∧ e.key = enc k
  stays : ∀ k, ok k → ∀ w : World, (Instr.keyThatStays (enc k) (enc k)).run P w = .ok (enc k) w
theorem kk_int {kt : TypeId} (hk : P.underlying kt = some (.int .i64)) : KK P kt (fun _ => True) encI := by
  have hi : ∀ n : Int, MapKept.IsKey (.int .i64) (encI n) := fun n => rfl
  refine ⟨fun k _ em w => MapKept.run_checkKey hk (hi k) em 9999, fun a b h => by unfold encI at h; injection h, fun k _ es hes w => ?_, fun k _ w => MapKept.run_keyThatStays (hi k)⟩
  rcases MapKept.findNow_spec (hi k) es 0 (fun x hx => by obtain ⟨a, _, e⟩ := hes x hx; rw [e]; exact hi a) with ⟨h1, h2⟩ | ⟨j, e, h1, h2, h3⟩
  · exact .inl ⟨MapKept.run_findKey hk h1, h2⟩
  · exact .inr ⟨j, e, MapKept.run_findKey hk (by simpa using h1), h2, h3⟩
theorem kk_r3 {kt : TypeId} (hk : WideMaps.KeyLaw P kt ∧ ∀ x : R3, ok3 x → ∃ l, keyOf P kt (enc3 x) = some l) : KK P kt ok3 enc3 := by
  obtain ⟨h1, h2⟩ := hk
  refine ⟨fun k hk em w => ?_, fun a b h => ?_, fun k hk es hes w => ?_, fun k hk w => ?_⟩
  · obtain ⟨l, hl⟩ := h2 k hk
    exact h1.check w em hl
  · simp only [enc3, Value.agg.injEq, Array.mk.injEq, List.cons.injEq, Value.int.injEq, true_and, and_true] at h
    cases a; cases b
    simp_all
  · obtain ⟨l, hl⟩ := h2 k hk
    exact h1.find w hl es fun e he => by
      obtain ⟨a, ha, e'⟩ := hes e he
      rw [e']; exact h2 a ha
  · obtain ⟨l, hl⟩ := h2 k hk
    exact h1.stays w hl
theorem look_none {κ α : Type} [DecidableEq κ] {enc : κ → Value} {encv : α → Value} {k : κ} : ∀ {l : List MapEntry} {kvs : List (κ × α)}, l.map (fun e => (e.key, e.val)) = kvs.map (fun e => (enc e.1, encv e.2)) → (∀ e ∈ l, e.key ≠ enc k) →
    mlk kvs k = none ∧ (∀ v, mput kvs k v = kvs ++ [(k, v)]) ∧ mdel kvs k = kvs
  | [], [], _, _ => ⟨rfl, fun _ => rfl, rfl⟩
  | [], _ :: _, h, _ => by simp at h
  | _ :: _, [], h, _ => by simp at h
  | e :: l, (a, b) :: kvs, h, hn => by
    simp only [List.map_cons, List.cons.injEq, Prod.mk.injEq] at h
    obtain ⟨⟨h1, h2⟩, h3⟩ := h
    have hne : a ≠ k := fun he => hn e (by simp) (by rw [h1, he])
    obtain ⟨k1, k2, k3⟩ := look_none h3 fun x hx => hn x (List.mem_cons_of_mem _ hx)
    simp [mlk, mput, mdel, if_neg hne, k1, k2, k3]
theorem look_some {κ α : Type} [DecidableEq κ] {enc : κ → Value} (hinj : ∀ a b, enc a = enc b → a = b) {encv : α → Value} {k : κ} : ∀ {l : List MapEntry} {kvs : List (κ × α)} {j : Nat} {e : MapEntry}, l.map (fun e => (e.key, e.val)) = kvs.map (fun e => (enc e.1, encv e.2)) → (l.map (·.key)).Nodup → l[j]? = some e → e.key = enc k →
    ∃ u, mlk kvs k = some u ∧ e.val = encv u ∧ kvs[j]? = some (k, u) ∧ (∀ v, mput kvs k v = kvs.set j (k, v)) ∧ mdel kvs k = kvs.eraseIdx j
  | [], _, _, _, _, _, h, _ => by simp at h
  | _ :: _, [], _, _, h, _, _, _ => by simp at h
  | x :: l, (a, b) :: kvs, 0, e, h, hd, hj, hk => by
    simp only [List.map_cons, List.cons.injEq, Prod.mk.injEq] at h
    obtain ⟨⟨h1, h2⟩, h3⟩ := h
    simp only [List.getElem?_cons_zero, Option.some.injEq] at hj
    subst hj
    have : a = k := hinj _ _ (h1.symm.trans hk)
    subst this
    exact ⟨b, by simp [mlk], h2, rfl, fun v => by simp [mput], by simp [mdel]⟩
  | x :: l, (a, b) :: kvs, j + 1, e, h, hd, hj, hk => by
    simp only [List.map_cons, List.cons.injEq, Prod.mk.injEq] at h
    obtain ⟨⟨h1, h2⟩, h3⟩ := h
    simp only [List.getElem?_cons_succ] at hj
    simp only [List.map_cons, List.nodup_cons] at hd
    have hne : a ≠ k := fun he => hd.1 (by
      rw [h1, he, ← hk]
      exact List.mem_map.2 ⟨e, List.mem_of_getElem? hj, rfl⟩)
    obtain ⟨u, k1, k2, k3, k4, k5⟩ := look_some hinj h3 hd.2 hj hk
    exact ⟨u, by simp [mlk, if_neg hne, k1], k2, by simpa using k3, fun v => by simp [mput, if_neg hne, k4], by simp [mdel, if_neg hne, k5]⟩
theorem ents_ok {κ α : Type} {enc : κ → Value} {encv : α → Value} {ok : κ → Prop} {l : List MapEntry} {kvs : List (κ × α)} (h : l.map (fun e => (e.key, e.val)) = kvs.map (fun e => (enc e.1, encv e.2))) (hok : ∀ e ∈ kvs, ok e.1) : ∀ e ∈ l, ∃ a, ok a ∧ e.key = enc a := fun e he => by
  have : (e.key, e.val) ∈ kvs.map fun e => (enc e.1, encv e.2) := h ▸ List.mem_map.2 ⟨e, he, rfl⟩
  obtain ⟨x, hx, q⟩ := List.mem_map.1 this
  injection q with q _
  exact ⟨x.1, hok x hx, q.symm⟩
theorem lookup_core {t kt et : TypeId} (hm : P.underlying t = some (.map kt et)) {bv : Bool} {ie : TypeInfo} (he : P.info? et = some ie) (hz : ie.zero = some (mzero bv)) {κ α : Type} [DecidableEq κ] {ok : κ → Prop} {enc : κ → Value} (hK : KK P kt ok enc) {encv : α → Value} {d0 : α} (h0 : encv d0 = mzero bv)
    {r : Nat} {es : Array MapEntry} {clock : Nat} {kvs : List (κ × α)} (hes : es.toList.map (fun e => (e.key, e.val)) = kvs.map (fun e => (enc e.1, encv e.2))) (hd : (es.toList.map (·.key)).Nodup) (hok : ∀ e ∈ kvs, ok e.1) {k : κ} (hk : ok k) (b : Bool) {w : World} (hb : w.heap[r]? = some (.map es clock)) :
    (Instr.lookup t (.map (some r)) (enc k) b).run P w = .ok (if b = true then .tuple #[encv ((mlk kvs k).getD d0), .bool (mhas kvs k)] else encv ((mlk kvs k).getD d0)) w := by
  have hzero : ∀ w' : World, (zeroValue et).run P w' = .ok (mzero bv) w' := fun w' => by simp [zeroValue, typeInfo, he, hz]
  rcases hK.find k hk es.toList (ents_ok hes hok) w with ⟨h1, h2⟩ | ⟨j, e, h1, h2, h3⟩
  · obtain ⟨q1, _⟩ := look_none hes h2
    simp only [Instr.lookup, Sem.run_bind, run_underlying hm, Result.andThen_ok, MapKept.run_getObj_map hb, hK.check k hk, Sem.run_pure, h1, hzero, mhas, q1]
    cases b <;> simp [h0]
  · obtain ⟨u, q1, q2, _⟩ := look_some hK.inj hes hd h2 h3
    simp only [Instr.lookup, Sem.run_bind, run_underlying hm, Result.andThen_ok, MapKept.run_getObj_map hb, hK.check k hk, Sem.run_pure, h1, mhas, q1]
    cases b <;> simp [q2]

theorem quiet_keep {lk : Operand → AV} {a : Act} (hT : TblOK P T) (hH : HeapRep ρ N G w) (hlk : ∀ x, VR ρ N (lk x) (a.eval x)) {o : Oper} {K : Cnd → AV → Prop} (h : quiet T lk G o.op K) :
    ∃ C v, K C v ∧ (C.holds → ∃ cv, VR ρ N v cv ∧ ∀ w', Same ρ G (qId lk o.op) w w' → (execOp a.eval o).run P w' = .ok (.value cv) w') := by
  obtain ⟨dst, op, ty, pos, after, guard⟩ := o
  simp only at h
  cases op <;> simp only [quiet] at h
  case move x => exact ⟨_, _, h, fun _ => ⟨_, hlk x, fun _ _ => by simp [execOp]⟩⟩
  case assign x => exact ⟨_, _, h, fun _ => ⟨_, hlk x, fun _ _ => by simp [execOp]⟩⟩
  case pick c x y =>
    unfold qPick at h
    split at h
    · rename_i t hc
      have hcv := hlk c
      rw [hc] at hcv
      simp only [VR] at hcv
      obtain ⟨C1, b1, h, p1⟩ := pickB_spec (ρ := ρ) (N := N) h
      obtain ⟨C2, b2, h, p2⟩ := pickB_spec (ρ := ρ) (N := N) h
      refine ⟨_, _, h, fun hcc => ⟨.bool (cond t b1 b2), by simp only [VR], ?_⟩⟩
      have h1 := p1 _ (hlk x) (cAnd_holds hcc).1
      have h2 := p2 _ (hlk y) (cAnd_holds hcc).2
      intro _ _
      cases t with
      | true => simp [execOp, hcv, asBool, h1 rfl]
      | false => simp [execOp, hcv, asBool, h2 rfl]
    · exact h.elim
  case nilCheck x =>
    have hv := hlk x
    unfold qNil at h
    split at h
    · rename_i id p i j hx
      rw [hx] at hv
      refine ⟨_, _, h, fun _ => ⟨_, hv, ?_⟩⟩
      simp only [VR] at hv
      intro _ _
      simp [execOp, hv.2]
    · exact h.elim
  case fieldAddr s x f =>
    have hv := hlk x
    unfold qField at h
    split at h
    · rename_i ti ht
      split at h
      · rename_i fs hfs0
        split at h
        · rename_i id p i j hx
          obtain ⟨⟨off, sz, ag⟩, hf, h⟩ := lrowK_spec h
          have hd0 := (hT _ _ ht).desc
          rw [hfs0] at hd0
          obtain ⟨fields, hd, _, hfs⟩ : DescOK P s (.struct fs) := hd0
          obtain ⟨fd, ti, hf1, hf2, hf3, hf4, hf5, _⟩ := hfs f off sz ag hf
          rw [hx] at hv
          simp only [VR] at hv
          refine ⟨_, _, h, fun _ => ⟨.pointer (some ⟨(ρ id p).b, (ρ id p).o + (i * (ρ id p).sz + (j + off)), none⟩), by simp only [VR]; exact ⟨hv.1, trivial⟩, ?_⟩⟩
          have hne : ¬ ti.size = 0 := by omega
          intro _ _
          simp only [execOp, Instr.fieldAt, Sem.run_bind, run_underlying hd, Result.andThen_ok, hf1, hv.2, Instr.sureAddr, Sem.run_pure, fieldPlace, run_sizeOf hf3, hne, if_false, hf2]
          congr 4
          unfold Addr.add
          split
          · next h0 => subst h0; simp
          · simp [Nat.add_assoc]
        · exact h.elim
      · exact h.elim
    · exact h.elim
  case load t x =>
    have hv := hlk x
    unfold qLoad at h
    split at h
    · rename_i ti ht
      split at h
      · rename_i id p i j hx
        split at h
        · rename_i o ho
          rw [hx] at hv
          obtain ⟨C1, V, h, hn⟩ := nodeV_spec h
          split at h
          · rename_i hag
            obtain ⟨C2, cs, h, hr⟩ := rdA_spec h
            refine ⟨_, _, h, fun hcc => ?_⟩
            obtain ⟨hc1, hc2⟩ := cAnd_holds hcc
            obtain ⟨k1, k2, k3, k4⟩ := hr hc2
            obtain ⟨i0, z, hi0, hi1, _⟩ := (hT _ _ ht).info
            have hd0 := (hT _ _ ht).desc
            obtain ⟨fs0, hfs0⟩ : ∃ fs0, ti.d = .struct fs0 := by
              cases hdd : ti.d <;> simp [hdd, TD.agg] at hag
              exact ⟨_, rfl⟩
            rw [hfs0] at hd0
            obtain ⟨fields, hd, _, _⟩ : DescOK P t (.struct fs0) := hd0
            rw [← hi1] at k1 k2 k3 k4
            obtain ⟨cv, q1, q2⟩ := load_cells hH hd hi0 (NodeAt.of_get ho (hn hc1)) k1 k2 k3 k4 hv
            refine ⟨cv, q1, fun w' hw' => ?_⟩
            have hn1 := NodeAt.of_get ho (hn hc1)
            have := q2 w' (fun hz => hw' id (by simp only [qId, hx]) p _ _ hn1 (hH.solid hn1 (Nat.mul_pos (by have := k1 hz; omega) (by omega))))
            simp [execOp, this]
          · rename_i hag
            obtain ⟨C2, v, h, hr⟩ := rdC_spec h
            refine ⟨_, _, h, fun hcc => ?_⟩
            obtain ⟨hc1, hc2⟩ := cAnd_holds hcc
            obtain ⟨k1, k2, k3⟩ := hr hc2
            obtain ⟨cv, q1, q2⟩ := load_cell hH (hT _ _ ht).desc hag (NodeAt.of_get ho (hn hc1)) k1 k2 hv
            refine ⟨cv, k3 ▸ q1, fun w' hw' => ?_⟩
            have hn1 := NodeAt.of_get ho (hn hc1)
            have := q2 w' (hw' id (by simp only [qId, hx]) p _ _ hn1 (hH.solid hn1 (Nat.mul_pos (by omega) (by omega))))
            simp [execOp, this]
        · exact h.elim
      · exact h.elim
    · exact h.elim
  case indexAddr t x ix =>
    have hv := hlk x
    have hvi := hlk ix
    unfold qIndex at h
    split at h
    case h_2 => exact h.elim
    rename_i ti ht
    split at h
    case h_2 => exact h.elim
    rename_i e esz eb ek hd1
    have hd0 := (hT _ _ ht).desc
    rw [hd1] at hd0
    obtain ⟨hd, i1, z1, hi1, hsz, _⟩ : DescOK P t (.slice e esz eb ek) := hd0
    split at h
    case h_2 => exact h.elim
    rename_i k n hix
    rw [hix] at hvi
    simp only [VR] at hvi
    have hadd : ∀ (b o i m : Nat) , Addr.add ⟨b, o + i * esz, none⟩ (m * i1.size) = ⟨b, o + ((i + m) * esz + 0), none⟩ := fun b o i m => by
      rw [hsz]
      unfold Addr.add
      split
      · next h0 => simp only [Addr.mk.injEq, true_and, and_true]; rw [Nat.add_mul, h0]; omega
      · simp only [Addr.mk.injEq, true_and, and_true]; rw [Nat.add_mul]; omega
    split at h
    case h_3 => exact h.elim
    case h_1 id p hx =>
      rw [hx] at hv
      simp only [VR] at hv
      obtain ⟨hidN, A, c, hv, hsl⟩ := hv
      split at h
      case h_2 => exact h.elim
      rename_i o ho
      obtain ⟨C1, V, h, hn⟩ := nodeV_spec h
      cases hb : Nat.beq esz V.sz with
      | false => simp [hb] at h
      | true =>
        simp only [hb, cond_true, NV.nK_eq] at h
        have hb := Nat.eq_of_beq_eq_true hb
        refine ⟨_, _, h, fun hcc => ?_⟩
        obtain ⟨hc1, h0, h1⟩ := cAnd_holds hcc
        obtain ⟨s1, s2, s3⟩ := hH.shape id p _ _ (NodeAt.of_get ho (hn hc1))
        rw [V.n_eq, ← s2] at h1
        rw [V.sz_eq, ← s1] at hb
        rcases hsl with ⟨rfl, _, _⟩ | ⟨hl, _⟩
        · refine ⟨.pointer (some ⟨(ρ id p).b, (ρ id p).o + (n.toNat * (ρ id p).sz + 0), none⟩), by simp only [VR]; exact ⟨hidN, trivial⟩, ?_⟩
          have := hadd (ρ id p).b (ρ id p).o 0 n.toNat
          intro _ _
          simp only [execOp, Instr.indexAt, hv, hvi, asIntOf, Sem.run_bind, Sem.run_pure, Result.andThen_ok, run_underlying hd, Sem.run_ite, h0, h1, and_self, if_true, run_sizeOf hi1, ← hb]
          rw [this]
          simp
        · omega
    case h_2 id p i len cap hx =>
      rw [hx] at hv
      simp only [VR] at hv
      obtain ⟨hidN, A, c, hv, hsl, _⟩ := hv
      split at h
      case h_2 => exact h.elim
      rename_i o ho
      obtain ⟨C1, V, h, hn⟩ := nodeV_spec h
      cases hb : Nat.beq esz V.sz with
      | false => simp [hb] at h
      | true =>
        simp only [hb, cond_true] at h
        have hb := Nat.eq_of_beq_eq_true hb
        refine ⟨_, _, h, fun hcc => ?_⟩
        obtain ⟨hc1, h0, h1⟩ := cAnd_holds hcc
        obtain ⟨s1, s2, s3⟩ := hH.shape id p _ _ (NodeAt.of_get ho (hn hc1))
        rw [V.sz_eq, ← s1] at hb
        rcases hsl with ⟨rfl, _, _⟩ | ⟨hl, _⟩
        · refine ⟨.pointer (some ⟨(ρ id p).b, (ρ id p).o + ((i + n.toNat) * (ρ id p).sz + 0), none⟩), by simp only [VR]; exact ⟨hidN, trivial⟩, ?_⟩
          have := hadd (ρ id p).b (ρ id p).o i n.toNat
          intro _ _
          simp only [execOp, Instr.indexAt, hv, hvi, asIntOf, Sem.run_bind, Sem.run_pure, Result.andThen_ok, run_underlying hd, Sem.run_ite, h0, h1, and_self, if_true, run_sizeOf hi1, ← hb]
          rw [this]
        · omega
  case binOp op t x y yt =>
    obtain ⟨C, r, hK, hr⟩ := qBin_sound (P := P) hT hH h (hlk x) (hlk y)
    refine ⟨C, r, hK, fun hc => ?_⟩
    obtain ⟨cv, q1, q2, q3⟩ := hr hc
    exact ⟨cv, q1, fun _ _ => by simp [execOp, q2, q3]⟩
  case unOp op t x =>
    have hv := hlk x
    unfold qUn at h
    split at h
    · split at h
      · rename_i b hx
        rw [hx] at hv
        simp only [VR] at hv
        exact ⟨_, _, h, fun _ => ⟨.bool (!b), by simp only [VR], fun _ _ => by simp [execOp, hv, Op.unary]⟩⟩
      · exact h.elim
    · split at h
      · rename_i k n hx
        rw [hx] at hv
        simp only [VR] at hv
        obtain ⟨C, m, hK, hm⟩ := arK_spec h
        refine ⟨_, _, hK, fun hc => ⟨.int k m, by simp only [VR], ?_⟩⟩
        have := hm hc
        simp only [Int.zero_sub] at this
        intro _ _
        simp [execOp, hv, Op.unary, Op.intArith, this]
      · exact h.elim
    · exact h.elim
  case extract x i =>
    have hv := hlk x
    unfold qExtract at h
    split at h
    · rename_i vs hx
      rw [hx] at hv
      simp only [VR] at hv
      obtain ⟨us, hv, hus⟩ := hv
      obtain ⟨v, hvi, hK⟩ := lrowK_spec h
      refine ⟨_, _, hK, fun _ => ?_⟩
      obtain ⟨hi, _⟩ := List.getElem?_eq_some_iff.1 hvi
      obtain ⟨u, hu, hr⟩ := hus.get i hi
      refine ⟨u, by simpa [List.getD, hvi] using hr, ?_⟩
      intro _ _
      simp [execOp, hv, Instr.extract, hu]
    · exact h.elim
  case makeFunc fn first caps =>
    unfold qFunc at h
    split at h
    · rename_i f0
      split at h
      · rename_i hf
        refine ⟨_, _, h, fun _ => ⟨.func (.func f0) #[] (caps.map a.eval), ?_, ?_⟩⟩
        · simp only [VR]
          refine ⟨caps.toList.map a.eval, by congr 1; exact Array.ext' (by simp), ?_⟩
          generalize caps.toList = l
          induction l with
          | nil => simp [VRL]
          | cons x r ih => simp only [List.map_cons, VRL]; exact ⟨_, _, rfl, hlk x, ih⟩
        · have : first = #[] := Array.ext' hf
          intro _ _
          simp [execOp, Instr.makeFunc, this]
      · exact h.elim
    · exact h.elim
  case build t parts =>
    unfold qBuild at h
    split at h
    case h_2 => exact h.elim
    rename_i ti ht
    split at h
    case h_2 => exact h.elim
    rename_i fs hd1
    cases hb : Nat.beq ti.zero.length 0 with
    | true => simp [hb] at h
    | false =>
      simp only [hb, cond_false] at h
      have hz : ti.zero.length ≠ 0 := fun h0 => by rw [h0] at hb; cases hb
      have hd0 := (hT _ _ ht).desc
      rw [hd1] at hd0
      obtain ⟨fields, hd, hfl, hfs⟩ : DescOK P t (.struct fs) := hd0
      obtain ⟨i0, z, hi0, hi1, hi2, hz0, hzz⟩ := (hT _ _ ht).info
      obtain ⟨z1, z2, z3⟩ := hzz hz
      obtain ⟨places, hp1, hp2⟩ := places_of hfl hfs
      obtain ⟨ds, hK, us, k1, k2, k3, k4⟩ := partsK_sound hlk (fun j off sz ag h => by obtain ⟨f, i, h1, h2, h3, h4, _⟩ := hfs j off sz ag h; exact ⟨f, i, h1, h2, h3, h4⟩) (place := (places.toArray[·]?)) (fun j f i h1 h2 => by simpa using hp2 j f i h1 h2) h (z2 ρ N) (fun u hu => z3 u (by simpa using hu))
      refine ⟨_, _, hK, fun _ => ⟨.agg us.toArray, ?_, ?_⟩⟩
      · simp only [VR]; exact ⟨us, rfl, k1, k2⟩
      · simp only [Array.toArray_toList] at k4
        have k5 : Instr.fill (fun x => places[x]?) z.cells (List.map (fun x => (x.fst, a.eval x.snd)) parts.toList) = some us.toArray := by simpa using k4
        intro w' _
        simp [execOp, Instr.build, run_underlying hd, zeroValue, typeInfo, hi0, hz0, Array.mapM_eq_mapM_toList, run_places w' _ _ hp1, k5]
  case call c =>
    unfold qCall at h
    split at h
    case h_2 => exact h.elim
    rename_i b hcal
    split at h
    case h_4 => exact h.elim
    · split at h
      case h_2 => exact h.elim
      rename_i x hargs
      split at h
      case h_2 => exact h.elim
      rename_i t hts
      have hv := hlk x
      have ha : c.args = #[x] := Array.ext' hargs
      have ht0 : c.argTypes = #[t] := Array.ext' hts
      unfold qLen at h
      split at h
      case h_2 => exact h.elim
      rename_i ti ht
      have hd0 := (hT _ _ ht).desc
      split at h
      · rename_i e esz eb ek hd1
        rw [hd1] at hd0
        obtain ⟨hd, _⟩ : DescOK P t (.slice e esz eb ek) := hd0
        obtain ⟨C, n, hK, hn⟩ := lenK_sound hH h hv
        refine ⟨_, _, hK, fun hc => ⟨.int .i64 n, by simp only [VR], ?_⟩⟩
        obtain ⟨A, cp, hs⟩ := hn hc
        intro _ _
        simp [execOp, resolve, hcal, ha, ht0, invoke, builtin, hs, Builtin.len_, run_underlying hd, goInt]
      · rename_i hd1
        rw [hd1] at hd0
        have hd : P.underlying t = some .string := hd0
        split at h
        · rename_i s hx
          rw [hx] at hv
          simp only [VR] at hv
          refine ⟨_, _, h, fun hc => ⟨.int .i64 s.size, by simp only [VR], ?_⟩⟩
          intro _ _
          simp [execOp, resolve, hcal, ha, ht0, invoke, builtin, hv, Builtin.len_, run_underlying hd, goInt]
        · exact h.elim
      · rename_i kn bv hd1
        rw [hd1] at hd0
        obtain ⟨kt, et, ie, hd, _⟩ : DescOK P t (.map kn bv) := hd0
        unfold mlenK at h
        split at h
        · rename_i hx
          rw [hx] at hv
          simp only [VR] at hv
          refine ⟨_, _, h, fun hc => ⟨.int .i64 0, by simp only [VR], ?_⟩⟩
          intro _ _
          simp [execOp, resolve, hcal, ha, ht0, invoke, builtin, hv, Builtin.len_, run_underlying hd, goInt]
        · rename_i id hx
          rw [hx] at hv
          simp only [VR] at hv
          obtain ⟨_, hv⟩ := hv
          have hqi : qId lk (.call c) = some id := by simp only [qId, hcal, hargs, hx]
          split at h
          case h_2 => exact h.elim
          rename_i o ho
          split at h
          case h_2 => exact h.elim
          rename_i m
          obtain ⟨es, clock, hb, hes, hst, _, htot⟩ := mp_block hH ho
          have hrun : ∀ w', Same ρ G (qId lk (.call c)) w w' → (execOp a.eval ⟨dst, .call c, ty, pos, after, guard⟩).run P w' = .ok (.value (.int .i64 es.size)) w' := fun w' hS => by
            rw [hqi] at hS
            have hb' : w'.heap[(ρ id []).b]? = some (.map es clock) := by
              rw [hS id rfl [] _ true ⟨⟨_, ho, rfl, rfl⟩⟩ (by simpa [Solid] using htot)]
              exact hb
            simp [execOp, resolve, hcal, ha, ht0, invoke, builtin, hv, Builtin.len_, run_underlying hd, goInt, MapKept.run_getObj_map hb']
          have hlen := congrArg List.length hes
          simp only [List.length_map, Array.length_toList] at hlen
          cases m <;> simp only at h
          all_goals
            refine ⟨_, _, h, fun hc => ⟨.int .i64 es.size, ?_, hrun⟩⟩
            simp only [VR, hlen, MapV.ents, List.length_map]
        · exact h.elim
      · exact h.elim
    · split at h
      case h_2 => exact h.elim
      rename_i x y hargs
      have ha : c.args = #[x, y] := Array.ext' hargs
      have hvx := hlk x
      have hvy := hlk y
      unfold qMax at h
      split at h
      case h_2 => exact h.elim
      split at h
      case h_2 => exact h.elim
      rename_i _ k m hx _ k' m' hy
      rw [hx] at hvx
      rw [hy] at hvy
      simp only [VR] at hvx hvy
      refine ⟨_, _, h, fun hc => ⟨.int k (max m m'), by simp only [VR], ?_⟩⟩
      intro _ _
      simp [execOp, resolve, hcal, ha, invoke, builtin, hvx, hvy, run_max_int2]
      rw [Int.max_def]; split <;> split <;> omega
    · split at h
      case h_2 => exact h.elim
      rename_i x y hargs
      have ha : c.args = #[x, y] := Array.ext' hargs
      have hvx := hlk x
      have hvy := hlk y
      unfold qMin at h
      split at h
      case h_2 => exact h.elim
      split at h
      case h_2 => exact h.elim
      rename_i _ k m hx _ k' m' hy
      rw [hx] at hvx
      rw [hy] at hvy
      simp only [VR] at hvx hvy
      refine ⟨_, _, h, fun hc => ⟨.int k (min m m'), by simp only [VR], ?_⟩⟩
      intro _ _
      simp [execOp, resolve, hcal, ha, invoke, builtin, hvx, hvy, run_min_int2]
      rw [Int.min_def]; split <;> split <;> omega
  case slice t x lo hi mx =>
    have hv := hlk x
    unfold qSlice at h
    split at h
    case h_2 => exact h.elim
    rename_i ti ht
    have hd0 := (hT _ _ ht).desc
    split at h
    case h_3 => exact h.elim
    · rename_i e esz eb ek hd1
      rw [hd1] at hd0
      obtain ⟨hd, i1, z1, hi1, hsz, _⟩ : DescOK P t (.slice e esz eb ek) := hd0
      split at h
      case h_4 => exact h.elim
      · rename_i id p hx
        rw [hx] at hv
        simp only [VR] at hv
        obtain ⟨hidN, A, c, hv, hsl⟩ := hv
        split at h
        case h_2 => exact h.elim
        rename_i ob ho
        obtain ⟨C1, V, h, hn⟩ := nodeV_spec h
        cases hb : Nat.beq esz V.sz with
        | false => simp [hb] at h
        | true =>
          simp only [hb, cond_true, NV.nK_eq] at h
          have hb := Nat.eq_of_beq_eq_true hb
          obtain ⟨C2, r, h, hr⟩ := sliceK_spec (P := P) (ρ := ρ) (N := N) hlk h
          refine ⟨_, _, h, fun hcc => ?_⟩
          obtain ⟨hc1, hc2⟩ := cAnd_holds hcc
          obtain ⟨s1, s2, s3⟩ := hH.shape id p _ _ (NodeAt.of_get ho (hn hc1))
          have hA : SlRel (ρ id p) 0 V.n c A := by rw [V.n_eq, ← s2]; exact hsl
          obtain ⟨cv, q1, q2⟩ := hr hc2 A c hd hi1 (by rw [hsz, hb, V.sz_eq, ← s1]) hidN hA
          refine ⟨cv, q1, fun w' _ => ?_⟩
          have hv' : a.eval x = .slice A V.n c := by rw [hv, V.n_eq, ← s2]
          simp [execOp, hv', Instr.sliceAt, run_underlying hd, q2]
      · rename_i id p i len cap hx
        rw [hx] at hv
        simp only [VR] at hv
        obtain ⟨hidN, A, c, hv, hsl, _⟩ := hv
        split at h
        case h_2 => exact h.elim
        rename_i ob ho
        obtain ⟨C1, V, h, hn⟩ := nodeV_spec h
        cases hb : Nat.beq esz V.sz with
        | false => simp [hb] at h
        | true =>
          simp only [hb, cond_true] at h
          have hb := Nat.eq_of_beq_eq_true hb
          obtain ⟨C2, r, h, hr⟩ := sliceK_spec (P := P) (ρ := ρ) (N := N) hlk h
          refine ⟨_, _, h, fun hcc => ?_⟩
          obtain ⟨hc1, hc2⟩ := cAnd_holds hcc
          obtain ⟨s1, s2, s3⟩ := hH.shape id p _ _ (NodeAt.of_get ho (hn hc1))
          obtain ⟨cv, q1, q2⟩ := hr hc2 A c hd hi1 (by rw [hsz, hb, V.sz_eq, ← s1]) hidN hsl
          refine ⟨cv, q1, fun w' _ => ?_⟩
          simp [execOp, hv, Instr.sliceAt, run_underlying hd, q2]
      · rename_i hx
        rw [hx] at hv
        simp only [VR] at hv
        split at h
        case h_2 => exact h.elim
        obtain ⟨C1, hh, h, hC1⟩ := hiK_spec hlk h
        obtain ⟨C2, l, h, hC2⟩ := loK_spec hlk h
        refine ⟨_, _, h, fun hcc => ⟨.slice none 0 0, by simp only [VR], fun w' _ => ?_⟩⟩
        obtain ⟨c1, c2⟩ := cAnd_holds hcc
        obtain ⟨a1, a2, a3⟩ := hC1 c1
        obtain ⟨b1, b2, b3⟩ := hC2 c2
        have e1 : hh = 0 := by omega
        have e2 : l = 0 := by omega
        subst e1 e2
        have hb := run_bounds (P := P) (b := true) (len := 0) (cap := 0) (lo := lo.map a.eval) (hi := hi.map a.eval) (mx := none) (m := 0) a1 (Nat.le_refl _) b1
          (fun e => a2 (by simpa using e)) (fun v e => by obtain ⟨x, hx, rfl⟩ := Option.map_eq_some_iff.1 e; exact a3 x hx)
          (fun e => b2 (by simpa using e)) (fun v e => by obtain ⟨x, hx, rfl⟩ := Option.map_eq_some_iff.1 e; exact b3 x hx)
          (fun _ => rfl) (fun v e => by cases e) w'
        simp [execOp, hv, Instr.sliceAt, Instr.slice, run_underlying hd, hb, run_sizeOf hi1]
    · rename_i hd1
      rw [hd1] at hd0
      have hd : P.underlying t = some .string := hd0
      split at h
      case h_2 => exact h.elim
      rename_i s hx
      rw [hx] at hv
      simp only [VR] at hv
      split at h
      case h_2 => exact h.elim
      obtain ⟨C1, hh, h, hC1⟩ := hiK_spec hlk h
      obtain ⟨C2, l, h, hC2⟩ := loK_spec hlk h
      refine ⟨_, _, h, fun hcc => ⟨.string (s.extract l hh), by simp only [VR], fun w' _ => ?_⟩⟩
      obtain ⟨c1, c2⟩ := cAnd_holds hcc
      obtain ⟨a1, a2, a3⟩ := hC1 c1
      obtain ⟨b1, b2, b3⟩ := hC2 c2
      have hb := run_bounds (P := P) (b := false) (len := s.size) (cap := s.size) (lo := lo.map a.eval) (hi := hi.map a.eval) (mx := none) (m := s.size) a1 (Nat.le_refl _) b1
        (fun e => a2 (by simpa using e)) (fun v e => by obtain ⟨x, hx, rfl⟩ := Option.map_eq_some_iff.1 e; exact a3 x hx)
        (fun e => b2 (by simpa using e)) (fun v e => by obtain ⟨x, hx, rfl⟩ := Option.map_eq_some_iff.1 e; exact b3 x hx)
        (fun _ => rfl) (fun v e => by cases e) w'
      simp [execOp, hv, Instr.sliceAt, Instr.slice, run_underlying hd, hb]
  case convert s t x =>
    have hv := hlk x
    unfold qConv at h
    split at h
    case h_2 => exact h.elim
    rename_i ti ht
    split at h
    case h_3 => exact h.elim
    · rename_i hd1
      cases hbb : isBytes T s with
      | false => rw [hbb] at h; exact h.elim
      | true =>
      rw [hbb] at h
      simp only [cond_true] at h
      have hd0 := (hT _ _ ht).desc
      rw [hd1] at hd0
      have hd : P.underlying t = some .string := hd0
      obtain ⟨e, hs, he⟩ := isBytes_spec hT hbb
      unfold bytesK at h
      split at h
      · rename_i hx
        rw [hx] at hv
        simp only [VR] at hv
        refine ⟨_, _, h, fun _ => ⟨.string (strOfNums []), by simp only [VR], fun w' _ => ?_⟩⟩
        have := run_convert_bytes_nil (P := P) w' s e hs he 0 0 t hd
        simp only [execOp, hv, Sem.run_bind, this, Result.andThen_ok, Sem.run_pure]
        rfl
      · rename_i id p hx
        rw [hx] at hv
        split at h
        case h_2 => exact h.elim
        split at h
        case h_2 => exact h.elim
        rename_i ob ho
        split at h
        case h_2 => exact h.elim
        rename_i own f
        split at h
        case h_2 => exact h.elim
        rename_i k xs
        split at h
        case h_2 => exact h.elim
        have hn : NodeAt G id [] (Flat.node (.ints .u8 xs)) own := NodeAt.of_get ho rfl
        obtain ⟨s1, s2, s3⟩ := hH.shape id [] _ _ hn
        simp only [VR] at hv
        obtain ⟨_, A, c, hv, hsl⟩ := hv
        refine ⟨_, _, h, fun _ => ⟨.string (strOfNums xs), by simp only [VR], fun w' hw' => ?_⟩⟩
        have hnn : (ρ id []).n = xs.length := s2
        have hsz : (ρ id []).sz = 1 := s1
        rw [hnn] at hv
        rcases hsl with ⟨hA, _, _⟩ | ⟨h0, hc0⟩
        · rw [hA] at hv
          by_cases hl : xs.length = 0
          · have hx0 : xs = [] := List.length_eq_zero_iff.1 hl
            subst hx0
            have := run_convert_bytes_arg (P := P) w' s e hs he (ρ id []).b ((ρ id []).o + 0 * (ρ id []).sz) 0 c [] rfl (fun i hi => by omega) t hd
            simp only [execOp, hv, List.length_nil, Sem.run_bind, this, Result.andThen_ok, Sem.run_pure]
          · have hblk := hw' id (by simp only [qId, hx]) [] _ _ hn (hH.solid hn (Nat.mul_pos (show 0 < xs.length by omega) (Nat.one_pos : 0 < 1)))
            have := run_convert_bytes_arg (P := P) w' s e hs he (ρ id []).b ((ρ id []).o + 0 * (ρ id []).sz) xs.length c xs rfl (fun i hi => by
              obtain ⟨v, q1, q2, _⟩ := hH.rd id [] _ _ hn i hi 0 (Nat.one_pos : 0 < 1)
              simp only [Flat.node, Flat.cell, VR, Flat.sz] at q2 q1
              rw [q2] at q1
              rw [← q1]
              rw [World.cell?_of_block (w := w) (w' := w') hblk]
              congr 2
              omega) t hd
            simp only [execOp, hv, Sem.run_bind, this, Result.andThen_ok, Sem.run_pure]
        · rw [hnn] at h0
          have hx0 : xs = [] := List.length_eq_zero_iff.1 h0
          subst hx0
          cases A with
          | none =>
            have := run_convert_bytes_nil (P := P) w' s e hs he 0 c t hd
            simp only [execOp, hv, List.length_nil, Sem.run_bind, this, Result.andThen_ok, Sem.run_pure]
            rfl
          | some A =>
            have hl : (loadCells A 0).run P w' = .ok (([] : List Int).map (Value.int .u8)).toArray w' := by
              have := run_loadCells_list (P := P) w' A [] (fun j v hj => by simp at hj)
              simpa using this
            have := (run_convert_bytes_string w' s t e (some A) 0 c hs he hd).trans (run_bytesToString w' A 0 c [] hl)
            simp only [execOp, hv, List.length_nil, Sem.run_bind, this, Result.andThen_ok, Sem.run_pure]
            rfl
      · exact h.elim
    rename_i k hd1
    split at h
    case h_2 => exact h.elim
    rename_i k' n hx
    rw [hx] at hv
    simp only [VR] at hv
    have hd0 := (hT _ _ ht).desc
    rw [hd1] at hd0
    have hd : P.underlying t = some (.int k) := hd0
    split at h
    case h_2 => exact h.elim
    rename_i si hs
    have hsd : ∃ d, P.underlying s = some d := by
      have := (hT _ _ hs).desc
      cases hdd : si.d <;> rw [hdd] at this
      · obtain ⟨d, h1, _⟩ := this; exact ⟨d, h1⟩
      · exact ⟨_, this⟩
      · exact ⟨_, this⟩
      · exact ⟨_, this⟩
      · obtain ⟨d, h1, _⟩ := this; exact ⟨_, h1⟩
      · obtain ⟨h1, _⟩ := this; exact ⟨_, h1⟩
      · obtain ⟨k1, e1, i1, h1, _⟩ := this; exact ⟨_, h1⟩
    obtain ⟨d, hsd⟩ := hsd
    refine ⟨_, _, h, fun _ => ⟨.int k (k.wrap n), by simp only [VR], ?_⟩⟩
    intro _ _
    simp [execOp, hv, convert, run_underlying hsd, run_underlying hd, Conv.intToInt]
  case index t x ix =>
    have hv := hlk x
    have hi := hlk ix
    unfold qIdxS at h
    split at h
    case h_2 => exact h.elim
    rename_i ti ht
    split at h
    case h_2 => exact h.elim
    rename_i hd1
    have hd0 := (hT _ _ ht).desc
    rw [hd1] at hd0
    have hd : P.underlying t = some .string := hd0
    split at h
    case h_2 => exact h.elim
    rename_i s hx
    rw [hx] at hv
    simp only [VR] at hv
    split at h
    case h_2 => exact h.elim
    rename_i k n hix
    rw [hix] at hi
    simp only [VR] at hi
    refine ⟨_, _, h, fun hc => ⟨.int .u8 (bAt s n.toNat), by simp only [VR], fun w' _ => ?_⟩⟩
    simp only [Cnd.holds] at hc
    have hr := run_index_string (P := P) w' t s k n hd
    rw [dif_pos hc] at hr
    have e : ((s[n.toNat]'(by omega)).toNat : Int) = bAt s n.toNat := by
      unfold bAt
      rw [List.getD_eq_getElem?_getD]
      have : s.data.toList[n.toNat]? = some (s[n.toNat]'(by omega)) := by
        rw [Array.getElem?_toList]
        exact Array.getElem?_eq_getElem (show n.toNat < s.data.size by have := hc.2; simp only [ByteArray.size] at this; omega)
      rw [this]
      rfl
    simp only [execOp, hv, hi, Sem.run_bind, hr, Result.andThen_ok, Sem.run_pure, e]
  case lookup t x ix ok =>
    have hv := hlk x
    have hi := hlk ix
    unfold qLook at h
    split at h
    case h_2 => exact h.elim
    rename_i ti ht
    split at h
    case h_2 => exact h.elim
    rename_i kn bv hd1
    have hd0 := (hT _ _ ht).desc
    rw [hd1] at hd0
    obtain ⟨kt, et, ie, hm, hk, he, hz⟩ : DescOK P t (.map kn bv) := hd0
    have h2 := mapK_spec h
    clear h
    obtain ⟨id, m, hx, ho, h⟩ := h2
    rw [hx] at hv
    simp only [VR] at hv
    obtain ⟨hidN, hv⟩ := hv
    obtain ⟨es, clock, hb, hes, hst, hmore, htot⟩ := mp_block hH ho
    have hsame : ∀ w', Same ρ G (some id) w w' → w'.heap[(ρ id []).b]? = some (.map es clock) := fun w' hS => by
      rw [hS id rfl [] _ true ⟨⟨_, ho, rfl, rfl⟩⟩ (by simpa [Solid] using htot)]
      exact hb
    have hqi : qId lk (.lookup t x ix ok) = some id := by simp only [qId, hx]
    cases m <;> simp only at h
    · rename_i kvs
      cases hb1 : (Nat.beq kn 0 && bv) with
      | false => simp [hb1] at h
      | true =>
        simp only [hb1, cond_true] at h
        simp only [Bool.and_eq_true, Nat.beq_eq] at hb1
        obtain ⟨rfl, rfl⟩ := hb1
        obtain ⟨n, h, hn⟩ := keyI_spec h
        have hi' := hn _ _ _ hi
        refine ⟨_, _, h, fun _ => ⟨if ok = true then .tuple #[.bool (mgB kvs n), .bool (mhas kvs n)] else .bool (mgB kvs n), ?_, fun w' hS => ?_⟩⟩
        · cases ok <;> simp [lookV, VR, VRL]
        · rw [hqi] at hS
          have := lookup_core hm he hz (kk_int (P := P) hk) (encv := Value.bool) (d0 := false) rfl (kvs := kvs) hes hst.2.2 (fun _ _ => trivial) (k := n) trivial ok (hsame w' hS)
          simp only [execOp, hv, hi', Sem.run_bind, this, Result.andThen_ok, Sem.run_pure, mgB]
    · rename_i kvs
      cases hb1 : (Nat.beq kn 0 && !bv) with
      | false => simp [hb1] at h
      | true =>
        simp only [hb1, cond_true] at h
        simp only [Bool.and_eq_true, Nat.beq_eq, Bool.not_eq_true'] at hb1
        obtain ⟨rfl, rfl⟩ := hb1
        obtain ⟨n, h, hn⟩ := keyI_spec h
        have hi' := hn _ _ _ hi
        refine ⟨_, _, h, fun _ => ⟨if ok = true then .tuple #[.int .i64 (mgI kvs n), .bool (mhas kvs n)] else .int .i64 (mgI kvs n), ?_, fun w' hS => ?_⟩⟩
        · cases ok <;> simp [lookV, VR, VRL]
        · rw [hqi] at hS
          have := lookup_core hm he hz (kk_int (P := P) hk) (encv := encI) (d0 := 0) rfl (kvs := kvs) hes hst.2.2 (fun _ _ => trivial) (k := n) trivial ok (hsame w' hS)
          unfold encI at this hi'
          simp only [execOp, hv, hi', Sem.run_bind, this, Result.andThen_ok, Sem.run_pure, mgI]
    · rename_i cl kvs
      cases hb1 : (Nat.beq kn 3 && !bv) with
      | false => simp [hb1] at h
      | true =>
        simp only [hb1, cond_true] at h
        simp only [Bool.and_eq_true, Nat.beq_eq, Bool.not_eq_true'] at hb1
        obtain ⟨rfl, rfl⟩ := hb1
        obtain ⟨n, h, hn⟩ := key3_spec (ρ := ρ) (N := N) h
        have hi' := hn _ hi
        refine ⟨_, _, h, fun hc => ⟨if ok = true then .tuple #[.int .i64 (mg3 kvs n), .bool (mhas kvs n)] else .int .i64 (mg3 kvs n), ?_, fun w' hS => ?_⟩⟩
        · cases ok <;> simp [lookV, VR, VRL]
        · rw [hqi] at hS
          have := lookup_core hm he hz (kk_r3 (P := P) hk) (encv := encN) (d0 := (0, 0)) rfl (kvs := kvs) hes hst.2.2 hmore.2.2 (k := n) hc ok (hsame w' hS)
          simp only [execOp, hv, hi', Sem.run_bind, this, Result.andThen_ok, Sem.run_pure, mg3]
          simp only [encN]

theorem quiet_sound {lk : Operand → AV} {a : Act} (hT : TblOK P T) (hH : HeapRep ρ N G w) (hlk : ∀ x, VR ρ N (lk x) (a.eval x)) {o : Oper} {K : Cnd → AV → Prop} (h : quiet T lk G o.op K) :
    ∃ C v, K C v ∧ (C.holds → ∃ cv, VR ρ N v cv ∧ (execOp a.eval o).run P w = .ok (.value cv) w) := by
  obtain ⟨C, v, hK, hr⟩ := quiet_keep hT hH hlk h
  refine ⟨C, v, hK, fun hc => ?_⟩
  obtain ⟨cv, h1, h2⟩ := hr hc
  exact ⟨cv, h1, h2 w (Same.refl _ _ _ _)⟩

end
end Go.Sx

/-
  Effects: what becomes of the heap when an object of the call's own is made, written or grows.
-/
namespace Go.Sx
set_option linter.unusedVariables false
set_option linter.unusedSimpArgs false
open Go
open Go.RowKit

/-! ### The heap as a list -/
def hdel : Heap → Nat → Heap
  | [], _ => []
  | (k, o) :: r, id => bif Nat.beq k id then hdel r id else (k, o) :: hdel r id
def hset : Heap → Nat → AObj → Heap
  | [], _, _ => []
  | (k, o) :: r, id, x => bif Nat.beq k id then (k, x) :: r else (k, o) :: hset r id x

theorem hget_hdel (G : Heap) (id i : Nat) : hget (hdel G id) i = if i = id then none else hget G i := by
  induction G with
  | nil => simp [hdel, hget]
  | cons x r ih =>
    obtain ⟨k, o⟩ := x
    simp only [hdel]
    cases hb : Nat.beq k id with
    | true =>
      have := Nat.eq_of_beq_eq_true hb
      subst this
      simp only [cond_true, ih, hget]
      by_cases h : i = k
      · simp [h]
      · have : Nat.beq k i = false := by
          cases h2 : Nat.beq k i with
          | true => exact absurd (Nat.eq_of_beq_eq_true h2).symm h
          | false => rfl
        simp [h, this]
    | false =>
      simp only [cond_false, hget, ih]
      cases h2 : Nat.beq k i with
      | true =>
        have := Nat.eq_of_beq_eq_true h2
        subst this
        have : k ≠ id := fun e => by subst e; simp at hb
        simp [this]
      | false => simp
theorem hget_cons (G : Heap) (id i : Nat) (o : AObj) : hget ((id, o) :: G) i = if i = id then some o else hget G i := by
  simp only [hget]
  cases h : Nat.beq id i with
  | true => have := Nat.eq_of_beq_eq_true h; subst this; simp
  | false =>
    have : i ≠ id := fun e => by subst e; simp at h
    simp [this]
theorem hget_hset (G : Heap) (id i : Nat) (x : AObj) : hget (hset G id x) i = if i = id then (hget G id).map (fun _ => x) else hget G i := by
  induction G with
  | nil => simp [hset, hget]
  | cons y r ih =>
    obtain ⟨k, o⟩ := y
    simp only [hset]
    cases hb : Nat.beq k id with
    | true =>
      have := Nat.eq_of_beq_eq_true hb
      subst this
      simp only [cond_true, hget_cons]
      by_cases h : i = k <;> simp [h]
    | false =>
      have hne : k ≠ id := fun e => by subst e; simp at hb
      simp only [cond_false, hget_cons, ih]
      by_cases h : i = k
      · subst h; simp [hne]
      · by_cases h3 : i = id
        · subst h3; simp [h]
        · simp [h, h3]

section
variable {P : Program} {T : Tbl} {ρ : Rho} {N : Nat} {G : Heap} {w : World}

theorem NodeAt.congr {G G' : Heap} (h : ∀ i, hget G i = hget G' i) {id : Nat} {p : List Nat} {nd : Node} {own : Bool} (hn : NodeAt G id p nd own) : NodeAt G' id p nd own := by
  obtain ⟨o, h1, h2⟩ := hn.ex
  exact ⟨⟨o, (h id) ▸ h1, h2⟩⟩
theorem HeapRep.congr {G G' : Heap} (h : ∀ i, hget G i = hget G' i) (hH : HeapRep ρ N G w) : HeapRep ρ N G' w := by
  have hb : ∀ {id p nd own}, NodeAt G' id p nd own → NodeAt G id p nd own := fun hn => NodeAt.congr (fun i => (h i).symm) hn
  exact ⟨fun id o hg => hH.keys id o ((h id).trans hg), fun id p nd own hn => hH.shape id p nd own (hb hn), fun id p nd own hn => hH.rd id p nd own (hb hn), fun id p nd hn => hH.ow id p nd (hb hn),
    fun id p nd id' p' nd' own' hn hn' => hH.sep id p nd id' p' nd' own' (hb hn) (hb hn')⟩
/-- Fewer objects. -/
theorem HeapRep.sub {G G' : Heap} (h : ∀ i o, hget G' i = some o → hget G i = some o) (hH : HeapRep ρ N G w) : HeapRep ρ N G' w := by
  have hb : ∀ {id p nd own}, NodeAt G' id p nd own → NodeAt G id p nd own := fun hn => by
    obtain ⟨o, h1, h2⟩ := hn.ex
    exact ⟨⟨o, h _ _ h1, h2⟩⟩
  exact ⟨fun id o hg => hH.keys id o (h id o hg), fun id p nd own hn => hH.shape id p nd own (hb hn), fun id p nd own hn => hH.rd id p nd own (hb hn), fun id p nd hn => hH.ow id p nd (hb hn),
    fun id p nd id' p' nd' own' hn hn' => hH.sep id p nd id' p' nd' own' (hb hn) (hb hn')⟩
theorem HeapRep.del (hH : HeapRep ρ N G w) (id : Nat) : HeapRep ρ N (hdel G id) w :=
  hH.sub fun i o h => by
    rw [hget_hdel] at h
    split at h
    · cases h
    · exact h
theorem Owns.sub {G G' : Heap} (h : ∀ i o, hget G' i = some o → hget G i = some o) {b : Nat} (ho : Owns ρ G' b) : Owns ρ G b := by
  obtain ⟨id, p, nd, hn, ht, hb⟩ := ho
  obtain ⟨o, h1, h2⟩ := hn.ex
  exact ⟨id, p, nd, ⟨⟨o, h _ _ h1, h2⟩⟩, ht, hb⟩

theorem HeapRep.lt (hH : HeapRep ρ N G w) {id : Nat} {p : List Nat} {nd : Node} {own : Bool} (hn : NodeAt G id p nd own) (hs : Solid (ρ id p) nd own) : (ρ id p).b < w.heap.size := by
  cases own with
  | true =>
    simp only [Solid, if_true] at hs
    rcases hH.ow id p nd hn with ⟨h0, _⟩ | ⟨ob, hc, _⟩
    · omega
    · exact (Array.getElem?_eq_some_iff.1 hc).1
  | false =>
    simp only [Solid, Bool.false_eq_true, if_false] at hs
    have h1 : 0 < nd.n := Nat.pos_of_mul_pos_right hs
    have h2 : 0 < nd.sz := Nat.pos_of_mul_pos_left hs
    obtain ⟨v, hc, _⟩ := hH.rd id p nd false hn 0 h1 0 h2
    exact World.block_lt_of_cell? w _ hc

/-- A world that has turned elsewhere alone. -/
theorem HeapRep.frame (hH : HeapRep ρ N G w) {w' : World} {may : Nat → Prop} (hf : FrameW may w w') (hm : ∀ id p nd own, NodeAt G id p nd own → Solid (ρ id p) nd own → ¬ may (ρ id p).b) : HeapRep ρ N G w' := by
  have hb : ∀ id p nd own, NodeAt G id p nd own → Solid (ρ id p) nd own → w'.heap[(ρ id p).b]? = w.heap[(ρ id p).b]? := fun id p nd own hn hs => hf.block _ (hH.lt hn hs) (hm id p nd own hn hs)
  refine ⟨hH.keys, hH.shape, fun id p nd own hn i hi j hj => ?_, fun id p nd hn => ?_, hH.sep⟩
  · obtain ⟨v, hc, hv⟩ := hH.rd id p nd own hn i hi j hj
    refine ⟨v, ?_, hv⟩
    have hs : Solid (ρ id p) nd own := by
      cases own with
      | false => simp only [Solid, Bool.false_eq_true, if_false]; exact Nat.mul_pos (by omega) (by omega)
      | true =>
        simp only [Solid, if_true]
        rcases hH.ow id p nd hn with ⟨_, h0, _⟩ | ⟨_, _, _, h0⟩
        · omega
        · exact h0
    rw [← hc]
    exact World.cell?_of_block (w := w) (hb id p nd own hn hs)
  · rcases hH.ow id p nd hn with h | ⟨ob, hc, h1, h2⟩
    · exact .inl h
    · exact .inr ⟨ob, (hb id p nd true hn (by simpa [Solid] using h2)).trans hc, h1, h2⟩

/-- Other names, the same objects. -/
theorem HeapRep.mono (hH : HeapRep ρ N G w) {ρ' : Rho} {N' : Nat} (hN : N ≤ N') (hρ : ∀ id, id < N → ρ' id = ρ id) : HeapRep ρ' N' G w := by
  have hk : ∀ {id p nd own}, NodeAt G id p nd own → ρ' id = ρ id := fun hn => by
    obtain ⟨o, h1, _⟩ := hn.ex
    exact hρ _ (hH.keys _ _ h1)
  refine ⟨fun id o h => Nat.lt_of_lt_of_le (hH.keys id o h) hN, fun id p nd own hn => ?_, fun id p nd own hn => ?_, fun id p nd hn => ?_, fun id p nd id' p' nd' own' hn hn' => ?_⟩
  · rw [hk hn]; exact hH.shape id p nd own hn
  · rw [hk hn]
    intro i hi j hj
    obtain ⟨v, h1, h2, h3⟩ := hH.rd id p nd own hn i hi j hj
    exact ⟨v, h1, h2.mono hN hρ, h3⟩
  · rw [hk hn]; exact hH.ow id p nd hn
  · rw [hk hn, hk hn']; exact hH.sep id p nd id' p' nd' own' hn hn'

/-- One object more (or another one in its place): its nodes lie in blocks that nobody else has. -/
theorem HeapRep.put (hH : HeapRep ρ N G w) {id : Nat} {o : AObj} (hid : id < N) (hnew : hget G id = none) (hown : o.own = true)
    (hb : ∀ p nd, o.node id p = some nd → (ρ id p).sz = nd.sz ∧ (ρ id p).n = nd.n ∧ 0 < nd.sz ∧
      (∀ i, i < nd.n → ∀ j, j < nd.sz → ∃ v, w.cell? ⟨(ρ id p).b, (ρ id p).o + (i * nd.sz + j), none⟩ = some v ∧ VR ρ N (nd.cell i j) v ∧ v.oneCell' = true) ∧
      (((ρ id p).tot = 0 ∧ nd.n = 0 ∧ nd.x = none) ∨ (∃ ob, w.heap[(ρ id p).b]? = some ob ∧ nd.blk (ρ id p) ob ∧ 0 < (ρ id p).tot)) ∧
      (0 < (ρ id p).tot → (∀ p' nd', o.node id p' = some nd' → p ≠ p' → 0 < (ρ id p').tot → (ρ id p).b ≠ (ρ id p').b) ∧ ∀ id' p' nd' own', NodeAt G id' p' nd' own' → Solid (ρ id' p') nd' own' → (ρ id p).b ≠ (ρ id' p').b)) :
    HeapRep ρ N ((id, o) :: G) w := by
  have hc : ∀ {i p nd own}, NodeAt ((id, o) :: G) i p nd own → (i = id ∧ o.node id p = some nd ∧ own = true) ∨ (i ≠ id ∧ NodeAt G i p nd own) := fun {i p nd own} hn => by
    obtain ⟨x, h1, h2, h3⟩ := hn.ex
    rw [hget_cons] at h1
    split at h1
    · next he => subst he; injection h1 with h1; subst h1; exact .inl ⟨rfl, h2, h3.symm.trans hown⟩
    · next he => exact .inr ⟨he, ⟨⟨x, h1, h2, h3⟩⟩⟩
  refine ⟨fun i x h => ?_, fun i p nd own hn => ?_, fun i p nd own hn => ?_, fun i p nd hn => ?_, fun i p nd i' p' nd' own' hn hn' hne ht hs => ?_⟩
  · rw [hget_cons] at h
    split at h
    · next he => subst he; exact hid
    · exact hH.keys i x h
  · rcases hc hn with ⟨rfl, h, _⟩ | ⟨_, h⟩
    · obtain ⟨h1, h2, h3, _⟩ := hb p nd h; exact ⟨h1, h2, h3⟩
    · exact hH.shape i p nd own h
  · rcases hc hn with ⟨rfl, h, _⟩ | ⟨_, h⟩
    · obtain ⟨_, _, _, h4, _⟩ := hb p nd h; exact h4
    · exact hH.rd i p nd own h
  · rcases hc hn with ⟨rfl, h, _⟩ | ⟨_, h⟩
    · obtain ⟨_, _, _, _, h5, _⟩ := hb p nd h; exact h5
    · exact hH.ow i p nd h
  · rcases hc hn with ⟨rfl, h, _⟩ | ⟨hi, h⟩ <;> rcases hc hn' with ⟨rfl, h', ho'⟩ | ⟨hi', h'⟩
    · obtain ⟨_, _, _, _, _, h6⟩ := hb p nd h
      subst ho'
      exact (h6 ht).1 p' nd' h' (fun e => hne ⟨rfl, e⟩) (by simpa [Solid] using hs)
    · obtain ⟨_, _, _, _, _, h6⟩ := hb p nd h
      exact (h6 ht).2 i' p' nd' own' h' hs
    · subst ho'
      have hs' : 0 < (ρ i' p').tot := by simpa [Solid] using hs
      obtain ⟨_, _, _, _, _, h6⟩ := hb p' nd' h'
      exact Ne.symm ((h6 hs').2 i p nd true h (by simpa [Solid] using ht))
    · exact hH.sep i p nd i' p' nd' own' h h' hne ht hs

/-! ### What a step or a call leaves -/
structure Out (ρ : Rho) (N : Nat) (G : Heap) (w : World) (K : AV → Nat → Heap → Prop) (v : Value) (w' : World) : Prop where
  ex : ∃ av ρ' N' G', K av N' G' ∧ VR ρ' N' av v ∧ HeapRep ρ' N' G' w' ∧ N ≤ N' ∧ (∀ id, id < N → ρ' id = ρ id) ∧ FrameW (Owns ρ G) w w' ∧ ∀ b, Owns ρ' G' b → w.heap.size ≤ b ∨ Owns ρ G b

theorem Out.mono {K K' : AV → Nat → Heap → Prop} {v : Value} {w' : World} (h : Out ρ N G w K v w') (hk : ∀ a n g, K a n g → K' a n g) : Out ρ N G w K' v w' := by
  obtain ⟨av, ρ', N', G', h1, h2⟩ := h.ex
  exact ⟨⟨av, ρ', N', G', hk _ _ _ h1, h2⟩⟩

/-- The contract of a function: in every world that bears the heap, called with values that the abstract ones stand for. -/
structure FnOK (P : Program) (f : Nat) : Prop where
  ex : ∃ fn : Func, P.funcs[f]? = some fn ∧ (fn.name == "runtime.NumGoroutine") = false ∧ fn.body.isNone = false
structure ACall (P : Program) (f : Nat) (args : List AV) (N : Nat) (G : Heap) (K : AV → Nat → Heap → Prop) : Prop where
  ok : FnOK P f
  run : ∀ ρ w cargs, GOK ρ G w → HeapRep ρ N G w → VRL ρ N args cargs → Calls P f cargs.toArray w fun e w' => ∃ v, e = .returned v ∧ Out ρ N G w K v w'

theorem ACall.mono {f : Nat} {args : List AV} {K K' : AV → Nat → Heap → Prop} (h : ACall P f args N G K) (hk : ∀ a n g, K a n g → K' a n g) : ACall P f args N G K' :=
  ⟨h.1, fun ρ w cargs hg hH hv => (h.2 ρ w cargs hg hH hv).mono fun _ _ ⟨v, he, ho⟩ => ⟨v, he, ho.mono hk⟩⟩

/-- A new flat object in a block of its own, at the heap's end. -/
theorem out_new (hH : HeapRep ρ N G w) {K : AV → Nat → Heap → Prop} {f : Flat} {cs : List Value} {t : TypeId} {av : AV} {v : Value} {w' : World}
    (hK : K av (N + 1) ((N, .flat true f) :: G)) (hsz : 0 < f.sz) (hn : f.n * f.sz ≤ cs.length)
    (hcs : ∀ i, i < f.n → ∀ j, j < f.sz → ∃ u, cs[i * f.sz + j]? = some u ∧ VR ρ N (f.cell i j) u ∧ u.oneCell' = true)
    (hw : FrameW (fun _ => False) w w') (hty : ∀ t', f.ty = some t' → t = t') (hblk : w'.heap[w.heap.size]? = some (.cells cs.toArray t (0, 0)))
    (hv : VR (fun id p => if id = N then ⟨w.heap.size, 0, f.sz, f.n, cs.length⟩ else ρ id p) (N + 1) av v) : Out ρ N G w K v w' := by
  have hρ : ∀ id, id < N → (fun (id : Nat) (p : List Nat) => if id = N then (⟨w.heap.size, 0, f.sz, f.n, cs.length⟩ : Blk) else ρ id p) id = ρ id := fun id h => by
    funext p; simp only; rw [if_neg (by omega)]
  have h1 : HeapRep _ (N + 1) G w' := ((hH.mono (Nat.le_succ N) hρ).frame hw (fun _ _ _ _ _ _ h => h))
  have hnone : hget G N = none := by
    cases h : hget G N with
    | none => rfl
    | some o => exact absurd (hH.keys N o h) (Nat.lt_irrefl N)
  refine ⟨⟨av, _, _, _, hK, hv, h1.put (Nat.lt_succ_self N) hnone rfl ?_, Nat.le_succ N, hρ, ⟨hw.os, hw.tape, hw.output, hw.size, fun k hk _ => hw.block k hk id, hw.drawn⟩, ?_⟩⟩
  · intro p nd hnd
    have hp : p = [] ∧ nd = f.node := by
      cases p with
      | nil => simp [AObj.node] at hnd; exact ⟨rfl, hnd.symm⟩
      | cons _ _ => simp [AObj.node] at hnd
    obtain ⟨rfl, rfl⟩ := hp
    simp only [if_true]
    refine ⟨rfl, rfl, hsz, ?_, ?_, ?_⟩
    · intro i hi j hj
      obtain ⟨u, h1, h2, h3⟩ := hcs i hi j hj
      refine ⟨u, ?_, h2.mono (Nat.le_succ N) hρ, h3⟩
      rw [cell_of_row w' w.heap.size _ cs.toArray t (0, 0) hblk]
      simpa [Flat.node] using h1
    · by_cases h0 : cs.length = 0
      · refine .inl ⟨h0, ?_, rfl⟩
        have : f.n * f.sz = 0 := by omega
        rcases Nat.mul_eq_zero.1 this with h | h
        · exact h
        · omega
      · exact .inr ⟨_, hblk, ⟨_, t, rfl, by simp, fun t' h => ⟨hty t' h, rfl⟩⟩, by omega⟩
    · intro _
      refine ⟨fun p' nd' hnd' hne => ?_, fun id' p' nd' own' hn' hs' => ?_⟩
      · cases p' with
        | nil => exact absurd rfl hne
        | cons _ _ => simp [AObj.node] at hnd'
      · have hlt : id' < N := by
          obtain ⟨o, h1, _⟩ := hn'.ex
          exact hH.keys _ _ h1
        have hne : id' ≠ N := by omega
        simp only [hne, if_false] at hs' ⊢
        have := hH.lt hn' hs'
        omega
  · intro b hb
    obtain ⟨id, p, nd, hn', ht, rfl⟩ := hb
    obtain ⟨o, h1, h2, h3⟩ := hn'.ex
    rw [hget_cons] at h1
    split at h1
    · next he => subst he; exact .inl (by simp)
    · next he =>
      simp only [he, if_false] at ht ⊢
      exact .inr ⟨id, p, nd, ⟨⟨o, h1, h2, h3⟩⟩, ht, rfl⟩

theorem frame_alloc (w : World) (o : Obj) : FrameW (fun _ => False) w (w.alloc o) := ⟨rfl, rfl, rfl, by simp, fun k hk _ => Below.heap_alloc w o k hk, Nat.le_refl _⟩
theorem frame_drew (w : World) : FrameW (fun _ => False) w w.drew := ⟨rfl, rfl, rfl, Nat.le_refl _, fun _ _ _ => rfl, Nat.le_succ _⟩

end
end Go.Sx

/-
  Effects, one by one.
-/
namespace Go.Sx
set_option linter.unusedVariables false
set_option linter.unusedSimpArgs false
open Go
open Go.RowKit

/-- The cells of a value that is written out. -/
def cellsK (v : AV) (K : List AV → Prop) : Prop :=
  match v with
  | .agg cs => K cs
  | .tuple _ => False
  | .opt _ _ _ _ => False
  | .top => False
  | v => K [v]

section
variable {P : Program} {T : Tbl} {ρ : Rho} {N : Nat} {G : Heap} {w : World}

theorem cellsK_spec {v : AV} {K : List AV → Prop} (h : cellsK v K) {cv : Value} (hv : VR ρ N v cv) : ∃ cs us, K cs ∧ cv.cells = us.toArray ∧ VRL ρ N cs us ∧ ∀ u ∈ us, u.oneCell' = true := by
  have one : ∀ (a : AV), VR ρ N a cv → cv.oneCell' = true → K [a] → ∃ cs us, K cs ∧ cv.cells = us.toArray ∧ VRL ρ N cs us ∧ ∀ u ∈ us, u.oneCell' = true := fun a ha ho hk => by
    refine ⟨[a], [cv], hk, ?_, ?_, by simpa using ho⟩
    · cases cv <;> simp_all [Value.cells, Value.oneCell']
    · simp only [VRL]; exact ⟨cv, [], rfl, ha, rfl⟩
  unfold cellsK at h
  split at h
  · rename_i cs
    simp only [VR] at hv
    obtain ⟨vs, rfl, h1, h2⟩ := hv
    exact ⟨cs, vs, h, rfl, h1, h2⟩
  · exact h.elim
  · exact h.elim
  · exact h.elim
  · rename_i q1 q2 q3 q4
    refine one _ hv ?_ h
    cases v <;> simp only [VR] at hv
    · subst hv; rfl
    · subst hv; rfl
    · subst hv; rfl
    · obtain ⟨_, rfl⟩ := hv; rfl
    · obtain ⟨_, _, _, rfl, _⟩ := hv; rfl
    · obtain ⟨_, _, _, rfl, _⟩ := hv; rfl
    · subst hv; rfl
    · subst hv; rfl
    · subst hv; rfl
    · obtain ⟨_, rfl⟩ := hv; rfl
    · obtain ⟨_, _, rfl, _⟩ := hv; rfl
    · obtain ⟨_, rfl, _⟩ := hv; rfl
    · exact (q1 _ rfl).elim
    · exact (q2 _ rfl).elim
    · exact (q3 _ _ _ _ rfl).elim
    · exact (q4 rfl).elim

/-! ### A new box -/
def eBox (cs : List AV) (N : Nat) (G : Heap) (K : AV → Nat → Heap → Prop) : Prop :=
  match cs with
  | [] => False
  | c :: r => K (.ptr N [] 0 0) (N + 1) ((N, .flat true (.gen (c :: r).length [c :: r])) :: G)

theorem eBox_sound (hH : HeapRep ρ N G w) {cs : List AV} {us : List Value} (hcs : VRL ρ N cs us) (h1 : ∀ u ∈ us, u.oneCell' = true) {K : AV → Nat → Heap → Prop} (h : eBox cs N G K) (t : TypeId) :
    Out ρ N G w K (.pointer (some ⟨w.heap.size, 0, none⟩)) (w.alloc (.cells us.toArray t)) := by
  cases cs with
  | nil => exact h.elim
  | cons c r =>
    simp only [eBox] at h
    have hl := hcs.length
    refine out_new (t := t) (cs := us) hH h (by simp [Flat.sz]) (by simp [Flat.n, Flat.sz, hl]) ?_ (frame_alloc _ _) (fun _ h => nomatch h) (heap_alloc_new _ _) ?_
    · intro i hi j hj
      simp only [Flat.n, List.length_cons, List.length_nil] at hi
      obtain rfl : i = 0 := by omega
      simp only [Flat.sz] at hj
      obtain ⟨v, h2, h3⟩ := hcs.get j hj
      refine ⟨v, by simpa using h2, ?_, h1 v (List.mem_of_getElem? h2)⟩
      simpa [Flat.cell, List.getD] using h3
    · simp only [VR]
      exact ⟨Nat.lt_succ_self N, by simp⟩

/-! ### Cells that are written -/
theorem setCells_block (b : Nat) (t : TypeId) (fr : Nat × Nat) : ∀ (vs : List Value) (o : Nat) (w : World) (c : Array Value), w.heap[b]? = some (.cells c t fr) →
    ∃ c', (w.setCells b o vs).heap[b]? = some (.cells c' t fr) ∧ c'.size = c.size ∧ ∀ k, c'[k]? = if o ≤ k ∧ k < o + vs.length ∧ k < c.size then vs[k - o]? else c[k]?
  | [], o, w, c, h => ⟨c, h, rfl, fun k => by
      have : ¬ (o ≤ k ∧ k < o + ([] : List Value).length ∧ k < c.size) := by simp; omega
      rw [if_neg this]⟩
  | v :: r, o, w, c, h => by
    have h1 : (w.setCell ⟨b, o, none⟩ v).heap[b]? = some (.cells (c.setIfInBounds o v) t fr) := by
      simp [World.setCell, Array.getElem?_modify, h]
    obtain ⟨c', h2, h3, h4⟩ := setCells_block b t fr r (o + 1) _ _ h1
    refine ⟨c', h2, by simpa using h3, fun k => ?_⟩
    rw [h4 k]
    simp only [Array.size_setIfInBounds, List.length_cons]
    by_cases hk : o + 1 ≤ k ∧ k < o + 1 + r.length ∧ k < c.size
    · rw [if_pos hk, if_pos (by omega), show k - o = (k - (o + 1)) + 1 by omega, List.getElem?_cons_succ]
    · rw [if_neg hk, Array.getElem?_setIfInBounds]
      by_cases hko : o = k
      · subst hko
        by_cases hs : o < c.size
        · simp [hs]
        · rw [if_pos rfl, if_neg hs, if_neg (by omega)]
          simp [Array.getElem?_eq_none (Nat.le_of_not_lt hs)]
      · rw [if_neg hko, if_neg (by omega)]
theorem setCells_other (b : Nat) : ∀ (vs : List Value) (o : Nat) (w : World) (k : Nat), k ≠ b → (w.setCells b o vs).heap[k]? = w.heap[k]?
  | [], _, _, _, _ => rfl
  | v :: r, o, w, k, h => by rw [World.setCells, setCells_other b r _ _ k h]; exact Below.heap_setCell _ _ _ _ (by simpa using h)
theorem setCells_frame (b : Nat) : ∀ (vs : List Value) (o : Nat) (w : World), FrameW (· = b) w (w.setCells b o vs)
  | [], _, w => FrameW.refl _ w
  | v :: r, o, w => by
    rw [World.setCells]
    have h1 : FrameW (· = b) w (w.setCell ⟨b, o, none⟩ v) := ⟨rfl, rfl, rfl, by simp [World.setCell], fun k _ hn => Below.heap_setCell w ⟨b, o, none⟩ v k (by simpa using hn), Nat.le_refl _⟩
    exact h1.trans (setCells_frame b r (o + 1) _) (fun _ _ h => h)

/-- A new content for a flat object of one's own. -/
def Flat.setK (f : Flat) (i j : Nat) (cs : List AV) (K : Cnd → Flat → Prop) : Prop :=
  match f with
  | .ints k xs => match j, cs with
    | 0, [.int k' n] => bif k == k' then K (some (i < xs.length)) (.ints k (xs.set i n)) else False
    | _, _ => False
  | .r2 xs => match j, cs with
    | 0, [.int .i64 n] => K (some (i < xs.length)) (.r2 (xs.set i ⟨n, (xs.getD i default).b⟩))
    | 1, [.int .i64 n] => K (some (i < xs.length)) (.r2 (xs.set i ⟨(xs.getD i default).a, n⟩))
    | 0, [.int .i64 a, .int .i64 b] => K (some (i < xs.length)) (.r2 (xs.set i ⟨a, b⟩))
    | _, _ => False
  | .r3 xs => match j, cs with
    | 0, [.int .i64 n] => K (some (i < xs.length)) (.r3 (xs.set i ⟨n, (xs.getD i default).b, (xs.getD i default).c⟩))
    | 1, [.int .i64 n] => K (some (i < xs.length)) (.r3 (xs.set i ⟨(xs.getD i default).a, n, (xs.getD i default).c⟩))
    | 2, [.int .i64 n] => K (some (i < xs.length)) (.r3 (xs.set i ⟨(xs.getD i default).a, (xs.getD i default).b, n⟩))
    | 0, [.int .i64 a, .int .i64 b, .int .i64 c] => K (some (i < xs.length)) (.r3 (xs.set i ⟨a, b, c⟩))
    | _, _ => False
  | .r4 xs => match j, cs with
    | 0, [.int .i64 n] => K (some (i < xs.length)) (.r4 (xs.set i ⟨n, (xs.getD i default).b, (xs.getD i default).c, (xs.getD i default).d⟩))
    | 1, [.int .i64 n] => K (some (i < xs.length)) (.r4 (xs.set i ⟨(xs.getD i default).a, n, (xs.getD i default).c, (xs.getD i default).d⟩))
    | 2, [.int .i64 n] => K (some (i < xs.length)) (.r4 (xs.set i ⟨(xs.getD i default).a, (xs.getD i default).b, n, (xs.getD i default).d⟩))
    | 3, [.int .i64 n] => K (some (i < xs.length)) (.r4 (xs.set i ⟨(xs.getD i default).a, (xs.getD i default).b, (xs.getD i default).c, n⟩))
    | 0, [.int .i64 a, .int .i64 b, .int .i64 c, .int .i64 d] => K (some (i < xs.length)) (.r4 (xs.set i ⟨a, b, c, d⟩))
    | _, _ => False
  | .bools xs => match j, cs with
    | 0, [.bool b] => K (some (i < xs.length)) (.bools (xs.set i b))
    | _, _ => False
  | .strs xs => match j, cs with
    | 0, [.str s] => K (some (i < xs.length)) (.strs (xs.set i s))
    | _, _ => False
  | .gen sz xs => lrowK xs i fun row => bif Nat.ble (j + cs.length) sz && Nat.ble (j + cs.length) row.length then K none (.gen sz (xs.set i (row.take j ++ cs ++ row.drop (j + cs.length)))) else False
  | .rows _ _ _ => False
  | .bld t p s => match i with
    | 0 => match cs with
      | [v] => match j with
        | 0 => K none (.bld t v s)
        | 1 => K none (.bld t p v)
        | _ => False
      | [v, u] => match j with
        | 0 => K none (.bld t v u)
        | _ => False
      | _ => False
    | _ => False
  | .tby _ _ => False
  | .tops n => match j, cs with
    | 0, [_] => K (some (i < n)) (.tops n)
    | _, _ => False
  | .rowl M is => match j, cs with
    | 0, [.sl M' [k]] => bif Nat.beq M M' then K (some (i < is.length)) (.rowl M (is.set i k)) else False
    | _, _ => False

/-- What 'setK' gives. -/
structure SetOK (f : Flat) (i j : Nat) (cs : List AV) (f' : Flat) : Prop where
  ty : f'.ty = f.ty
  hi : i < f.n
  hj : j + cs.length ≤ f.sz
  n : f'.n = f.n
  sz : f'.sz = f.sz
  cell : ∀ a b, a < f.n → b < f.sz → (f'.cell a b = if a = i ∧ j ≤ b ∧ b < j + cs.length then cs.getD (b - j) .top else f.cell a b) ∨ f'.cell a b = .top

theorem getD_set' {α : Type} (xs : List α) (i a : Nat) (x d : α) (hi : i < xs.length) : (xs.set i x).getD a d = if a = i then x else xs.getD a d := by
  simp only [List.getD, List.getElem?_set]
  by_cases h : i = a
  · subst h; simp [hi]
  · rw [if_neg h, if_neg (Ne.symm h)]

theorem setK_spec {f : Flat} {i j : Nat} {cs : List AV} {K : Cnd → Flat → Prop} (h : f.setK i j cs K) : ∃ C f', K C f' ∧ (C.holds → SetOK f i j cs f') := by
  unfold Flat.setK at h
  split at h
  case h_8 => exact h.elim
  case h_10 => exact h.elim
  case h_11 n =>
    split at h
    case h_2 => exact h.elim
    exact ⟨_, _, h, fun hi => ⟨rfl, hi, by simp [Flat.sz], rfl, rfl, fun a b _ _ => .inr rfl⟩⟩
  case h_12 M is =>
    split at h
    case h_2 => exact h.elim
    rename_i M' k
    cases hb : Nat.beq M M' with
    | false => simp [hb] at h
    | true =>
      simp only [hb, cond_true] at h
      have := Nat.eq_of_beq_eq_true hb
      subst this
      refine ⟨_, _, h, fun hi => ⟨rfl, hi, by simp [Flat.sz], by simp [Flat.n], rfl, fun a b ha hbb => .inl ?_⟩⟩
      simp only [Flat.sz] at hbb
      obtain rfl : b = 0 := by omega
      simp only [Flat.cell]
      rw [getD_set' _ _ _ _ _ hi]
      by_cases hai : a = i <;> simp [hai]
  case h_9 t p s =>
    split at h
    case h_2 => exact h.elim
    split at h
    case h_3 => exact h.elim
    all_goals split at h
    all_goals first
      | exact h.elim
      | skip
    all_goals
      refine ⟨_, _, h, fun _ => ⟨rfl, by simp [Flat.n], by simp [Flat.sz], rfl, rfl, fun a b ha hbb => .inl ?_⟩⟩
      simp only [Flat.n, Flat.sz] at ha hbb
      have ha0 : a = 0 := by omega
      have hb2 : b = 0 ∨ b = 1 := by omega
      subst ha0
      rcases hb2 with rfl | rfl <;> simp [Flat.cell]
  case h_7 sz xs =>
    obtain ⟨row, hr, h⟩ := lrowK_spec h
    cases hb : (Nat.ble (j + cs.length) sz && Nat.ble (j + cs.length) row.length) with
    | false => simp [hb] at h
    | true =>
      simp only [hb, cond_true] at h
      simp only [Bool.and_eq_true, Nat.ble_eq] at hb
      obtain ⟨hi, hrow⟩ := List.getElem?_eq_some_iff.1 hr
      refine ⟨_, _, h, fun _ => ⟨rfl, hi, hb.1, by simp [Flat.n], rfl, fun a b ha hbb => .inl ?_⟩⟩
      simp only [Flat.cell]
      rw [getD_set' _ _ _ _ _ hi]
      by_cases hai : a = i
      · subst hai
        simp only [if_true, true_and]
        rw [show xs.getD a [] = row by simp [List.getD, hr]]
        simp only [List.getD, List.append_assoc]
        by_cases h1 : b < j
        · rw [if_neg (by omega), List.getElem?_append_left (by simp; omega), List.getElem?_take_of_lt h1]
        · by_cases h2 : b < j + cs.length
          · rw [if_pos ⟨by omega, h2⟩, List.getElem?_append_right (by simp; omega), List.getElem?_append_left (by simp; omega)]
            congr 2; simp; omega
          · rw [if_neg (by omega), List.getElem?_append_right (by simp; omega), List.getElem?_append_right (by simp; omega), List.getElem?_drop]
            congr 2; simp; omega
      · simp [hai]
  case h_1 k xs =>
    split at h
    case h_2 => exact h.elim
    rename_i k' n
    cases hb : k == k' with
    | false => simp [hb] at h
    | true =>
      simp only [hb, cond_true] at h
      have : k = k' := by simpa using hb
      subst this
      refine ⟨_, _, h, fun hi => ⟨rfl, hi, by simp [Flat.sz], by simp [Flat.n], rfl, fun a b ha hbb => .inl ?_⟩⟩
      simp only [Flat.sz] at hbb
      obtain rfl : b = 0 := by omega
      simp only [Flat.cell]
      rw [getD_set' _ _ _ _ _ hi]
      by_cases hai : a = i <;> simp [hai]
  all_goals
    split at h <;> try exact h.elim
  all_goals
    refine ⟨_, _, h, fun hi => ⟨rfl, hi, by simp [Flat.sz], by simp [Flat.n], rfl, fun a b ha hbb => .inl ?_⟩⟩
    simp only [Flat.sz] at hbb
    simp only [Flat.cell]
    rw [getD_set' _ _ _ _ _ hi]
    by_cases hai : a = i
    · subst hai
      have hb4 : b = 0 ∨ b = 1 ∨ b = 2 ∨ b = 3 := by omega
      rcases hb4 with rfl | rfl | rfl | rfl <;> first | omega | simp [R2.get, R3.get, R4.get]
    · simp [hai]

end
end Go.Sx

/-
  Stores, new slices, appends, calls.
-/
namespace Go.Sx
set_option linter.unusedVariables false
set_option linter.unusedSimpArgs false
open Go
open Go.RowKit

/-- What must be shown on the way. -/
structure Side (p : Prop) : Prop where
  h : p

def need (C : Cnd) (X : Prop) : Prop :=
  match C with
  | none => X
  | some c => Side c ∧ X
theorem need_spec {C : Cnd} {X : Prop} (h : need C X) : C.holds ∧ X := by
  cases C with
  | none => exact ⟨trivial, h⟩
  | some c => exact ⟨h.1.h, h.2⟩

section
variable {P : Program} {T : Tbl} {ρ : Rho} {N : Nat} {G : Heap} {w : World}

/-- The object 'id' is flat and one's own, has elements, and lies in a block: that block, and how its content may be replaced. -/
theorem own_block (hH : HeapRep ρ N G w) {id : Nat} {f : Flat} (ho : hget G id = some (.flat true f)) (hn : 0 < f.n) :
    ∃ c t, w.heap[(ρ id []).b]? = some (.cells c t (0, 0)) ∧ c.size = (ρ id []).tot ∧ 0 < (ρ id []).tot ∧ ∀ t', f.ty = some t' → t = t' ∧ (ρ id []).o = 0 := by
  rcases hH.ow id [] f.node (NodeAt.of_get ho rfl) with ⟨_, h, _⟩ | ⟨ob, h1, ⟨c, t, rfl, h3, h5⟩, h4⟩
  · simp only [Flat.node] at h; omega
  · exact ⟨c, t, h1, h3, h4, h5⟩

theorem put_flat (hH : HeapRep ρ N G w) {id : Nat} {f f' : Flat} (ho : hget G id = some (.flat true f)) (hn : f'.n = f.n) (hsz : f'.sz = f.sz) {w' : World} (hpos : 0 < f.n)
    (hf : FrameW (· = (ρ id []).b) w w') (hblk : ∃ c t, w'.heap[(ρ id []).b]? = some (.cells c t (0, 0)) ∧ c.size = (ρ id []).tot ∧ ∀ t', f'.ty = some t' → t = t' ∧ (ρ id []).o = 0)
    (hcells : ∀ i, i < f.n → ∀ j, j < f.sz → ∃ u, w'.cell? ⟨(ρ id []).b, (ρ id []).o + (i * f.sz + j), none⟩ = some u ∧ VR ρ N (f'.cell i j) u ∧ u.oneCell' = true) :
    HeapRep ρ N (hset G id (.flat true f')) w' ∧ FrameW (Owns ρ G) w w' ∧ ∀ b, Owns ρ (hset G id (.flat true f')) b → Owns ρ G b := by
  obtain ⟨c0, t0, hb0, hc0, htot, hty0⟩ := own_block hH ho hpos
  have hnode := NodeAt.of_get ho (rfl : (AObj.flat true f).node id [] = some f.node)
  have hnode' : NodeAt G id [] f.node true := hnode
  have hOwn : Owns ρ G (ρ id []).b := ⟨id, [], f.node, hnode', htot, rfl⟩
  have hdelne : ∀ {i p nd own}, NodeAt (hdel G id) i p nd own → i ≠ id ∧ NodeAt G i p nd own := fun {i p nd own} hx => by
    obtain ⟨o, h1, h2⟩ := hx.ex
    rw [hget_hdel] at h1
    split at h1
    · cases h1
    · next h => exact ⟨h, ⟨⟨o, h1, h2⟩⟩⟩
  have hD : HeapRep ρ N (hdel G id) w' := (hH.del id).frame hf fun i p nd own hx hs => by
    obtain ⟨hne, hx'⟩ := hdelne hx
    exact Ne.symm (hH.sep id [] f.node i p nd own hnode' hx' (fun h => hne h.1.symm) htot hs)
  have hnone : hget (hdel G id) id = none := by rw [hget_hdel]; simp
  obtain ⟨c, t, hb, hc, hct⟩ := hblk
  obtain ⟨sh1, sh2, sh3⟩ := hH.shape id [] f.node true hnode'
  simp only [Flat.node] at sh1 sh2 sh3
  have hput := hD.put (o := .flat true f') (hH.keys id _ ho) hnone rfl (fun p nd hnd => by
    have hp : p = [] ∧ nd = f'.node := by
      cases p with
      | nil => simp [AObj.node] at hnd; exact ⟨rfl, hnd.symm⟩
      | cons _ _ => simp [AObj.node] at hnd
    obtain ⟨rfl, rfl⟩ := hp
    refine ⟨by simp [Flat.node, hsz, sh1], by simp [Flat.node, hn, sh2], by simpa [Flat.node, hsz] using sh3, ?_, .inr ⟨_, hb, ⟨c, t, rfl, hc, hct⟩, htot⟩, fun _ => ⟨fun p' nd' hnd' hne => ?_, fun i' p' nd' own' hx hs => ?_⟩⟩
    · intro i hi j hj
      simp only [Flat.node, hn, hsz] at hi hj ⊢
      exact hcells i hi j hj
    · cases p' with
      | nil => exact absurd rfl hne
      | cons _ _ => simp [AObj.node] at hnd'
    · obtain ⟨hne, hx'⟩ := hdelne hx
      exact hH.sep id [] f.node i' p' nd' own' hnode' hx' (fun h => hne h.1.symm) htot hs)
  have hcongr : ∀ i, hget ((id, AObj.flat true f') :: hdel G id) i = hget (hset G id (.flat true f')) i := fun i => by
    rw [hget_cons, hget_hset, hget_hdel]
    by_cases h : i = id
    · subst h; simp [ho]
    · simp [h]
  refine ⟨hput.congr hcongr, ⟨hf.os, hf.tape, hf.output, hf.size, fun k hk hn => hf.block k hk (fun e => hn (e ▸ hOwn)), hf.drawn⟩, fun b hb => ?_⟩
  obtain ⟨i, p, nd, hx, ht, rfl⟩ := hb
  obtain ⟨o, h1, h2, h3⟩ := hx.ex
  rw [hget_hset] at h1
  split at h1
  · next he =>
    subst he
    simp only [ho, Option.map_some, Option.some.injEq] at h1
    subst h1
    cases p with
    | nil => exact hOwn
    | cons _ _ => simp [AObj.node] at h2
  · exact ⟨i, p, nd, ⟨⟨o, h1, h2, h3⟩⟩, ht, rfl⟩

def eStore (T : Tbl) (t : Nat) (p v : AV) (N : Nat) (G : Heap) (K : AV → Nat → Heap → Prop) : Prop :=
  match tget T t with
  | some ti => match p with
    | .ptr id pth i j => match pth with
      | [] => match hget G id with
        | some o => match o with
          | .flat own f => match own with
            | true => cellsK v fun cs => bif Nat.beq cs.length ti.size then f.setK i j cs fun C f' => need C (K .top N (hset G id (.flat true f'))) else False
            | false => False
          | _ => False
        | none => False
      | _ :: _ => False
    | _ => False
  | none => False

theorem eStore_sound (hT : TblOK P T) (hH : HeapRep ρ N G w) {t : Nat} {p v : AV} {K : AV → Nat → Heap → Prop} (h : eStore T t p v N G K) {pv vv : Value} (hp : VR ρ N p pv) (hv : VR ρ N v vv) :
    ∃ w', (Instr.storeAt t pv vv).run P w = .ok () w' ∧ Out ρ N G w K undef w' := by
  unfold eStore at h
  split at h
  case h_2 => exact h.elim
  rename_i ti ht
  split at h
  case h_2 => exact h.elim
  rename_i id pth i j
  split at h
  case h_2 => exact h.elim
  split at h
  case h_2 => exact h.elim
  rename_i o ho
  split at h
  case h_2 => exact h.elim
  rename_i own f
  split at h
  case h_2 => exact h.elim
  obtain ⟨cs, us, h, hcells, hus, h1⟩ := cellsK_spec h hv
  cases hb : Nat.beq cs.length ti.size with
  | false => simp [hb] at h
  | true =>
    simp only [hb, cond_true] at h
    have hb := Nat.eq_of_beq_eq_true hb
    obtain ⟨C, f', h, hset⟩ := setK_spec h
    obtain ⟨hC, hK⟩ := need_spec h
    have hs := hset hC
    have hl := hus.length
    have hi := hs.hi
    have hj := hs.hj
    obtain ⟨c0, t0, hb0, hc0, htot, hty0⟩ := own_block hH ho (by omega)
    have hnode : NodeAt G id [] f.node true := NodeAt.of_get ho rfl
    obtain ⟨sh1, sh2, sh3⟩ := hH.shape id [] f.node true hnode
    simp only [Flat.node] at sh1 sh2 sh3
    simp only [VR] at hp
    obtain ⟨hidN, hp⟩ := hp
    rw [sh1] at hp
    have hrd : ∀ a, a < f.n → ∀ b, b < f.sz → ∃ u, c0[(ρ id []).o + (a * f.sz + b)]? = some u ∧ VR ρ N (f.cell a b) u ∧ u.oneCell' = true := fun a ha b hbb => by
      obtain ⟨u, k1, k2⟩ := hH.rd id [] f.node true hnode a ha b hbb
      rw [cell_of_row w _ _ c0 t0 (0, 0) hb0] at k1
      exact ⟨u, k1, k2⟩
    obtain ⟨c', hc1, hc2, hc3⟩ := setCells_block (ρ id []).b t0 (0, 0) us ((ρ id []).o + (i * f.sz + j)) w c0 hb0
    have hwr : ∀ d, d < us.length → ∃ u, c0[(ρ id []).o + (i * f.sz + j) + d]? = some u := fun d hd => by
      obtain ⟨u, k1, _⟩ := hrd i hi (j + d) (by omega)
      exact ⟨u, by rw [← k1]; congr 1; omega⟩
    obtain ⟨q1, q2, q3⟩ := put_flat hH ho hs.n hs.sz (w' := w.setCells (ρ id []).b ((ρ id []).o + (i * f.sz + j)) us) (by omega) (setCells_frame _ _ _ _) ⟨c', t0, hc1, hc2.trans hc0, by rw [hs.ty]; exact hty0⟩ (fun a ha b hbb => by
      obtain ⟨u, k1, k2, k3⟩ := hrd a ha b hbb
      have hvr : ∀ u, VR ρ N (if a = i ∧ j ≤ b ∧ b < j + cs.length then cs.getD (b - j) .top else f.cell a b) u → VR ρ N (f'.cell a b) u := fun u hu => by
        rcases hs.cell a b ha hbb with e | e
        · rw [e]; exact hu
        · rw [e]; simp only [VR]
      rw [cell_of_row _ _ _ c' t0 (0, 0) hc1, hc3]
      have hsz0 : (ρ id []).o + (a * f.sz + b) < c0.size := (Array.getElem?_eq_some_iff.1 k1).1
      by_cases hin : a = i ∧ j ≤ b ∧ b < j + cs.length
      · obtain ⟨rfl, hb1, hb2⟩ := hin
        rw [if_pos ⟨by omega, by omega, hsz0⟩]
        obtain ⟨x, x1, x2⟩ := hus.get (b - j) (by omega)
        exact ⟨x, by rw [← x1]; congr 1; omega, hvr x (by rw [if_pos ⟨rfl, hb1, hb2⟩]; exact x2), h1 x (List.mem_of_getElem? x1)⟩
      · have : ¬ ((ρ id []).o + (i * f.sz + j) ≤ (ρ id []).o + (a * f.sz + b) ∧ (ρ id []).o + (a * f.sz + b) < (ρ id []).o + (i * f.sz + j) + us.length ∧ (ρ id []).o + (a * f.sz + b) < c0.size) := by
          rintro ⟨e1, e2, _⟩
          apply hin
          have hai : a = i := by
            rcases Nat.lt_trichotomy a i with hlt | rfl | hlt
            · have := Nat.mul_le_mul_right f.sz (show a + 1 ≤ i by omega)
              rw [Nat.add_mul] at this
              omega
            · rfl
            · have := Nat.mul_le_mul_right f.sz (show i + 1 ≤ a by omega)
              rw [Nat.add_mul] at this
              omega
          subst hai
          exact ⟨rfl, by omega, by omega⟩
        rw [if_neg this]
        exact ⟨u, k1, hvr u (by rw [if_neg hin]; exact k2), k3⟩)
    refine ⟨_, ?_, ⟨⟨.top, ρ, N, _, hK, by simp only [VR], q1, Nat.le_refl _, fun _ _ => rfl, q2, fun b hb => .inr (q3 b hb)⟩⟩⟩
    obtain ⟨i0, z, hi0, hi1, _⟩ := (hT _ _ ht).info
    have hrun := run_storeCells_cells (P := P) (ρ id []).b ((ρ id []).o + (i * f.sz + j)) us 0 w (fun d hd => by
        obtain ⟨u, hu⟩ := hwr d hd
        rw [cell_of_row w _ _ c0 t0 (0, 0) hb0]
        simp only [Nat.add_zero]
        rw [hu]; rfl) (fun d _ => frozen_of_row w _ _ c0 t0 hb0) h1
    simp only [Nat.add_zero] at hrun
    rw [hp]
    simp only [Instr.storeAt, Instr.sureAddr, storeVar, Sem.run_bind, Sem.run_pure, Result.andThen_ok, run_sizeOf hi0, hcells]
    rw [if_neg (by simp; omega)]
    simpa using hrun

/-- A strings.Builder's zero value: the type of its block is kept in mind. -/
def isBld (z : List AV) : Bool :=
  match z with
  | .nilptr :: r => match r with
    | .nilsl :: r' => match r' with
      | [] => true
      | _ :: _ => false
    | _ => false
  | _ => false
theorem isBld_eq {z : List AV} (h : isBld z = true) : z = [.nilptr, .nilsl] := by
  unfold isBld at h
  split at h
  · split at h
    · split at h
      · rfl
      · cases h
    · cases h
  · cases h
theorem eBld_sound (hH : HeapRep ρ N G w) {us : List Value} (hcs : VRL ρ N [.nilptr, .nilsl] us) (h1 : ∀ u ∈ us, u.oneCell' = true) (t : TypeId) {K : AV → Nat → Heap → Prop} (h : K (.ptr N [] 0 0) (N + 1) ((N, .flat true (.bld t .nilptr .nilsl)) :: G)) :
    Out ρ N G w K (.pointer (some ⟨w.heap.size, 0, none⟩)) (w.alloc (.cells us.toArray t)) := by
  have hl := hcs.length
  refine out_new (t := t) (cs := us) hH h (by simp [Flat.sz]) (by simp [Flat.n, Flat.sz, hl]) ?_ (frame_alloc _ _) (fun t' h => by simpa [Flat.ty] using h) (heap_alloc_new _ _) ?_
  · intro i hi j hj
    simp only [Flat.n, Flat.sz] at hi hj
    obtain rfl : i = 0 := by omega
    obtain ⟨v, q1, q2⟩ := hcs.get j (by simpa using hj)
    refine ⟨v, by simpa using q1, ?_, h1 v (List.mem_of_getElem? q1)⟩
    have hj2 : j = 0 ∨ j = 1 := by omega
    rcases hj2 with rfl | rfl <;> exact q2
  · simp [VR]
def eAlloc (T : Tbl) (t N : Nat) (G : Heap) (K : AV → Nat → Heap → Prop) : Prop :=
  match tget T t with
  | some ti => match isBld ti.zero with
    | true => K (.ptr N [] 0 0) (N + 1) ((N, .flat true (.bld t .nilptr .nilsl)) :: G)
    | false => eBox ti.zero N G K
  | none => False
theorem eAlloc_sound (hT : TblOK P T) (hH : HeapRep ρ N G w) {t : Nat} {K : AV → Nat → Heap → Prop} (h : eAlloc T t N G K) : ∃ v w', (Instr.alloc t true (.tuple #[])).run P w = .ok v w' ∧ Out ρ N G w K v w' := by
  unfold eAlloc at h
  split at h
  case h_2 => exact h.elim
  rename_i ti ht
  obtain ⟨j, z, hj, _, _, hz, hzz⟩ := (hT _ _ ht).info
  have hne : ti.zero.length ≠ 0 := by
    intro h0
    have : ti.zero = [] := List.eq_nil_of_length_eq_zero h0
    rw [this] at h
    exact h
  obtain ⟨z1, z2, z3⟩ := hzz hne
  split at h
  · next hb =>
    have hzb := isBld_eq hb
    refine ⟨_, _, ?_, eBld_sound hH (hzb ▸ z2 ρ N) (fun u hu => z3 u (by simpa using hu)) t h⟩
    simp [Instr.alloc, zeroValue, typeInfo, hj, hz, newVar, newRow]
  refine ⟨_, _, ?_, eBox_sound hH (z2 ρ N) (fun u hu => z3 u (by simpa using hu)) h t⟩
  simp [Instr.alloc, zeroValue, typeInfo, hj, hz, newVar, newRow]

end
end Go.Sx

/-
  New slices (make, a literal, append), calls.
-/
namespace Go.Sx
set_option linter.unusedVariables false
set_option linter.unusedSimpArgs false
open Go
open Go.RowKit

section
variable {P : Program} {T : Tbl} {ρ : Rho} {N : Nat} {G : Heap} {w : World}

/-! ### make -/
def EK.repK (k : EK) (n : Nat) (K : Flat → Prop) : Prop :=
  match k with
  | .ints k => K (.ints k (List.replicate n 0))
  | .r2 => K (.r2 (List.replicate n ⟨0, 0⟩))
  | .r3 => K (.r3 (List.replicate n ⟨0, 0, 0⟩))
  | .r4 => K (.r4 (List.replicate n ⟨0, 0, 0, 0⟩))
  | .bools => K (.bools (List.replicate n false))
  | .strs => K (.strs (List.replicate n ByteArray.empty))
  | _ => False
theorem getD_rep {α : Type} (n i : Nat) (x d : α) (h : i < n) : (List.replicate n x).getD i d = x := by simp [List.getD, h]
theorem repK_spec {k : EK} {n : Nat} {K : Flat → Prop} (h : k.repK n K) : ∃ f, (K f ∧ f.ty = none) ∧ k ≠ .other ∧ f.n = n ∧ f.sz = k.zero.length ∧ ∀ i j, i < n → j < f.sz → f.cell i j = k.zero.getD j .top := by
  unfold EK.repK at h
  split at h
  case h_7 => exact h.elim
  all_goals
    refine ⟨_, ⟨h, rfl⟩, by simp, by simp [Flat.n], rfl, fun i j hi hj => ?_⟩
    simp only [Flat.sz] at hj
    simp only [Flat.cell, getD_rep _ _ _ _ hi]
    have hj4 : j = 0 ∨ j = 1 ∨ j = 2 ∨ j = 3 := by omega
    rcases hj4 with rfl | rfl | rfl | rfl <;> first | omega | rfl

def sameOpd (x y : Operand) : Bool :=
  match x, y with
  | .tmp a, .tmp b => Nat.beq a b
  | .const (.int k n), .const (.int k' n') => k == k' && decide (n = n')
  | _, _ => false
def eMake (T : Tbl) (lk : Operand → AV) (t : Nat) (xl xc : Operand) (N : Nat) (G : Heap) (K : AV → Nat → Heap → Prop) : Prop :=
  match tget T t with
  | some ti => match ti.d with
    | .slice _ _ _ k => match sameOpd xl xc with
      | true => match lk xl with
        | .int _ l => k.repK l.toNat fun f => need (some (0 ≤ l ∧ l ≤ 1099511627776)) (K (.sl N []) (N + 1) ((N, .flat true f) :: G))
        | _ => False
      | false => False
    | _ => False
  | none => False

theorem madeCells_get (z : Array Value) (n k : Nat) (h : k < n) : (madeCells z n)[k]? = some (z[k % z.size]!) := by
  simp [madeCells, h]

/-- The run of make, and the object that it makes, whatever stands for the zero cells. -/
theorem make_core (hT : TblOK P T) (hH : HeapRep ρ N G w) {t : Nat} {ti : TI} (ht : tget T t = some ti) {e esz eb : Nat} {k : EK} (hd1 : ti.d = .slice e esz eb k) (hko : k ≠ .other) {kk : IntKind} {l : Int} (h0 : 0 ≤ l) (h1 : l ≤ 1099511627776)
    {f : Flat} (hfn : f.n = l.toNat) (hfs : f.sz = k.zero.length) (hfc : ∀ i j u, i < l.toNat → j < f.sz → VR ρ N (k.zero.getD j .top) u → VR ρ N (f.cell i j) u) {K : AV → Nat → Heap → Prop} (hK : K (.sl N []) (N + 1) ((N, .flat true f) :: G)) (hfty : f.ty = none := by rfl) :
    ∃ v w', (Instr.makeSlice t (.int kk l) (.int kk l)).run P w = .ok v w' ∧ Out ρ N G w K v w' := by
  have hd0 := (hT _ _ ht).desc
  rw [hd1] at hd0
  obtain ⟨hd, i, z, hi, hsz, hby, hpos, heb, hz, hzs, hzk, hz1⟩ : DescOK P t (.slice e esz eb k) := hd0
  obtain ⟨hzl, hzr⟩ := hzk hko
  have hb : (i.bytes : Int) * l ≤ 281474976710656 := by
    have : (i.bytes : Int) ≤ 64 := by omega
    calc (i.bytes : Int) * l ≤ 64 * l := Int.mul_le_mul_of_nonneg_right this h0
      _ ≤ 281474976710656 := by omega
  have hrun := run_make (P := P) w t e i z hd hi hz kk kk l l h0 (Int.le_refl _) hb (by omega)
  refine ⟨_, _, hrun, ?_⟩
  have hlen : (madeCells z.cells (l.toNat * i.size)).toList.length = l.toNat * esz := by simp [size_madeCells, hsz]
  refine out_new (f := f) (t := e) (cs := (madeCells z.cells (l.toNat * i.size)).toList) hH hK (by rw [hfs, hzl]; exact hpos) (by rw [hlen, hfn, hfs, hzl]; exact Nat.le_refl _) ?_ (frame_alloc _ _) (fun _ h => nomatch hfty.symm.trans h) (by simpa using heap_alloc_new w _) ?_
  · intro a ha b hbb
    rw [hfn] at ha
    rw [hfs, hzl] at hbb ⊢
    have hlt : a * esz + b < l.toNat * i.size := by
      have := Nat.mul_le_mul_right esz (show a + 1 ≤ l.toNat by omega)
      rw [Nat.add_mul] at this
      rw [hsz]; omega
    have hg := madeCells_get z.cells _ _ hlt
    have hmod : (a * esz + b) % z.cells.size = b := by
      rw [hzs, Nat.mul_comm, Nat.mul_add_mod, Nat.mod_eq_of_lt hbb]
    rw [hmod] at hg
    obtain ⟨u, hu, hr⟩ := (hzr ρ N).get b (by rw [hzl]; exact hbb)
    have hu' : z.cells[b]? = some u := by simpa using hu
    refine ⟨u, ?_, hfc a b u ha (by rw [hfs, hzl]; exact hbb) hr, hz1 u (Array.mem_of_getElem? hu')⟩
    rw [Array.getElem?_toList, hg]
    simp [Array.getElem!_eq_getD, hu']
  · simp only [VR, if_true]
    refine ⟨Nat.lt_succ_self N, _, _, by rw [hfn], .inl ⟨by simp, by rw [hfn]; exact Nat.le_refl _, ?_⟩⟩
    rw [hlen, hfs, hzl]; simp

theorem eMake_sound {lk : Operand → AV} {ev : Operand → Value} (hT : TblOK P T) (hH : HeapRep ρ N G w) (hlk : ∀ x, VR ρ N (lk x) (ev x)) {t : Nat} {xl xc : Operand} {K : AV → Nat → Heap → Prop} (hev : ∀ a b, sameOpd a b = true → ev a = ev b)
    (h : eMake T lk t xl xc N G K) : ∃ v w', (Instr.makeSlice t (ev xl) (ev xc)).run P w = .ok v w' ∧ Out ρ N G w K v w' := by
  unfold eMake at h
  split at h
  case h_2 => exact h.elim
  rename_i ti ht
  split at h
  case h_2 => exact h.elim
  rename_i e esz eb k hd1
  split at h
  case h_2 => exact h.elim
  rename_i hsame
  split at h
  case h_2 => exact h.elim
  rename_i kk l hx
  have hvl := hlk xl
  rw [hx] at hvl
  simp only [VR] at hvl
  obtain ⟨f, ⟨h, hfty⟩, hko, hfn, hfs, hfc⟩ := repK_spec h
  obtain ⟨hc, hK⟩ := need_spec h
  obtain ⟨h0, h1⟩ : 0 ≤ l ∧ l ≤ 1099511627776 := hc
  rw [← hev xl xc hsame, hvl]
  exact make_core hT hH ht hd1 hko h0 h1 hfn hfs (fun i j u hi hj hu => by rw [hfc i j hi hj]; exact hu) hK hfty

/-! ### a literal -/
def collectK (lk : Operand → AV) (esz : Nat) : Nat → List (Nat × Operand) → (List (List AV) → Prop) → Prop
  | _, [], K => K []
  | k, (i, x) :: r, K => bif Nat.beq i k then cellsK (lk x) fun cs => bif Nat.beq cs.length esz then collectK lk esz (k + 1) r fun rows => K (cs :: rows) else False else False

def intsK (k : IntKind) : List (List AV) → (List Int → Prop) → Prop
  | [], K => K []
  | c :: r, K => match c with
    | [.int k' n] => bif k == k' then intsK k r fun xs => K (n :: xs) else False
    | _ => False
def r2K : List (List AV) → (List R2 → Prop) → Prop
  | [], K => K []
  | c :: r, K => match c with
    | [.int .i64 a, .int .i64 b] => r2K r fun xs => K (⟨a, b⟩ :: xs)
    | _ => False
def r3K : List (List AV) → (List R3 → Prop) → Prop
  | [], K => K []
  | c :: r, K => match c with
    | [.int .i64 a, .int .i64 b, .int .i64 c] => r3K r fun xs => K (⟨a, b, c⟩ :: xs)
    | _ => False
def r4K : List (List AV) → (List R4 → Prop) → Prop
  | [], K => K []
  | c :: r, K => match c with
    | [.int .i64 a, .int .i64 b, .int .i64 c, .int .i64 d] => r4K r fun xs => K (⟨a, b, c, d⟩ :: xs)
    | _ => False
def boolsK : List (List AV) → (List Bool → Prop) → Prop
  | [], K => K []
  | c :: r, K => match c with
    | [.bool b] => boolsK r fun xs => K (b :: xs)
    | _ => False
def strsK : List (List AV) → (List ByteArray → Prop) → Prop
  | [], K => K []
  | c :: r, K => match c with
    | [.str s] => strsK r fun xs => K (s :: xs)
    | _ => False
def EK.rowsK (k : EK) (rows : List (List AV)) (K : Flat → Prop) : Prop :=
  match k with
  | .ints k => intsK k rows fun xs => K (.ints k xs)
  | .r2 => r2K rows fun xs => K (.r2 xs)
  | .r3 => r3K rows fun xs => K (.r3 xs)
  | .r4 => r4K rows fun xs => K (.r4 xs)
  | .bools => boolsK rows fun xs => K (.bools xs)
  | .strs => strsK rows fun xs => K (.strs xs)
  | _ => False

theorem intsK_spec {k : IntKind} : ∀ {rows : List (List AV)} {K : List Int → Prop}, intsK k rows K → ∃ xs, K xs ∧ rows = xs.map fun n => [AV.int k n]
  | [], _, h => ⟨[], h, rfl⟩
  | c :: r, K, h => by
    simp only [intsK] at h
    split at h
    · rename_i k' n
      cases hb : k == k' with
      | false => simp [hb] at h
      | true =>
        simp only [hb, cond_true] at h
        have : k = k' := by simpa using hb
        subst this
        obtain ⟨xs, h1, h2⟩ := intsK_spec (rows := r) h
        exact ⟨n :: xs, h1, by simp [h2]⟩
    · exact h.elim
theorem r2K_spec : ∀ {rows : List (List AV)} {K : List R2 → Prop}, r2K rows K → ∃ xs, K xs ∧ rows = xs.map fun x => [AV.int .i64 x.a, .int .i64 x.b]
  | [], _, h => ⟨[], h, rfl⟩
  | c :: r, K, h => by
    simp only [r2K] at h
    split at h
    · rename_i a b
      obtain ⟨xs, h1, h2⟩ := r2K_spec (rows := r) h
      exact ⟨⟨a, b⟩ :: xs, h1, by simp [h2]⟩
    · exact h.elim
theorem r3K_spec : ∀ {rows : List (List AV)} {K : List R3 → Prop}, r3K rows K → ∃ xs, K xs ∧ rows = xs.map fun x => [AV.int .i64 x.a, .int .i64 x.b, .int .i64 x.c]
  | [], _, h => ⟨[], h, rfl⟩
  | c :: r, K, h => by
    simp only [r3K] at h
    split at h
    · rename_i a b c
      obtain ⟨xs, h1, h2⟩ := r3K_spec (rows := r) h
      exact ⟨⟨a, b, c⟩ :: xs, h1, by simp [h2]⟩
    · exact h.elim
theorem r4K_spec : ∀ {rows : List (List AV)} {K : List R4 → Prop}, r4K rows K → ∃ xs, K xs ∧ rows = xs.map fun x => [AV.int .i64 x.a, .int .i64 x.b, .int .i64 x.c, .int .i64 x.d]
  | [], _, h => ⟨[], h, rfl⟩
  | c :: r, K, h => by
    simp only [r4K] at h
    split at h
    · rename_i a b c d
      obtain ⟨xs, h1, h2⟩ := r4K_spec (rows := r) h
      exact ⟨⟨a, b, c, d⟩ :: xs, h1, by simp [h2]⟩
    · exact h.elim
theorem boolsK_spec : ∀ {rows : List (List AV)} {K : List Bool → Prop}, boolsK rows K → ∃ xs, K xs ∧ rows = xs.map fun x => [AV.bool x]
  | [], _, h => ⟨[], h, rfl⟩
  | c :: r, K, h => by
    simp only [boolsK] at h
    split at h
    · rename_i b
      obtain ⟨xs, h1, h2⟩ := boolsK_spec (rows := r) h
      exact ⟨b :: xs, h1, by simp [h2]⟩
    · exact h.elim
theorem strsK_spec : ∀ {rows : List (List AV)} {K : List ByteArray → Prop}, strsK rows K → ∃ xs, K xs ∧ rows = xs.map fun x => [AV.str x]
  | [], _, h => ⟨[], h, rfl⟩
  | c :: r, K, h => by
    simp only [strsK] at h
    split at h
    · rename_i s
      obtain ⟨xs, h1, h2⟩ := strsK_spec (rows := r) h
      exact ⟨s :: xs, h1, by simp [h2]⟩
    · exact h.elim

theorem rowsK_spec {k : EK} {rows : List (List AV)} {K : Flat → Prop} (h : k.rowsK rows K) : ∃ f, (K f ∧ f.ty = none) ∧ k ≠ .other ∧ f.n = rows.length ∧ f.sz = k.zero.length ∧ ∀ i j, i < rows.length → j < f.sz → f.cell i j = (rows.getD i []).getD j .top := by
  have key : ∀ {α : Type} (xs : List α) (g : α → List AV) (i j : Nat) (d : α), i < xs.length → ((xs.map g).getD i []).getD j .top = (g (xs.getD i d)).getD j .top := fun xs g i j d hi => by
    simp [List.getD, List.getElem?_map, List.getElem?_eq_getElem hi]
  unfold EK.rowsK at h
  split at h
  case h_7 => exact h.elim
  case h_1 =>
    obtain ⟨xs, hK, rfl⟩ := intsK_spec h
    refine ⟨_, ⟨hK, rfl⟩, by simp, by simp [Flat.n], rfl, fun i j hi hj => ?_⟩
    rw [key _ _ _ _ 0 (by simpa using hi)]
    simp only [Flat.sz] at hj
    obtain rfl : j = 0 := by omega
    rfl
  case h_2 =>
    obtain ⟨xs, hK, rfl⟩ := r2K_spec h
    refine ⟨_, ⟨hK, rfl⟩, by simp, by simp [Flat.n], rfl, fun i j hi hj => ?_⟩
    rw [key _ _ _ _ default (by simpa using hi)]
    simp only [Flat.sz] at hj
    have : j = 0 ∨ j = 1 := by omega
    rcases this with rfl | rfl <;> rfl
  case h_3 =>
    obtain ⟨xs, hK, rfl⟩ := r3K_spec h
    refine ⟨_, ⟨hK, rfl⟩, by simp, by simp [Flat.n], rfl, fun i j hi hj => ?_⟩
    rw [key _ _ _ _ default (by simpa using hi)]
    simp only [Flat.sz] at hj
    have : j = 0 ∨ j = 1 ∨ j = 2 := by omega
    rcases this with rfl | rfl | rfl <;> rfl
  case h_4 =>
    obtain ⟨xs, hK, rfl⟩ := r4K_spec h
    refine ⟨_, ⟨hK, rfl⟩, by simp, by simp [Flat.n], rfl, fun i j hi hj => ?_⟩
    rw [key _ _ _ _ default (by simpa using hi)]
    simp only [Flat.sz] at hj
    have : j = 0 ∨ j = 1 ∨ j = 2 ∨ j = 3 := by omega
    rcases this with rfl | rfl | rfl | rfl <;> rfl
  case h_5 =>
    obtain ⟨xs, hK, rfl⟩ := boolsK_spec h
    refine ⟨_, ⟨hK, rfl⟩, by simp, by simp [Flat.n], rfl, fun i j hi hj => ?_⟩
    rw [key _ _ _ _ false (by simpa using hi)]
    simp only [Flat.sz] at hj
    obtain rfl : j = 0 := by omega
    rfl
  case h_6 =>
    obtain ⟨xs, hK, rfl⟩ := strsK_spec h
    refine ⟨_, ⟨hK, rfl⟩, by simp, by simp [Flat.n], rfl, fun i j hi hj => ?_⟩
    rw [key _ _ _ _ ByteArray.empty (by simpa using hi)]
    simp only [Flat.sz] at hj
    obtain rfl : j = 0 := by omega
    rfl

theorem collectK_spec {lk : Operand → AV} {ev : Operand → Value} (hlk : ∀ x, VR ρ N (lk x) (ev x)) {esz : Nat} : ∀ {k : Nat} {parts : List (Nat × Operand)} {K : List (List AV) → Prop}, collectK lk esz k parts K →
    ∃ (rows : List (List AV)) (vss : List (List Value)), K rows ∧ rows.length = parts.length ∧ vss.length = parts.length ∧ (∀ i, i < rows.length → VRL ρ N (rows.getD i []) (vss.getD i []) ∧ (vss.getD i []).length = esz ∧ ∀ u ∈ vss.getD i [], u.oneCell' = true) ∧
      ∀ (cells : List Value), (k + parts.length) * esz ≤ cells.length → Instr.fill (fun i => some (i * esz, esz)) cells.toArray (parts.map fun x => (x.1, ev x.2)) = some (cells.take (k * esz) ++ vss.flatten ++ cells.drop ((k + parts.length) * esz)).toArray
  | k, [], K, h => ⟨[], [], h, rfl, rfl, by simp, fun cells hc => by simp [Instr.fill]⟩
  | k, (i, x) :: r, K, h => by
    simp only [collectK] at h
    cases hb : Nat.beq i k with
    | false => simp [hb] at h
    | true =>
      simp only [hb, cond_true] at h
      obtain rfl := Nat.eq_of_beq_eq_true hb
      obtain ⟨cs, us, h, hcells, hus, h1⟩ := cellsK_spec h (hlk x)
      cases hb2 : Nat.beq cs.length esz with
      | false => simp [hb2] at h
      | true =>
        simp only [hb2, cond_true] at h
        have hb2 := Nat.eq_of_beq_eq_true hb2
        have hl := hus.length
        obtain ⟨rows, vss, hK, e1, e2, e3, e4⟩ := collectK_spec hlk h
        refine ⟨cs :: rows, us :: vss, hK, by simp [e1], by simp [e2], fun a ha => ?_, fun cells hc => ?_⟩
        · cases a with
          | zero => exact ⟨hus, by simp; omega, h1⟩
          | succ a => exact e3 a (by simpa using ha)
        · simp only [List.length_cons] at hc
          have hmul : (i + (r.length + 1)) * esz = i * esz + esz + r.length * esz := by rw [Nat.add_mul, Nat.add_mul]; omega
          rw [List.map_cons, fill_cons (us := us) hcells (by rw [hl, hb2]) (by show i * esz + us.length ≤ _; omega)]
          rw [e4 _ (by rw [show i + 1 + r.length = i + (r.length + 1) by omega]; simp; omega)]
          have hmul2 : (i + 1) * esz = i * esz + esz := by rw [Nat.add_mul]; omega
          simp only [List.length_cons, List.flatten_cons]
          rw [hmul2, show i + 1 + r.length = i + (r.length + 1) by omega, hl, hb2]
          have hA : (cells.take (i * esz) ++ us).length = i * esz + esz := by simp; omega
          rw [List.take_left' hA, List.drop_append, List.drop_eq_nil_of_le (by omega), List.nil_append, List.drop_drop, hA]
          simp only [List.append_assoc]
          rw [show i * esz + esz + ((i + (r.length + 1)) * esz - (i * esz + esz)) = (i + (r.length + 1)) * esz by omega]

end
end Go.Sx
