/-
  A library of symbolic execution over the kit's 'Code.wp', typed for this claim: abstract values that name memory objects by numbers, an abstract heap, and what it means that a world bears them.
-/
import Derived.WalkKit
import Derived.Orders
namespace Go.Sx
set_option linter.unusedVariables false
set_option linter.unusedSimpArgs false
open Go

structure R2 where
  a : Int
  b : Int
  deriving DecidableEq, Inhabited
structure R3 where
  a : Int
  b : Int
  c : Int
  deriving DecidableEq, Inhabited
structure R4 where
  a : Int
  b : Int
  c : Int
  d : Int
  deriving DecidableEq, Inhabited

/-- Where a node of an object lies: block, cell of its first element, cells of an element, number of elements, cells that a slice of it may reach. -/
structure Blk where
  b : Nat
  o : Nat
  sz : Nat
  n : Nat
  tot : Nat

inductive AV where
  | int (k : IntKind) (n : Int)
  | bool (b : Bool)
  | str (s : ByteArray)
  | ptr (id : Nat) (p : List Nat) (i j : Nat)
  | sl (id : Nat) (p : List Nat)
  | sub (id : Nat) (p : List Nat) (i len : Nat) (cap : Option Nat)
  | nilsl
  | nilptr
  | nilmap
  | map (id : Nat)
  | func (f : Nat) (caps : List AV)
  | agg (cs : List AV)
  | tuple (vs : List AV)
  | opt (gt : Nat) (want : Bool) (g : Bool) (v : AV)
  | top
  deriving Inhabited

/-- The address of a part of a node, as a slice value bears it. -/
def SlRel (B : Blk) (i len c : Nat) (A : Option Addr) : Prop :=
  (A = some ⟨B.b, B.o + i * B.sz, none⟩ ∧ len ≤ c ∧ B.o + (i + c) * B.sz ≤ B.tot) ∨ (len = 0 ∧ c = 0)

abbrev Rho := Nat → List Nat → Blk

mutual
def VR (ρ : Rho) (N : Nat) : AV → Value → Prop
  | .int k n, v => v = .int k n
  | .bool b, v => v = .bool b
  | .str s, v => v = .string s
  | .ptr id p i j, v => id < N ∧ v = .pointer (some ⟨(ρ id p).b, (ρ id p).o + (i * (ρ id p).sz + j), none⟩)
  | .sl id p, v => id < N ∧ ∃ A c, v = .slice A (ρ id p).n c ∧ SlRel (ρ id p) 0 (ρ id p).n c A
  | .sub id p i len cap, v => id < N ∧ ∃ A c, v = .slice A len c ∧ SlRel (ρ id p) i len c A ∧ ∀ c', cap = some c' → c = c'
  | .nilsl, v => v = .slice none 0 0
  | .nilptr, v => v = .pointer none
  | .nilmap, v => v = .map none
  | .map id, v => id < N ∧ v = .map (some (ρ id []).b)
  | .func f caps, v => ∃ cs, v = .func (.func f) #[] cs.toArray ∧ VRL ρ N caps cs
  | .agg cs, v => ∃ vs, v = .agg vs.toArray ∧ VRL ρ N cs vs ∧ ∀ u ∈ vs, u.oneCell' = true
  | .tuple cs, v => ∃ vs, v = .tuple vs.toArray ∧ VRL ρ N cs vs
  | .opt _ want g a, v => (g = want → VR ρ N a v) ∧ (¬ g = want → v = undef)
  | .top, _ => True
def VRL (ρ : Rho) (N : Nat) : List AV → List Value → Prop
  | [], vs => vs = []
  | a :: as, vs => ∃ v r, vs = v :: r ∧ VR ρ N a v ∧ VRL ρ N as r
end

mutual
theorem VR.mono {ρ ρ' : Rho} {N N' : Nat} (hN : N ≤ N') (hρ : ∀ id, id < N → ρ' id = ρ id) : ∀ (a : AV) (v : Value), VR ρ N a v → VR ρ' N' a v
  | .int _ _, _, h => h
  | .bool _, _, h => h
  | .str _, _, h => h
  | .ptr id p i j, v, h => by simp only [VR] at h ⊢; rw [hρ id h.1]; exact ⟨Nat.lt_of_lt_of_le h.1 hN, h.2⟩
  | .sl id p, v, h => by simp only [VR] at h ⊢; rw [hρ id h.1]; exact ⟨Nat.lt_of_lt_of_le h.1 hN, h.2⟩
  | .sub id p i len cap, v, h => by simp only [VR] at h ⊢; rw [hρ id h.1]; exact ⟨Nat.lt_of_lt_of_le h.1 hN, h.2⟩
  | .nilsl, _, h => h
  | .nilptr, _, h => h
  | .nilmap, _, h => h
  | .map id, v, h => by simp only [VR] at h ⊢; rw [hρ id h.1]; exact ⟨Nat.lt_of_lt_of_le h.1 hN, h.2⟩
  | .func f caps, v, h => by
    simp only [VR] at h ⊢
    obtain ⟨cs, e, hc⟩ := h
    exact ⟨cs, e, VRL.mono hN hρ caps cs hc⟩
  | .agg cs, v, h => by
    simp only [VR] at h ⊢
    obtain ⟨vs, e, hc, h1⟩ := h
    exact ⟨vs, e, VRL.mono hN hρ cs vs hc, h1⟩
  | .tuple cs, v, h => by
    simp only [VR] at h ⊢
    obtain ⟨vs, e, hc⟩ := h
    exact ⟨vs, e, VRL.mono hN hρ cs vs hc⟩
  | .opt _ want g a, v, h => by
    simp only [VR] at h ⊢
    exact ⟨fun e => VR.mono hN hρ a v (h.1 e), h.2⟩
  | .top, _, _ => by simp only [VR]
theorem VRL.mono {ρ ρ' : Rho} {N N' : Nat} (hN : N ≤ N') (hρ : ∀ id, id < N → ρ' id = ρ id) : ∀ (as : List AV) (vs : List Value), VRL ρ N as vs → VRL ρ' N' as vs
  | [], _, h => by simp only [VRL] at h ⊢; exact h
  | a :: as, vs, h => by
    simp only [VRL] at h ⊢
    obtain ⟨v, r, e, h1, h2⟩ := h
    exact ⟨v, r, e, VR.mono hN hρ a v h1, VRL.mono hN hρ as r h2⟩
end

theorem VRL.length {ρ : Rho} {N : Nat} : ∀ {as : List AV} {vs : List Value}, VRL ρ N as vs → vs.length = as.length
  | [], _, h => by simp only [VRL] at h; simp [h]
  | _ :: _, _, h => by
    simp only [VRL] at h
    obtain ⟨v, r, rfl, _, h2⟩ := h
    simp [VRL.length h2]

theorem VRL.get {ρ : Rho} {N : Nat} : ∀ {as : List AV} {vs : List Value} (_ : VRL ρ N as vs) (i : Nat) (_ : i < as.length), ∃ v, vs[i]? = some v ∧ VR ρ N (as.getD i .top) v
  | [], _, _, i, hi => by simp at hi
  | a :: as, _, h, i, hi => by
    simp only [VRL] at h
    obtain ⟨v, r, rfl, h1, h2⟩ := h
    cases i with
    | zero => exact ⟨v, rfl, h1⟩
    | succ i => exact VRL.get h2 i (by simpa using hi)

theorem VRL.append {ρ : Rho} {N : Nat} : ∀ {as : List AV} {vs : List Value} {bs : List AV} {us : List Value}, VRL ρ N as vs → VRL ρ N bs us → VRL ρ N (as ++ bs) (vs ++ us)
  | [], _, _, _, h, h' => by simp only [VRL] at h; subst h; exact h'
  | _ :: _, _, _, _, h, h' => by
    simp only [VRL] at h
    obtain ⟨v, r, rfl, h1, h2⟩ := h
    simp only [List.cons_append, VRL]
    exact ⟨v, _, rfl, h1, VRL.append h2 h'⟩

/-! ### Renaming -/
mutual
def AV.ren (m : Nat → Nat) : AV → AV
  | .ptr id p i j => .ptr (m id) p i j
  | .sl id p => .sl (m id) p
  | .sub id p i len cap => .sub (m id) p i len cap
  | .map id => .map (m id)
  | .func f caps => .func f (AV.renL m caps)
  | .agg cs => .agg (AV.renL m cs)
  | .tuple cs => .tuple (AV.renL m cs)
  | .opt gt want g a => .opt gt want g (AV.ren m a)
  | .int k n => .int k n
  | .bool b => .bool b
  | .str s => .str s
  | .nilsl => .nilsl
  | .nilptr => .nilptr
  | .nilmap => .nilmap
  | .top => .top
def AV.renL (m : Nat → Nat) : List AV → List AV
  | [] => []
  | a :: as => AV.ren m a :: AV.renL m as
end

-- What holds under the renamed names holds under the names themselves, read through the renaming.
mutual
theorem VR.of_ren {ρ : Rho} {m : Nat → Nat} {N M : Nat} (hm : ∀ id, id < N → m id < M) : ∀ (a : AV) (v : Value), VR (fun id => ρ (m id)) N a v → VR ρ M (a.ren m) v
  | .int _ _, _, h => h
  | .bool _, _, h => h
  | .str _, _, h => h
  | .ptr _ _ _ _, _, h => by simp only [VR, AV.ren] at h ⊢; exact ⟨hm _ h.1, h.2⟩
  | .sl _ _, _, h => by simp only [VR, AV.ren] at h ⊢; exact ⟨hm _ h.1, h.2⟩
  | .sub _ _ _ _ _, _, h => by simp only [VR, AV.ren] at h ⊢; exact ⟨hm _ h.1, h.2⟩
  | .nilsl, _, h => h
  | .nilptr, _, h => h
  | .nilmap, _, h => h
  | .map _, _, h => by simp only [VR, AV.ren] at h ⊢; exact ⟨hm _ h.1, h.2⟩
  | .func f caps, v, h => by
    simp only [VR, AV.ren] at h ⊢
    obtain ⟨cs, e, hc⟩ := h
    exact ⟨cs, e, VRL.of_ren hm caps cs hc⟩
  | .agg cs, v, h => by
    simp only [VR, AV.ren] at h ⊢
    obtain ⟨vs, e, hc, h1⟩ := h
    exact ⟨vs, e, VRL.of_ren hm cs vs hc, h1⟩
  | .tuple cs, v, h => by
    simp only [VR, AV.ren] at h ⊢
    obtain ⟨vs, e, hc⟩ := h
    exact ⟨vs, e, VRL.of_ren hm cs vs hc⟩
  | .opt _ want g a, v, h => by
    simp only [VR, AV.ren] at h ⊢
    exact ⟨fun e => VR.of_ren hm a v (h.1 e), h.2⟩
  | .top, _, _ => by simp only [VR, AV.ren]
theorem VRL.of_ren {ρ : Rho} {m : Nat → Nat} {N M : Nat} (hm : ∀ id, id < N → m id < M) : ∀ (as : List AV) (vs : List Value), VRL (fun id => ρ (m id)) N as vs → VRL ρ M (AV.renL m as) vs
  | [], _, h => by simp only [VRL, AV.renL] at h ⊢; exact h
  | a :: as, vs, h => by
    simp only [VRL, AV.renL] at h ⊢
    obtain ⟨v, r, e, h1, h2⟩ := h
    exact ⟨v, r, e, VR.of_ren hm a v h1, VRL.of_ren hm as r h2⟩
end

-- The way back.
mutual
def AV.ids (N : Nat) : AV → Bool
  | .ptr id _ _ _ => Nat.blt id N
  | .sl id _ => Nat.blt id N
  | .sub id _ _ _ _ => Nat.blt id N
  | .map id => Nat.blt id N
  | .func _ caps => AV.idsL N caps
  | .agg cs => AV.idsL N cs
  | .tuple cs => AV.idsL N cs
  | .opt _ _ _ a => AV.ids N a
  | .int _ _ => true
  | .bool _ => true
  | .str _ => true
  | .nilsl => true
  | .nilptr => true
  | .nilmap => true
  | .top => true
def AV.idsL (N : Nat) : List AV → Bool
  | [] => true
  | a :: as => AV.ids N a && AV.idsL N as
end

mutual
theorem VR.to_ren {ρ : Rho} {m : Nat → Nat} {N M : Nat} : ∀ (a : AV) (v : Value), a.ids N = true → VR ρ M (a.ren m) v → VR (fun id => ρ (m id)) N a v
  | .int _ _, _, _, h => h
  | .bool _, _, _, h => h
  | .str _, _, _, h => h
  | .ptr _ _ _ _, _, hb, h => by simp only [VR, AV.ren, AV.ids, Nat.blt_eq] at h hb ⊢; exact ⟨hb, h.2⟩
  | .sl _ _, _, hb, h => by simp only [VR, AV.ren, AV.ids, Nat.blt_eq] at h hb ⊢; exact ⟨hb, h.2⟩
  | .sub _ _ _ _ _, _, hb, h => by simp only [VR, AV.ren, AV.ids, Nat.blt_eq] at h hb ⊢; exact ⟨hb, h.2⟩
  | .nilsl, _, _, h => h
  | .nilptr, _, _, h => h
  | .nilmap, _, _, h => h
  | .map _, _, hb, h => by simp only [VR, AV.ren, AV.ids, Nat.blt_eq] at h hb ⊢; exact ⟨hb, h.2⟩
  | .func f caps, v, hb, h => by
    simp only [VR, AV.ren, AV.ids] at h hb ⊢
    obtain ⟨cs, e, hc⟩ := h
    exact ⟨cs, e, VRL.to_ren caps cs hb hc⟩
  | .agg cs, v, hb, h => by
    simp only [VR, AV.ren, AV.ids] at h hb ⊢
    obtain ⟨vs, e, hc, h1⟩ := h
    exact ⟨vs, e, VRL.to_ren cs vs hb hc, h1⟩
  | .tuple cs, v, hb, h => by
    simp only [VR, AV.ren, AV.ids] at h hb ⊢
    obtain ⟨vs, e, hc⟩ := h
    exact ⟨vs, e, VRL.to_ren cs vs hb hc⟩
  | .opt _ want g a, v, hb, h => by
    simp only [VR, AV.ren, AV.ids] at h hb ⊢
    exact ⟨fun e => VR.to_ren a v hb (h.1 e), h.2⟩
  | .top, _, _, _ => by simp only [VR]
theorem VRL.to_ren {ρ : Rho} {m : Nat → Nat} {N M : Nat} : ∀ (as : List AV) (vs : List Value), AV.idsL N as = true → VRL ρ M (AV.renL m as) vs → VRL (fun id => ρ (m id)) N as vs
  | [], _, _, h => by simp only [VRL, AV.renL] at h ⊢; exact h
  | a :: as, vs, hb, h => by
    simp only [VRL, AV.renL, AV.idsL, Bool.and_eq_true] at h hb ⊢
    obtain ⟨v, r, e, h1, h2⟩ := h
    exact ⟨v, r, e, VR.to_ren a v hb.1 h1, VRL.to_ren as r hb.2 h2⟩
end

/-! ### Contents -/
/-- Numbers laid together; 0 leaves the other as it is. -/
def offs (off i : Nat) : Nat :=
  match off with
  | 0 => i
  | o + 1 => o + 1 + i
theorem offs_eq (off i : Nat) : offs off i = off + i := by cases off <;> simp [offs]

inductive Flat where
  | ints (k : IntKind) (xs : List Int)
  | r2 (xs : List R2)
  | r3 (xs : List R3)
  | r4 (xs : List R4)
  | bools (xs : List Bool)
  | strs (xs : List ByteArray)
  | gen (sz : Nat) (xs : List (List AV))
  | rows (M off n : Nat)

structure Node where
  n : Nat
  sz : Nat
  cell : Nat → Nat → AV

def R2.get (x : R2) : Nat → Int
  | 0 => x.a
  | _ => x.b
def R3.get (x : R3) : Nat → Int
  | 0 => x.a
  | 1 => x.b
  | _ => x.c
def R4.get (x : R4) : Nat → Int
  | 0 => x.a
  | 1 => x.b
  | 2 => x.c
  | _ => x.d

def Flat.n : Flat → Nat
  | .ints _ xs => xs.length
  | .r2 xs => xs.length
  | .r3 xs => xs.length
  | .r4 xs => xs.length
  | .bools xs => xs.length
  | .strs xs => xs.length
  | .gen _ xs => xs.length
  | .rows _ _ n => n
def Flat.sz : Flat → Nat
  | .ints _ _ => 1
  | .r2 _ => 2
  | .r3 _ => 3
  | .r4 _ => 4
  | .bools _ => 1
  | .strs _ => 1
  | .gen sz _ => sz
  | .rows _ _ _ => 1
def Flat.cell : Flat → Nat → Nat → AV
  | .ints k xs, i, _ => .int k (xs.getD i 0)
  | .r2 xs, i, j => .int .i64 ((xs.getD i default).get j)
  | .r3 xs, i, j => .int .i64 ((xs.getD i default).get j)
  | .r4 xs, i, j => .int .i64 ((xs.getD i default).get j)
  | .bools xs, i, _ => .bool (xs.getD i false)
  | .strs xs, i, _ => .str (xs.getD i ByteArray.empty)
  | .gen _ xs, i, j => (xs.getD i []).getD j .top
  | .rows M off _, i, _ => .sl M [offs off i]
def Flat.node (f : Flat) : Node := ⟨f.n, f.sz, f.cell⟩

inductive AObj where
  | flat (own : Bool) (f : Flat)
  | nestI (own : Bool) (k : IntKind) (xss : List (List Int))
  | nestR2 (own : Bool) (xss : List (List R2))

def AObj.own : AObj → Bool
  | .flat o _ => o
  | .nestI o _ _ => o
  | .nestR2 o _ => o

/-- The nodes of an object: the object itself, and its rows. -/
def AObj.node (id : Nat) : AObj → List Nat → Option Node
  | .flat _ f, [] => some f.node
  | .flat _ _, _ => none
  | .nestI _ k xss, [y] => if y < xss.length then some (Flat.ints k (xss.getD y [])).node else none
  | .nestI _ _ _, _ => none
  | .nestR2 _ xss, [y] => if y < xss.length then some (Flat.r2 (xss.getD y [])).node else none
  | .nestR2 _ _, _ => none

abbrev Heap := List (Nat × AObj)

def hget : Heap → Nat → Option AObj
  | [], _ => none
  | (k, o) :: r, id => bif Nat.beq k id then some o else hget r id

structure NodeAt (G : Heap) (id : Nat) (p : List Nat) (nd : Node) (own : Bool) : Prop where
  mk' ::
  ex : ∃ o, hget G id = some o ∧ o.node id p = some nd ∧ o.own = own

/-- Has a node memory of its own to which nobody else may lead? -/
def Solid (B : Blk) (nd : Node) (own : Bool) : Prop := if own = true then 0 < B.tot else 0 < nd.n * nd.sz

structure HeapRep (ρ : Rho) (N : Nat) (G : Heap) (w : World) : Prop where
  keys : ∀ id o, hget G id = some o → id < N
  shape : ∀ id p nd own, NodeAt G id p nd own → (ρ id p).sz = nd.sz ∧ (ρ id p).n = nd.n ∧ 0 < nd.sz
  rd : ∀ id p nd own, NodeAt G id p nd own → ∀ i, i < nd.n → ∀ j, j < nd.sz → ∃ v, w.cell? ⟨(ρ id p).b, (ρ id p).o + (i * nd.sz + j), none⟩ = some v ∧ VR ρ N (nd.cell i j) v ∧ v.oneCell' = true
  ow : ∀ id p nd, NodeAt G id p nd true → ((ρ id p).tot = 0 ∧ nd.n = 0) ∨ (∃ c t, w.heap[(ρ id p).b]? = some (.cells c t (0, 0)) ∧ c.size = (ρ id p).tot ∧ 0 < (ρ id p).tot)
  sep : ∀ id p nd id' p' nd' own', NodeAt G id p nd true → NodeAt G id' p' nd' own' → ¬ (id = id' ∧ p = p') → 0 < (ρ id p).tot → Solid (ρ id' p') nd' own' → (ρ id p).b ≠ (ρ id' p').b

/-- The blocks that a heap's own nodes hold. -/
def Owns (ρ : Rho) (G : Heap) (b : Nat) : Prop := ∃ id p nd, NodeAt G id p nd true ∧ 0 < (ρ id p).tot ∧ (ρ id p).b = b

/-- What was there and is not in 'may' is as it was. -/
structure FrameW (may : Nat → Prop) (w w' : World) : Prop where
  os : w'.os = w.os
  tape : w'.tape = w.tape
  output : w'.output = w.output
  size : w.heap.size ≤ w'.heap.size
  block : ∀ k, k < w.heap.size → ¬ may k → w'.heap[k]? = w.heap[k]?

theorem FrameW.refl (may : Nat → Prop) (w : World) : FrameW may w w := ⟨rfl, rfl, rfl, Nat.le_refl _, fun _ _ _ => rfl⟩
theorem FrameW.trans {may may' : Nat → Prop} {a b c : World} (h : FrameW may a b) (k : FrameW may' b c) (hm : ∀ i, i < a.heap.size → may' i → may i) : FrameW may a c :=
  ⟨k.os.trans h.os, k.tape.trans h.tape, k.output.trans h.output, Nat.le_trans h.size k.size, fun i hi hn =>
    (k.block i (Nat.lt_of_lt_of_le hi h.size) (fun hm' => hn (hm i hi hm'))).trans (h.block i hi hn)⟩

end Go.Sx
