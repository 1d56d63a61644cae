/-
  The evaluator's quiet operations, one by one.
-/
import Derived.Test.YtbjlbmehklfijaaSxB
namespace Go.Sx
set_option linter.unusedVariables false
set_option linter.unusedSimpArgs false
open Go

abbrev Cnd := Option Prop
def Cnd.holds : Cnd → Prop
  | none => True
  | some c => c
def cAnd : Cnd → Cnd → Cnd
  | none, c => c
  | some a, none => some a
  | some a, some b => some (a ∧ b)
theorem cAnd_holds {a b : Cnd} (h : (cAnd a b).holds) : a.holds ∧ b.holds := by
  cases a <;> cases b <;> simp_all [cAnd, Cnd.holds]

/-! ### Lists that are written out -/
def lrowK {α : Type} : List α → Nat → (α → Prop) → Prop
  | [], _, _ => False
  | x :: _, 0, K => K x
  | _ :: r, i + 1, K => lrowK r i K
theorem lrowK_spec {α : Type} : ∀ {xs : List α} {i : Nat} {K : α → Prop}, lrowK xs i K → ∃ x, xs[i]? = some x ∧ K x
  | [], _, _, h => by simp [lrowK] at h
  | x :: _, 0, _, h => ⟨x, rfl, h⟩
  | _ :: r, i + 1, _, h => by
    obtain ⟨x, hx, hk⟩ := lrowK_spec (xs := r) h
    exact ⟨x, by simpa using hx, hk⟩
/-- m elements from the j-th on. -/
def ltakeK {α : Type} : List α → Nat → Nat → (List α → Prop) → Prop
  | _, _, 0, K => K []
  | [], _, _ + 1, _ => False
  | x :: r, 0, m + 1, K => ltakeK r 0 m fun xs => K (x :: xs)
  | _ :: r, j + 1, m + 1, K => ltakeK r j (m + 1) K
theorem ltakeK_spec {α : Type} : ∀ {xs : List α} {j m : Nat} {K : List α → Prop}, ltakeK xs j m K → ∃ ys : List α, ys.length = m ∧ (∀ d, d < m → ys[d]? = xs[j + d]?) ∧ (0 < m → j + m ≤ xs.length) ∧ K ys
  | xs, _, 0, _, h => ⟨[], rfl, fun d hd => absurd hd (Nat.not_lt_zero d), fun h => absurd h (Nat.lt_irrefl 0), by cases xs <;> simpa only [ltakeK] using h⟩
  | [], _, _ + 1, _, h => by simp [ltakeK] at h
  | x :: r, 0, m + 1, K, h => by
    obtain ⟨ys, hl, hg, hle, hk⟩ := ltakeK_spec (xs := r) (j := 0) (m := m) h
    refine ⟨x :: ys, by simp [hl], fun d hd => ?_, fun _ => ?_, hk⟩
    · cases d with
      | zero => rfl
      | succ d =>
        have := hg d (by omega)
        simp only [Nat.zero_add] at this ⊢
        simpa using this
    · rcases Nat.eq_zero_or_pos m with h0 | h0
      · subst h0; simp
      · have := hle h0; simp; omega
  | _ :: r, j + 1, m + 1, K, h => by
    obtain ⟨ys, hl, hg, hle, hk⟩ := ltakeK_spec (xs := r) (j := j) (m := m + 1) h
    refine ⟨ys, hl, fun d hd => ?_, fun hm => ?_, hk⟩
    · have := hg d hd
      rw [this, show j + 1 + d = (j + d) + 1 by omega, List.getElem?_cons_succ]
    · have := hle hm; simp; omega

/-! ### What a node shows -/
inductive NV where
  | fl (f : Flat)
def NV.node : NV → Node
  | .fl f => f.node
def nodeV (o : AObj) (id : Nat) (p : List Nat) (K : Cnd → NV → Prop) : Prop :=
  match o, p with
  | .flat _ f, [] => K none (.fl f)
  | .nestI _ k xss, [y] => K (some (y < xss.length)) (.fl (.ints k (xss.getD y [])))
  | .nestR2 _ xss, [y] => K (some (y < xss.length)) (.fl (.r2 (xss.getD y [])))
  | _, _ => False
theorem nodeV_spec {o : AObj} {id : Nat} {p : List Nat} {K : Cnd → NV → Prop} (h : nodeV o id p K) : ∃ C V, K C V ∧ (C.holds → o.node id p = some V.node) := by
  unfold nodeV at h
  split at h
  · exact ⟨_, _, h, fun _ => rfl⟩
  · exact ⟨_, _, h, fun hc => by simp only [Cnd.holds] at hc; simp [AObj.node, hc, NV.node]⟩
  · exact ⟨_, _, h, fun hc => by simp only [Cnd.holds] at hc; simp [AObj.node, hc, NV.node]⟩
  · exact h.elim

/-- How many elements a node has. -/
def NV.n : NV → Nat
  | .fl (.ints _ xs) => xs.length
  | .fl (.r2 xs) => xs.length
  | .fl (.r3 xs) => xs.length
  | .fl (.r4 xs) => xs.length
  | .fl (.bools xs) => xs.length
  | .fl (.strs xs) => xs.length
  | .fl (.gen _ xs) => xs.length
  | .fl (.rows _ _ n) => n
theorem NV.n_eq (V : NV) : V.n = V.node.n := by
  cases V with
  | fl f => cases f <;> rfl

def NV.nK (V : NV) (K : Nat → Prop) : Prop :=
  match V with
  | .fl f => match f with
    | .ints _ xs => K xs.length
    | .r2 xs => K xs.length
    | .r3 xs => K xs.length
    | .r4 xs => K xs.length
    | .bools xs => K xs.length
    | .strs xs => K xs.length
    | .gen _ xs => K xs.length
    | .rows _ _ n => K n
theorem NV.nK_eq (V : NV) (K : Nat → Prop) : V.nK K = K V.n := by
  cases V with
  | fl f => cases f <;> rfl

def NV.sz : NV → Nat
  | .fl (.ints _ _) => 1
  | .fl (.r2 _) => 2
  | .fl (.r3 _) => 3
  | .fl (.r4 _) => 4
  | .fl (.bools _) => 1
  | .fl (.strs _) => 1
  | .fl (.gen sz _) => sz
  | .fl (.rows _ _ _) => 1
theorem NV.sz_eq (V : NV) : V.sz = V.node.sz := by
  cases V with
  | fl f => cases f <;> rfl

/-- One cell. -/
def rdC (V : NV) (i j : Nat) (K : Cnd → AV → Prop) : Prop :=
  match V, j with
  | .fl (.gen sz xs), j => bif Nat.blt j sz then lrowK xs i fun row => lrowK row j (K none) else False
  | .fl (.ints k xs), 0 => K (some (i < xs.length)) (.int k (xs.getD i 0))
  | .fl (.r2 xs), 0 => K (some (i < xs.length)) (.int .i64 (xs.getD i default).a)
  | .fl (.r2 xs), 1 => K (some (i < xs.length)) (.int .i64 (xs.getD i default).b)
  | .fl (.r3 xs), 0 => K (some (i < xs.length)) (.int .i64 (xs.getD i default).a)
  | .fl (.r3 xs), 1 => K (some (i < xs.length)) (.int .i64 (xs.getD i default).b)
  | .fl (.r3 xs), 2 => K (some (i < xs.length)) (.int .i64 (xs.getD i default).c)
  | .fl (.r4 xs), 0 => K (some (i < xs.length)) (.int .i64 (xs.getD i default).a)
  | .fl (.r4 xs), 1 => K (some (i < xs.length)) (.int .i64 (xs.getD i default).b)
  | .fl (.r4 xs), 2 => K (some (i < xs.length)) (.int .i64 (xs.getD i default).c)
  | .fl (.r4 xs), 3 => K (some (i < xs.length)) (.int .i64 (xs.getD i default).d)
  | .fl (.bools xs), 0 => K (some (i < xs.length)) (.bool (xs.getD i false))
  | .fl (.strs xs), 0 => K (some (i < xs.length)) (.str (xs.getD i ByteArray.empty))
  | .fl (.rows M off n), 0 => match off with
    | 0 => K (some (i < n)) (.sl M [i])
    | o + 1 => K (some (i < n)) (.sl M [o + 1 + i])
  | _, _ => False
theorem rdC_spec {V : NV} {i j : Nat} {K : Cnd → AV → Prop} (h : rdC V i j K) : ∃ C v, K C v ∧ (C.holds → i < V.node.n ∧ j < V.node.sz ∧ V.node.cell i j = v) := by
  unfold rdC at h
  split at h
  case h_1 sz xs =>
    cases hb : Nat.blt j sz with
    | false => simp [hb] at h
    | true =>
      simp only [hb, cond_true] at h
      obtain ⟨row, hr, h1⟩ := lrowK_spec h
      obtain ⟨v, hv, h2⟩ := lrowK_spec h1
      refine ⟨none, v, h2, fun _ => ⟨?_, Nat.blt_eq ▸ hb, ?_⟩⟩
      · obtain ⟨hi, _⟩ := List.getElem?_eq_some_iff.1 hr
        exact hi
      · simp [NV.node, Flat.node, Flat.cell, List.getD, hr, hv]
  case h_15 => exact h.elim
  case h_14 =>
    split at h
    · exact ⟨_, _, h, fun hc => ⟨hc, by simp [NV.node, Flat.node, Flat.sz], rfl⟩⟩
    · exact ⟨_, _, h, fun hc => ⟨hc, by simp [NV.node, Flat.node, Flat.sz], rfl⟩⟩
  all_goals exact ⟨_, _, h, fun hc => ⟨hc, by simp [NV.node, Flat.node, Flat.sz], rfl⟩⟩

/-- An aggregate of m cells from the j-th on. -/
def rdA (V : NV) (i j m : Nat) (K : Cnd → AV → Prop) : Prop :=
  match V, j, m with
  | .fl (.gen sz xs), j, m => bif Nat.ble (j + m) sz then lrowK xs i fun row => ltakeK row j m fun cs => K none (.agg cs) else False
  | .fl (.r2 xs), 0, 2 => K (some (i < xs.length)) (.agg [.int .i64 (xs.getD i default).a, .int .i64 (xs.getD i default).b])
  | .fl (.r3 xs), 0, 3 => K (some (i < xs.length)) (.agg [.int .i64 (xs.getD i default).a, .int .i64 (xs.getD i default).b, .int .i64 (xs.getD i default).c])
  | .fl (.r4 xs), 0, 4 => K (some (i < xs.length)) (.agg [.int .i64 (xs.getD i default).a, .int .i64 (xs.getD i default).b, .int .i64 (xs.getD i default).c, .int .i64 (xs.getD i default).d])
  | .fl (.r4 xs), 0, 2 => K (some (i < xs.length)) (.agg [.int .i64 (xs.getD i default).a, .int .i64 (xs.getD i default).b])
  | .fl (.r4 xs), 2, 2 => K (some (i < xs.length)) (.agg [.int .i64 (xs.getD i default).c, .int .i64 (xs.getD i default).d])
  | _, _, _ => False
theorem rdA_spec {V : NV} {i j m : Nat} {K : Cnd → AV → Prop} (h : rdA V i j m K) : ∃ C cs, K C (.agg cs) ∧ (C.holds → (0 < m → i < V.node.n) ∧ j + m ≤ V.node.sz ∧ cs.length = m ∧ ∀ d, d < m → cs[d]? = some (V.node.cell i (j + d))) := by
  unfold rdA at h
  split at h
  case h_1 sz xs =>
    cases hb : Nat.ble (j + m) sz with
    | false => simp [hb] at h
    | true =>
      simp only [hb, cond_true] at h
      obtain ⟨row, hr, h1⟩ := lrowK_spec h
      obtain ⟨cs, hl, hg, hle, h2⟩ := ltakeK_spec h1
      refine ⟨none, cs, h2, fun _ => ⟨fun _ => ?_, Nat.le_of_ble_eq_true hb, hl, fun d hd => ?_⟩⟩
      · obtain ⟨hi, _⟩ := List.getElem?_eq_some_iff.1 hr
        exact hi
      · have h3 := hle (by omega)
        rw [hg d hd]
        simp [NV.node, Flat.node, Flat.cell, List.getD, hr, List.getElem?_eq_getElem (show j + d < row.length by omega)]
  case h_7 => exact h.elim
  all_goals
    refine ⟨_, _, h, fun hc => ⟨fun _ => hc, by simp [NV.node, Flat.node, Flat.sz], rfl, fun d hd => ?_⟩⟩
    have hd4 : d = 0 ∨ d = 1 ∨ d = 2 ∨ d = 3 := by omega
    rcases hd4 with rfl | rfl | rfl | rfl <;> first | rfl | omega

/-! ### The operations -/
def pickB (t pol : Bool) (v : AV) (K : Cnd → Bool → Prop) : Prop :=
  match v with
  | .bool x => K none x
  | .opt _ w g (.bool x) => K (some (t = pol → g = w)) x
  | .opt _ _ _ .top => K (some (¬ t = pol)) false
  | _ => False

abbrev inI64 (n : Int) : Prop := -9223372036854775808 ≤ n ∧ n ≤ 9223372036854775807
theorem wrap_in {n : Int} (h : inI64 n) : IntKind.i64.wrap n = n := by
  unfold inI64 at h; unfold IntKind.wrap; simp [IntKind.bits, IntKind.signed]; omega

/-- Arithmetic: on int and int64 a condition that nothing wraps; on the other kinds as it is. -/
def arK (k : IntKind) (n : Int) (K : Cnd → AV → Prop) : Prop :=
  match k with
  | .i64 => K (some (inI64 n)) (.int .i64 n)
  | k => K none (.int k (k.wrap n))
theorem arK_spec {k : IntKind} {n : Int} {K : Cnd → AV → Prop} (h : arK k n K) : ∃ C m, K C (.int k m) ∧ (C.holds → k.wrap n = m) := by
  cases k <;> first
    | exact ⟨_, _, h, fun _ => rfl⟩
    | exact ⟨_, _, h, fun hc => wrap_in hc⟩

def binK (op : BinOp) (x y : AV) (K : Cnd → AV → Prop) : Prop :=
  match op, x, y with
  | .add, .int k a, .int k' b => bif k == k' then arK k (a + b) K else False
  | .sub, .int k a, .int k' b => bif k == k' then arK k (a - b) K else False
  | .mul, .int k a, .int k' b => bif k == k' then arK k (a * b) K else False
  | .quo, .int k a, .int k' b => bif k == k' then K (some (b ≠ 0)) (.int k (k.wrap (a.tdiv b))) else False
  | .rem, .int k a, .int k' b => bif k == k' then K (some (b ≠ 0)) (.int k (a.tmod b)) else False
  | .eql, .int k a, .int k' b => bif k == k' then K none (.bool (decide (a = b))) else False
  | .neq, .int k a, .int k' b => bif k == k' then K none (.bool (decide (a ≠ b))) else False
  | .lss, .int k a, .int k' b => bif k == k' then K none (.bool (decide (a < b))) else False
  | .leq, .int k a, .int k' b => bif k == k' then K none (.bool (decide (a ≤ b))) else False
  | .gtr, .int k a, .int k' b => bif k == k' then K none (.bool (decide (b < a))) else False
  | .geq, .int k a, .int k' b => bif k == k' then K none (.bool (decide (b ≤ a))) else False
  | _, _, _ => False

/-- Numbers as rows of bits. -/
abbrev inB (n : Int) : Prop := 0 ≤ n ∧ n < 9223372036854775808
def andI (k : IntKind) (a b : Int) : Int := k.wrap ((BitVec.ofInt k.bits a &&& BitVec.ofInt k.bits b).toNat : Int)
def orI (k : IntKind) (a b : Int) : Int := k.wrap ((BitVec.ofInt k.bits a ||| BitVec.ofInt k.bits b).toNat : Int)
def xorI (k : IntKind) (a b : Int) : Int := k.wrap ((BitVec.ofInt k.bits a ^^^ BitVec.ofInt k.bits b).toNat : Int)
def shlI (k : IntKind) (a b : Int) : Int := k.wrap (a * 2 ^ (min b.toNat k.bits))
def shrI (k : IntKind) (a b : Int) : Int := a / 2 ^ (min b.toNat k.bits)
def bitsK (op : BinOp) (x y : AV) (K : Cnd → AV → Prop) : Prop :=
  match x with
  | .int k a => match y with
    | .int k' b => match op with
      | .and => bif k == k' then K none (.int k (andI k a b)) else False
      | .or => bif k == k' then K none (.int k (orI k a b)) else False
      | .xor => bif k == k' then K none (.int k (xorI k a b)) else False
      | .shl => K (some (0 ≤ b)) (.int k (shlI k a b))
      | .shr => K (some (0 ≤ b)) (.int k (shrI k a b))
      | _ => False
    | _ => False
  | _ => False
/-- Strings. -/
def strK (op : BinOp) (a : ByteArray) (y : AV) (K : Cnd → AV → Prop) : Prop :=
  match y with
  | .str b => match op with
    | .add => K (some (a.size + b.size ≤ 9223372036854775807)) (.str (a ++ b))
    | .eql => K none (.bool (a.toList == b.toList))
    | .neq => K none (.bool (!(a.toList == b.toList)))
    | .lss => K none (.bool (Op.bytesLess a.toList b.toList))
    | _ => False
  | _ => False
/-- Is a slice nil? -/
def nilK (G : Heap) (v : AV) (K : Cnd → Bool → Prop) : Prop :=
  match v with
  | .nilsl => K none true
  | .sl id p => match hget G id with
    | some o => nodeV o id p fun C V => V.nK fun l => ∀ b : Bool, (C.holds → b = true → l = 0) → K C b
    | none => False
  | .sub _ _ _ len _ => ∀ b : Bool, (b = true → len = 0) → K none b
  | _ => False
def eqNilK (T : Tbl) (G : Heap) (op : BinOp) (t : Nat) (x y : AV) (K : Cnd → AV → Prop) : Prop :=
  match y with
  | .nilsl => match tget T t with
    | some ti => match ti.d with
      | .slice _ _ _ _ => match op with
        | .eql => nilK G x fun C b => K C (.bool b)
        | .neq => nilK G x fun C b => K C (.bool (!b))
        | _ => False
      | _ => False
    | none => False
  | _ => False

/-- Structs of numbers. -/
def aggIK : List AV → (List Int → Prop) → Prop
  | [], K => K []
  | a :: r, K => match a with
    | .int k n => match k with
      | .i64 => aggIK r fun xs => K (n :: xs)
      | _ => False
    | _ => False
theorem aggIK_spec {ρ : Rho} {N : Nat} : ∀ {cs : List AV} {K : List Int → Prop}, aggIK cs K → ∃ xs : List Int, K xs ∧ ∀ vs, VRL ρ N cs vs → vs = xs.map (Value.int .i64)
  | [], K, h => ⟨[], h, fun vs hv => by simpa only [VRL, List.map_nil] using hv⟩
  | a :: r, K, h => by
    simp only [aggIK] at h
    split at h
    case h_2 => exact h.elim
    split at h
    case h_2 => exact h.elim
    obtain ⟨xs, hk, hx⟩ := aggIK_spec (ρ := ρ) (N := N) h
    refine ⟨_, hk, fun vs hv => ?_⟩
    simp only [VRL, VR] at hv
    obtain ⟨v, r', rfl, rfl, h2⟩ := hv
    rw [hx r' h2]
    rfl
def eqL : List Int → List Int → Bool
  | [], [] => true
  | [a], [b] => decide (a = b)
  | a :: r, b :: s => decide (a = b) && eqL r s
  | [], _ :: _ => false
  | _ :: _, [] => false
theorem eqL_iff : ∀ (xs ys : List Int), eqL xs ys = decide (xs = ys)
  | [], [] => by simp [eqL]
  | [a], [b] => by simp [eqL]
  | a :: c :: r, [b] => by simp [eqL]
  | [a], b :: d :: s => by simp [eqL]
  | a :: c :: r, b :: d :: s => by
    simp only [eqL, eqL_iff (c :: r) (d :: s)]
    by_cases h1 : a = b <;> simp [h1]
  | [], _ :: _ => by simp [eqL]
  | _ :: _, [] => by simp [eqL]
def bdL : List Int → Prop
  | [] => True
  | [a] => inI64 a
  | a :: r => inI64 a ∧ bdL r
theorem bdL_all : ∀ (xs : List Int), bdL xs → ∀ k ∈ xs, inI64 k
  | [], _, _, h => by cases h
  | [a], h, k, hk => by rw [List.mem_singleton.1 hk]; exact h
  | a :: c :: r, h, k, hk => by
    rcases List.mem_cons.1 hk with rfl | hk
    · exact h.1
    · exact bdL_all (c :: r) h.2 k hk
def eqLK : List Int → List Int → (Bool → Prop) → Prop
  | [], ys, K => K (match ys with | [] => true | _ :: _ => false)
  | a :: r, ys, K => match ys with
    | [] => K false
    | b :: s => match r with
      | [] => match s with
        | [] => K (decide (a = b))
        | _ :: _ => K false
      | c :: r' => eqLK (c :: r') s fun e => K (decide (a = b) && e)
theorem eqLK_spec : ∀ {xs ys : List Int} {K : Bool → Prop}, eqLK xs ys K → K (eqL xs ys)
  | [], [], _, h => h
  | [], _ :: _, _, h => h
  | a :: [], [], _, h => by simpa only [eqLK, eqL] using h
  | a :: c :: r, [], _, h => by simpa only [eqLK, eqL] using h
  | a :: [], b :: [], _, h => by simpa only [eqLK, eqL] using h
  | a :: [], b :: d :: s, _, h => by simp only [eqLK] at h; simpa [eqL] using h
  | a :: c :: r, b :: s, K, h => by
    simp only [eqLK] at h
    have := eqLK_spec h
    cases s with
    | nil => simpa [eqL] using this
    | cons d s => simpa only [eqL] using this
def bdLK : List Int → (Prop → Prop) → Prop
  | [], K => K True
  | a :: r, K => match r with
    | [] => K (inI64 a)
    | b :: r' => bdLK (b :: r') fun p => K (inI64 a ∧ p)
theorem bdLK_spec : ∀ {xs : List Int} {K : Prop → Prop}, bdLK xs K → K (bdL xs)
  | [], _, h => h
  | [a], _, h => h
  | a :: b :: r, _, h => bdLK_spec (xs := b :: r) h
def aggEqK (T : Tbl) (op : BinOp) (t : Nat) (cs : List AV) (y : AV) (K : Cnd → AV → Prop) : Prop :=
  match y with
  | .agg ds => match tget T t with
    | some ti => aggIK cs fun xs => aggIK ds fun ys => bif Nat.beq xs.length ti.eqn && Nat.beq ys.length ti.eqn && Nat.blt 0 ti.eqn then match op with
      | .eql => bdLK xs fun p => bdLK ys fun q => eqLK xs ys fun e => K (some (p ∧ q)) (.bool e)
      | .neq => bdLK xs fun p => bdLK ys fun q => eqLK xs ys fun e => K (some (p ∧ q)) (.bool (!e))
      | _ => False
      else False
    | none => False
  | _ => False

/-- Two operands. -/
def qBin (T : Tbl) (G : Heap) (op : BinOp) (t : Nat) (x y : AV) (K : Cnd → AV → Prop) : Prop :=
  match x with
  | .bool a => match y with
    | .bool b => match tget T t with
      | some ti => match ti.d with
        | .bool => match op with
          | .eql => K none (.bool (a == b))
          | .neq => K none (.bool (!(a == b)))
          | _ => False
        | _ => False
      | none => False
    | _ => False
  | .str a => strK op a y K
  | .nilsl => eqNilK T G op t .nilsl y K
  | .sl id p => eqNilK T G op t (.sl id p) y K
  | .sub id p i len cap => eqNilK T G op t (.sub id p i len cap) y K
  | .agg cs => aggEqK T op t cs y K
  | x => match op with
    | .and => bitsK .and x y K
    | .or => bitsK .or x y K
    | .xor => bitsK .xor x y K
    | .shl => bitsK .shl x y K
    | .shr => bitsK .shr x y K
    | op => binK op x y K

/-! ### Slice expressions -/
def hiK (lk : Operand → AV) (hi : Option Operand) (len : Nat) (K : Cnd → Nat → Prop) : Prop :=
  match hi with
  | none => K none len
  | some x => match lk x with
    | .int _ n => K (some (0 ≤ n ∧ n ≤ (len : Int))) n.toNat
    | _ => False
def loK (lk : Operand → AV) (lo : Option Operand) (h : Nat) (K : Cnd → Nat → Prop) : Prop :=
  match lo with
  | none => K none 0
  | some x => match lk x with
    | .int _ n => K (some (0 ≤ n ∧ n ≤ (h : Int))) n.toNat
    | _ => False
def sliceK (lk : Operand → AV) (id : Nat) (p : List Nat) (i len : Nat) (lo hi mx : Option Operand) (K : Cnd → AV → Prop) : Prop :=
  hiK lk hi len fun C1 h => loK lk lo h fun C2 l => match mx with
    | none => K (cAnd C1 C2) (.sub id p (Nat.add i l) (Nat.sub h l) none)
    | some m => match hi with
      | none => False
      | some _ => match lk m with
        | .int _ mm => K (cAnd C1 (cAnd C2 (some ((h : Int) ≤ mm ∧ mm ≤ (len : Int))))) (.sub id p (Nat.add i l) (Nat.sub h l) (some (Nat.sub mm.toNat l)))
        | _ => False
def qSlice (T : Tbl) (lk : Operand → AV) (G : Heap) (t : Nat) (x : AV) (lo hi mx : Option Operand) (K : Cnd → AV → Prop) : Prop :=
  match tget T t with
  | some ti => match ti.d with
    | .slice _ esz _ _ => match x with
      | .sl id p => match hget G id with
        | some o => nodeV o id p fun C V => bif Nat.beq esz V.sz then V.nK fun l => sliceK lk id p 0 l lo hi mx fun C' v => K (cAnd C C') v else False
        | none => False
      | .sub id p i len _ => match hget G id with
        | some o => nodeV o id p fun C V => bif Nat.beq esz V.sz then sliceK lk id p i len lo hi mx fun C' v => K (cAnd C C') v else False
        | none => False
      | .nilsl => match mx with
        | none => hiK lk hi 0 fun C1 h => loK lk lo h fun C2 _ => K (cAnd C1 C2) .nilsl
        | some _ => False
      | _ => False
    | .str => match x with
      | .str s => match mx with
        | none => hiK lk hi s.size fun C1 h => loK lk lo h fun C2 l => K (cAnd C1 C2) (.str (s.extract l h))
        | some _ => False
      | _ => False
    | _ => False
  | none => False

def lenK (G : Heap) (v : AV) (K : Cnd → Nat → Prop) : Prop :=
  match v with
  | .sl id p => match hget G id with
    | some o => nodeV o id p fun C V => V.nK (K C)
    | none => False
  | .sub _ _ _ len _ => K none len
  | .nilsl => K none 0
  | _ => False

def partsK (lk : Operand → AV) (fs : List (Nat × Nat × Bool)) : List (Nat × Operand) → List AV → (List AV → Prop) → Prop
  | [], cs, K => K cs
  | (i, x) :: r, cs, K => lrowK fs i fun f => match f, lk x with
    | (off, sz, false), v => match v with
      | .agg _ => False
      | .tuple _ => False
      | .opt _ _ _ _ => False
      | .top => False
      | v => bif Nat.beq sz 1 && Nat.ble (off + 1) cs.length then partsK lk fs r (cs.set off v) K else False
    | (off, sz, true), .agg us => bif Nat.beq us.length sz && Nat.ble (off + sz) cs.length then partsK lk fs r (cs.take off ++ us ++ cs.drop (off + sz)) K else False
    | _, _ => False

def qPick (lk : Operand → AV) (c a b : Operand) (K : Cnd → AV → Prop) : Prop :=
  match lk c with
  | .bool t => pickB t true (lk a) fun C1 x => pickB t false (lk b) fun C2 y => K (cAnd C1 C2) (.bool (cond t x y))
  | _ => False
def qNil (v : AV) (K : Cnd → AV → Prop) : Prop :=
  match v with
  | .ptr id p i j => K none (.ptr id p i j)
  | _ => False
def qField (T : Tbl) (s : Nat) (v : AV) (f : Nat) (K : Cnd → AV → Prop) : Prop :=
  match tget T s with
  | some ti => match ti.d with
    | .struct fs => match v with
      | .ptr id p i j => lrowK fs f fun o => K none (.ptr id p i (j + o.1))
      | _ => False
    | _ => False
  | none => False
def qLoad (T : Tbl) (G : Heap) (t : Nat) (v : AV) (K : Cnd → AV → Prop) : Prop :=
  match tget T t with
  | some ti => match v with
    | .ptr id p i j => match hget G id with
      | some o => nodeV o id p fun C1 V => match ti.d.agg with
        | true => rdA V i j ti.size fun C2 v => K (cAnd C1 C2) v
        | false => rdC V i j fun C2 v => K (cAnd C1 C2) v
      | none => False
    | _ => False
  | none => False
def qIndex (T : Tbl) (G : Heap) (t : Nat) (x ix : AV) (K : Cnd → AV → Prop) : Prop :=
  match tget T t with
  | some ti => match ti.d with
    | .slice _ esz _ _ => match ix with
      | .int _ n => match x with
        | .sl id p => match hget G id with
          | some o => nodeV o id p fun C V => bif Nat.beq esz V.sz then V.nK fun l => K (cAnd C (some (0 ≤ n ∧ n < (l : Int)))) (.ptr id p n.toNat 0) else False
          | none => False
        | .sub id p i len _ => match hget G id with
          | some o => nodeV o id p fun C V => bif Nat.beq esz V.sz then K (cAnd C (some (0 ≤ n ∧ n < (len : Int)))) (.ptr id p (i + n.toNat) 0) else False
          | none => False
        | _ => False
      | _ => False
    | _ => False
  | none => False
def qUn (op : UnOp) (v : AV) (K : Cnd → AV → Prop) : Prop :=
  match op with
  | .not => match v with
    | .bool b => K none (.bool (!b))
    | _ => False
  | .neg => match v with
    | .int k n => arK k (0 - n) K
    | _ => False
  | _ => False
def qExtract (v : AV) (i : Nat) (K : Cnd → AV → Prop) : Prop :=
  match v with
  | .tuple vs => lrowK vs i (K none)
  | _ => False
def qFunc (lk : Operand → AV) (fn : Fn) (first caps : List Operand) (K : Cnd → AV → Prop) : Prop :=
  match fn with
  | .func f => match first with
    | [] => K none (.func f (caps.map lk))
    | _ :: _ => False
  | _ => False
def qBuild (T : Tbl) (lk : Operand → AV) (t : Nat) (parts : List (Nat × Operand)) (K : Cnd → AV → Prop) : Prop :=
  match tget T t with
  | some ti => match ti.d with
    | .struct fs => bif Nat.beq ti.zero.length 0 then False else partsK lk fs parts ti.zero fun cs => K none (.agg cs)
    | _ => False
  | none => False
def qMax (x y : AV) (K : Cnd → AV → Prop) : Prop :=
  match x with
  | .int k a => match y with
    | .int _ b => K none (.int k (max a b))
    | _ => False
  | _ => False
def qMin (x y : AV) (K : Cnd → AV → Prop) : Prop :=
  match x with
  | .int k a => match y with
    | .int _ b => K none (.int k (min a b))
    | _ => False
  | _ => False
def qLen (T : Tbl) (G : Heap) (t : Nat) (v : AV) (K : Cnd → AV → Prop) : Prop :=
  match tget T t with
  | some ti => match ti.d with
    | .slice _ _ _ _ => lenK G v fun C n => K C (.int .i64 n)
    | .str => match v with
      | .str s => K none (.int .i64 s.size)
      | _ => False
    | _ => False
  | none => False
def qCall (T : Tbl) (lk : Operand → AV) (G : Heap) (callee : Callee) (args : List Operand) (argTypes : List Nat) (K : Cnd → AV → Prop) : Prop :=
  match callee with
  | .builtin b => match b with
    | .len => match args with
      | [x] => match argTypes with
        | [t] => qLen T G t (lk x) K
        | _ => False
      | _ => False
    | .max => match args with
      | [x, y] => qMax (lk x) (lk y) K
      | _ => False
    | .min => match args with
      | [x, y] => qMin (lk x) (lk y) K
      | _ => False
    | _ => False
  | _ => False
def qConv (T : Tbl) (s t : Nat) (v : AV) (K : Cnd → AV → Prop) : Prop :=
  match tget T t with
  | some ti => match ti.d with
    | .int k => match v with
      | .int _ n => match tget T s with
        | some _ => K none (.int k (k.wrap n))
        | none => False
      | _ => False
    | _ => False
  | none => False

def quiet (T : Tbl) (lk : Operand → AV) (G : Heap) (op : Op) (K : Cnd → AV → Prop) : Prop :=
  match op with
  | .move x => K none (lk x)
  | .assign x => K none (lk x)
  | .pick c a b => qPick lk c a b K
  | .nilCheck x => qNil (lk x) K
  | .fieldAddr s x f => qField T s (lk x) f K
  | .load t x => qLoad T G t (lk x) K
  | .indexAddr t x ix => qIndex T G t (lk x) (lk ix) K
  | .binOp op t x y _ => qBin T G op t (lk x) (lk y) K
  | .unOp op _ x => qUn op (lk x) K
  | .extract x i => qExtract (lk x) i K
  | .makeFunc fn first caps => qFunc lk fn first.toList caps.toList K
  | .build t parts => qBuild T lk t parts.toList K
  | .call c => qCall T lk G c.callee c.args.toList c.argTypes.toList K
  | .convert s t x => qConv T s t (lk x) K
  | .slice t x lo hi mx => qSlice T lk G t (lk x) lo hi mx K
  | _ => False

end Go.Sx
