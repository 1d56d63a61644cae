/-
  A library of symbolic execution over the kit (part Sc): its own parts, one behind another.
-/
import Derived.Test.YtligakfmabjoeaaDoorSb
import Derived.OrdersHeld
/-
  Forgetting and renaming (at a loop's head, at a return), code, and the function rule.
-/
namespace Go.Sx
set_option linter.unusedVariables false
set_option linter.unusedSimpArgs false
open Go
open Go.RowKit

/-! ### One state is an instance of another: names turned by 'm', empty new slices 'z' -/
def mlook : List (Nat × Nat) → Nat → Nat
  | [], id => id
  | (a, b) :: r, id => bif Nat.beq a id then b else mlook r id
def memB : List Nat → Nat → Bool
  | [], _ => false
  | a :: r, id => bif Nat.beq a id then true else memB r id

structure Map where
  m : List (Nat × Nat)
  z : List Nat
  N' : Nat

mutual
/-- The first value (of the state that is forgotten into) stands for whatever the second stands for. -/
def AV.le (M : Map) (t s : AV) : Prop :=
  match t with
  | .top => True
  | .int k n => match s with
    | .int k' n' => bif k == k' then n = n' else False
    | _ => False
  | .bool b => match s with
    | .bool b' => b = b'
    | _ => False
  | .str x => match s with
    | .str x' => x = x'
    | _ => False
  | .ptr id p i j => match s with
    | .ptr id' p' i' j' => bif Nat.beq (mlook M.m id) id' && Nat.blt id M.N' && !memB M.z id then p = p' ∧ i = i' ∧ j = j' else False
    | _ => False
  | .sl id p => match s with
    | .sl id' p' => bif Nat.beq (mlook M.m id) id' && Nat.blt id M.N' && !memB M.z id then p = p' else False
    | .nilsl => bif memB M.z id && Nat.blt id M.N' then p = [] else False
    | _ => False
  | .sub id p i len cap => match s with
    | .sub id' p' i' len' cap' => bif Nat.beq (mlook M.m id) id' && Nat.blt id M.N' && !memB M.z id then p = p' ∧ i = i' ∧ len = len' ∧ (cap = none ∨ cap = cap') else False
    | _ => False
  | .nilsl => match s with
    | .nilsl => True
    | _ => False
  | .nilptr => match s with
    | .nilptr => True
    | _ => False
  | .nilmap => match s with
    | .nilmap => True
    | _ => False
  | .map id => match s with
    | .map id' => bif Nat.beq (mlook M.m id) id' && Nat.blt id M.N' && !memB M.z id then True else False
    | _ => False
  | .iter id m => match s with
    | .iter id' m' => bif (Nat.beq (mlook M.m id) id' && Nat.blt id M.N' && !memB M.z id) && (Nat.beq (mlook M.m m) m' && Nat.blt m M.N' && !memB M.z m) then True else False
    | _ => False
  | .func f caps => match s with
    | .func f' caps' => bif Nat.beq f f' then AV.leL M caps caps' else False
    | _ => False
  | .agg cs => match s with
    | .agg cs' => AV.leL M cs cs'
    | _ => False
  | .tuple cs => match s with
    | .tuple cs' => AV.leL M cs cs'
    | _ => False
  | .opt _ _ _ _ => False
def AV.leL (M : Map) (ts ss : List AV) : Prop :=
  match ts with
  | [] => match ss with
    | [] => True
    | _ :: _ => False
  | t :: r => match ss with
    | [] => False
    | s :: q => AV.le M t s ∧ AV.leL M r q
end

def leRows (M : Map) (ts ss : List (List AV)) : Prop :=
  match ts with
  | [] => match ss with
    | [] => True
    | _ :: _ => False
  | t :: r => match ss with
    | [] => False
    | s :: q => AV.leL M t s ∧ leRows M r q

def Flat.le (M : Map) (t s : Flat) : Prop :=
  match t with
  | .ints k xs => match s with
    | .ints k' ys => bif k == k' then xs = ys else False
    | _ => False
  | .r2 xs => match s with
    | .r2 ys => xs = ys
    | _ => False
  | .r3 xs => match s with
    | .r3 ys => xs = ys
    | _ => False
  | .r4 xs => match s with
    | .r4 ys => xs = ys
    | _ => False
  | .bools xs => match s with
    | .bools ys => xs = ys
    | _ => False
  | .strs xs => match s with
    | .strs ys => xs = ys
    | _ => False
  | .gen sz xs => match s with
    | .gen sz' ys => bif Nat.beq sz sz' then leRows M xs ys else False
    | _ => False
  | .rows id off n => match s with
    | .rows id' off' n' => bif Nat.beq (mlook M.m id) id' && Nat.blt id M.N' && !memB M.z id && Nat.beq off off' then n = n' else False
    | _ => False
  | .bld t p q => match s with
    | .bld t' p' q' => bif Nat.beq t t' then AV.le M p p' ∧ AV.le M q q' else False
    | _ => False
  | .tby t xs => match s with
    | .tby t' ys => bif Nat.beq t t' then xs = ys else False
    | _ => False
  | .tops n => bif Nat.beq s.sz 1 && s.ty.isNone then n = s.n else False
  | .rowl id is => match s with
    | .rowl id' js => bif Nat.beq (mlook M.m id) id' && Nat.blt id M.N' && !memB M.z id then is = js else False
    | _ => False

/-- Maps with the same entries. -/
def MapV.le (m m' : MapV) : Prop :=
  match m with
  | .r3 c k => match m' with
    | .r3 c' k' => c = c' ∧ k = k'
    | _ => False
  | .ib k => match m' with
    | .ib k' => k = k'
    | _ => False
  | .ii k => match m' with
    | .ii k' => k = k'
    | _ => False
theorem MapV.le_eq {m m' : MapV} (h : m.le m') : m = m' := by
  unfold MapV.le at h
  split at h <;> split at h <;> first | exact h.elim | (obtain ⟨rfl, rfl⟩ := h; rfl) | (subst h; rfl)
def AObj.le (M : Map) (t s : AObj) : Prop :=
  match t with
  | .flat own f => match s with
    | .flat own' f' => bif !own || own' then f.le M f' else False
    | _ => False
  | .nestI own k xss => match s with
    | .nestI own' k' yss => bif (!own || own') && k == k' then xss = yss else False
    | _ => False
  | .nestR2 own xss => match s with
    | .nestR2 own' yss => bif !own || own' then xss = yss else False
    | _ => False
  | .nestH own R segs => match s with
    | .nestH own' R' segs' => bif (!own || own') && (Nat.beq (mlook M.m R) R' && Nat.blt R M.N' && !memB M.z R) then segs = segs' else False
    | _ => False
  | .mp m => match s with
    | .mp m' => MapV.le m m'
    | _ => False
  | .it c s1 l => match s with
    | .it c' s1' l' => c = c' ∧ s1 = s1' ∧ l = l'
    | _ => False

def slotsLe (M : Map) : Slots → Slots → Prop
  | [], _ => True
  | (t, v) :: r, s => AV.le M v (look s t) ∧ slotsLe M r s

/-- An object that has just been made up: flat, one's own, empty. -/
def emptyObj (o : AObj) : Prop :=
  match o with
  | .flat own f => match own with
    | true => match f with
      | .ints _ xs => xs = []
      | .r2 xs => xs = []
      | .r3 xs => xs = []
      | .r4 xs => xs = []
      | .bools xs => xs = []
      | .strs xs => xs = []
      | .gen _ _ => False
      | .rows _ _ n => n = 0
      | .bld _ _ _ => False
      | .tby _ xs => xs = []
      | .tops n => n = 0
      | .rowl _ is => is = []
    | false => False
  | .nestI _ _ xss => xss = []
  | .nestR2 _ xss => xss = []
  | .nestH _ _ segs => segs = []
  | .mp _ => False
  | .it _ _ _ => False
theorem emptyObj_spec {o : AObj} (h : emptyObj o) : (∃ f, o = .flat true f ∧ f.n = 0 ∧ 0 < f.sz) ∨ ∀ id p, o.node id p = none := by
  unfold emptyObj at h
  split at h
  · split at h
    · left
      split at h <;> first | exact h.elim | (subst h; exact ⟨_, rfl, rfl, by simp [Flat.sz]⟩)
    · exact h.elim
  · right
    intro id p
    subst h
    match p with
    | [] => rfl
    | [y] => rfl
    | _ :: _ :: _ => rfl
  · right
    intro id p
    subst h
    match p with
    | [] => rfl
    | [y] => rfl
    | _ :: _ :: _ => rfl
  · right
    intro id p
    subst h
    match p with
    | [] => rfl
    | [y] => rfl
    | _ :: _ :: _ => rfl
  · exact h.elim
  · exact h.elim
def heapLe (M : Map) : Heap → Heap → Prop
  | [], _ => True
  | (id, o) :: r, G => (bif Nat.blt id M.N' then (bif memB M.z id then emptyObj o else match hget G (mlook M.m id) with
      | some o' => o.le M o'
      | none => False) else False) ∧ heapLe M r G
def nodupK : List Nat → Bool
  | [] => true
  | a :: r => !memB r a && nodupK r
def mapKeys (M : Map) : Heap → List Nat
  | [] => []
  | (id, _) :: r => bif memB M.z id then mapKeys M r else mlook M.m id :: mapKeys M r
def geAll (N0 : Nat) : List (Nat × Nat) → Bool
  | [] => true
  | (a, _) :: r => Nat.ble N0 a && geAll N0 r
def geAll' (N0 : Nat) : List Nat → Bool
  | [] => true
  | a :: r => Nat.ble N0 a && geAll' N0 r

/-- (s, N, G) is an instance of (s', N', G'). -/
def Sub (N0 : Nat) (s : Slots) (_N : Nat) (G : Heap) (s' : Slots) (N' : Nat) (G' : Heap) : Prop :=
  ∃ (m : List (Nat × Nat)) (z : List Nat), (bif geAll N0 m && geAll' N0 z && Nat.ble N0 N' && nodupK (mapKeys ⟨m, z, N'⟩ G') then True else False) ∧ slotsLe ⟨m, z, N'⟩ s' s ∧ heapLe ⟨m, z, N'⟩ G' G

section
variable {E : Env} {B : Entry} {s : Slots} {N : Nat} {G : Heap} {a : Act} {w : World}

theorem bcond {b : Bool} {X : Prop} (h : bif b then X else False) : b = true ∧ X := by
  cases b with
  | false => exact h.elim
  | true => exact ⟨rfl, h⟩

/-- The blocks under the new names. -/
def reρ (M : Map) (ρ : Rho) (G' : Heap) : Rho := fun id p => if memB M.z id = true then ⟨0, 0, ((hget G' id).bind fun o => (o.node id p).map (·.sz)).getD 1, 0, 0⟩ else ρ (mlook M.m id) p

mutual
theorem AV.le_sound {M : Map} {ρ : Rho} {G' : Heap} : ∀ (t s : AV) (v : Value), AV.le M t s → VR ρ N s v → VR (reρ M ρ G') M.N' t v
  | .top, _, _, _, _ => by simp only [VR]
  | .int k n, s, v, h, hv => by
    cases s <;> simp only [AV.le] at h
    obtain ⟨hb, rfl⟩ := bcond h
    have := eq_of_beq hb
    subst this
    simpa only [VR] using hv
  | .bool b, s, v, h, hv => by
    cases s <;> simp only [AV.le] at h
    subst h; simpa only [VR] using hv
  | .str x, s, v, h, hv => by
    cases s <;> simp only [AV.le] at h
    subst h; simpa only [VR] using hv
  | .ptr id p i j, s, v, h, hv => by
    cases s <;> simp only [AV.le] at h
    obtain ⟨hb, rfl, rfl, rfl⟩ := bcond h
    simp only [Bool.and_eq_true, Nat.beq_eq, Nat.blt_eq, Bool.not_eq_true'] at hb
    obtain ⟨⟨h1, h2⟩, h3⟩ := hb
    simp only [VR] at hv ⊢
    refine ⟨h2, ?_⟩
    rw [hv.2]
    simp [reρ, h3, h1]
  | .sl id p, s, v, h, hv => by
    cases s <;> simp only [AV.le] at h
    · obtain ⟨hb, rfl⟩ := bcond h
      simp only [Bool.and_eq_true, Nat.beq_eq, Nat.blt_eq, Bool.not_eq_true'] at hb
      obtain ⟨⟨h1, h2⟩, h3⟩ := hb
      simp only [VR] at hv ⊢
      refine ⟨h2, ?_⟩
      have := hv.2
      simpa [reρ, h3, h1] using this
    · obtain ⟨hb, rfl⟩ := bcond h
      simp only [Bool.and_eq_true, Nat.blt_eq] at hb
      simp only [VR] at hv ⊢
      refine ⟨hb.2, none, 0, ?_, .inr ⟨?_, rfl⟩⟩
      · rw [hv]; simp [reρ, hb.1]
      · simp [reρ, hb.1]
  | .sub id p i len cap, s, v, h, hv => by
    cases s <;> simp only [AV.le] at h
    obtain ⟨hb, rfl, rfl, rfl, hcap⟩ := bcond h
    simp only [Bool.and_eq_true, Nat.beq_eq, Nat.blt_eq, Bool.not_eq_true'] at hb
    obtain ⟨⟨h1, h2⟩, h3⟩ := hb
    simp only [VR] at hv ⊢
    refine ⟨h2, ?_⟩
    obtain ⟨_, A, c, q1, q2, q3⟩ := hv
    refine ⟨A, c, q1, by simpa [reρ, h3, h1] using q2, fun c' hc => ?_⟩
    rcases hcap with rfl | rfl
    · cases hc
    · exact q3 c' hc
  | .nilsl, s, v, h, hv => by
    cases s <;> simp only [AV.le] at h
    simpa only [VR] using hv
  | .nilptr, s, v, h, hv => by
    cases s <;> simp only [AV.le] at h
    simpa only [VR] using hv
  | .nilmap, s, v, h, hv => by
    cases s <;> simp only [AV.le] at h
    simpa only [VR] using hv
  | .map id, s, v, h, hv => by
    cases s <;> simp only [AV.le] at h
    obtain ⟨hb, _⟩ := bcond h
    simp only [Bool.and_eq_true, Nat.beq_eq, Nat.blt_eq, Bool.not_eq_true'] at hb
    obtain ⟨⟨h1, h2⟩, h3⟩ := hb
    simp only [VR] at hv ⊢
    refine ⟨h2, ?_⟩
    rw [hv.2]
    simp [reρ, h3, h1]
  | .iter id m, s, v, h, hv => by
    cases s <;> simp only [AV.le] at h
    obtain ⟨hb, _⟩ := bcond h
    simp only [Bool.and_eq_true, Nat.beq_eq, Nat.blt_eq, Bool.not_eq_true'] at hb
    obtain ⟨⟨⟨h1, h2⟩, h3⟩, ⟨k1, k2⟩, k3⟩ := hb
    simp only [VR] at hv ⊢
    refine ⟨h2, k2, ?_⟩
    obtain ⟨_, _, q1, q2⟩ := hv
    rw [q1]
    simp only [reρ, h3, k3, h1, k1, Bool.false_eq_true, if_false]
    exact ⟨trivial, q2⟩
  | .func f caps, s, v, h, hv => by
    cases s <;> simp only [AV.le] at h
    obtain ⟨hb, hl⟩ := bcond h
    have := Nat.eq_of_beq_eq_true hb
    subst this
    simp only [VR] at hv ⊢
    obtain ⟨cs, e, hc⟩ := hv
    exact ⟨cs, e, AV.leL_sound _ _ _ hl hc⟩
  | .agg cs, s, v, h, hv => by
    cases s <;> simp only [AV.le] at h
    simp only [VR] at hv ⊢
    obtain ⟨us, e, hc, h1⟩ := hv
    exact ⟨us, e, AV.leL_sound _ _ _ h hc, h1⟩
  | .tuple cs, s, v, h, hv => by
    cases s <;> simp only [AV.le] at h
    simp only [VR] at hv ⊢
    obtain ⟨us, e, hc⟩ := hv
    exact ⟨us, e, AV.leL_sound _ _ _ h hc⟩
  | .opt _ _ _ _, _, _, h, _ => by simp only [AV.le] at h
theorem AV.leL_sound {M : Map} {ρ : Rho} {G' : Heap} : ∀ (ts ss : List AV) (vs : List Value), AV.leL M ts ss → VRL ρ N ss vs → VRL (reρ M ρ G') M.N' ts vs
  | [], ss, vs, h, hv => by
    cases ss <;> simp only [AV.leL] at h
    simpa only [VRL] using hv
  | t :: r, ss, vs, h, hv => by
    cases ss <;> simp only [AV.leL] at h
    simp only [VRL] at hv ⊢
    obtain ⟨v, q, e, h1, h2⟩ := hv
    exact ⟨v, q, e, AV.le_sound _ _ _ h.1 h1, AV.leL_sound _ _ _ h.2 h2⟩
end

theorem leL_len {M : Map} : ∀ {ts ss : List AV}, AV.leL M ts ss → ts.length = ss.length
  | [], [], _ => rfl
  | [], _ :: _, h => by simp only [AV.leL] at h
  | _ :: _, [], h => by simp only [AV.leL] at h
  | _ :: r, _ :: q, h => by simp only [AV.leL] at h; simp [leL_len h.2]
theorem leL_get {M : Map} : ∀ {ts ss : List AV} (_ : AV.leL M ts ss) (i : Nat), AV.le M (ts.getD i .top) (ss.getD i .top)
  | [], [], _, _ => by simp [AV.le]
  | [], _ :: _, h, _ => by simp only [AV.leL] at h
  | _ :: _, [], h, _ => by simp only [AV.leL] at h
  | t :: r, s :: q, h, i => by
    simp only [AV.leL] at h
    cases i with
    | zero => exact h.1
    | succ i => simpa using leL_get h.2 i
theorem leRows_len {M : Map} : ∀ {ts ss : List (List AV)}, leRows M ts ss → ts.length = ss.length
  | [], [], _ => rfl
  | [], _ :: _, h => by simp only [leRows] at h
  | _ :: _, [], h => by simp only [leRows] at h
  | _ :: r, _ :: q, h => by simp only [leRows] at h; simp [leRows_len h.2]
theorem leRows_get {M : Map} : ∀ {ts ss : List (List AV)} (_ : leRows M ts ss) (i : Nat), AV.leL M (ts.getD i []) (ss.getD i [])
  | [], [], _, _ => by simp [AV.leL]
  | [], _ :: _, h, _ => by simp only [leRows] at h
  | _ :: _, [], h, _ => by simp only [leRows] at h
  | t :: r, s :: q, h, i => by
    simp only [leRows] at h
    cases i with
    | zero => exact h.1
    | succ i => simpa using leRows_get h.2 i

/-- What it says of the nodes. -/
structure NodeLe (M : Map) (nd nd' : Node) : Prop where
  n : nd.n = nd'.n
  sz : nd.sz = nd'.sz
  cell : ∀ i j, AV.le M (nd.cell i j) (nd'.cell i j)
  x : nd.x = nd'.x ∧ nd.ty = nd'.ty

theorem Flat.le_node {M : Map} {t s : Flat} (h : t.le M s) : NodeLe M t.node s.node := by
  have hint : ∀ (k : IntKind) (n : Int), AV.le M (.int k n) (.int k n) := fun k n => by simp [AV.le]
  cases t
  case tops n =>
    simp only [Flat.le] at h
    obtain ⟨hb, h1⟩ := bcond h
    simp only [Bool.and_eq_true] at hb
    exact ⟨h1, (Nat.eq_of_beq_eq_true hb.1).symm, fun i j => by simp [Flat.node, Flat.cell, AV.le], rfl, (Option.isNone_iff_eq_none.1 hb.2).symm⟩
  all_goals cases s <;> simp only [Flat.le] at h
  · obtain ⟨hb, rfl⟩ := bcond h
    have := eq_of_beq hb
    subst this
    exact ⟨rfl, rfl, fun i j => hint _ _, rfl, rfl⟩
  · subst h; exact ⟨rfl, rfl, fun i j => hint _ _, rfl, rfl⟩
  · subst h; exact ⟨rfl, rfl, fun i j => hint _ _, rfl, rfl⟩
  · subst h; exact ⟨rfl, rfl, fun i j => hint _ _, rfl, rfl⟩
  · subst h; exact ⟨rfl, rfl, fun i j => by simp [Flat.node, Flat.cell, AV.le], rfl, rfl⟩
  · subst h; exact ⟨rfl, rfl, fun i j => by simp [Flat.node, Flat.cell, AV.le], rfl, rfl⟩
  · obtain ⟨hb, hl⟩ := bcond h
    have := Nat.eq_of_beq_eq_true hb
    subst this
    exact ⟨leRows_len hl, rfl, fun i j => leL_get (leRows_get hl i) j, rfl, rfl⟩
  · obtain ⟨hb, rfl⟩ := bcond h
    simp only [Bool.and_eq_true, Bool.not_eq_true'] at hb
    obtain ⟨⟨⟨hb1, hb2⟩, hb3⟩, hb4⟩ := hb
    have hb4 := Nat.eq_of_beq_eq_true hb4
    subst hb4
    exact ⟨rfl, rfl, fun i j => by simp [Flat.node, Flat.cell, AV.le, hb1, hb2, hb3], rfl, rfl⟩
  · obtain ⟨hb, hp, hq⟩ := bcond h
    have := Nat.eq_of_beq_eq_true hb
    subst this
    refine ⟨rfl, rfl, fun i j => ?_, rfl, rfl⟩
    match j with
    | 0 => exact hp
    | 1 => exact hq
    | j + 2 => simp [Flat.node, Flat.cell, AV.le]
  · obtain ⟨hb, rfl⟩ := bcond h
    have := Nat.eq_of_beq_eq_true hb
    subst this
    exact ⟨rfl, rfl, fun i j => hint _ _, rfl, rfl⟩
  · obtain ⟨hb, rfl⟩ := bcond h
    simp only [Bool.and_eq_true, Bool.not_eq_true'] at hb
    obtain ⟨⟨hb1, hb2⟩, hb3⟩ := hb
    exact ⟨rfl, rfl, fun i j => by simp [Flat.node, Flat.cell, AV.le, hb1, hb2, hb3], rfl, rfl⟩

theorem AObj.le_node {M : Map} {t s : AObj} (h : t.le M s) {id : Nat} (hid : Nat.blt id M.N' = true) (hz : memB M.z id = false) {p : List Nat} {nd : Node} (hn : t.node id p = some nd) : ∃ nd', s.node (mlook M.m id) p = some nd' ∧ NodeLe M nd nd' ∧ (t.own = true → s.own = true) := by
  have hint : ∀ (k : IntKind) (n : Int), AV.le M (.int k n) (.int k n) := fun k n => by simp [AV.le]
  have hown : ∀ {o o' : Bool}, (!o || o') = true → o = true → o' = true := fun {o o'} h e => by subst e; simpa using h
  cases t <;> cases s <;> simp only [AObj.le] at h
  · obtain ⟨hb, hf⟩ := bcond h
    cases p with
    | nil =>
      simp only [AObj.node, Option.some.injEq] at hn
      subst hn
      exact ⟨_, rfl, Flat.le_node hf, hown hb⟩
    | cons _ _ => simp [AObj.node] at hn
  · obtain ⟨hb, rfl⟩ := bcond h
    simp only [Bool.and_eq_true] at hb
    have := eq_of_beq hb.2
    subst this
    cases p with
    | nil => simp [AObj.node] at hn
    | cons y r =>
      cases r with
      | nil =>
        simp only [AObj.node] at hn ⊢
        split at hn
        · next hlt =>
          injection hn with hn
          subst hn
          exact ⟨_, by rw [if_pos hlt], ⟨rfl, rfl, fun i j => hint _ _, rfl, rfl⟩, hown hb.1⟩
        · cases hn
      | cons _ _ => simp [AObj.node] at hn
  · obtain ⟨hb, rfl⟩ := bcond h
    cases p with
    | nil => simp [AObj.node] at hn
    | cons y r =>
      cases r with
      | nil =>
        simp only [AObj.node] at hn ⊢
        split at hn
        · next hlt =>
          injection hn with hn
          subst hn
          exact ⟨_, by rw [if_pos hlt], ⟨rfl, rfl, fun i j => hint _ _, rfl, rfl⟩, hown hb⟩
        · cases hn
      | cons _ _ => simp [AObj.node] at hn
  · obtain ⟨hb, rfl⟩ := bcond h
    simp only [Bool.and_eq_true, Bool.not_eq_true'] at hb
    obtain ⟨hb0, ⟨hb1, hb2⟩, hb3⟩ := hb
    cases p with
    | nil => simp [AObj.node] at hn
    | cons y r =>
      cases r with
      | nil =>
        simp only [AObj.node] at hn ⊢
        split at hn
        · next hlt =>
          injection hn with hn
          subst hn
          exact ⟨_, if_pos hlt, ⟨rfl, rfl, fun i j => by simp [Flat.node, Flat.cell, AV.le, hb1, hb2, hb3], rfl, rfl⟩, hown hb0⟩
        · cases hn
      | cons _ _ => simp [AObj.node] at hn
  · have := MapV.le_eq h
    subst this
    cases p with
    | nil =>
      simp only [AObj.node, Option.some.injEq] at hn
      subst hn
      exact ⟨_, rfl, ⟨rfl, rfl, fun i j => by simp [AV.le], rfl, rfl⟩, fun e => e⟩
    | cons _ _ => simp [AObj.node] at hn
  · obtain ⟨rfl, rfl, rfl⟩ := h
    cases p with
    | nil =>
      simp only [AObj.node, Option.some.injEq] at hn
      subst hn
      exact ⟨_, rfl, ⟨rfl, rfl, fun i j => by simp [AV.le], rfl, rfl⟩, fun e => e⟩
    | cons _ _ => simp [AObj.node] at hn

theorem heapLe_get {M : Map} : ∀ {G' G : Heap}, heapLe M G' G → ∀ {id : Nat} {o : AObj}, hget G' id = some o → Nat.blt id M.N' = true ∧ ((memB M.z id = true ∧ emptyObj o) ∨ (memB M.z id = false ∧ ∃ o', hget G (mlook M.m id) = some o' ∧ o.le M o'))
  | [], _, _, _, _, h => by simp [hget] at h
  | (k, x) :: r, G, h, id, o, hg => by
    simp only [heapLe] at h
    obtain ⟨h1, h2⟩ := h
    simp only [hget] at hg
    cases hb : Nat.beq k id with
    | false => simp only [hb, cond_false] at hg; exact heapLe_get h2 hg
    | true =>
      simp only [hb, cond_true, Option.some.injEq] at hg
      have := Nat.eq_of_beq_eq_true hb
      subst this hg
      obtain ⟨hlt, h1⟩ := bcond h1
      refine ⟨hlt, ?_⟩
      cases hz : memB M.z k with
      | true => simp only [hz, cond_true] at h1; exact .inl ⟨rfl, h1⟩
      | false =>
        simp only [hz, cond_false] at h1
        split at h1
        · rename_i o' ho'; exact .inr ⟨rfl, o', ho', h1⟩
        · exact h1.elim

theorem memB_keys {M : Map} : ∀ {G : Heap} {id : Nat} {o : AObj}, hget G id = some o → memB M.z id = false → memB (mapKeys M G) (mlook M.m id) = true
  | [], _, _, h, _ => by simp [hget] at h
  | (k, x) :: r, id, o, h, hz => by
    simp only [hget] at h
    simp only [mapKeys]
    cases hb : Nat.beq k id with
    | true =>
      have := Nat.eq_of_beq_eq_true hb
      subst this
      simp only [hz, cond_false, memB]
      simp
    | false =>
      simp only [hb, cond_false] at h
      have ih := memB_keys (M := M) h hz
      cases memB M.z k with
      | true => exact ih
      | false => simp only [cond_false, memB]; cases Nat.beq (mlook M.m k) (mlook M.m id) <;> simp [ih]
theorem keys_inj {M : Map} : ∀ {G : Heap}, nodupK (mapKeys M G) = true → ∀ {id id' : Nat} {o o' : AObj}, hget G id = some o → hget G id' = some o' → memB M.z id = false → memB M.z id' = false → mlook M.m id = mlook M.m id' → id = id'
  | [], _, _, _, _, _, h, _, _, _, _ => by simp [hget] at h
  | (k, x) :: r, hn, id, id', o, o', h, h', hz, hz', he => by
    simp only [hget] at h h'
    simp only [mapKeys] at hn
    have hcase : ∀ {i j : Nat} {oi oj : AObj}, Nat.beq k i = true → Nat.beq k j = false → memB M.z i = false → (hget r j = some oj) → memB M.z j = false → mlook M.m i = mlook M.m j → False := fun {i j oi oj} hb hb' hzi hj hzj heq => by
      have := Nat.eq_of_beq_eq_true hb
      subst this
      simp only [hzi, cond_false, nodupK, Bool.and_eq_true, Bool.not_eq_true'] at hn
      have := memB_keys (M := M) hj hzj
      rw [← heq, hn.1] at this
      cases this
    cases hb : Nat.beq k id with
    | true =>
      cases hb' : Nat.beq k id' with
      | true => exact (Nat.eq_of_beq_eq_true hb).symm.trans (Nat.eq_of_beq_eq_true hb')
      | false =>
        simp only [hb', cond_false] at h'
        exact (hcase (oi := o) hb hb' hz h' hz' he).elim
    | false =>
      simp only [hb, cond_false] at h
      cases hb' : Nat.beq k id' with
      | true => exact (hcase (oi := o) hb' hb hz' h hz he.symm).elim
      | false =>
        simp only [hb', cond_false] at h'
        refine keys_inj (G := r) ?_ h h' hz hz' he
        cases hzk : memB M.z k with
        | true => simpa only [hzk, cond_true] using hn
        | false =>
          simp only [hzk, cond_false, nodupK, Bool.and_eq_true] at hn
          exact hn.2

theorem mlook_ge {N0 : Nat} : ∀ {m : List (Nat × Nat)}, geAll N0 m = true → ∀ {id : Nat}, id < N0 → mlook m id = id
  | [], _, _, _ => rfl
  | (x, y) :: r, h, id, hid => by
    simp only [geAll, Bool.and_eq_true, Nat.ble_eq] at h
    simp only [mlook]
    have : Nat.beq x id = false := by
      cases hb : Nat.beq x id with
      | false => rfl
      | true => have := Nat.eq_of_beq_eq_true hb; omega
    simp only [this, cond_false]
    exact mlook_ge h.2 hid
theorem memB_ge {N0 : Nat} : ∀ {z : List Nat}, geAll' N0 z = true → ∀ {id : Nat}, id < N0 → memB z id = false
  | [], _, _, _ => rfl
  | x :: r, h, id, hid => by
    simp only [geAll', Bool.and_eq_true, Nat.ble_eq] at h
    simp only [memB]
    have : Nat.beq x id = false := by
      cases hb : Nat.beq x id with
      | false => rfl
      | true => have := Nat.eq_of_beq_eq_true hb; omega
    simp only [this, cond_false]
    exact memB_ge h.2 hid

/-- The heap under the new names. -/
theorem HeapRep.forget {ρ : Rho} {M : Map} {G' : Heap} (hH : HeapRep ρ N G w) (hle : heapLe M G' G) (hnd : nodupK (mapKeys M G') = true) :
    HeapRep (reρ M ρ G') M.N' G' w ∧ ∀ b, Owns (reρ M ρ G') G' b → Owns ρ G b := by
  have hnode : ∀ {id p nd own}, NodeAt G' id p nd own → ((nd.n = 0 ∧ nd.x = none) ∧ own = true ∧ 0 < nd.sz ∧ (reρ M ρ G') id p = ⟨0, 0, nd.sz, 0, 0⟩) ∨
      (memB M.z id = false ∧ ∃ nd' own', NodeAt G (mlook M.m id) p nd' own' ∧ NodeLe M nd nd' ∧ (own = true → own' = true) ∧ (reρ M ρ G') id p = ρ (mlook M.m id) p) := fun {id p nd own} hn => by
    obtain ⟨o, h1, h2, h3⟩ := hn.ex
    obtain ⟨hlt, h4 | h4⟩ := heapLe_get hle h1
    · left
      obtain ⟨hz, h5⟩ := h4
      rcases emptyObj_spec h5 with ⟨f, rfl, hf1, hf2⟩ | h6
      · cases p with
        | nil =>
          have h2' := h2
          simp only [AObj.node, Option.some.injEq] at h2'
          subst h2'
          exact ⟨⟨hf1, rfl⟩, h3.symm, hf2, by simp [reρ, hz, h1, AObj.node]⟩
        | cons _ _ => simp [AObj.node] at h2
      · rw [h6] at h2; cases h2
    · right
      obtain ⟨hz, o', h5, h6⟩ := h4
      obtain ⟨nd', q1, q2, q3⟩ := AObj.le_node h6 hlt hz h2
      exact ⟨hz, nd', o'.own, ⟨⟨o', h5, q1, rfl⟩⟩, q2, fun e => q3 (h3.trans e), by simp [reρ, hz]⟩
  have hsol : ∀ {B : Blk} {nd nd' : Node} {own own' : Bool}, NodeLe M nd nd' → (own = true → own' = true) → (own' = true → (B.tot = 0 ∧ nd'.n = 0) ∨ 0 < B.tot) → Solid B nd own → Solid B nd' own' := fun {B nd nd' own own'} hl ho ht hs => by
    unfold Solid at hs ⊢
    cases own with
    | true => simp only [if_true] at hs; rw [if_pos (ho rfl)]; exact hs
    | false =>
      simp only [Bool.false_eq_true, if_false] at hs
      split
      · rename_i h
        rcases ht h with ⟨_, h0⟩ | h0
        · rw [hl.n, h0] at hs; omega
        · exact h0
      · rw [← hl.n, ← hl.sz]; exact hs
  have hown' : ∀ {id p nd}, NodeAt G id p nd true → ((ρ id p).tot = 0 ∧ nd.n = 0) ∨ 0 < (ρ id p).tot := fun hn => by
    rcases hH.ow _ _ _ hn with h | ⟨_, _, _, h⟩
    · exact .inl ⟨h.1, h.2.1⟩
    · exact .inr h
  refine ⟨⟨fun id o h => ?_, fun id p nd own hn => ?_, fun id p nd own hn i hi j hj => ?_, fun id p nd hn => ?_, fun id p nd id' p' nd' own' hn hn' hne ht hs => ?_⟩, fun b hb => ?_⟩
  · have := (heapLe_get hle h).1
    simpa [Nat.blt_eq] using this
  · rcases hnode hn with ⟨h1, _, h3, h4⟩ | ⟨_, nd', own', h1, h2, _, h4⟩
    · rw [h4]; exact ⟨rfl, h1.1.symm, h3⟩
    · rw [h4, h2.n, h2.sz]; exact hH.shape _ _ _ _ h1
  · rcases hnode hn with ⟨h1, _, h3, h4⟩ | ⟨_, nd', own', h1, h2, _, h4⟩
    · omega
    · rw [h4, h2.sz]
      obtain ⟨v, q1, q2, q3⟩ := hH.rd _ _ _ _ h1 i (h2.n ▸ hi) j (h2.sz ▸ hj)
      exact ⟨v, q1, AV.le_sound _ _ _ (h2.cell i j) q2, q3⟩
  · rcases hnode hn with ⟨h1, _, h3, h4⟩ | ⟨_, nd', own', h1, h2, h3, h4⟩
    · rw [h4]; exact .inl ⟨rfl, h1⟩
    · rw [h4, h2.n, h2.x.1]
      have : own' = true := h3 rfl
      subst this
      have := hH.ow _ _ _ h1
      simp only [Node.blk_congr h2.x.1 h2.x.2]
      exact this
  · rcases hnode hn with ⟨h1, _, h3, h4⟩ | ⟨hz, nd1, own1, h1, h2, h3, h4⟩
    · rw [h4] at ht; simp at ht
    · rcases hnode hn' with ⟨k1, k2, k3, k4⟩ | ⟨kz, nd2, own2, k1, k2, k3, k4⟩
      · rw [k4, k2] at hs; simp [Solid] at hs
      · rw [h4] at ht
        rw [k4] at hs
        rw [h4, k4]
        have : own1 = true := h3 rfl
        subst this
        refine hH.sep _ _ _ _ _ _ own2 h1 k1 (fun h => hne ?_) ht (hsol k2 k3 (fun e => by subst e; exact hown' k1) hs)
        obtain ⟨o1, g1, _⟩ := hn.ex
        obtain ⟨o2, g2, _⟩ := hn'.ex
        exact ⟨keys_inj hnd g1 g2 hz kz h.1, h.2⟩
  · obtain ⟨id, p, nd, hn, ht, rfl⟩ := hb
    rcases hnode hn with ⟨h1, _, h3, h4⟩ | ⟨_, nd1, own1, h1, h2, h3, h4⟩
    · rw [h4] at ht; simp at ht
    · rw [h4] at ht ⊢
      have : own1 = true := h3 rfl
      subst this
      exact ⟨_, _, _, h1, ht, rfl⟩

theorem St.forget {s' : Slots} {N' : Nat} {G' : Heap} (hS : St E B s N G a w) (h : Sub B.N s N G s' N' G') : St E B s' N' G' a w := by
  obtain ⟨⟨ρ, hs, hH, hN, hag, hfr, hown⟩, hz, hdf⟩ := hS
  obtain ⟨m, z, h1, h2, h3⟩ := h
  obtain ⟨hb, _⟩ := bcond h1
  simp only [Bool.and_eq_true, Nat.ble_eq] at hb
  obtain ⟨⟨⟨b1, b2⟩, b3⟩, b4⟩ := hb
  obtain ⟨q1, q2⟩ := hH.forget h3 b4
  refine ⟨⟨_, fun t => ?_, q1, b3, fun id hid => ?_, hfr, fun b hb => hown b (q2 b hb)⟩, hz, hdf⟩
  · have key : ∀ (s' : Slots), slotsLe ⟨m, z, N'⟩ s' s → VR (reρ ⟨m, z, N'⟩ ρ G') N' (look s' t) (a.tmps.getD t undef) := fun s' => by
      induction s' with
      | nil => intro _; simp only [look, VR]
      | cons x r ih =>
        obtain ⟨k, v⟩ := x
        intro h
        simp only [slotsLe] at h
        simp only [look]
        cases hb : Nat.beq k t with
        | true =>
          have := Nat.eq_of_beq_eq_true hb
          subst this
          exact AV.le_sound _ _ _ h.1 (hs k)
        | false => exact ih h.2
    exact key s' h2
  · funext p
    have hz0 : memB z id = false := memB_ge b2 hid
    have hm0 : mlook m id = id := mlook_ge b1 hid
    simp only [reρ, hz0, Bool.false_eq_true, if_false, hm0]
    exact congrFun (hag id hid) p

end
end Go.Sx

/-
  Regions whose order is drawn: every order.
-/
namespace Go.Sx
set_option linter.unusedVariables false
set_option linter.unusedSimpArgs false
open Go
open Go.RowKit

/-! ### All orders, with what must be kept for those taken early -/
section
variable {P : Program} {ops : Array Oper} {Q : Exit → Act → World → Prop}

def wpG (P : Program) (ops : Array Oper) (Q : Exit → Act → World → Prop) (dep : Nat → Nat → Bool) : Nat → List (Nat × (World → Prop)) → Array Bool → Act → World → Prop
  | 0, _, listed, a, w => Region.ready .any ops listed = [] ∧ Q .normal a w
  | fuel + 1, pend, listed, a, w =>
    (Region.ready .any ops listed = [] → Q .normal a w) ∧
    ∀ j ∈ Region.ready .any ops listed, wpOp P ops Q j (fun a' w' => (∀ x ∈ pend, dep x.1 j = false → x.2 w') ∧ wpG P ops Q dep fuel (pend.filter fun x => !dep x.1 j) (listed.setIfInBounds j true) a' w') a w

theorem wpAny_of_wpG {dep : Nat → Nat → Bool} : ∀ (fuel : Nat) (pend : List (Nat × (World → Prop))) (listed : Array Bool) (a : Act) (w : World), wpG P ops Q dep fuel pend listed a w → wpAny P .any ops Q fuel listed a w
  | 0, _, _, _, _, h => h
  | fuel + 1, _, _, _, _, h => ⟨h.1, fun i hi => wpOp_mono (fun a' w' h' => wpAny_of_wpG fuel _ _ a' w' h'.2) (h.2 i hi)⟩

theorem wpG_sub {dep : Nat → Nat → Bool} : ∀ (fuel : Nat) (pend pend' : List (Nat × (World → Prop))) (listed : Array Bool) (a : Act) (w : World), (∀ x ∈ pend', x ∈ pend) → wpG P ops Q dep fuel pend listed a w → wpG P ops Q dep fuel pend' listed a w
  | 0, _, _, _, _, _, _, h => h
  | fuel + 1, pend, pend', _, _, _, hs, h => ⟨h.1, fun j hj => wpOp_mono (fun a' w' h' => ⟨fun x hx hd => h'.1 x (hs x hx) hd, wpG_sub fuel _ _ _ a' w' (fun x hx => by
      rw [List.mem_filter] at hx ⊢
      exact ⟨hs x hx.1, hx.2⟩) h'.2⟩) (h.2 j hj)⟩

/-- An operation that may come up now is taken first. -/
theorem wpG_first {dep : Nat → Nat → Bool} (hdep : ∀ i j oj, ops[j]? = some oj → dep i j = true → ∃ e ∈ oj.after, Region.binds .any e = true ∧ e.on = i) {i : Nat} {oi : Oper} {v : Value} {S : World → Prop} (hi : ops[i]? = some oi) (hsel : ∀ (j : Nat) (o : Oper) cs b, ops[j]? = some o → o.op ≠ .select cs b)
    (hQ : ∀ c a w, Q (.panic c) (a.put oi.dst v) w → Q (.panic c) a w) :
    ∀ (fuel : Nat) (pend : List (Nat × (World → Prop))) (listed : Array Bool) (a : Act) (w : World),
      (∀ j oj, ops[j]? = some oj → j ≠ i → listed.getD j true = false → (∀ e ∈ oj.after, Region.binds .any e = true → e.on ≠ i) → oi.apart ops oj = true) →
      i ∈ Region.ready .any ops listed → YieldsIf P ops S oi v a → S w → (∀ x ∈ pend, x.2 w) →
      wpG P ops Q dep fuel ((i, S) :: pend) (listed.setIfInBounds i true) (a.put oi.dst v) w → wpG P ops Q dep (fuel + 1) pend listed a w := by
  intro fuel
  induction fuel with
  | zero =>
    intro pend listed a w _ hr hy hS hp H
    refine ⟨fun h => (by rw [h] at hr; cases hr), fun j hj => ?_⟩
    by_cases hji : j = i
    · subst hji; exact hy.wpOp hi hS ⟨fun x hx _ => hp x hx, H⟩
    · have := ready_mono hj hji
      rw [H.1] at this
      cases this
  | succ fuel ih =>
    intro pend listed a w hfree hr hy hS hp H
    refine ⟨fun h => (by rw [h] at hr; cases hr), fun j hj => ?_⟩
    by_cases hji : j = i
    · subst hji
      refine hy.wpOp hi hS ⟨fun x hx _ => hp x hx, wpG_sub _ _ _ _ _ _ (fun x hx => ?_) H⟩
      exact List.mem_cons_of_mem _ (List.mem_filter.1 hx).1
    · have h1 := H.2 j (ready_mono hj hji)
      obtain ⟨hjun, oj, hoj, hall⟩ := mem_ready.1 hj
      have hnot : ∀ e ∈ oj.after, Region.binds .any e = true → e.on ≠ i := fun e he hb heq => by
        have h1 := hall e he hb
        have h0 := (mem_ready.1 hr).1
        rw [heq] at h1
        rcases Nat.lt_or_ge i listed.size with h' | h'
        · simp [h'] at h0 h1; rw [h0] at h1; cases h1
        · simp [Array.getElem?_eq_none h'] at h1
      have hdij : dep i j = false := by
        cases hd : dep i j with
        | false => rfl
        | true =>
          obtain ⟨e, he, hb, ho⟩ := hdep i j oj hoj hd
          exact absurd ho (hnot e he hb)
      have h2 := wpOp_putIf hoj (hfree j oj hoj hji hjun hnot) (fun cs b => hsel i oi cs b hi) (fun cs b => hsel j oj cs b hoj) hQ hy h1
      have hfree' : ∀ k ok, ops[k]? = some ok → k ≠ i → (listed.setIfInBounds j true).getD k true = false →
          (∀ e ∈ ok.after, Region.binds .any e = true → e.on ≠ i) → oi.apart ops ok = true := fun k ok hk hki hun hno => by
        refine hfree k ok hk hki ?_ hno
        by_cases hjk : j = k
        · subst hjk; exact hjun
        · rw [getD_set_ne true hjk] at hun; exact hun
      refine wpOp_mono (fun a' w' h3 => ⟨fun x hx hd => h3.2.1 x (List.mem_cons_of_mem _ hx) hd, ih _ (listed.setIfInBounds j true) a' w' hfree' (ready_mono hr (Ne.symm hji)) h3.1 (h3.2.1 (i, S) (List.mem_cons_self ..) hdij) (fun x hx => ?_) ?_⟩) h2
      · obtain ⟨q1, q2⟩ := List.mem_filter.1 hx
        exact h3.2.1 x (List.mem_cons_of_mem _ q1) (by simpa using q2)
      · rw [Array.setIfInBounds_comm _ _ hji]
        have := h3.2.2
        simpa only [List.filter_cons, hdij, Bool.not_false, if_true] using this

end

/-! ### A step on a smaller heap -/
def delL (W : List Nat) : Heap → Heap
  | [] => []
  | (k, o) :: r => bif memB W k then delL W r else (k, o) :: delL W r
def keepB (W : List Nat) (G : Heap) (id : Nat) : Bool :=
  match hget G id with
  | some o => memB W id || !o.own
  | none => false
def ownB (G : Heap) (id : Nat) : Bool :=
  match hget G id with
  | some o => o.own
  | none => false
def keepL (W : List Nat) (G0 : Heap) : Heap → Heap → Heap
  | [], X => X
  | (k, o) :: r, X => bif keepB W G0 k then (k, o) :: keepL W G0 r X else keepL W G0 r X
def ownL (W : List Nat) (G0 G1 : Heap) : Heap → Heap
  | [] => []
  | (k, o) :: r => bif !keepB W G0 k && ownB G1 k then (k, o) :: ownL W G0 G1 r else ownL W G0 G1 r
/-- The heap behind a step that was taken on the heap without W. -/
def backL (W : List Nat) (G G' : Heap) : Heap := keepL W G G (ownL W G G' G')
theorem hget_delL (W : List Nat) : ∀ (G : Heap) (id : Nat), hget (delL W G) id = if memB W id = true then none else hget G id
  | [], id => by simp [delL, hget]
  | (k, o) :: r, id => by
    simp only [delL]
    cases hb : memB W k with
    | true =>
      simp only [cond_true, hget_delL W r id, hget_cons]
      by_cases h : id = k
      · subst h; simp [hb]
      · simp [h]
    | false =>
      simp only [cond_false, hget_cons, hget_delL W r id]
      by_cases h : id = k
      · subst h; simp [hb]
      · simp [h]
theorem hget_keepL (W : List Nat) (G0 : Heap) : ∀ (G X : Heap) (id : Nat), hget (keepL W G0 G X) id = if keepB W G0 id = true then (hget G id).or (hget X id) else hget X id
  | [], X, id => by simp [keepL, hget]
  | (k, o) :: r, X, id => by
    simp only [keepL]
    cases hb : keepB W G0 k with
    | true =>
      simp only [cond_true, hget_cons, hget_keepL W G0 r X id]
      by_cases h : id = k
      · subst h; simp [hb]
      · simp [h]
    | false =>
      simp only [cond_false, hget_keepL W G0 r X id, hget_cons]
      by_cases h : id = k
      · subst h; simp [hb]
      · simp [h]
theorem hget_ownL (W : List Nat) (G0 G1 : Heap) : ∀ (G : Heap) (id : Nat), hget (ownL W G0 G1 G) id = if (!keepB W G0 id && ownB G1 id) = true then hget G id else none
  | [], id => by simp [ownL, hget]
  | (k, o) :: r, id => by
    simp only [ownL]
    cases hb : (!keepB W G0 k && ownB G1 k) with
    | true =>
      simp only [cond_true, hget_cons, hget_ownL W G0 G1 r id]
      by_cases h : id = k
      · subst h; rw [if_pos rfl, if_pos rfl, if_pos hb]
      · rw [if_neg h, if_neg h]
    | false =>
      simp only [cond_false, hget_cons, hget_ownL W G0 G1 r id]
      by_cases h : id = k
      · subst h; rw [if_neg (by rw [hb]; simp), if_neg (by rw [hb]; simp)]
      · rw [if_neg h]
theorem backL_get {W : List Nat} {G G' : Heap} {id : Nat} {o : AObj} (h : hget (backL W G G') id = some o) :
    (keepB W G id = true ∧ hget G id = some o) ∨ (keepB W G id = false ∧ hget G' id = some o ∧ o.own = true) := by
  unfold backL at h
  rw [hget_keepL, hget_ownL] at h
  cases hk : keepB W G id with
  | true => simp only [hk, if_true, Bool.not_true, Bool.false_and, Bool.false_eq_true, if_false, Option.or_none] at h; exact .inl ⟨rfl, h⟩
  | false =>
    simp only [hk, Bool.false_eq_true, if_false, Bool.not_false, Bool.true_and] at h
    split at h
    · rename_i ho
      refine .inr ⟨rfl, h, ?_⟩
      unfold ownB at ho
      rw [h] at ho
      exact ho
    · cases h
theorem backL_keep {W : List Nat} {G G' : Heap} {id : Nat} (hm : memB W id = true ∨ ownB G id = false) (hne : hget G id ≠ none) : hget (backL W G G') id = hget G id := by
  cases h : hget G id with
  | none => exact absurd h hne
  | some o =>
    have hk : keepB W G id = true := by
      rcases hm with hm | hm
      · simp [keepB, h, hm]
      · simp only [ownB, h] at hm
        simp [keepB, h, hm]
    unfold backL
    rw [hget_keepL, if_pos hk, h]
    rfl

section
variable {P : Program} {T : Tbl} {ρ : Rho} {N : Nat} {G : Heap} {w : World}

theorem out_frame (hH : HeapRep ρ N G w) (W : List Nat) {K : AV → Nat → Heap → Prop} {v : Value} {w' : World} (h : Out ρ N (delL W G) w K v w') :
    (∃ av ρ' N' G', K av N' G' ∧ VR ρ' N' av v ∧ HeapRep ρ' N' (backL W G G') w' ∧ N ≤ N' ∧ (∀ id, id < N → ρ' id = ρ id) ∧ FrameW (Owns ρ G) w w' ∧ (∀ b, Owns ρ' (backL W G G') b → w.heap.size ≤ b ∨ Owns ρ G b) ∧
      (∀ id, memB W id = true ∨ ownB G id = false → hget G id ≠ none → hget (backL W G G') id = hget G id)) ∧ (∀ id, memB W id = true ∨ ownB G id = false → Same ρ G (some id) w w') := by
  obtain ⟨av, ρ', N', G', hK, hv, hH', hN, hag, hfr, hown⟩ := h.ex
  have hsub : ∀ i o, hget (delL W G) i = some o → hget G i = some o ∧ memB W i = false := fun i o h => by
    rw [hget_delL] at h
    split at h
    · cases h
    · rename_i hm; exact ⟨h, by simpa using hm⟩
  have hnot0 : ∀ {id p nd own}, (memB W id = true ∨ own = false) → NodeAt G id p nd own → Solid (ρ id p) nd own → ¬ Owns ρ (delL W G) (ρ id p).b := fun {id p nd own} hm hn hs ho => by
    obtain ⟨i, q, nd', hn', ht, hb⟩ := ho
    obtain ⟨o, h1, h2, h3⟩ := hn'.ex
    obtain ⟨h1, h4⟩ := hsub _ _ h1
    refine hH.sep i q nd' id p nd own ⟨⟨o, h1, h2, h3⟩⟩ hn (fun e => ?_) ht hs hb
    rcases hm with hm | hm
    · rw [e.1, hm] at h4; cases h4
    · obtain ⟨o', g1, _, g3⟩ := hn.ex
      rw [← e.1, h1] at g1
      injection g1 with g1
      subst g1
      rw [h3, hm] at g3; cases g3
  have hkeep : ∀ {id p nd own}, keepB W G id = true → NodeAt G id p nd own → memB W id = true ∨ own = false := fun {id p nd own} hk hn => by
    obtain ⟨o, g1, _, g3⟩ := hn.ex
    unfold keepB at hk
    rw [g1] at hk
    simp only [Bool.or_eq_true, Bool.not_eq_true'] at hk
    exact hk.imp (fun h => h) (fun h => g3.symm.trans h)
  have hnot : ∀ {id p nd own}, keepB W G id = true → NodeAt G id p nd own → Solid (ρ id p) nd own → ¬ Owns ρ (delL W G) (ρ id p).b := fun {id p nd own} hk hn hs => hnot0 (hkeep hk hn) hn hs
  have hblk : ∀ {id p nd own}, keepB W G id = true → NodeAt G id p nd own → Solid (ρ id p) nd own → w'.heap[(ρ id p).b]? = w.heap[(ρ id p).b]? := fun {id p nd own} hk hn hs => hfr.block _ (hH.lt hn hs) (hnot hk hn hs)
  have hsame : ∀ id, memB W id = true ∨ ownB G id = false → Same ρ G (some id) w w' := fun id hm => by
    intro id' e p nd own hn hs
    injection e with e
    subst e
    refine hfr.block _ (hH.lt hn hs) (hnot0 (hm.imp (fun h => h) fun h => ?_) hn hs)
    obtain ⟨o, g1, _, g3⟩ := hn.ex
    simp only [ownB, g1] at h
    rw [← g3, h]
  have hA : ∀ {id p nd own}, NodeAt (backL W G G') id p nd own → (keepB W G id = true ∧ NodeAt G id p nd own ∧ ρ' id = ρ id) ∨ (own = true ∧ NodeAt G' id p nd true) := fun {id p nd own} hn => by
    obtain ⟨o, h1, h2, h3⟩ := hn.ex
    rcases backL_get h1 with ⟨hk, h1⟩ | ⟨hk, h1, ho⟩
    · exact .inl ⟨hk, ⟨⟨o, h1, h2, h3⟩⟩, hag id (hH.keys id o h1)⟩
    · exact .inr ⟨h3 ▸ ho, ⟨⟨o, h1, h2, ho⟩⟩⟩
  have hAB : ∀ {id p nd k q nd' own'}, NodeAt G' id p nd true → keepB W G k = true → NodeAt G k q nd' own' → 0 < (ρ' id p).tot → Solid (ρ k q) nd' own' → (ρ' id p).b ≠ (ρ k q).b := fun {id p nd k q nd' own'} hn hk hn' ht hs e => by
    rcases hown _ ⟨id, p, nd, hn, ht, rfl⟩ with h1 | h1
    · have := hH.lt hn' hs; omega
    · rw [e] at h1; exact hnot hk hn' hs h1
  have hfr' : FrameW (Owns ρ G) w w' := ⟨hfr.os, hfr.tape, hfr.output, hfr.size, fun k hk hno => hfr.block k hk fun ho => hno (ho.sub fun i o h => (hsub i o h).1), hfr.drawn⟩
  refine ⟨⟨av, ρ', N', G', hK, hv, ⟨fun id o h => ?_, fun id p nd own hn => ?_, fun id p nd own hn i hi j hj => ?_, fun id p nd hn => ?_, fun id p nd id' p' nd' own' hn hn' hne ht hs => ?_⟩, hN, hag, hfr', fun b hb => ?_, fun id hm hne => backL_keep hm hne⟩, hsame⟩
  · rcases backL_get h with ⟨_, h⟩ | ⟨_, h, _⟩
    · exact Nat.lt_of_lt_of_le (hH.keys id o h) hN
    · exact hH'.keys id o h
  · rcases hA hn with ⟨hm, hn', e⟩ | ⟨_, hn'⟩
    · rw [e]; exact hH.shape id p nd own hn'
    · exact hH'.shape id p nd true hn'
  · rcases hA hn with ⟨hm, hn', e⟩ | ⟨_, hn'⟩
    · rw [e]
      obtain ⟨c, c1, c2, c3⟩ := hH.rd id p nd own hn' i hi j hj
      refine ⟨c, ?_, c2.mono hN hag, c3⟩
      rw [← c1]
      exact World.cell?_of_block (w := w) (hblk hm hn' (hH.solid hn' (Nat.mul_pos (by omega) (by omega))))
    · exact hH'.rd id p nd true hn' i hi j hj
  · rcases hA hn with ⟨hm, hn', e⟩ | ⟨_, hn'⟩
    · rw [e]
      rcases hH.ow id p nd hn' with h | ⟨ob, h1, h2, h3⟩
      · exact .inl h
      · exact .inr ⟨ob, (hblk hm hn' (by simpa [Solid] using h3)).trans h1, h2, h3⟩
    · exact hH'.ow id p nd hn'
  · rcases hA hn with ⟨hm, hn1, e⟩ | ⟨_, hn1⟩ <;> rcases hA hn' with ⟨hm', hn2, e'⟩ | ⟨ho', hn2⟩
    · rw [e] at ht ⊢; rw [e'] at hs ⊢; exact hH.sep id p nd id' p' nd' own' hn1 hn2 hne ht hs
    · subst ho'
      rw [e] at ht ⊢
      exact Ne.symm (hAB hn2 hm hn1 (by simpa [Solid] using hs) (by simpa [Solid] using ht))
    · rw [e'] at hs ⊢; exact hAB hn1 hm' hn2 ht hs
    · subst ho'; exact hH'.sep id p nd id' p' nd' true hn1 hn2 hne ht hs
  · obtain ⟨id, p, nd, hn, ht, rfl⟩ := hb
    rcases hA hn with ⟨hm, hn1, e⟩ | ⟨_, hn1⟩
    · rw [e] at ht ⊢; exact .inr ⟨id, p, nd, hn1, ht, rfl⟩
    · rcases hown _ ⟨id, p, nd, hn1, ht, rfl⟩ with h | h
      · exact .inl h
      · exact .inr (h.sub fun i o h => (hsub i o h).1)

end
/-- Those of a list that are own objects. -/
def ownIds (G : Heap) : List Nat → List Nat
  | [] => []
  | x :: r => bif ownB G x then x :: ownIds G r else ownIds G r
theorem ownIds_or {G : Heap} : ∀ {W : List Nat} {id : Nat}, memB W id = true → memB (ownIds G W) id = true ∨ ownB G id = false
  | [], id, h => by simp [memB] at h
  | x :: r, id, h => by
    simp only [memB] at h
    simp only [ownIds]
    cases hb : Nat.beq x id with
    | true =>
      have := Nat.eq_of_beq_eq_true hb
      subst this
      cases ho : ownB G x with
      | true => simp [memB]
      | false => exact .inr rfl
    | false =>
      rw [hb] at h
      simp only [cond_false] at h
      rcases ownIds_or (G := G) h with h1 | h1
      · left
        cases ho : ownB G x with
        | true => simp [memB, hb, h1]
        | false => simpa using h1
      · exact .inr h1
end Go.Sx

/-
  Regions whose order is drawn: the evaluator.
-/
namespace Go.Sx
set_option linter.unusedVariables false
set_option linter.unusedSimpArgs false
open Go
open Go.RowKit

def bnd (e : Edge) : Bool := match e.ground with
  | .textOnly _ => false
  | .gcOnly _ => false
  | _ => true
theorem bnd_eq (e : Edge) : Region.binds .any e = bnd e := by
  unfold Region.binds bnd
  cases e.ground <;> rfl
def onE (i : Nat) : List Edge → Bool
  | [] => false
  | e :: r => (bnd e && Nat.beq e.on i) || onE i r
theorem onE_spec {i : Nat} : ∀ {l : List Edge}, onE i l = true ↔ ∃ e ∈ l, Region.binds .any e = true ∧ e.on = i
  | [] => by simp [onE]
  | e :: r => by
    have ih := onE_spec (i := i) (l := r)
    simp only [onE, Bool.or_eq_true, Bool.and_eq_true, ih, bnd_eq, List.mem_cons, exists_eq_or_imp, Nat.beq_eq]
def allIn (D : List Nat) : List Edge → Bool
  | [] => true
  | e :: r => (!bnd e || memB D e.on) && allIn D r
theorem allIn_spec {D : List Nat} : ∀ {l : List Edge}, allIn D l = true ↔ ∀ e ∈ l, Region.binds .any e = true → memB D e.on = true
  | [] => by simp [allIn]
  | e :: r => by
    have ih := allIn_spec (D := D) (l := r)
    simp only [allIn, Bool.and_eq_true, ih, bnd_eq, List.mem_cons, forall_eq_or_imp, Bool.or_eq_true, Bool.not_eq_true']
    constructor
    · rintro ⟨h1, h2⟩
      exact ⟨fun hb => h1.resolve_left (by simp [hb]), h2⟩
    · rintro ⟨h1, h2⟩
      refine ⟨?_, h2⟩
      cases hb : bnd e with
      | false => exact .inl rfl
      | true => exact .inr (h1 hb)
/-! ### Operands as lists -/
def sndL {α β : Type} : List (α × β) → List β
  | [] => []
  | (_, b) :: r => b :: sndL r
theorem sndL_eq {α β : Type} : ∀ (l : List (α × β)), sndL l = l.map (·.2)
  | [] => rfl
  | (_, _) :: r => by simp [sndL, sndL_eq r]
def appL {α : Type} : List α → List α → List α
  | [], l => l
  | x :: r, l => x :: appL r l
theorem appL_eq {α : Type} : ∀ (x y : List α), appL x y = x ++ y
  | [], _ => rfl
  | _ :: r, y => by simp [appL, appL_eq r y]
def opndL (op : Op) : List Operand :=
  match op with
  | .alloc _ => []
  | .move x => [x]
  | .assign x => [x]
  | .box _ x => [x]
  | .load _ x => [x]
  | .nilCheck x => [x]
  | .unOp _ _ x => [x]
  | .convert _ _ x => [x]
  | .fieldAddr _ x _ => [x]
  | .extract x _ => [x]
  | .pick c a b => [c, a, b]
  | .build _ ps => sndL ps.toList
  | .buildSlice _ _ ps => sndL ps.toList
  | .store _ a v => [a, v]
  | .binOp _ _ a v _ => [a, v]
  | .makeSlice _ a v => [a, v]
  | .indexAddr _ a v => [a, v]
  | .makeFunc _ first captured => appL first.toList captured.toList
  | .call c => match c.callee with
    | .value f => f :: c.args.toList
    | .invoke r _ => r :: c.args.toList
    | .builtin _ => c.args.toList
  | op => op.operands.toList
theorem opndL_eq (op : Op) : opndL op = op.operands.toList := by
  unfold opndL
  split <;> simp [Op.operands, sndL_eq, appL_eq]
  rename_i c
  unfold Call.operands
  split <;> simp_all
def usesT (d : Nat) : List Operand → Bool
  | [] => false
  | o :: r => (match o with
    | .tmp t => Nat.beq t d
    | _ => false) || usesT d r
theorem usesT_spec {d : Nat} : ∀ {l : List Operand}, usesT d l = false → d ∉ l.filterMap fun | .tmp t => some t | _ => none
  | [], _ => by simp
  | o :: r, h => by
    simp only [usesT, Bool.or_eq_false_iff] at h
    have ih := usesT_spec (l := r) h.2
    intro hm
    simp only [List.filterMap_cons] at hm
    cases o with
    | tmp t =>
      simp only [List.mem_cons] at hm
      rcases hm with e | hm
      · subst e
        have := h.1
        simp at this
      · exact ih hm
    | _ => exact ih hm
def grdQ (all : List Oper) (d : Nat) (o : Oper) : Bool :=
  match o.guard with
  | some jw => match getDst all jw.1 with
    | some t => Nat.beq t d
    | none => false
  | none => false
def noLook (all : List Oper) (d : Nat) (o : Oper) : Bool := !usesT d (opndL o.op) && !grdQ all d o
theorem noLook_spec {ops : Array Oper} {d : Nat} {o : Oper} (h : noLook ops.toList d o = true) : d ∉ o.looksAt ops := by
  simp only [noLook, Bool.and_eq_true, Bool.not_eq_true'] at h
  have h1 := usesT_spec h.1
  rw [opndL_eq] at h1
  have h2 := h.2
  intro hm
  unfold Oper.looksAt at hm
  rcases List.mem_append.1 hm with hm | hm
  · exact h1 hm
  · unfold grdQ at h2
    cases hg : o.guard with
    | none => rw [hg] at hm; simp at hm
    | some jw =>
      obtain ⟨g, b⟩ := jw
      rw [hg] at hm h2
      simp only [getDst_eq, Array.getElem?_toList] at h2
      simp only at hm
      cases hx : ops[g]?.bind (·.dst) with
      | none => rw [hx] at hm; simp at hm
      | some t =>
        rw [hx] at hm h2
        simp only [Option.toList_some, List.mem_singleton] at hm
        subst hm
        simp at h2
def dstNe (x : Option Nat) (d : Nat) : Bool :=
  match x with
  | some e => !Nat.beq e d
  | none => true
def apartQ (all : List Oper) (x y : Oper) : Bool :=
  (match x.dst with
   | some d => noLook all d y && dstNe y.dst d
   | none => true) &&
  (match y.dst with
   | some d => noLook all d x
   | none => true)
theorem apartQ_spec {ops : Array Oper} {x y : Oper} (h : apartQ ops.toList x y = true) : x.apart ops y = true := by
  unfold apartQ at h
  simp only [Bool.and_eq_true] at h
  obtain ⟨h1, h2⟩ := h
  unfold Oper.apart
  simp only [Bool.and_eq_true]
  constructor
  · cases hx : x.dst with
    | none => rfl
    | some d =>
      rw [hx] at h1
      simp only [Bool.and_eq_true] at h1 ⊢
      refine ⟨by simpa using noLook_spec h1.1, ?_⟩
      have h3 := h1.2
      cases hy : y.dst with
      | none => rfl
      | some e =>
        rw [hy] at h3
        simp only [dstNe, Bool.not_eq_true'] at h3
        have : e ≠ d := fun e1 => by subst e1; simp at h3
        simpa using this
  · cases hy : y.dst with
    | none => rfl
    | some d =>
      rw [hy] at h2
      simpa using noLook_spec h2

def freeQ (ops : Array Oper) (D : List Nat) (i : Nat) (oi : Oper) : Nat → List Oper → Bool
  | _, [] => true
  | j, oj :: r => (Nat.beq j i || memB D j || onE i oj.after.toList || apartQ ops.toList oi oj) && freeQ ops D i oi (j + 1) r
theorem freeQ_spec {ops : Array Oper} {D : List Nat} {i : Nat} {oi : Oper} : ∀ {l : List Oper} {j : Nat}, freeQ ops D i oi j l = true → ∀ (d : Nat) (oj : Oper), l[d]? = some oj → j + d ≠ i → memB D (j + d) = false → onE i oj.after.toList = false → oi.apart ops oj = true
  | [], j, _, d, oj, h, _, _, _ => by simp at h
  | o :: r, j, h, d, oj, hd, h1, h2, h3 => by
    simp only [freeQ, Bool.and_eq_true, Bool.or_eq_true] at h
    cases d with
    | zero =>
      simp only [List.getElem?_cons_zero, Option.some.injEq] at hd
      subst hd
      simp only [Nat.add_zero] at h1 h2
      rcases h.1 with ((h4 | h4) | h4) | h4
      · exact absurd (Nat.eq_of_beq_eq_true h4) h1
      · rw [h2] at h4; cases h4
      · rw [h3] at h4; cases h4
      · exact apartQ_spec h4
    | succ d =>
      simp only [List.getElem?_cons_succ] at hd
      exact freeQ_spec h.2 d oj hd (by omega) (by rw [show j + 1 + d = j + (d + 1) by omega]; exact h2) h3
def readyL (D : List Nat) : Nat → List Oper → List (Nat × Oper)
  | _, [] => []
  | i, o :: r => bif !memB D i && allIn D o.after.toList then (i, o) :: readyL D (i + 1) r else readyL D (i + 1) r
theorem readyL_spec {D : List Nat} : ∀ {l : List Oper} {i d : Nat} {o : Oper}, l[d]? = some o → memB D (i + d) = false → allIn D o.after.toList = true → (i + d, o) ∈ readyL D i l
  | [], _, _, _, h, _, _ => by simp at h
  | x :: r, i, d, o, h, h1, h2 => by
    simp only [readyL]
    cases d with
    | zero =>
      simp only [List.getElem?_cons_zero, Option.some.injEq] at h
      subst h
      simp only [Nat.add_zero] at h1 ⊢
      simp [h1, h2]
    | succ d =>
      simp only [List.getElem?_cons_succ] at h
      have ih := readyL_spec (i := i + 1) h (by rw [show i + 1 + d = i + (d + 1) by omega]; exact h1) h2
      rw [show i + 1 + d = i + (d + 1) by omega] at ih
      cases (!memB D i && allIn D x.after.toList) with
      | true => exact List.mem_cons_of_mem _ ih
      | false => exact ih
def eachR : List (Nat × Oper) → (Nat → Oper → Prop) → Prop
  | [], _ => True
  | x :: r, F => match r with
    | [] => F x.1 x.2
    | _ :: _ => F x.1 x.2 ∧ eachR r F
theorem eachR_spec {F : Nat → Oper → Prop} : ∀ {l : List (Nat × Oper)}, eachR l F → ∀ x ∈ l, F x.1 x.2
  | [], _, _, h => by cases h
  | [y], h, x, hx => by
    simp only [List.mem_singleton] at hx
    subst hx
    exact h
  | y :: z :: r, h, x, hx => by
    simp only [eachR] at h
    rcases List.mem_cons.1 hx with rfl | hx
    · exact h.1
    · exact eachR_spec (l := z :: r) h.2 x hx

def wIds (es : List Edge) : List (Nat × Nat) → List Nat
  | [] => []
  | (i, id) :: r => bif onE i es then wIds es r else id :: wIds es r
def wRest (es : List Edge) : List (Nat × Nat) → List (Nat × Nat)
  | [] => []
  | (i, id) :: r => bif onE i es then wRest es r else (i, id) :: wRest es r
theorem wIds_mem {es : List Edge} {i id : Nat} (h : onE i es = false) : ∀ {W : List (Nat × Nat)}, (i, id) ∈ W → memB (wIds es W) id = true
  | [], hm => by cases hm
  | (k, x) :: r, hm => by
    simp only [wIds]
    rcases List.mem_cons.1 hm with e | hm
    · injection e with e1 e2
      subst e1 e2
      simp [h, memB]
    · have ih := wIds_mem h hm
      cases onE k es with
      | true => exact ih
      | false => simp only [cond_false, memB, ih]; cases Nat.beq x id <;> rfl
theorem wRest_mem {es : List Edge} {i id : Nat} (h : onE i es = false) : ∀ {W : List (Nat × Nat)}, (i, id) ∈ W → (i, id) ∈ wRest es W
  | [], hm => by cases hm
  | (k, x) :: r, hm => by
    simp only [wRest]
    rcases List.mem_cons.1 hm with e | hm
    · injection e with e1 e2
      subst e1 e2
      simp [h]
    · have ih := wRest_mem h hm
      cases onE k es with
      | true => exact ih
      | false => exact List.mem_cons_of_mem _ ih
def watch (x : Option Nat) (i : Nat) (W : List (Nat × Nat)) : List (Nat × Nat) :=
  match x with
  | some id => (i, id) :: W
  | none => W

/-! ### One step -/
def qstep (E : Env) (all : List Oper) (o : Oper) (s : Slots) (G : Heap) (K : Slots → Prop) : Prop :=
  match o.guard with
  | none => quiet E.T (ao s) G o.op fun C v => need C (putK E o.dst v s K)
  | some jw => match getDst all jw.1 with
    | some gt => guardK (look s gt) jw.2 fun g w => GuardO g w (putK E o.dst (.opt gt w g .top) s K) <| optCnd s (optOps o.op) none fun C0 => needG g w C0 (quiet E.T (lkG s o.op) G o.op fun C v => needG g w C (putK E o.dst (.opt gt w g v) s K))
    | none => False
def qidOf (o : Oper) (s : Slots) : Option Nat :=
  match o.guard with
  | none => qId (ao s) o.op
  | some _ => qId (lkG s o.op) o.op
/-- Objects of rows that are only read, beside what is left. -/
def disH (G : Heap) : List Nat → Heap → Heap
  | [], X => X
  | id :: r, X => match hget G id with
    | some o => match o with
      | .nestI _ k xs => (id, .nestI false k xs) :: disH G r X
      | _ => disH G r X
    | none => disH G r X
theorem disH_get {G X : Heap} (hX : ∀ i o, hget X i = some o → hget G i = some o) : ∀ (ids : List Nat) (i : Nat) (o' : AObj), hget (disH G ids X) i = some o' → ∃ o, hget G i = some o ∧ (∀ p nd, o'.node i p = some nd → o.node i p = some nd) ∧ (o'.own = true → o.own = true ∧ hget X i = some o')
  | [], i, o', h => ⟨o', hX i o' h, fun _ _ h => h, fun e => ⟨e, h⟩⟩
  | id :: r, i, o', h => by
    unfold disH at h
    split at h
    · rename_i o ho
      split at h
      · rename_i own k xs
        rw [hget_cons] at h
        split at h
        · next e =>
          injection h with h
          subst h
          rw [e]
          refine ⟨_, ho, fun p nd hn => ?_, fun e => by cases e⟩
          rcases p with _ | ⟨_, _ | _⟩ <;> exact hn
        · exact disH_get hX r i o' h
      · exact disH_get hX r i o' h
    · exact disH_get hX r i o' h
theorem HeapRep.ro {ρ : Rho} {N : Nat} {G X Y : Heap} {w : World} (hH : HeapRep ρ N G w) (hr : ∀ i o', hget Y i = some o' → ∃ o, hget G i = some o ∧ (∀ p nd, o'.node i p = some nd → o.node i p = some nd) ∧ (o'.own = true → o.own = true ∧ hget X i = some o')) :
    HeapRep ρ N Y w ∧ ∀ b, Owns ρ Y b → Owns ρ X b := by
  have hup : ∀ {i p nd own}, NodeAt Y i p nd own → ∃ own', NodeAt G i p nd own' ∧ (own = true → own' = true ∧ NodeAt X i p nd own) := fun {i p nd own} hx => by
    obtain ⟨o', h1, h2, h3⟩ := hx.ex
    obtain ⟨o, q1, q2, q3⟩ := hr _ _ h1
    refine ⟨o.own, ⟨⟨o, q1, q2 _ _ h2, rfl⟩⟩, fun e => ?_⟩
    obtain ⟨q4, q5⟩ := q3 (h3.trans e)
    exact ⟨q4, ⟨⟨o', q5, h2, h3⟩⟩⟩
  refine ⟨⟨fun id o h => ?_, fun i p nd own hx => ?_, fun i p nd own hx a ha b hb => ?_, fun i p nd hx => ?_, fun i p nd i' p' nd' own' hx hx' hd ht hs => ?_⟩, fun b hb => ?_⟩
  · obtain ⟨o1, q1, _⟩ := hr _ _ h
    exact hH.keys _ _ q1
  · obtain ⟨_, h, _⟩ := hup hx
    exact hH.shape _ _ _ _ h
  · obtain ⟨_, h, _⟩ := hup hx
    exact hH.rd _ _ _ _ h a ha b hb
  · obtain ⟨_, h, e⟩ := hup hx
    rw [(e rfl).1] at h
    exact hH.ow _ _ _ h
  · obtain ⟨_, h, e⟩ := hup hx
    rw [(e rfl).1] at h
    obtain ⟨_, h', e'⟩ := hup hx'
    exact hH.sep _ _ _ _ _ _ _ h h' hd ht (by
      cases own' with
      | true => rw [(e' rfl).1] at *; exact hs
      | false => exact hH.solid h' (by simpa [Solid] using hs))
  · obtain ⟨i, p, nd, hx, ht, rfl⟩ := hb
    obtain ⟨_, h, e⟩ := hup hx
    exact ⟨i, p, nd, (e rfl).2, ht, rfl⟩
theorem HeapRep.dis {ρ : Rho} {N : Nat} {G : Heap} {w : World} (hH : HeapRep ρ N G w) (ids : List Nat) : HeapRep ρ N (disH G ids (delL ids G)) w ∧ ∀ b, Owns ρ (disH G ids (delL ids G)) b → Owns ρ (delL ids G) b :=
  hH.ro (disH_get (fun i o h => by
    rw [hget_delL] at h
    split at h
    · cases h
    · exact h) ids)
def estep (E : Env) (all : List Oper) (o : Oper) (s : Slots) (N : Nat) (G : Heap) (W : List Nat) (K : Slots → Nat → Heap → Prop) : Prop :=
  match o.guard with
  | none => effect E.P E.T (ao s) N (delL (ownIds G W) G) o.op fun v N' G' => putK E o.dst v s fun s' => tidyK (backL (ownIds G W) G G') fun G' => K s' N' G'
  | some jw => match getDst all jw.1 with
    | some gt => guardK (look s gt) jw.2 fun g w => GuardO g w (putK E o.dst (.opt gt w g .top) s fun s' => K s' N G) <| GuardE g w (Guess fun v => (g = w → optCnd s o.op.operands.toList none fun C' => need C' (effect E.P E.T (aoS s) N (delL (ownIds G W) G) o.op fun v' N' G' => v' = v ∧ N' = N ∧ sameH G' (delL (ownIds G W) G))) ∧ putK E o.dst (.opt gt w g v) s fun s' => K s' N G) (optCnd s o.op.operands.toList none fun C' => need C' (effect E.P E.T (aoS s) N (disH G (ownIds G W) (delL (ownIds G W) G)) o.op fun v N' G' => putK E o.dst v s fun s' => tidyK (backL (ownIds G W) G G') fun G' => K s' N' G'))
    | none => False

def scanD (E : Env) (ops : Array Oper) (all : List Oper) : Nat → List Oper → List Nat → Slots → Heap → List (Nat × Nat) → (List Nat → Slots → List (Nat × Nat) → Prop) → Prop
  | _, [], D, s, _, W, K => K D s W
  | i, o :: r, D, s, G, W, K => bif !memB D i && allIn D o.after.toList && !isEffect o.op && freeQ ops D i o 0 all then qstep E all o s G fun s' => scanD E ops all (i + 1) r (i :: D) s' G (watch (qidOf o s) i W) K else scanD E ops all (i + 1) r D s G W K
def drawD (E : Env) (ops : Array Oper) (all : List Oper) : Nat → List Nat → Slots → Nat → Heap → List (Nat × Nat) → (Slots → Nat → Heap → Prop) → Prop
  | 0, _, _, _, _, _, _ => False
  | f + 1, D, s, N, G, W, K => scanD E ops all 0 all D s G W fun D s W => match readyL D 0 all with
    | [] => K s N G
    | x :: l => eachR (x :: l) fun j o => match isEffect o.op with
      | true => estep E all o s N G (wIds o.after.toList W) fun s' N' G' => drawD E ops all f (j :: D) s' N' G' (wRest o.after.toList W) K
      | false => qstep E all o s G fun s' => drawD E ops all f (j :: D) s' N G (wRest o.after.toList W) K
def noSel : List Oper → Bool
  | [] => true
  | o :: r => (match o.op with
    | .select _ _ => false
    | _ => true) && noSel r
def evDraw (E : Env) (ops : Array Oper) (s : Slots) (N : Nat) (G : Heap) (K : Slots → Nat → Heap → Prop) : Prop :=
  bif noSel ops.toList && E.P.follows .mixedOrders then drawD E ops ops.toList (ops.toList.length + 1) [] s N G [] K else False

end Go.Sx

/-
  Regions whose order is drawn: the evaluator is sound.
-/
namespace Go.Sx
set_option linter.unusedVariables false
set_option linter.unusedSimpArgs false
open Go
open Go.RowKit

structure StR (E : Env) (B : Entry) (ρ : Rho) (s : Slots) (N : Nat) (G : Heap) (a : Act) (w : World) : Prop where
  hs : ∀ t, VR ρ N (look s t) (a.tmps.getD t undef)
  hH : HeapRep ρ N G w
  hN : B.N ≤ N
  hag : ∀ id, id < B.N → ρ id = B.ρ id
  hfr : FrameW (Owns B.ρ B.G) B.w w
  hown : ∀ b, Owns ρ G b → B.w.heap.size ≤ b ∨ Owns B.ρ B.G b
  size : a.tmps.size = E.nt
  defers : a.defers = []

theorem delL_get (W : List Nat) (G : Heap) (i : Nat) (o : AObj) (h : hget (delL W G) i = some o) : hget G i = some o := by
  rw [hget_delL] at h
  split at h
  · cases h
  · exact h

theorem StR.st {E : Env} {B : Entry} {ρ : Rho} {s : Slots} {N : Nat} {G : Heap} {a : Act} {w : World} (h : StR E B ρ s N G a w) : St E B s N G a w :=
  ⟨⟨ρ, h.hs, h.hH, h.hN, h.hag, h.hfr, h.hown⟩, h.size, h.defers⟩
theorem St.str {E : Env} {B : Entry} {s : Slots} {N : Nat} {G : Heap} {a : Act} {w : World} (h : St E B s N G a w) : ∃ ρ, StR E B ρ s N G a w := by
  obtain ⟨⟨ρ, h1, h2, h3, h4, h5, h6⟩, h7, h8⟩ := h
  exact ⟨ρ, h1, h2, h3, h4, h5, h6, h7, h8⟩

section
variable {E : Env} {B : Entry} {ρ : Rho} {s : Slots} {N : Nat} {G : Heap} {a : Act} {w : World}

theorem StR.put (h : StR E B ρ s N G a w) {dst : Option Nat} {av : AV} {v : Value} {K : Slots → Prop} (hp : putK E dst av s K) (hv : VR ρ N av v) : ∃ s', K s' ∧ StR E B ρ s' N G (a.put dst v) w := by
  obtain ⟨s', hK, q1, q2, q3⟩ := St.put h.hs h.size hp hv
  exact ⟨s', hK, q1, h.hH, h.hN, h.hag, h.hfr, h.hown, q2, q3.trans h.defers⟩

/-- The operands, seen where the guard says yes. -/
theorem seen_ops (hs : ∀ t, VR ρ N (look s t) (a.tmps.getD t undef)) {l : List Operand} (hall : ∀ x ∈ l, ∀ gt w g v, ao s x = .opt gt w g v → g = w) :
    ∃ lk : Operand → AV, (∀ x ∈ l, aoS s x = lk x) ∧ ∀ x, VR ρ N (lk x) (a.eval x) := by
  classical
  refine ⟨fun x => if x ∈ l then aoS s x else .top, fun x hx => by simp [hx], fun x => ?_⟩
  simp only
  split
  · rename_i hx
    have h1 := VR_ao hs x
    unfold aoS AV.strip
    split
    · rename_i gt' w' g' v' he
      rw [he] at h1
      simp only [VR] at h1
      exact h1.1 (hall x hx _ _ _ _ he)
    · exact h1
  · simp only [VR]

theorem qId_congr {lk lk' : Operand → AV} {op : Op} (h : ∀ x ∈ op.operands.toList, lk x = lk' x) : qId lk op = qId lk' op := by
  cases op <;> simp only [qId]
  case call c =>
    have hargs : ∀ x ∈ c.args.toList, lk x = lk' x := fun x hx => h x (by simp [Op.operands, Call.operands]; exact .inr (by simpa using hx))
    split
    · split
      · split
        · rename_i x hx; rw [hargs x (by simp [hx])]
        · rfl
      · rfl
    · rfl
  all_goals rw [h _ (by simp [Op.operands])]

theorem qstep_sound (hT : TblOK E.P E.T) {ops : Array Oper} {o : Oper} {K : Slots → Prop} (h : qstep E ops.toList o s G K) (hS : StR E B ρ s N G a w) :
    ∃ v s', K s' ∧ StR E B ρ s' N G (a.put o.dst v) w ∧ ((Region.wanted o (yielded ops a.tmps) = true ∧ ∀ w', Same ρ G (qidOf o s) w w' → (execOp a.eval o).run E.P w' = .ok (.value v) w') ∨ (Region.wanted o (yielded ops a.tmps) = false ∧ v = undef)) := by
  unfold qstep at h
  split at h
  · rename_i hg
    obtain ⟨C, v, h, hr⟩ := quiet_keep hT hS.hH (VR_ao hS.hs) h
    obtain ⟨hc, hp⟩ := need_spec h
    obtain ⟨cv, hv, hrun⟩ := hr hc
    obtain ⟨s', hK, hS'⟩ := hS.put hp hv
    refine ⟨cv, s', hK, hS', .inl ⟨wanted_none hg ops _, ?_⟩⟩
    simp only [qidOf, hg]
    exact hrun
  · rename_i jw hg
    split at h
    case h_2 => exact h.elim
    rename_i gt hd
    obtain ⟨g, gw, h, hgv⟩ := guardK_spec h
    have hwant := wanted_guard hg hd (hgv ρ N _ (hS.hs gt))
    rw [hwant]
    rcases h.h with ⟨hne, hp⟩ | h
    · obtain ⟨s', hK, hS'⟩ := hS.put hp (v := undef) (by simp only [VR]; exact ⟨fun e => absurd e hne, fun _ => by trivial⟩)
      exact ⟨undef, s', hK, hS', .inr ⟨by simpa using hne, rfl⟩⟩
    obtain ⟨C0, h, hc0⟩ := optCnd_spec s h
    obtain ⟨h0, h⟩ := needG_spec h
    cases hgw : (g == gw) with
    | true =>
      have hge : g = gw := by simpa using hgw
      obtain ⟨lk, e1, e2⟩ := seen_opsG hS.hs (hc0 (h0 hge)).2
      rw [quiet_congr e1] at h
      obtain ⟨C, v, h, hr⟩ := quiet_keep hT hS.hH e2 h
      obtain ⟨hc, hp⟩ := needG_spec h
      obtain ⟨cv, hv, hrun⟩ := hr (hc hge)
      obtain ⟨s', hK, hS'⟩ := hS.put hp (v := cv) (by simp only [VR]; exact ⟨fun _ => hv, fun e => absurd hge e⟩)
      refine ⟨cv, s', hK, hS', .inl ⟨rfl, ?_⟩⟩
      simp only [qidOf, hg]
      rw [qId_congr e1]
      exact hrun
    | false =>
      obtain ⟨C, v, h⟩ := quiet_some h
      have hne : ¬ g = gw := by simpa using hgw
      obtain ⟨s', hK, hS'⟩ := hS.put (needG_spec h).2 (v := undef) (by simp only [VR]; exact ⟨fun e => absurd e hne, fun _ => by trivial⟩)
      exact ⟨undef, s', hK, hS', .inr ⟨rfl, rfl⟩⟩

theorem estep_sound (hT : TblOK E.P E.T) {ops : Array Oper} {o : Oper} {W : List Nat} {K : Slots → Nat → Heap → Prop} (h : estep E ops.toList o s N G W K) (hS : StR E B ρ s N G a w) {next : Act → World → Prop} {Q : Exit → Act → World → Prop}
    (hnext : ∀ s' N' G' a' w' ρ', K s' N' G' → StR E B ρ' s' N' G' a' w' → N ≤ N' → (∀ id, id < N → ρ' id = ρ id) → (∀ id, memB W id = true → Same ρ G (some id) w w') → (∀ id, memB W id = true → hget G id ≠ none → hget G' id = hget G id) → next a' w') :
    if Region.wanted o (yielded ops a.tmps) then o.wp E.P a w next Q else next (a.put o.dst undef) w := by
  have hW : ∀ {id}, memB W id = true → memB (ownIds G W) id = true ∨ ownB G id = false := ownIds_or
  have hsub : HeapRep ρ N (delL (ownIds G W) G) w := hS.hH.sub fun i o h => by
    rw [hget_delL] at h
    split at h
    · cases h
    · exact h
  have hgk : GOK ρ G w := B.ok.next hS.hfr hS.hown
  have hgs : GOK ρ (delL (ownIds G W) G) w := hgk.sub fun b hb => hb.sub fun i o h => delL_get (ownIds G W) G i o h
  unfold estep at h
  split at h
  · rename_i hg
    rw [if_pos (wanted_none hg ops _)]
    refine Oper.wp_mono (fun a' w' hq => ?_) (effect_sound hT hgs hsub (VR_ao hS.hs) h Q)
    obtain ⟨v, rfl, ho⟩ := hq
    obtain ⟨⟨av, ρ', N', G', hp, hv, hH', hN', hag', hfr', hown', hkp⟩, hsame⟩ := out_frame hS.hH (ownIds G W) ho
    obtain ⟨s', hK, q1, q2, q3⟩ := St.put (fun t => (hS.hs t).mono hN' hag') hS.size hp hv
    refine hnext s' N' _ _ w' ρ' (tidyK_eq hK) ⟨q1, hH', Nat.le_trans hS.hN hN', fun id hid => (hag' id (Nat.lt_of_lt_of_le hid hS.hN)).trans (hS.hag id hid), ?_, fun b hb => ?_, q2, q3.trans hS.defers⟩ hN' hag' (fun id hm => hsame id (hW hm)) (fun id hm => hkp id (hW hm))
    · refine hS.hfr.trans hfr' fun i hi ho => ?_
      rcases hS.hown i ho with h | h
      · omega
      · exact h
    · rcases hown' b hb with h | h
      · exact .inl (Nat.le_trans hS.hfr.size h)
      · exact hS.hown b h
  · rename_i jw hg
    split at h
    case h_2 => exact h.elim
    rename_i gt hd
    obtain ⟨g, gw, h, hgv⟩ := guardK_spec h
    have hwant := wanted_guard hg hd (hgv ρ N _ (hS.hs gt))
    rw [hwant]
    rcases h.h with ⟨hne, hp⟩ | h
    · rw [if_neg (by simpa using hne)]
      obtain ⟨s', hK, hS'⟩ := hS.put hp (v := undef) (by simp only [VR]; exact ⟨fun e => absurd e hne, fun _ => by trivial⟩)
      exact hnext s' N G _ w ρ hK hS' (Nat.le_refl _) (fun _ _ => rfl) (fun _ _ => Same.refl _ _ _ _) (fun _ _ _ => rfl)
    rcases h.h with h | ⟨hge, h⟩
    case inr =>
      rw [if_pos (by simpa using hge)]
      obtain ⟨C', hv, hc⟩ := optCnd_spec s h
      obtain ⟨h1, hv⟩ := need_spec hv
      obtain ⟨lk, e1, e2⟩ := seen_ops hS.hs (hc h1).2
      rw [effect_congr e1] at hv
      refine Oper.wp_mono (fun a' w' hq => ?_) (effect_sound hT (hgk.sub fun b hb => ((hS.hH.dis (ownIds G W)).2 b hb).sub fun i o h => delL_get (ownIds G W) G i o h) (hS.hH.dis (ownIds G W)).1 e2 hv Q)
      obtain ⟨v, rfl, ho⟩ := hq
      have ho := Out.ghost (Nat.le_refl _) (fun _ _ => rfl) (hS.hH.dis (ownIds G W)).2 ho
      obtain ⟨⟨av, ρ', N', G', hp, hv, hH', hN', hag', hfr', hown', hkp⟩, hsame⟩ := out_frame hS.hH (ownIds G W) ho
      obtain ⟨s', hK, q1, q2, q3⟩ := St.put (fun t => (hS.hs t).mono hN' hag') hS.size hp hv
      refine hnext s' N' _ _ w' ρ' (tidyK_eq hK) ⟨q1, hH', Nat.le_trans hS.hN hN', fun id hid => (hag' id (Nat.lt_of_lt_of_le hid hS.hN)).trans (hS.hag id hid), ?_, fun b hb => ?_, q2, q3.trans hS.defers⟩ hN' hag' (fun id hm => hsame id (hW hm)) (fun id hm => hkp id (hW hm))
      · refine hS.hfr.trans hfr' fun i hi ho => ?_
        rcases hS.hown i ho with h | h
        · omega
        · exact h
      · rcases hown' b hb with h | h
        · exact .inl (Nat.le_trans hS.hfr.size h)
        · exact hS.hown b h
    obtain ⟨v, hv, hp⟩ := h.ex
    cases hgw : (g == gw) with
    | false =>
      rw [if_neg (by simp)]
      have hne : ¬ g = gw := by simpa using hgw
      obtain ⟨s', hK, hS'⟩ := hS.put hp (v := undef) (by simp only [VR]; exact ⟨fun e => absurd e hne, fun _ => by trivial⟩)
      exact hnext s' N G _ w ρ hK hS' (Nat.le_refl _) (fun _ _ => rfl) (fun _ _ => Same.refl _ _ _ _) (fun _ _ _ => rfl)
    | true =>
      rw [if_pos rfl]
      have hge : g = gw := by simpa using hgw
      obtain ⟨C', hv, hc⟩ := optCnd_spec s (hv hge)
      obtain ⟨h1, hv⟩ := need_spec hv
      obtain ⟨lk, e1, e2⟩ := seen_ops hS.hs (hc h1).2
      rw [effect_congr e1] at hv
      refine Oper.wp_mono (fun a' w' hq => ?_) (effect_sound hT hgs hsub e2 hv Q)
      obtain ⟨u, rfl, ho⟩ := hq
      have ho := ho.mono (K' := fun v' N' G' => v' = v ∧ N' = N ∧ G' = delL (ownIds G W) G) fun _ _ _ ⟨x, y, z⟩ => ⟨x, y, sameH_eq z⟩
      obtain ⟨⟨av, ρ', N', G', ⟨rfl, rfl, rfl⟩, hv', hH', hN', hag', hfr', hown', hkp⟩, hsame⟩ := out_frame hS.hH (ownIds G W) ho
      obtain ⟨s', hK, q1, q2, q3⟩ := St.put (v := u) (fun t => (hS.hs t).mono hN' hag') hS.size hp (by simp only [VR]; exact ⟨fun _ => hv', fun e => absurd hge e⟩)
      have hback : ∀ id o, hget G id = some o → hget (backL (ownIds G W) G (delL (ownIds G W) G)) id = some o := fun id o h => by
        unfold backL
        rw [hget_keepL, hget_ownL, hget_delL]
        cases hk : keepB (ownIds G W) G id with
        | true => rw [if_pos rfl, h]; rfl
        | false =>
          have hk' := hk
          unfold keepB at hk'
          rw [h] at hk'
          simp only [Bool.or_eq_false_iff, Bool.not_eq_false'] at hk'
          have : ownB (delL (ownIds G W) G) id = true := by
            unfold ownB
            rw [hget_delL, if_neg (by simp [hk'.1]), h]
            exact hk'.2
          simp [hk'.1, this, h]
      refine hnext s' _ _ _ w' ρ' hK ⟨q1, hH'.sub hback, Nat.le_trans hS.hN hN', fun id hid => (hag' id (Nat.lt_of_lt_of_le hid hS.hN)).trans (hS.hag id hid), ?_, fun b hb => ?_, q2, q3.trans hS.defers⟩ hN' hag' (fun id hm => hsame id (hW hm)) (fun _ _ _ => rfl)
      · refine hS.hfr.trans hfr' fun i hi ho => ?_
        rcases hS.hown i ho with h | h
        · omega
        · exact h
      · rcases hown' b (hb.sub hback) with h | h
        · exact .inl (Nat.le_trans hS.hfr.size h)
        · exact hS.hown b h

end
end Go.Sx

/-
  Regions whose order is drawn: all orders together.
-/
namespace Go.Sx
set_option linter.unusedVariables false
set_option linter.unusedSimpArgs false
open Go
open Go.RowKit

theorem memB_cons1 (a : Nat) (l : List Nat) (i : Nat) : memB (a :: l) i = (decide (a = i) || memB l i) := by
  simp only [memB]
  cases h : Nat.beq a i with
  | true => simp [Nat.eq_of_beq_eq_true h]
  | false =>
    have : a ≠ i := fun e => by subst e; simp at h
    simp [this]
def unl (l : List Bool) : Nat := l.count false
theorem unl_set : ∀ {l : List Bool} {i : Nat}, l[i]? = some false → unl (l.set i true) + 1 = unl l
  | [], i, h => by simp at h
  | b :: r, 0, h => by
    simp only [List.getElem?_cons_zero, Option.some.injEq] at h
    subst h
    simp [unl]
  | b :: r, i + 1, h => by
    simp only [List.getElem?_cons_succ] at h
    have ih := unl_set h
    simp only [unl, List.set_cons_succ, List.count_cons] at ih ⊢
    omega

structure Rel (n : Nat) (D : List Nat) (listed : Array Bool) : Prop where
  size : listed.size = n
  mem : ∀ i, listed.getD i false = memB D i
theorem Rel.getT {n : Nat} {D : List Nat} {listed : Array Bool} (h : Rel n D listed) {i : Nat} (hi : i < n) : listed.getD i true = memB D i := by
  have := h.mem i
  rw [← this]
  have hlt : i < listed.size := h.size ▸ hi
  simp [Array.getD, hlt]
theorem Rel.set {n : Nat} {D : List Nat} {listed : Array Bool} (h : Rel n D listed) {i : Nat} (hi : i < n) : Rel n (i :: D) (listed.setIfInBounds i true) := by
  refine ⟨by simp [h.size], fun j => ?_⟩
  rw [memB_cons1]
  by_cases hij : i = j
  · subst hij
    have hlt : i < listed.size := h.size ▸ hi
    simp [hlt]
  · rw [getD_set_ne false hij, h.mem j]
    simp [hij]
theorem Rel.unl {n : Nat} {D : List Nat} {listed : Array Bool} (h : Rel n D listed) {i : Nat} (hi : i < n) (hm : memB D i = false) : unl (listed.setIfInBounds i true).toList + 1 = Sx.unl listed.toList := by
  have hlt : i < listed.size := h.size ▸ hi
  have : listed.toList[i]? = some false := by
    have h1 := h.mem i
    rw [hm] at h1
    simp only [Array.getD, hlt, dif_pos] at h1
    simpa [Array.getElem?_eq_getElem hlt] using h1
  rw [Array.toList_setIfInBounds]
  exact unl_set this
theorem Rel.ready {n : Nat} {D : List Nat} {listed : Array Bool} {ops : Array Oper} (h : Rel n D listed) (hn : ops.size = n) {j : Nat} : j ∈ Region.ready .any ops listed ↔ memB D j = false ∧ ∃ o, ops[j]? = some o ∧ allIn D o.after.toList = true := by
  rw [mem_ready]
  constructor
  · rintro ⟨h0, o, ho, hall⟩
    have hj : j < n := hn ▸ (Array.getElem?_eq_some_iff.1 ho).1
    refine ⟨by rw [← h.getT hj]; exact h0, o, ho, allIn_spec.2 fun e he hb => ?_⟩
    rw [← h.mem]
    exact hall e (by simpa using he) hb
  · rintro ⟨h0, o, ho, hall⟩
    have hj : j < n := hn ▸ (Array.getElem?_eq_some_iff.1 ho).1
    refine ⟨by rw [h.getT hj]; exact h0, o, ho, fun e he hb => ?_⟩
    rw [h.mem]
    exact allIn_spec.1 hall e (by simpa using he) hb

/-- What is kept for those taken early hangs on watched objects alone. -/
def PW (ρ : Rho) (G : Heap) (w : World) (W : List (Nat × Nat)) (pend : List (Nat × (World → Prop))) : Prop :=
  ∀ x ∈ pend, (∀ w', x.2 w') ∨ ∃ id, (x.1, id) ∈ W ∧ hget G id ≠ none ∧ ∀ w', Same ρ G (some id) w w' → x.2 w'

def depOf (ops : Array Oper) (i j : Nat) : Bool :=
  match ops[j]? with
  | some o => onE i o.after.toList
  | none => false
theorem depOf_ok {ops : Array Oper} (i j : Nat) (oj : Oper) (h : ops[j]? = some oj) (hd : depOf ops i j = true) : ∃ e ∈ oj.after, Region.binds .any e = true ∧ e.on = i := by
  unfold depOf at hd
  rw [h] at hd
  obtain ⟨e, he, h1⟩ := onE_spec.1 hd
  exact ⟨e, by simpa using he, h1⟩

section
variable {E : Env} {B : Entry} {ops : Array Oper} {Q : Exit → Act → World → Prop}

theorem PW.now {ρ : Rho} {G : Heap} {w : World} {W : List (Nat × Nat)} {pend : List (Nat × (World → Prop))} (h : PW ρ G w W pend) : ∀ x ∈ pend, x.2 w := fun x hx => by
  rcases h x hx with h | ⟨id, _, _, h⟩
  · exact h w
  · exact h w (Same.refl _ _ _ _)

theorem noSel_spec : ∀ {l : List Oper}, noSel l = true → ∀ o ∈ l, ∀ cs b, o.op ≠ .select cs b
  | [], _, o, ho => by cases ho
  | x :: r, h, o, ho => by
    simp only [noSel, Bool.and_eq_true] at h
    rcases List.mem_cons.1 ho with rfl | ho
    · intro cs b e
      rw [e] at h
      exact absurd h.1 (by simp)
    · exact noSel_spec h.2 o ho

theorem scanD_sound (hT : TblOK E.P E.T) (hsel : noSel ops.toList = true) (hQ : ∀ c a w, ¬ Q (.panic c) a w) {ρ : Rho} {N : Nat} {G : Heap} {w : World} {K : List Nat → Slots → List (Nat × Nat) → Prop}
    (hK : ∀ D s W listed fuel pend a, K D s W → StR E B ρ s N G a w → Rel ops.size D listed → unl listed.toList ≤ fuel → PW ρ G w W pend → wpG E.P ops Q (depOf ops) fuel pend listed a w) :
    ∀ (r : List Oper) (i : Nat) (D : List Nat) (s : Slots) (W : List (Nat × Nat)) (listed : Array Bool) (fuel : Nat) (pend : List (Nat × (World → Prop))) (a : Act), ops.toList.drop i = r →
      scanD E ops ops.toList i r D s G W K → StR E B ρ s N G a w → Rel ops.size D listed → unl listed.toList ≤ fuel → PW ρ G w W pend → wpG E.P ops Q (depOf ops) fuel pend listed a w
  | [], i, D, s, W, listed, fuel, pend, a, _, h, hS, hR, hf, hp => hK D s W listed fuel pend a (by simpa only [scanD] using h) hS hR hf hp
  | o :: r, i, D, s, W, listed, fuel, pend, a, hd, h, hS, hR, hf, hp => by
    have hlt : i < ops.toList.length := by
      rcases Nat.lt_or_ge i ops.toList.length with h | h
      · exact h
      · rw [List.drop_eq_nil_of_le h] at hd; cases hd
    rw [List.drop_eq_getElem_cons hlt] at hd
    injection hd with hd1 hd2
    have hi : ops[i]? = some o := by
      have : i < ops.size := by simpa using hlt
      rw [Array.getElem?_eq_getElem this, ← hd1]; simp
    have hin : i < ops.size := by simpa using hlt
    simp only [scanD] at h
    cases hb : (!memB D i && allIn D o.after.toList && !isEffect o.op && freeQ ops D i o 0 ops.toList) with
    | false =>
      simp only [hb, cond_false] at h
      exact scanD_sound hT hsel hQ hK r (i + 1) D s W listed fuel pend a hd2 h hS hR hf hp
    | true =>
      simp only [hb, cond_true] at h
      simp only [Bool.and_eq_true, Bool.not_eq_true'] at hb
      obtain ⟨⟨⟨b1, b2⟩, _⟩, b4⟩ := hb
      obtain ⟨v, s', hk, hS', hrun⟩ := qstep_sound hT h hS
      have hu := hR.unl hin b1
      obtain ⟨fuel', rfl⟩ : ∃ f, fuel = f + 1 := ⟨fuel - 1, by omega⟩
      have hrdy : i ∈ Region.ready .any ops listed := (hR.ready rfl).2 ⟨b1, o, hi, b2⟩
      refine wpG_first (v := v) (S := fun w' => Region.wanted o (yielded ops a.tmps) = true → (execOp a.eval o).run E.P w' = .ok (.value v) w') depOf_ok hi (fun j oj cs b hj => noSel_spec hsel oj (by
          have := Array.mem_of_getElem? hj
          simpa using this) cs b) (fun c a w hq => absurd hq (hQ _ _ _)) fuel' pend listed a w (fun j oj hj hne hun hno => ?_) hrdy ?_ ?_ hp.now ?_
      · have hjn : j < ops.size := (Array.getElem?_eq_some_iff.1 hj).1
        refine freeQ_spec b4 j oj (by rw [← hj]; simp) (by simpa using hne) (by rw [Nat.zero_add, ← hR.getT hjn]; exact hun) ?_
        cases h1 : onE i oj.after.toList with
        | false => rfl
        | true =>
          obtain ⟨e, he, hb, ho⟩ := onE_spec.1 h1
          exact absurd ho (hno e (by simpa using he) hb)
      · rcases hrun with ⟨hw, hrun⟩ | ⟨hw, rfl⟩
        · exact .inl ⟨hw, fun w' hS => hS hw⟩
        · exact .inr ⟨hw, rfl⟩
      · intro hw
        rcases hrun with ⟨_, hrun⟩ | ⟨hw', _⟩
        · exact hrun w (Same.refl _ _ _ _)
        · rw [hw] at hw'; cases hw'
      · refine scanD_sound hT hsel hQ hK r (i + 1) (i :: D) s' (watch (qidOf o s) i W) (listed.setIfInBounds i true) fuel' _ (a.put o.dst v) hd2 hk hS' (hR.set hin) (by omega) ?_
        intro x hx
        rcases List.mem_cons.1 hx with rfl | hx
        · simp only
          cases hq : qidOf o s with
          | none =>
            left
            intro w' hw
            rcases hrun with ⟨_, hrun⟩ | ⟨hw', _⟩
            · exact hrun w' (by rw [hq]; intro id e; cases e)
            · rw [hw] at hw'; cases hw'
          | some id =>
            by_cases hg : hget G id = none
            · left
              intro w' hw
              rcases hrun with ⟨_, hrun⟩ | ⟨hw', _⟩
              · refine hrun w' (by
                  rw [hq]
                  intro id' e p nd own hn _
                  injection e with e
                  subst e
                  obtain ⟨o', h1, _⟩ := hn.ex
                  rw [hg] at h1; cases h1)
              · rw [hw] at hw'; cases hw'
            · right
              refine ⟨id, by simp [watch], hg, fun w' hsame hw => ?_⟩
              rcases hrun with ⟨_, hrun⟩ | ⟨hw', _⟩
              · exact hrun w' (by rw [hq]; exact hsame)
              · rw [hw] at hw'; cases hw'
        · rcases hp x hx with h | ⟨id, h1, h2, h3⟩
          · exact .inl h
          · refine .inr ⟨id, ?_, h2, h3⟩
            unfold watch
            split
            · exact List.mem_cons_of_mem _ h1
            · exact h1

theorem readyL_mem {D : List Nat} : ∀ {l : List Oper} {i j : Nat} {o : Oper}, (j, o) ∈ readyL D i l → ∃ d, j = i + d ∧ l[d]? = some o ∧ memB D j = false ∧ allIn D o.after.toList = true
  | [], _, _, _, h => by simp [readyL] at h
  | x :: r, i, j, o, h => by
    simp only [readyL] at h
    cases hb : (!memB D i && allIn D x.after.toList) with
    | true =>
      simp only [hb, cond_true] at h
      simp only [Bool.and_eq_true, Bool.not_eq_true'] at hb
      rcases List.mem_cons.1 h with e | h
      · injection e with e1 e2
        subst e1 e2
        exact ⟨0, rfl, rfl, hb.1, hb.2⟩
      · obtain ⟨d, rfl, h1, h2⟩ := readyL_mem h
        exact ⟨d + 1, by omega, by simpa using h1, h2⟩
    | false =>
      simp only [hb, cond_false] at h
      obtain ⟨d, rfl, h1, h2⟩ := readyL_mem h
      exact ⟨d + 1, by omega, by simpa using h1, h2⟩

theorem drawD_sound (hT : TblOK E.P E.T) (hsel : noSel ops.toList = true) (hQp : ∀ c a w, ¬ Q (.panic c) a w) {K : Slots → Nat → Heap → Prop} (hQ : ∀ s' N' G' a' w', K s' N' G' → St E B s' N' G' a' w' → Q .normal a' w') :
    ∀ (f : Nat) (D : List Nat) (s : Slots) (N : Nat) (G : Heap) (W : List (Nat × Nat)) (listed : Array Bool) (fuel : Nat) (pend : List (Nat × (World → Prop))) (ρ : Rho) (a : Act) (w : World),
      drawD E ops ops.toList f D s N G W K → StR E B ρ s N G a w → Rel ops.size D listed → unl listed.toList ≤ fuel → PW ρ G w W pend → wpG E.P ops Q (depOf ops) fuel pend listed a w
  | 0, _, _, _, _, _, _, _, _, _, _, _, h, _, _, _, _ => by simp only [drawD] at h
  | f + 1, D, s, N, G, W, listed, fuel, pend, ρ, a, w, h, hS, hR, hf, hp => by
    simp only [drawD] at h
    refine scanD_sound hT hsel hQp (fun D s W listed fuel pend a h hS hR hf hp => ?_) ops.toList 0 D s W listed fuel pend a rfl h hS hR hf hp
    have hnone : readyL D 0 ops.toList = [] → Region.ready .any ops listed = [] := fun hr => by
      cases hk : Region.ready .any ops listed with
      | nil => rfl
      | cons j l =>
        obtain ⟨h0, o, ho, hall⟩ := (hR.ready rfl).1 (hk ▸ List.mem_cons_self .. : j ∈ Region.ready .any ops listed)
        have := readyL_spec (D := D) (l := ops.toList) (i := 0) (d := j) (o := o) (by rw [← ho]; simp) (by simpa using h0) hall
        rw [hr] at this; cases this
    split at h
    · rename_i hr
      have hn := hnone hr
      have hq := hQ s N G a w h hS.st
      cases fuel with
      | zero => exact ⟨hn, hq⟩
      | succ n => exact ⟨fun _ => hq, by rw [hn]; simp⟩
    · rename_i x l hr
      have hstep : ∀ j ∈ Region.ready .any ops listed, ∃ o, ops[j]? = some o ∧ memB D j = false ∧ j < ops.size ∧ (match isEffect o.op with
          | true => estep E ops.toList o s N G (wIds o.after.toList W) fun s' N' G' => drawD E ops ops.toList f (j :: D) s' N' G' (wRest o.after.toList W) K
          | false => qstep E ops.toList o s G fun s' => drawD E ops ops.toList f (j :: D) s' N G (wRest o.after.toList W) K) := fun j hj => by
        obtain ⟨h0, o, ho, hall⟩ := (hR.ready rfl).1 hj
        have hm := readyL_spec (D := D) (l := ops.toList) (i := 0) (d := j) (o := o) (by rw [← ho]; simp) (by simpa using h0) hall
        rw [hr, Nat.zero_add] at hm
        exact ⟨o, ho, h0, (Array.getElem?_eq_some_iff.1 ho).1, eachR_spec h _ hm⟩
      have hsome : Region.ready .any ops listed ≠ [] := fun hn => by
        obtain ⟨d, h1, h2, h3, h4⟩ := readyL_mem (D := D) (l := ops.toList) (i := 0) (j := x.1) (o := x.2) (hr ▸ List.mem_cons_self ..)
        have := (hR.ready (ops := ops) rfl (j := x.1)).2 ⟨h3, x.2, by rw [h1, Nat.zero_add]; simpa using h2, h4⟩
        rw [hn] at this; cases this
      have hpos : ∃ n, fuel = n + 1 := by
        cases hk : Region.ready .any ops listed with
        | nil => exact absurd hk hsome
        | cons j l' =>
          obtain ⟨o, ho, h0, hlt, _⟩ := hstep j (hk ▸ List.mem_cons_self ..)
          have := hR.unl hlt h0
          exact ⟨fuel - 1, by omega⟩
      obtain ⟨n, rfl⟩ := hpos
      refine ⟨fun hn => ?_, fun j hj => ?_⟩
      · exact absurd hn hsome
      obtain ⟨o, ho, h0, hlt, hst⟩ := hstep j hj
      have hu := hR.unl hlt h0
      have hfl : ∀ x ∈ pend.filter (fun x => !depOf ops x.1 j), x ∈ pend ∧ onE x.1 o.after.toList = false := fun x hx => by
        obtain ⟨h1, h2⟩ := List.mem_filter.1 hx
        refine ⟨h1, ?_⟩
        simpa [depOf, ho] using h2
      cases he : isEffect o.op with
      | true =>
        rw [he] at hst
        simp only at hst
        have := estep_sound hT hst hS (Q := Q) (next := fun a' w' => (∀ x ∈ pend, depOf ops x.1 j = false → x.2 w') ∧ wpG E.P ops Q (depOf ops) n (pend.filter fun x => !depOf ops x.1 j) (listed.setIfInBounds j true) a' w')
          (fun s' N' G' a' w' ρ' hk hS' hN' hag hsame hkp => ⟨fun x hx hd => ?_, drawD_sound hT hsel hQp hQ f _ s' N' G' _ _ n _ ρ' a' w' hk hS' (hR.set hlt) (by omega) (fun x hx => ?_)⟩)
        · unfold wpOp
          simp only [ho]
          split
          · rename_i hw; rw [if_pos hw] at this; exact .inl this
          · rename_i hw; rw [if_neg hw] at this; exact this
        · rcases hp x hx with h | ⟨id, h1, h2, h3⟩
          · exact h w'
          · exact h3 w' (hsame id (wIds_mem (by simpa [depOf, ho] using hd) h1))
        · obtain ⟨q1, q2⟩ := hfl x hx
          rcases hp x q1 with h | ⟨id, h1, h2, h3⟩
          · exact .inl h
          · have hmem := wIds_mem q2 h1
            have hkid := hkp id hmem h2
            refine .inr ⟨id, wRest_mem q2 h1, by rw [hkid]; exact h2, fun w'' hs => h3 w'' ?_⟩
            intro id' e p nd own hn hsol
            injection e with e
            subst e
            have hidN : id < N := by
              cases hg : hget G id with
              | none => exact absurd hg h2
              | some o' => exact hS.hH.keys id o' hg
            have hn' : NodeAt G' id p nd own := by
              obtain ⟨o', g1, g2, g3⟩ := hn.ex
              exact ⟨⟨o', hkid.trans g1, g2, g3⟩⟩
            have := hs id rfl p nd own hn' (by rw [hag id hidN]; exact hsol)
            rw [hag id hidN] at this
            exact this.trans (hsame id hmem id rfl p nd own hn hsol)
      | false =>
        rw [he] at hst
        simp only at hst
        obtain ⟨v, s', hk, hS', hrun⟩ := qstep_sound hT hst hS
        have hnext : (∀ x ∈ pend, depOf ops x.1 j = false → x.2 w) ∧ wpG E.P ops Q (depOf ops) n (pend.filter fun x => !depOf ops x.1 j) (listed.setIfInBounds j true) (a.put o.dst v) w := by
          refine ⟨fun x hx _ => hp.now x hx, drawD_sound hT hsel hQp hQ f _ s' N G _ _ n _ ρ _ w hk hS' (hR.set hlt) (by omega) (fun x hx => ?_)⟩
          obtain ⟨q1, q2⟩ := hfl x hx
          rcases hp x q1 with h | ⟨id, h1, h2, h3⟩
          · exact .inl h
          · exact .inr ⟨id, wRest_mem q2 h1, h2, h3⟩
        unfold wpOp
        simp only [ho]
        rcases hrun with ⟨hw, hrun⟩ | ⟨hw, rfl⟩
        · rw [if_pos hw]
          left
          unfold Oper.wp
          rw [hrun w (Same.refl _ _ _ _)]
          exact hnext
        · rw [if_neg (by rw [hw]; simp)]
          exact hnext

end
end Go.Sx

/-
  Code, loops, and the function rule.
-/
namespace Go.Sx
set_option linter.unusedVariables false
set_option linter.unusedSimpArgs false
open Go
open Go.RowKit

inductive Ex where
  | normal
  | exit (id : Nat)
  | ret

/-- A loop: its head's states, whatever the round, and what becomes less. -/
structure LoopG (N0 : Nat) (s : Slots) (N : Nat) (G : Heap) (F : Slots → Nat → Heap → (Slots → Nat → Heap → Prop) → Prop) : Prop where
  ex : ∃ (α : Type) (p : α → Prop) (S : α → Slots × Nat × Heap) (μ : α → Nat) (R : α → Slots → Nat → Heap → Prop), (∀ a s N G, R a s N G → Sub N0 s N G (S a).1 (S a).2.1 (S a).2.2) ∧ (∃ a, p a ∧ R a s N G) ∧
      ∀ a, p a → F (S a).1 (S a).2.1 (S a).2.2 fun s N G => ∃ b, p b ∧ μ b < μ a ∧ R b s N G

/-! ### The slots that are still wanted behind a region (none named: all) -/
def rmK (t : Nat) : List Nat → (List Nat → Prop) → Prop
  | [], K => K []
  | k :: r, K => bif Nat.beq k t then rmK t r K else rmK t r fun r' => K (k :: r')
def trimS : List Nat → Slots → (Slots → Prop) → Prop
  | _, [], K => K []
  | ks, (t, v) :: r, K => bif memB ks t then rmK t ks fun ks' => trimS ks' r fun r' => K ((t, v) :: r') else trimS ks r K
def trimK (ks : List Nat) (s : Slots) (K : Slots → Prop) : Prop :=
  match ks with
  | [] => K s
  | k :: r => trimS (k :: r) s K
theorem rmK_spec {t : Nat} : ∀ {l : List Nat} {K : List Nat → Prop}, rmK t l K → ∃ l', K l' ∧ ∀ i, memB l i = false → memB l' i = false
  | [], K, h => ⟨[], h, fun _ h => h⟩
  | k :: r, K, h => by
    simp only [rmK] at h
    cases hb : Nat.beq k t with
    | true =>
      simp only [hb, cond_true] at h
      obtain ⟨l', h1, h3⟩ := rmK_spec h
      refine ⟨l', h1, fun i hi => h3 i ?_⟩
      simp only [memB] at hi
      cases hk : Nat.beq k i with
      | true => rw [hk] at hi; cases hi
      | false => rw [hk] at hi; exact hi
    | false =>
      simp only [hb, cond_false] at h
      obtain ⟨l', h1, h3⟩ := rmK_spec h
      refine ⟨k :: l', h1, fun i hi => ?_⟩
      simp only [memB] at hi ⊢
      cases hk : Nat.beq k i with
      | true => rw [hk] at hi; cases hi
      | false => rw [hk] at hi; exact h3 i hi
theorem trimS_spec : ∀ {s : Slots} {ks : List Nat} {K : Slots → Prop}, trimS ks s K → ∃ s', K s' ∧ (∀ t, look s' t = look s t ∨ look s' t = .top) ∧ ∀ t, memB ks t = false → look s' t = .top
  | [], ks, K, h => ⟨[], by cases ks <;> exact h, fun t => .inl rfl, fun _ _ => rfl⟩
  | (t, v) :: r, ks, K, h => by
    simp only [trimS] at h
    cases hb : memB ks t with
    | true =>
      simp only [hb, cond_true] at h
      obtain ⟨ks', h, h2⟩ := rmK_spec h
      obtain ⟨s', h3, h4, h5⟩ := trimS_spec h
      refine ⟨_, h3, fun i => ?_, fun i hi => ?_⟩
      · simp only [look]
        cases hti : Nat.beq t i with
        | true => exact .inl rfl
        | false => exact h4 i
      · simp only [look]
        cases hti : Nat.beq t i with
        | true =>
          have := Nat.eq_of_beq_eq_true hti
          subst this
          rw [hb] at hi
          cases hi
        | false => exact h5 i (h2 i hi)
    | false =>
      simp only [hb, cond_false] at h
      obtain ⟨s', h3, h4, h5⟩ := trimS_spec h
      refine ⟨s', h3, fun i => ?_, h5⟩
      simp only [look]
      cases hti : Nat.beq t i with
      | true =>
        have := Nat.eq_of_beq_eq_true hti
        subst this
        exact .inr (h5 t hb)
      | false => exact h4 i
theorem trimK_spec {ks : List Nat} {s : Slots} {K : Slots → Prop} (h : trimK ks s K) : ∃ s', K s' ∧ ∀ t, look s' t = look s t ∨ look s' t = .top := by
  cases ks with
  | nil => exact ⟨s, h, fun _ => .inl rfl⟩
  | cons k r =>
    obtain ⟨s', h1, h2, _⟩ := trimS_spec h
    exact ⟨s', h1, h2⟩
theorem St.trim {E : Env} {B : Entry} {s s' : Slots} {N : Nat} {G : Heap} {a : Act} {w : World} (h : St E B s N G a w) (hs : ∀ t, look s' t = look s t ∨ look s' t = .top) : St E B s' N G a w := by
  obtain ⟨⟨ρ, h1, h2⟩, h3, h4⟩ := h
  refine ⟨⟨ρ, fun t => ?_, h2⟩, h3, h4⟩
  rcases hs t with e | e
  · rw [e]; exact h1 t
  · rw [e]; simp only [VR]

/-- The second heap is another reading of the first one. -/
structure Conv (N1 : Nat) (G1 : Heap) (N' : Nat) (G' : Heap) : Prop where
  h : ∀ (ρ : Rho) (w : World), HeapRep ρ N1 G1 w → N1 ≤ N' ∧ ∃ ρ' : Rho, (∀ id, id < N1 → ρ' id = ρ id) ∧ HeapRep ρ' N' G' w ∧ ∀ b, Owns ρ' G' b → Owns ρ G1 b
theorem St.conv {E : Env} {B : Entry} {s : Slots} {N N' : Nat} {G G' : Heap} {a : Act} {w : World} (hS : St E B s N G a w) (h : Conv N G N' G') : St E B s N' G' a w := by
  obtain ⟨⟨ρ, hs, hH, hN, hag, hfr, hown⟩, hz, hdf⟩ := hS
  obtain ⟨h1, ρ', h2, h3, h4⟩ := h.h ρ w hH
  exact ⟨⟨ρ', fun t => (hs t).mono h1 h2, h3, Nat.le_trans hN h1, fun id hid => (h2 id (Nat.lt_of_lt_of_le hid hN)).trans (hag id hid), hfr, fun b hb => hown b (h4 b hb)⟩, hz, hdf⟩
/-- Two states of which the second is the first, an instance of it, or another reading of it. -/
structure CutS (N0 : Nat) (s1 : Slots) (N1 : Nat) (G1 : Heap) (s' : Slots) (N' : Nat) (G' : Heap) : Prop where
  h : (s1 = s' ∧ N1 = N' ∧ G1 = G') ∨ Sub N0 s1 N1 G1 s' N' G' ∨ (s1 = s' ∧ Conv N1 G1 N' G')
/-- Whatever the order, one state: what comes behind it is looked at once. -/
structure CutG (N0 : Nat) (F : (Slots → Nat → Heap → Prop) → Prop) (K : Slots → Nat → Heap → Prop) : Prop where
  h : F K ∨ ∃ s' N' G', F (fun s1 N1 G1 => CutS N0 s1 N1 G1 s' N' G') ∧ K s' N' G'
theorem cut_auto {N0 : Nat} {F : (Slots → Nat → Heap → Prop) → Prop} {K : Slots → Nat → Heap → Prop} {s' : Slots} {N' : Nat} {G' : Heap} (h1 : F (fun s1 N1 G1 => CutS N0 s1 N1 G1 s' N' G')) (h2 : K s' N' G') : CutG N0 F K :=
  ⟨.inr ⟨s', N', G', h1, h2⟩⟩

def ev (E : Env) (N0 : Nat) : Code → Slots → Nat → Heap → (Ex → Slots → Nat → Heap → Prop) → Prop
  | .skip, s, N, G, Q => Q .normal s N G
  | .region _ ops draw, s, N, G, Q => match draw with
    | true => bif noSel ops.toList && E.P.follows .mixedOrders then CutG N0 (fun K => drawD E ops ops.toList (ops.toList.length + 1) [] s N G [] fun s N G => trimK E.keep s fun s => K s N G) (fun s N G => Q .normal s N G) else False
    | false => runOps E ops.toList ops.toList s N G fun s N G => trimK E.keep s fun s => Q .normal s N G
  | .seq x y, s, N, G, Q => ev E N0 x s N G fun e s N G => match e with
    | .normal => ev E N0 y s N G Q
    | .exit i => Q (.exit i) s N G
    | .ret => Q .ret s N G
  | .cond c x y, s, N, G, Q => match ao s c with
    | .bool b => cond b (ev E N0 x s N G Q) (ev E N0 y s N G Q)
    | _ => False
  | .block id x, s, N, G, Q => ev E N0 x s N G fun e s N G => match e with
    | .normal => Q .normal s N G
    | .exit i => bif Nat.beq i id then Q .normal s N G else Q (.exit i) s N G
    | .ret => Q .ret s N G
  | .loop x, s, N, G, Q => LoopG N0 s N G fun s N G k => ev E N0 x s N G fun e s N G => match e with
      | .normal => k s N G
      | .exit i => Q (.exit i) s N G
      | .ret => Q .ret s N G
  | .exit id, s, N, G, Q => Q (.exit id) s N G
  | .ret, s, N, G, Q => Q .ret s N G
  | .label _, s, N, G, Q => Q .normal s N G
  | _, _, _, _, _ => False

section
variable {E : Env} {B : Entry}

def postOf (E : Env) (B : Entry) (Q : Ex → Slots → Nat → Heap → Prop) : Exit → Act → World → Prop
  | .normal, a, w => ∃ s N G, Q .normal s N G ∧ St E B s N G a w
  | .exit i, a, w => ∃ s N G, Q (.exit i) s N G ∧ St E B s N G a w
  | .ret, a, w => ∃ s N G, Q .ret s N G ∧ St E B s N G a w
  | _, _, _ => False

/-- A loop whose relation bears its own measure. -/
theorem wp_loop_ghost {P : Program} {Q : Exit → Act → World → Prop} {c : Code} (I : Nat → Act → World → Prop)
    (round : ∀ n a w, I n a w → c.wp P (Exit.then (fun a' w' => ∃ m, m < n ∧ I m a' w') Q) a w) : ∀ n a w, I n a w → (Code.loop c).wp P Q a w := by
  have key : ∀ n a w, I n a w → ∀ (b : Frame) (k : List Item) (cs : List Frame), ∃ e a' w', Q e a' w' ∧ Arrives P (lone (b.at a (.code c :: .inLoop c :: k)) cs w) b k cs e a' w' := by
    intro n
    induction n using Nat.strongRecOn with
    | _ n ih =>
      intro a w hI b k cs
      obtain ⟨e, a1, w1, hq, harr⟩ := round n a w hI b (.inLoop c :: k) cs
      cases e with
      | normal =>
        obtain ⟨m, hlt, hm⟩ := hq
        obtain ⟨e2, a2, w2, hq2, harr2⟩ := ih m hlt a1 w1 hm b k cs
        exact ⟨e2, a2, w2, hq2, .of_steps (Steps.trans harr (.one step_inLoop)) harr2⟩
      | exit id => exact ⟨_, a1, w1, hq, .pass (x := .inLoop c) rfl (fun _ _ => .inl (by simp)) harr⟩
      | goto l => exact ⟨_, a1, w1, hq, .pass (x := .inLoop c) rfl (fun _ _ => .inl (by simp)) harr⟩
      | ret => exact ⟨_, a1, w1, hq, .pass (x := .inLoop c) rfl (fun _ _ => .inl (by simp)) harr⟩
      | panic ch => exact ⟨_, a1, w1, hq, .pass (x := .inLoop c) rfl (fun _ _ => .inl (by simp)) harr⟩
      | outgrown => exact ⟨_, a1, w1, hq, .pass (x := .inLoop c) rfl (fun _ _ => .inl (by simp)) harr⟩
  intro n a w hI b k cs
  obtain ⟨e, a', w', hq, harr⟩ := key n a w hI b k cs
  exact ⟨e, a', w', hq, .of_steps (.one step_loop) harr⟩

theorem ev_sound (hT : TblOK E.P E.T) : ∀ (c : Code) (s : Slots) (N : Nat) (G : Heap) (Q : Ex → Slots → Nat → Heap → Prop) (a : Act) (w : World), ev E B.N c s N G Q → St E B s N G a w → c.wp E.P (postOf E B Q) a w
  | .skip, s, N, G, Q, a, w, h, hS => wp_skip ⟨s, N, G, h, hS⟩
  | .region id ops draw, s, N, G, Q, a, w, h, hS => by
    simp only [ev] at h
    cases draw with
    | true =>
      simp only at h
      cases hb : (noSel ops.toList && E.P.follows .mixedOrders) with
      | false => simp only [hb, cond_false] at h
      | true =>
        simp only [hb, cond_true] at h
        simp only [Bool.and_eq_true] at hb
        obtain ⟨ρ, hR⟩ := hS.str
        have hR' : StR E B ρ s N G a { w with drawn := w.drawn + 1 } := ⟨hR.hs, hR.hH.frame (frame_drew w) (fun _ _ _ _ _ _ h => h), hR.hN, hR.hag, hR.hfr.trans (frame_drew w) (fun _ _ h => h.elim), hR.hown, hR.size, hR.defers⟩
        refine wp_region_any hb.2 (wpAny_of_wpG (dep := depOf ops) _ [] _ _ _ ?_)
        obtain ⟨K', h, hK'⟩ : ∃ K' : Slots → Nat → Heap → Prop, drawD E ops ops.toList (ops.toList.length + 1) [] s N G [] K' ∧ ∀ s' N' G' a' w', K' s' N' G' → St E B s' N' G' a' w' → postOf E B Q .normal a' w' := by
          rcases h.h with h | ⟨s0, N0, G0, h, hk⟩
          · refine ⟨_, h, fun s' N' G' a' w' hk hS' => ?_⟩
            obtain ⟨s2, hk, ht⟩ := trimK_spec hk
            exact ⟨s2, N', G', hk, hS'.trim ht⟩
          · refine ⟨_, h, fun s' N' G' a' w' hc hS' => ⟨s0, N0, G0, hk, ?_⟩⟩
            obtain ⟨s2, hc, ht⟩ := trimK_spec hc
            replace hS' := hS'.trim ht
            rcases hc.h with ⟨rfl, rfl, rfl⟩ | hc | ⟨rfl, hv⟩
            · exact hS'
            · exact hS'.forget hc
            · exact hS'.conv hv
        refine drawD_sound (B := B) hT hb.1 (fun c a w hq => hq) hK' _ [] s N G [] _ _ [] ρ a _ h hR' ⟨by simp, fun i => ?_⟩ ?_ (fun x hx => by cases hx)
        · simp only [memB, Array.getD_eq_getD_getElem?, Array.getElem?_replicate]
          split <;> rfl
        · simp only [unl]
          refine Nat.le_trans List.count_le_length ?_
          simp
    | false =>
      refine wp_region ?_
      have := runOps_sound (B := B) hT (ops := ops) (K := fun s N G => trimK E.keep s fun s => Q .normal s N G) (Q := postOf E B Q) (fun s' N' G' a' w' hk hS' => by obtain ⟨s2, hk, ht⟩ := trimK_spec hk; exact ⟨s2, N', G', hk, hS'.trim ht⟩) ops.size 0 s N G a w (by omega) (by simpa using h) hS
      rwa [← List.range_eq_range'] at this
  | .seq x y, s, N, G, Q, a, w, h, hS => by
    simp only [ev] at h
    refine wp_seq (wp_mono (ev_sound hT x s N G _ a w h hS) fun e a' w' hq => ?_)
    cases e with
    | normal =>
      obtain ⟨s', N', G', h1, h2⟩ := hq
      exact ev_sound hT y s' N' G' Q a' w' h1 h2
    | exit i => exact hq
    | ret => exact hq
    | goto _ => exact hq
    | panic _ => exact hq
    | outgrown => exact hq
  | .cond c x y, s, N, G, Q, a, w, h, hS => by
    simp only [ev] at h
    split at h
    case h_2 => exact h.elim
    rename_i b hb
    obtain ⟨ρ, hs, _⟩ := hS.ex
    have hv := VR_ao hs c
    rw [hb] at hv
    simp only [VR] at hv
    refine wp_cond hv ?_
    cases b with
    | true => exact ev_sound hT x s N G Q a w h hS
    | false => exact ev_sound hT y s N G Q a w h hS
  | .block id x, s, N, G, Q, a, w, h, hS => by
    simp only [ev] at h
    refine wp_block (wp_mono (ev_sound hT x s N G _ a w h hS) fun e a' w' hq => ?_)
    cases e with
    | normal => exact hq
    | exit i =>
      obtain ⟨s', N', G', h1, h2⟩ := hq
      simp only [Exit.inBlock]
      simp only at h1
      cases hb : Nat.beq i id with
      | true =>
        simp only [hb, cond_true] at h1
        rw [if_pos (Nat.eq_of_beq_eq_true hb)]
        exact ⟨s', N', G', h1, h2⟩
      | false =>
        simp only [hb, cond_false] at h1
        rw [if_neg (fun e => by subst e; simp at hb)]
        exact ⟨s', N', G', h1, h2⟩
    | ret => exact hq
    | goto _ => exact hq
    | panic _ => exact hq
    | outgrown => exact hq
  | .loop x, s, N, G, Q, a, w, h, hS => by
    simp only [ev] at h
    obtain ⟨α, p, S, μ, R, hR, ⟨a0, hp0, hsub⟩, hround⟩ := h.ex
    refine wp_loop_ghost (fun n a w => ∃ g, p g ∧ μ g = n ∧ St E B (S g).1 (S g).2.1 (S g).2.2 a w) (fun n a w hI => ?_) (μ a0) a w ⟨a0, hp0, rfl, hS.forget (hR _ _ _ _ hsub)⟩
    obtain ⟨g, hg, hμ, hSt⟩ := hI
    refine wp_mono (ev_sound hT x (S g).1 (S g).2.1 (S g).2.2 _ a w (hround g hg) hSt) fun e a' w' hq => ?_
    cases e with
    | normal =>
      obtain ⟨s', N', G', ⟨b, hb, hlt, hsub'⟩, hS'⟩ := hq
      exact ⟨μ b, hμ ▸ hlt, b, hb, rfl, hS'.forget (hR _ _ _ _ hsub')⟩
    | exit i => exact hq
    | ret => exact hq
    | goto _ => exact hq
    | panic _ => exact hq
    | outgrown => exact hq
  | .exit id, s, N, G, Q, a, w, h, hS => wp_exit ⟨s, N, G, h, hS⟩
  | .ret, s, N, G, Q, a, w, h, hS => wp_ret ⟨s, N, G, h, hS⟩
  | .label _, s, N, G, Q, a, w, h, hS => wp_label ⟨s, N, G, h, hS⟩
  | .rangeFunc _ _ _ _, _, _, _, _, _, _, h, _ => by simp only [ev] at h
  | .scope _, _, _, _, _, _, _, h, _ => by simp only [ev] at h
  | .goto _, _, _, _, _, _, _, h, _ => by simp only [ev] at h
  | .refuse _, _, _, _, _, _, _, h, _ => by simp only [ev] at h

/-! ### The function rule -/
def initSlots : Nat → List AV → Slots
  | _, [] => []
  | i, v :: r => (i, v) :: initSlots (i + 1) r

/-- What is handed back. -/
def resK (s : Slots) : List ResultVar → (Cnd → List AV → Prop) → Heap → Tbl → Prop
  | [], K, _, _ => K none []
  | .tmp t :: r, K, G, T => forceK (look s t) fun v => resK s r (fun C vs => K C (v :: vs)) G T
  | .cell p t :: r, K, G, T => qLoad T G t (look s p) fun C v => forceK v fun v => resK s r (fun C' vs => K (cAnd C C') (v :: vs)) G T
def retV : List AV → AV
  | [v] => v
  | vs => .tuple vs

/-- The end of a call: the result, and what of the heap is told (the rest is forgotten, under other names). -/
def RetVC (E : Env) (rs : List ResultVar) (s : Slots) (N : Nat) (G : Heap) (R : AV → Nat → Heap → Prop) : Prop :=
  resK s rs (fun C vs => need C (R (retV vs) N G)) G E.T

theorem look_init (ρ : Rho) (N : Nat) : ∀ (as : List AV) (vs : List Value) (i : Nat), VRL ρ N as vs → ∀ t, VR ρ N (look (initSlots i as) t) (if i ≤ t then vs.getD (t - i) undef else undef)
  | [], vs, i, h, t => by simp only [initSlots, look, VR]
  | a :: as, vs, i, h, t => by
    simp only [VRL] at h
    obtain ⟨v, r, rfl, h1, h2⟩ := h
    simp only [initSlots, look]
    cases hb : Nat.beq i t with
    | true =>
      have := Nat.eq_of_beq_eq_true hb
      subst this
      simpa using h1
    | false =>
      have hne : i ≠ t := fun e => by subst e; simp at hb
      have := look_init ρ N as r (i + 1) h2 t
      simp only [cond_false]
      by_cases hle : i ≤ t
      · rw [if_pos hle]
        rw [if_pos (by omega)] at this
        rw [show t - i = (t - (i + 1)) + 1 by omega]
        simpa using this
      · rw [if_neg hle]
        rw [if_neg (by omega)] at this
        exact this

theorem resK_sound (hT : TblOK E.P E.T) {ρ : Rho} {N : Nat} {G : Heap} {w : World} (hH : HeapRep ρ N G w) {s : Slots} {a : Act} (hs : ∀ t, VR ρ N (look s t) (a.tmps.getD t undef)) :
    ∀ (rs : List ResultVar) (K : Cnd → List AV → Prop), resK s rs K G E.T → ∃ C vs, K C vs ∧ (C.holds → ∃ us : List Value, VRL ρ N vs us ∧
      (rs.mapM (m := Sem) fun x => match x with | .tmp t => pure (a.tmps.getD t undef) | .cell p t => do loadVar t (← asAddr (a.tmps.getD p undef))).run E.P w = .ok us w)
  | [], K, h => ⟨_, _, h, fun _ => ⟨[], by simp [VRL], by simp⟩⟩
  | .tmp t :: r, K, h => by
    simp only [resK] at h
    obtain ⟨C, vs, hK, hr⟩ := resK_sound hT hH hs r _ (forceK_eq h)
    refine ⟨_, _, hK, fun hc => ?_⟩
    obtain ⟨us, h1, h2⟩ := hr hc
    refine ⟨a.tmps.getD t undef :: us, by simp only [VRL]; exact ⟨_, _, rfl, hs t, h1⟩, ?_⟩
    simp only [List.mapM_cons, Sem.run_bind, Sem.run_pure, Result.andThen_ok, h2]
  | .cell p t :: r, K, h => by
    simp only [resK] at h
    have hq : quiet E.T (fun x => match x with | .tmp p => look s p | _ => .top) G (.load t (.tmp p)) (fun C v => forceK v fun v => resK s r (fun C' vs => K (cAnd C C') (v :: vs)) G E.T) := h
    obtain ⟨C, v, h, hrun⟩ := quiet_sound (a := a) (o := ⟨none, .load t (.tmp p), 0, "", #[], none⟩) hT hH (fun x => by cases x <;> simp only [VR]; exact hs _) hq
    obtain ⟨C', vs, hK, hr⟩ := resK_sound hT hH hs r _ (forceK_eq h)
    refine ⟨_, _, hK, fun hc => ?_⟩
    obtain ⟨c1, c2⟩ := cAnd_holds hc
    obtain ⟨us, h1, h2⟩ := hr c2
    obtain ⟨cv, q1, q2⟩ := hrun c1
    refine ⟨cv :: us, by simp only [VRL]; exact ⟨_, _, rfl, q1, h1⟩, ?_⟩
    have hv := hs p
    have hl : (Instr.loadAt t (a.tmps.getD p undef)).run E.P w = .ok cv w := by
      simp only [execOp, Act.eval, Sem.run_bind] at q2
      cases hr : (Instr.loadAt t (a.tmps.getD p undef)).run E.P w with
      | ok x w1 => rw [hr] at q2; simp at q2; rw [q2.1, q2.2]
      | halt x w1 => rw [hr] at q2; simp at q2
    have hp : ∃ A, a.tmps.getD p undef = .pointer (some A) := by
      simp only [quiet, qLoad] at hq
      split at hq
      case h_2 => exact hq.elim
      split at hq
      case h_2 => exact hq.elim
      rename_i hlk
      rw [hlk] at hv
      simp only [VR] at hv
      exact ⟨_, hv.2⟩
    obtain ⟨A, hA⟩ := hp
    rw [hA] at hl
    have hl' : (loadVar t A).run E.P w = .ok cv w := by
      simpa only [Instr.loadAt, Instr.sureAddr, Sem.run_bind, Sem.run_pure, Result.andThen_ok] using hl
    have hasA : (asAddr (.pointer (some A)) : Sem Addr) = pure A := rfl
    have hhd : Sem.run E.P (do loadVar t (← asAddr (a.tmps.getD p undef))) w = .ok cv w := by
      rw [hA, hasA]; simpa only [Sem.run_bind, Sem.run_pure, Result.andThen_ok] using hl'
    simp only [List.mapM_cons, Sem.run_bind] at hhd ⊢
    simp only [hhd, Result.andThen_ok, h2, Sem.run_pure]

/-- The frame's act at the entrance. -/
theorem st_enter {E : Env} {ρ : Rho} {N : Nat} {G : Heap} {w : World} (hgk : GOK ρ G w) (hH : HeapRep ρ N G w) {args : List AV} {cargs : List Value} (hv : VRL ρ N args cargs) (hle : Nat.ble args.length E.nt = true) :
    St E ⟨ρ, N, G, w, hgk⟩ (initSlots 0 args) N G { tmps := cargs.toArray ++ Array.replicate (E.nt - cargs.toArray.size) undef, defers := [] } w := by
  have hl := hv.length
  have hle := Nat.le_of_ble_eq_true hle
  refine ⟨⟨ρ, fun t => ?_, hH, Nat.le_refl _, fun _ _ => rfl, FrameW.refl _ _, fun b h => .inr h⟩, by simp; omega, rfl⟩
  have := look_init ρ N args cargs 0 hv t
  simp only [Nat.zero_le, if_true, Nat.sub_zero] at this
  have he : (cargs.toArray ++ Array.replicate (E.nt - cargs.toArray.size) (undef : Value)).getD t undef = cargs.getD t undef := by
    simp only [Array.getD_eq_getD_getElem?, List.getD_eq_getElem?_getD, Array.getElem?_append, List.size_toArray, Array.getElem?_replicate]
    by_cases h : t < cargs.length
    · simp [h]
    · simp only [h, if_false, List.getElem?_eq_none (Nat.le_of_not_lt h)]
      split <;> rfl
  rw [he]
  exact this

theorem acall_of_ev {ks : List Nat} {P : Program} {T : Tbl} (hT : TblOK P T) {f : Nat} {fn : Func} {c : Code} (hf : P.funcs[f]? = some fn) (hb : fn.body = some c) (hok : FnOK P f) {args : List AV} {N : Nat} {G : Heap} {K : AV → Nat → Heap → Prop}
    (hle : Nat.ble args.length fn.ntmps = true) {R : AV → Nat → Heap → Prop} (hR : ∀ rv N' G', R rv N' G' → ∃ v' N2 G2, Sub N [(0, rv)] N' G' [(0, v')] N2 G2 ∧ K v' N2 G2)
    (h : ev ⟨P, T, fn.ntmps, ks⟩ N c (initSlots 0 args) N G (fun e s N' G' => match e with
      | .exit _ => False
      | _ => RetVC ⟨P, T, fn.ntmps, ks⟩ fn.results.toList s N' G' R)) : ACall P f args N G K := by
  refine ⟨hok, fun ρ w cargs hgk hH hv => ?_⟩
  refine calls_of_wp hf hb ?_
  have := ev_sound (E := ⟨P, T, fn.ntmps, ks⟩) (B := ⟨ρ, N, G, w, hgk⟩) hT c _ N G _ _ w h (st_enter hgk hH hv hle)
  refine wp_mono this fun e a' w' hq => ?_
  have key : ∀ {s N' G'}, RetVC ⟨P, T, fn.ntmps, ks⟩ fn.results.toList s N' G' R → St ⟨P, T, fn.ntmps, ks⟩ ⟨ρ, N, G, w, hgk⟩ s N' G' a' w' → a'.defers = [] ∧ ∃ v, (results fn a'.tmps).run P w' = .ok v w' ∧ (∃ u, Ending.returned v = .returned u ∧ Out ρ N G w K u w') := fun {s N' G'} hr hS => by
    obtain ⟨⟨ρ', hs, hH', hN, hag, hfr, hown⟩, hz, hdf⟩ := hS
    refine ⟨hdf, ?_⟩
    obtain ⟨C, vs, hK, hrun⟩ := resK_sound (E := ⟨P, T, fn.ntmps, ks⟩) hT hH' hs fn.results.toList _ hr
    obtain ⟨hc, hK⟩ := need_spec hK
    obtain ⟨v', N2, G2, ⟨m, z, h1, h2, h3⟩, hK⟩ := hR _ _ _ hK
    obtain ⟨us, hu, hrun⟩ := hrun hc
    obtain ⟨hb1, _⟩ := bcond h1
    simp only [Bool.and_eq_true, Nat.ble_eq] at hb1
    obtain ⟨⟨⟨b1, b2⟩, b3⟩, b4⟩ := hb1
    obtain ⟨q1, q2⟩ := hH'.forget h3 b4
    simp only [slotsLe, look, cond_true, Nat.beq_refl, and_true] at h2
    have hl := hu.length
    refine ⟨if h : us.toArray.size = 1 then us.toArray[0] else .tuple us.toArray, ?_, _, rfl, ?_⟩
    · unfold results
      simp only [Array.mapM_eq_mapM_toList, map_eq_pure_bind, Sem.run_bind]
      simp only [Sem.run_pure]
      exact congrArg (fun r => (Result.andThen (Result.andThen r fun a w' => .ok (List.toArray a) w') fun (a : Array Value) w' => .ok (if h : a.size = 1 then a[0] else .tuple a) w')) hrun
    · have hret : VR ρ' N' (retV vs) (if h : us.toArray.size = 1 then us.toArray[0] else .tuple us.toArray) := by
        match vs, us, hu with
        | [], [], _ => simp [retV, VR, VRL]
        | [v], [u], hu =>
          simp only [VRL] at hu
          obtain ⟨_, _, e, h1, h2⟩ := hu
          simp only [List.cons.injEq] at e
          obtain ⟨rfl, _⟩ := e
          simpa [retV] using h1
        | v :: v2 :: r, u :: u2 :: q, hu =>
          have hne : ¬ (u :: u2 :: q).toArray.size = 1 := by simp
          rw [dif_neg hne]
          simp only [retV, VR]
          exact ⟨_, rfl, hu⟩
        | [], _ :: _, hu => exact absurd hu.length (by simp)
        | [_], [], hu => exact absurd hu.length (by simp)
        | [_], _ :: _ :: _, hu => exact absurd hu.length (by simp)
        | _ :: _ :: _, [], hu => exact absurd hu.length (by simp)
        | _ :: _ :: _, [_], hu => exact absurd hu.length (by simp)
      refine ⟨⟨v', _, N2, G2, hK, AV.le_sound (G' := G2) _ _ _ h2 hret, q1, b3, fun id hid => ?_, hfr, fun b hb => hown b (q2 b hb)⟩⟩
      funext p
      have hz0 : memB z id = false := memB_ge b2 hid
      have hm0 : mlook m id = id := mlook_ge b1 hid
      simp only [reρ, hz0, Bool.false_eq_true, if_false, hm0]
      exact congrFun (hag id hid) p
  cases e with
  | normal =>
    obtain ⟨s, N', G', h1, h2⟩ := hq
    exact key h1 h2
  | exit i =>
    obtain ⟨s, N', G', h1, h2⟩ := hq
    exact h1.elim
  | ret =>
    obtain ⟨s, N', G', h1, h2⟩ := hq
    exact key h1 h2
  | goto _ => exact hq.elim
  | panic _ => exact hq.elim
  | outgrown => exact hq.elim

end
end Go.Sx

/-
  A contract that is proved over a small heap holds over every greater one: the frame rule.
-/
namespace Go.Sx
set_option linter.unusedVariables false
set_option linter.unusedSimpArgs false
open Go
open Go.RowKit

/-! ### Renaming objects -/
def Flat.ren (m : Nat → Nat) : Flat → Flat
  | .gen sz rws => .gen sz (rws.map (AV.renL m))
  | .ints k xs => .ints k xs
  | .r2 xs => .r2 xs
  | .r3 xs => .r3 xs
  | .r4 xs => .r4 xs
  | .bools xs => .bools xs
  | .strs xs => .strs xs
  | .rows M off n => .rows (m M) off n
  | .bld t p s => .bld t (p.ren m) (s.ren m)
  | .tby t xs => .tby t xs
  | .tops n => .tops n
  | .rowl M is => .rowl (m M) is
def AObj.ren (m : Nat → Nat) : AObj → AObj
  | .flat o f => .flat o (f.ren m)
  | .nestI o k xss => .nestI o k xss
  | .nestR2 o xss => .nestR2 o xss
  | .nestH o R segs => .nestH o (m R) segs
  | .mp m => .mp m
  | .it c s l => .it c s l

theorem AV.renL_getD (m : Nat → Nat) : ∀ (l : List AV) (j : Nat), (AV.renL m l).getD j .top = (l.getD j .top).ren m
  | [], j => by simp [AV.renL, AV.ren]
  | a :: r, 0 => by simp [AV.renL]
  | a :: r, j + 1 => by simpa [AV.renL] using AV.renL_getD m r j
theorem Flat.ren_cell (m : Nat → Nat) (f : Flat) (i j : Nat) : (f.ren m).cell i j = (f.cell i j).ren m := by
  cases f <;> simp only [Flat.ren, Flat.cell, AV.ren]
  case bld t p s =>
    match j with
    | 0 => rfl
    | 1 => rfl
    | j + 2 => simp [AV.ren]
  rename_i sz rows
  have : (rows.map (AV.renL m)).getD i [] = AV.renL m (rows.getD i []) := by
    simp only [List.getD_eq_getElem?_getD, List.getElem?_map]
    cases rows[i]? <;> simp [AV.renL]
  rw [this, AV.renL_getD]
theorem Flat.ren_n (m : Nat → Nat) (f : Flat) : (f.ren m).n = f.n := by
  cases f <;> simp [Flat.ren, Flat.n]
theorem Flat.ren_ty (m : Nat → Nat) (f : Flat) : (f.ren m).ty = f.ty := by
  cases f <;> rfl
theorem Flat.ren_sz (m : Nat → Nat) (f : Flat) : (f.ren m).sz = f.sz := by
  cases f <;> simp [Flat.ren, Flat.sz]
theorem AObj.ren_own (m : Nat → Nat) (o : AObj) : (o.ren m).own = o.own := by
  cases o <;> rfl
theorem AObj.ren_node {m : Nat → Nat} {o : AObj} {id : Nat} {p : List Nat} {nd : Node} (h : (o.ren m).node (m id) p = some nd) :
    ∃ nd', o.node id p = some nd' ∧ nd.n = nd'.n ∧ nd.sz = nd'.sz ∧ (nd.x = nd'.x ∧ nd.ty = nd'.ty) ∧ ∀ i j, nd.cell i j = (nd'.cell i j).ren m := by
  cases o with
  | flat ow f =>
    cases p with
    | nil =>
      simp only [AObj.ren, AObj.node, Option.some.injEq] at h
      subst h
      exact ⟨_, rfl, Flat.ren_n m f, Flat.ren_sz m f, ⟨rfl, Flat.ren_ty m f⟩, fun i j => Flat.ren_cell m f i j⟩
    | cons _ _ => simp [AObj.ren, AObj.node] at h
  | nestI ow k xss =>
    cases p with
    | nil => simp [AObj.ren, AObj.node] at h
    | cons y r =>
      cases r with
      | nil =>
        simp only [AObj.ren, AObj.node] at h ⊢
        split at h
        · next hlt => injection h with h; subst h; exact ⟨_, by rw [if_pos hlt], rfl, rfl, ⟨rfl, rfl⟩, fun i j => by simp [Flat.node, Flat.cell, AV.ren]⟩
        · cases h
      | cons _ _ => simp [AObj.ren, AObj.node] at h
  | nestR2 ow xss =>
    cases p with
    | nil => simp [AObj.ren, AObj.node] at h
    | cons y r =>
      cases r with
      | nil =>
        simp only [AObj.ren, AObj.node] at h ⊢
        split at h
        · next hlt => injection h with h; subst h; exact ⟨_, by rw [if_pos hlt], rfl, rfl, ⟨rfl, rfl⟩, fun i j => by simp [Flat.node, Flat.cell, AV.ren]⟩
        · cases h
      | cons _ _ => simp [AObj.ren, AObj.node] at h
  | nestH ow R segs =>
    cases p with
    | nil => simp [AObj.ren, AObj.node] at h
    | cons y r =>
      cases r with
      | nil =>
        simp only [AObj.ren, AObj.node] at h ⊢
        split at h
        · next hlt => injection h with h; subst h; exact ⟨_, if_pos hlt, rfl, rfl, ⟨rfl, rfl⟩, fun i j => by simp [Flat.node, Flat.cell, AV.ren]⟩
        · cases h
      | cons _ _ => simp [AObj.ren, AObj.node] at h
  | it c s l =>
    cases p with
    | nil =>
      simp only [AObj.ren, AObj.node, Option.some.injEq] at h
      subst h
      exact ⟨_, rfl, rfl, rfl, ⟨rfl, rfl⟩, fun i j => by simp [AV.ren]⟩
    | cons _ _ => simp [AObj.ren, AObj.node] at h
  | mp mv =>
    cases p with
    | nil =>
      simp only [AObj.ren, AObj.node, Option.some.injEq] at h
      subst h
      exact ⟨_, rfl, rfl, rfl, ⟨rfl, rfl⟩, fun i j => by simp [AV.ren]⟩
    | cons _ _ => simp [AObj.ren, AObj.node] at h

/-! ### The heap behind a call -/
def rN (m : List (Nat × Nat)) (N0 N : Nat) (id : Nat) : Nat := bif Nat.blt id N0 then mlook m id else Nat.add (Nat.sub id N0) N
def ownAt : Heap → Nat → Bool
  | [], _ => false
  | (k, o) :: r, id => bif Nat.beq k id then o.own else ownAt r id
theorem ownAt_eq : ∀ (G : Heap) (id : Nat), ownAt G id = ((hget G id).map AObj.own).getD false
  | [], _ => rfl
  | (k, o) :: r, id => by
    simp only [ownAt, hget]
    cases Nat.beq k id <;> simp [ownAt_eq r id]
/-- The objects that the call made, or was free to turn. -/
def joinA (m : List (Nat × Nat)) (N0 N : Nat) (G0 : Heap) : List Nat → Heap → Heap → Heap
  | _, [], B => B
  | seen, (id, o) :: r, B => bif !memB seen id && o.own && (Nat.ble N0 id || ownAt G0 id) then (rN m N0 N id, o.ren (rN m N0 N)) :: joinA m N0 N G0 (id :: seen) r B else joinA m N0 N G0 (id :: seen) r B
def ownKey (m : List (Nat × Nat)) : Heap → Nat → Bool
  | [], _ => false
  | (id, o) :: r, k => (o.own && Nat.beq (mlook m id) k) || ownKey m r k
/-- Those that it was not. -/
def joinB (m : List (Nat × Nat)) (G0 : Heap) : Heap → Heap
  | [] => []
  | (k, o) :: r => bif ownKey m G0 k then joinB m G0 r else (k, o) :: joinB m G0 r
def join (m : List (Nat × Nat)) (N0 N : Nat) (G0 G' G : Heap) : Heap := joinA m N0 N G0 [] G' (joinB m G0 G)

theorem memB_cons (a : Nat) (l : List Nat) (i : Nat) : memB (a :: l) i = (decide (a = i) || memB l i) := by
  simp only [memB]
  cases h : Nat.beq a i with
  | true => simp [Nat.eq_of_beq_eq_true h]
  | false =>
    have : a ≠ i := fun e => by subst e; simp at h
    simp [this]
theorem joinA_get {m : List (Nat × Nat)} {N0 N : Nat} {G0 B : Heap} : ∀ {G' : Heap} {seen : List Nat} {k : Nat} {o : AObj}, hget (joinA m N0 N G0 seen G' B) k = some o →
    (∃ id o', memB seen id = false ∧ hget G' id = some o' ∧ o'.own = true ∧ (N0 ≤ id ∨ ownAt G0 id = true) ∧ k = rN m N0 N id ∧ o = o'.ren (rN m N0 N)) ∨ hget B k = some o
  | [], _, _, _, h => .inr h
  | (id, x) :: r, seen, k, o, h => by
    have hrec : hget (joinA m N0 N G0 (id :: seen) r B) k = some o → (∃ i o', memB seen i = false ∧ hget ((id, x) :: r) i = some o' ∧ o'.own = true ∧ (N0 ≤ i ∨ ownAt G0 i = true) ∧ k = rN m N0 N i ∧ o = o'.ren (rN m N0 N)) ∨ hget B k = some o := fun h => by
      rcases joinA_get h with ⟨i, o', h1, h2, h3⟩ | h
      · rw [memB_cons] at h1
        simp only [Bool.or_eq_false_iff, decide_eq_false_iff_not] at h1
        exact .inl ⟨i, o', h1.2, by rw [hget_cons, if_neg (Ne.symm h1.1)]; exact h2, h3⟩
      · exact .inr h
    simp only [joinA] at h
    cases hb : (!memB seen id && x.own && (Nat.ble N0 id || ownAt G0 id)) with
    | false => simp only [hb, cond_false] at h; exact hrec h
    | true =>
      simp only [hb, cond_true] at h
      rw [hget_cons] at h
      split at h
      · next he =>
        injection h with h
        simp only [Bool.and_eq_true, Bool.not_eq_true', Bool.or_eq_true] at hb
        refine .inl ⟨id, x, hb.1.1, by rw [hget_cons, if_pos rfl], hb.1.2, hb.2.imp Nat.le_of_ble_eq_true (fun h => h), he, h.symm⟩
      · exact hrec h
theorem joinB_get {m : List (Nat × Nat)} {G0 : Heap} : ∀ {G : Heap} {k : Nat} {o : AObj}, hget (joinB m G0 G) k = some o → hget G k = some o ∧ ownKey m G0 k = false
  | [], _, _, h => by simp [joinB, hget] at h
  | (i, x) :: r, k, o, h => by
    simp only [joinB] at h
    cases hb : ownKey m G0 i with
    | true =>
      simp only [hb, cond_true] at h
      obtain ⟨h1, h2⟩ := joinB_get h
      refine ⟨?_, h2⟩
      rw [hget_cons, if_neg (fun e => by subst e; rw [hb] at h2; cases h2)]
      exact h1
    | false =>
      simp only [hb, cond_false] at h
      rw [hget_cons] at h
      split at h
      · next he => subst he; exact ⟨by rw [hget_cons, if_pos rfl]; exact h, hb⟩
      · next he =>
        obtain ⟨h1, h2⟩ := joinB_get h
        exact ⟨by rw [hget_cons, if_neg he]; exact h1, h2⟩
theorem ownKey_of {m : List (Nat × Nat)} : ∀ {G0 : Heap} {id : Nat} {o : AObj}, hget G0 id = some o → o.own = true → ownKey m G0 (mlook m id) = true
  | [], _, _, h, _ => by simp [hget] at h
  | (i, x) :: r, id, o, h, ho => by
    simp only [ownKey]
    rw [hget_cons] at h
    split at h
    · next he => subst he; injection h with h; subst h; simp [ho]
    · simp [ownKey_of h ho]

def allLt (m : List (Nat × Nat)) (N : Nat) : Nat → Bool
  | 0 => true
  | i + 1 => Nat.blt (mlook m i) N && allLt m N i
theorem allLt_spec {m : List (Nat × Nat)} {N : Nat} : ∀ {n : Nat}, allLt m N n = true → ∀ i, i < n → mlook m i < N
  | 0, _, i, h => by omega
  | n + 1, h, i, hi => by
    simp only [allLt, Bool.and_eq_true, Nat.blt_eq] at h
    rcases Nat.lt_succ_iff_lt_or_eq.1 hi with h1 | h1
    · exact allLt_spec h.2 i h1
    · subst h1; exact h.1

/-- The caller's state is an instance of the state that the contract was proved over. -/
def useC (m : List (Nat × Nat)) (args0 : List AV) (N0 : Nat) (G0 : Heap) (args : List AV) (N : Nat) (G : Heap) : Prop :=
  (bif allLt m N N0 && nodupK (mapKeys ⟨m, [], N0⟩ G0) then True else False) ∧ AV.leL ⟨m, [], N0⟩ args0 args ∧ heapLe ⟨m, [], N0⟩ G0 G

section
variable {P : Program}

theorem ACall.lift {f : Nat} {args0 : List AV} {N0 : Nat} {G0 : Heap} {K0 : AV → Nat → Heap → Prop} (h : ACall P f args0 N0 G0 K0) (m : List (Nat × Nat)) {args : List AV} {N : Nat} {G : Heap} {K : AV → Nat → Heap → Prop}
    (hu : useC m args0 N0 G0 args N G) (hK : ∀ v N' G', K0 v N' G' → N0 ≤ N' → K (v.ren (rN m N0 N)) (Nat.add (Nat.sub N' N0) N) (join m N0 N G0 G' G)) : ACall P f args N G K := by
  refine ⟨h.ok, fun ρ w cargs hgk hH hv => ?_⟩
  obtain ⟨hu1, hargs, hheap⟩ := hu
  obtain ⟨hb, _⟩ := bcond hu1
  simp only [Bool.and_eq_true] at hb
  obtain ⟨b1, b2⟩ := hb
  have hlt := allLt_spec b1
  obtain ⟨hH0, hO0⟩ := hH.forget hheap b2
  have hv0 := AV.leL_sound (G' := G0) _ _ _ hargs hv
  refine (h.run _ w cargs (hgk.sub hO0) hH0 hv0).mono fun e w' ⟨v, he, ho⟩ => ⟨v, he, ?_⟩
  obtain ⟨av, ρ', N', G', hK0, hav, hH', hN, hag, hfr, hown⟩ := ho.ex
  have hm : ∀ id p, reρ ⟨m, [], N0⟩ ρ G0 id p = ρ (mlook m id) p := fun id p => by simp [reρ, memB]
  -- the names
  let ρ2 : Rho := fun id p => if id < N then ρ id p else ρ' (id - N + N0) p
  have hρ2 : ∀ id, id < N' → ρ2 (rN m N0 N id) = ρ' id := fun id hid => by
    funext p
    simp only [rN, ρ2]
    cases hb : Nat.blt id N0 with
    | true =>
      have hb : id < N0 := by simpa [Nat.blt_eq] using hb
      simp only [cond_true]
      rw [if_pos (hlt id hb), hag id hb, hm]
    | false =>
      have hb : ¬ id < N0 := fun h => by rw [show Nat.blt id N0 = true by simpa [Nat.blt_eq] using h] at hb; cases hb
      simp only [cond_false, Nat.add_eq, Nat.sub_eq]
      rw [if_neg (by omega), show id - N0 + N - N + N0 = id by omega]
  have hr : ∀ id, id < N' → rN m N0 N id < Nat.add (Nat.sub N' N0) N := fun id hid => by
    simp only [rN, Nat.add_eq, Nat.sub_eq]
    cases hb : Nat.blt id N0 with
    | true => have := hlt id (by simpa [Nat.blt_eq] using hb); simp only [cond_true]; omega
    | false =>
      have hb : ¬ id < N0 := fun h => by rw [show Nat.blt id N0 = true by simpa [Nat.blt_eq] using h] at hb; cases hb
      simp only [cond_false]; omega
  have hVR : ∀ a c, VR ρ' N' a c → VR ρ2 (Nat.add (Nat.sub N' N0) N) (a.ren (rN m N0 N)) c := fun a c hac =>
    VR.of_ren (ρ := ρ2) (m := rN m N0 N) (N := N') hr a c (VR.mono (Nat.le_refl _) hρ2 a c hac)
  have hρ2N : ∀ id, id < N → ρ2 id = ρ id := fun id hid => by funext p; simp only [ρ2]; rw [if_pos hid]
  have hNN : N ≤ Nat.add (Nat.sub N' N0) N := by simp only [Nat.add_eq, Nat.sub_eq]; omega
  -- the nodes
  have hA : ∀ {k p nd own}, NodeAt (join m N0 N G0 G' G) k p nd own →
      (own = true ∧ ∃ id nd', id < N' ∧ k = rN m N0 N id ∧ NodeAt G' id p nd' true ∧ nd.n = nd'.n ∧ nd.sz = nd'.sz ∧ ((nd.x = nd'.x ∧ nd.ty = nd'.ty) ∧ ∀ i j, nd.cell i j = (nd'.cell i j).ren (rN m N0 N)) ∧ ρ2 k = ρ' id) ∨
      (NodeAt G k p nd own ∧ ownKey m G0 k = false ∧ ρ2 k = ρ k) := fun {k p nd own} hn => by
    obtain ⟨o, h1, h2, h3⟩ := hn.ex
    rcases joinA_get h1 with ⟨id, o', _, q1, q2, _, rfl, rfl⟩ | h1
    · left
      rw [AObj.ren_own] at h3
      obtain ⟨nd', r1, r2, r3, rx, r4⟩ := AObj.ren_node h2
      have hid := hH'.keys id o' q1
      exact ⟨h3 ▸ q2, id, nd', hid, rfl, ⟨⟨o', q1, r1, q2⟩⟩, r2, r3, ⟨rx, r4⟩, hρ2 id hid⟩
    · right
      obtain ⟨h1, h4⟩ := joinB_get h1
      exact ⟨⟨⟨o, h1, h2, h3⟩⟩, h4, hρ2N k (hH.keys k o h1)⟩
  -- what the call may have turned is none of the others
  have hnot : ∀ {k p nd own}, NodeAt G k p nd own → ownKey m G0 k = false → Solid (ρ k p) nd own → ¬ Owns (reρ ⟨m, [], N0⟩ ρ G0) G0 (ρ k p).b := fun {k p nd own} hn hk hs ho => by
    obtain ⟨i, q, nd0, hn0, ht, hb⟩ := ho
    rw [hm] at ht hb
    obtain ⟨o0, g1, g2, g3⟩ := hn0.ex
    obtain ⟨_, g4⟩ := heapLe_get hheap g1
    rcases g4 with ⟨hz, _⟩ | ⟨hz, o1, g5, g6⟩
    · simp [memB] at hz
    · obtain ⟨nd1, g7, _, g8⟩ := AObj.le_node (id := i) g6 ((heapLe_get hheap g1).1) hz g2
      refine hH.sep (mlook m i) q nd1 k p nd own ⟨⟨o1, g5, g7, g8 g3⟩⟩ hn (fun e => ?_) ht hs hb
      rw [← e.1, ownKey_of g1 g3] at hk
      cases hk
  have hAB : ∀ {id p nd k q nd' own'}, NodeAt G' id p nd true → NodeAt G k q nd' own' → ownKey m G0 k = false → 0 < (ρ' id p).tot → Solid (ρ k q) nd' own' → (ρ' id p).b ≠ (ρ k q).b := fun {id p nd k q nd' own'} hn hn' hk ht hs e => by
    rcases hown _ ⟨id, p, nd, hn, ht, rfl⟩ with h1 | h1
    · have := hH.lt hn' hs; omega
    · rw [e] at h1; exact hnot hn' hk hs h1
  refine ⟨⟨_, ρ2, _, _, hK _ _ _ hK0 hN, hVR _ _ hav, ⟨fun k o h1 => ?_, fun k p nd own hn => ?_, fun k p nd own hn => ?_, fun k p nd hn => ?_, fun k p nd k' p' nd' own' hn hn' hne ht hs => ?_⟩, hNN, hρ2N,
    ⟨hfr.os, hfr.tape, hfr.output, hfr.size, fun k hk hno => hfr.block k hk (fun ho => hno (hO0 k ho)), hfr.drawn⟩, fun b hb => ?_⟩⟩
  · rcases joinA_get h1 with ⟨id, o', _, q1, _, _, rfl, _⟩ | h1
    · exact hr id (hH'.keys id o' q1)
    · exact Nat.lt_of_lt_of_le (hH.keys k o (joinB_get h1).1) hNN
  · rcases hA hn with ⟨_, id, nd', hid, rfl, hn', r1, r2, _, r4⟩ | ⟨hn', _, r4⟩
    · rw [r4, r1, r2]; exact hH'.shape id p nd' true hn'
    · rw [r4]; exact hH.shape k p nd own hn'
  · intro i hi j hj
    rcases hA hn with ⟨_, id, nd', hid, rfl, hn', r1, r2, r3, r4⟩ | ⟨hn', hk, r4⟩
    · rw [r4, r2, r3.2]
      obtain ⟨c, c1, c2, c3⟩ := hH'.rd id p nd' true hn' i (r1 ▸ hi) j (r2 ▸ hj)
      exact ⟨c, c1, hVR _ _ c2, c3⟩
    · rw [r4]
      obtain ⟨c, c1, c2, c3⟩ := hH.rd k p nd own hn' i hi j hj
      refine ⟨c, ?_, c2.mono hNN hρ2N, c3⟩
      have hs : Solid (ρ k p) nd own := by
        cases own with
        | false => simp only [Solid, Bool.false_eq_true, if_false]; exact Nat.mul_pos (by omega) (by omega)
        | true =>
          simp only [Solid, if_true]
          rcases hH.ow _ _ _ hn' with ⟨_, h0, _⟩ | ⟨_, _, _, h0⟩
          · omega
          · exact h0
      rw [← c1]
      exact World.cell?_of_block (w := w) (hfr.block _ (hH.lt hn' hs) (hnot hn' hk hs))
  · rcases hA hn with ⟨_, id, nd', hid, rfl, hn', r1, r2, r3, r4⟩ | ⟨hn', hk, r4⟩
    · rw [r4, r1, r3.1.1]
      simp only [Node.blk_congr r3.1.1 r3.1.2]
      exact hH'.ow id p nd' hn'
    · rw [r4]
      rcases hH.ow k p nd hn' with h | ⟨ob, h1, h2, h3⟩
      · exact .inl h
      · have hs : Solid (ρ k p) nd true := by simpa [Solid] using h3
        exact .inr ⟨ob, (hfr.block _ (hH.lt hn' hs) (hnot hn' hk hs)).trans h1, h2, h3⟩
  · rcases hA hn with ⟨_, id, nd1, hid, rfl, hn1, r1, r2, r3, r4⟩ | ⟨hn1, hk, r4⟩
    · rcases hA hn' with ⟨rfl, id', nd2, hid', rfl, hn2, s1, s2, s3, s4⟩ | ⟨hn2, hk', s4⟩
      · rw [r4] at ht ⊢
        rw [s4] at hs ⊢
        refine hH'.sep id p nd1 id' p' nd2 true hn1 hn2 (fun e => hne ⟨by rw [e.1], e.2⟩) ht (by simpa [Solid] using hs)
      · rw [r4] at ht ⊢
        rw [s4] at hs ⊢
        exact hAB hn1 hn2 hk' ht hs
    · rcases hA hn' with ⟨rfl, id', nd2, hid', rfl, hn2, s1, s2, s3, s4⟩ | ⟨hn2, hk', s4⟩
      · rw [r4] at ht ⊢
        rw [s4] at hs ⊢
        exact Ne.symm (hAB hn2 hn1 hk (by simpa [Solid] using hs) (by simpa [Solid] using ht))
      · rw [r4] at ht ⊢
        rw [s4] at hs ⊢
        exact hH.sep k p nd k' p' nd' own' hn1 hn2 hne ht hs
  · obtain ⟨k, p, nd, hn, ht, rfl⟩ := hb
    rcases hA hn with ⟨_, id, nd1, hid, rfl, hn1, r1, r2, r3, r4⟩ | ⟨hn1, hk, r4⟩
    · rw [r4] at ht ⊢
      rcases hown _ ⟨id, p, nd1, hn1, ht, rfl⟩ with h | h
      · exact .inl h
      · exact .inr (hO0 _ h)
    · rw [r4] at ht ⊢
      exact .inr ⟨k, p, nd, hn1, ht, rfl⟩

end
end Go.Sx

/-
  Contracts in their plain form (one value, one heap), and renamings found by program.
-/
namespace Go.Sx
set_option linter.unusedVariables false
set_option linter.unusedSimpArgs false
open Go
open Go.RowKit

/-! ### Renamings -/
abbrev MZ := List (Nat × Option Nat)
mutual
def AV.prs (t s : AV) : MZ :=
  match t with
  | .ptr id _ _ _ => match s with
    | .ptr id' _ _ _ => [(id, some id')]
    | _ => []
  | .sl id _ => match s with
    | .sl id' _ => [(id, some id')]
    | .nilsl => [(id, none)]
    | _ => []
  | .sub id _ _ _ _ => match s with
    | .sub id' _ _ _ _ => [(id, some id')]
    | _ => []
  | .map id => match s with
    | .map id' => [(id, some id')]
    | _ => []
  | .iter id m => match s with
    | .iter id' m' => [(id, some id'), (m, some m')]
    | _ => []
  | .func _ cs => match s with
    | .func _ cs' => AV.prsL cs cs'
    | _ => []
  | .agg cs => match s with
    | .agg cs' => AV.prsL cs cs'
    | _ => []
  | .tuple cs => match s with
    | .tuple cs' => AV.prsL cs cs'
    | _ => []
  | _ => []
def AV.prsL (ts ss : List AV) : MZ :=
  match ts with
  | [] => []
  | t :: r => match ss with
    | [] => []
    | s :: q => (AV.prs t s).append (AV.prsL r q)
end
def rowsPrs : List (List AV) → List (List AV) → MZ
  | [], _ => []
  | _ :: _, [] => []
  | a :: r, b :: q => (AV.prsL a b).append (rowsPrs r q)
def objPrs (t s : Option AObj) : MZ :=
  match t with
  | some (.flat _ f) => match s with
    | some (.flat _ f') => match f with
      | .gen _ xs => match f' with
        | .gen _ ys => rowsPrs xs ys
        | _ => []
      | .rows M _ _ => match f' with
        | .rows M' _ _ => [(M, some M')]
        | _ => []
      | .bld _ p q => match f' with
        | .bld _ p' q' => (AV.prs p p').append (AV.prs q q')
        | _ => []
      | _ => []
    | _ => []
  | some (.nestH _ R _) => match s with
    | some (.nestH _ R' _) => [(R, some R')]
    | _ => []
  | _ => []
/-- What hangs on an object that is made up: its rows. -/
def objNil (t : Option AObj) : MZ :=
  match t with
  | some (.flat _ f) => match f with
    | .rows M _ _ => [(M, none)]
    | _ => []
  | some (.nestH _ R _) => [(R, none)]
  | _ => []
def slotPrs : Slots → Slots → MZ
  | [], _ => []
  | (t, v) :: r, s => (AV.prs v (look s t)).append (slotPrs r s)
def memK : List (Nat × Nat) → Nat → Bool
  | [], _ => false
  | (a, _) :: r, id => bif Nat.beq a id then true else memK r id
def autoM (N0 : Nat) (G' G : Heap) : Nat → MZ → List (Nat × Nat) → List Nat → (List (Nat × Nat) → List Nat → Prop) → Prop
  | 0, _, m, z, K => K m z
  | n + 1, w, m, z, K => match w with
    | [] => K m z
    | (a, b) :: r => bif Nat.blt a N0 || memK m a || memB z a then autoM N0 G' G n r m z K else match b with
      | some b => autoM N0 G' G n ((objPrs (hget G' a) (hget G b)).append r) ((a, b) :: m) z K
      | none => autoM N0 G' G n ((objNil (hget G' a)).append r) m (a :: z) K
theorem autoM_spec {N0 : Nat} {G' G : Heap} : ∀ {n : Nat} {w : MZ} {m : List (Nat × Nat)} {z : List Nat} {K : List (Nat × Nat) → List Nat → Prop}, autoM N0 G' G n w m z K → ∃ m z, K m z
  | 0, _, m, z, K, h => ⟨m, z, h⟩
  | n + 1, w, m, z, K, h => by
    simp only [autoM] at h
    split at h
    · exact ⟨m, z, h⟩
    · rename_i a b r
      cases hb : (Nat.blt a N0 || memK m a || memB z a) with
      | true => simp only [hb, cond_true] at h; exact autoM_spec h
      | false =>
        simp only [hb, cond_false] at h
        split at h
        · exact autoM_spec h
        · exact autoM_spec h

/-- What the objects that were there before show. -/
def oldPrs (N0 : Nat) : Heap → Heap → MZ
  | [], _ => []
  | (id, o) :: r, G => bif Nat.blt id N0 then (objPrs (some o) (hget G id)).append (oldPrs N0 r G) else oldPrs N0 r G
/-- The rest of a comparison stands behind a name that does not unfold. -/
structure SlG (M : Map) (t s : Slots) : Prop where
  h : slotsLe M t s
structure HpG (M : Map) (t s : Heap) : Prop where
  h : heapLe M t s
def sl1 (M : Map) : Slots → Slots → Prop
  | [], _ => True
  | (t, v) :: r, s => AV.le M v (look s t) ∧ SlG M r s
def hp1 (M : Map) : Heap → Heap → Prop
  | [], _ => True
  | (id, o) :: r, G => (bif Nat.blt id M.N' then (bif memB M.z id then emptyObj o else match hget G (mlook M.m id) with
      | some o' => o.le M o'
      | none => False) else False) ∧ HpG M r G
theorem sl_step {M : Map} {t s : Slots} (h : sl1 M t s) : SlG M t s := by
  cases t with
  | nil => exact ⟨trivial⟩
  | cons x r => exact ⟨⟨h.1, h.2.h⟩⟩
theorem hp_step {M : Map} {t s : Heap} (h : hp1 M t s) : HpG M t s := by
  cases t with
  | nil => exact ⟨trivial⟩
  | cons x r => exact ⟨⟨h.1, h.2.h⟩⟩
def SubA (N0 : Nat) (s : Slots) (_N : Nat) (G : Heap) (s' : Slots) (N' : Nat) (G' : Heap) : Prop :=
  autoM N0 G' G 90 ((slotPrs s' s).append (oldPrs N0 G' G)) [] [] fun m z => (bif geAll N0 m && geAll' N0 z && Nat.ble N0 N' && nodupK (mapKeys ⟨m, z, N'⟩ G') then True else False) ∧ SlG ⟨m, z, N'⟩ s' s ∧ HpG ⟨m, z, N'⟩ G' G
theorem sub_auto {N0 : Nat} {s : Slots} {N : Nat} {G : Heap} {s' : Slots} {N' : Nat} {G' : Heap} (h : SubA N0 s N G s' N' G') : Sub N0 s N G s' N' G' := by
  obtain ⟨m, z, h⟩ := autoM_spec h
  exact ⟨m, z, h.1, h.2.1.h, h.2.2.h⟩

/-! ### The evaluator with stops: what is left to run stands behind a name that does not unfold -/
structure OpsG (E : Env) (all l : List Oper) (s : Slots) (N : Nat) (G : Heap) (K : Slots → Nat → Heap → Prop) : Prop where
  h : runOps E all l s N G K
structure ScanG (E : Env) (ops : Array Oper) (all : List Oper) (i : Nat) (l : List Oper) (D : List Nat) (s : Slots) (G : Heap) (W : List (Nat × Nat)) (K : List Nat → Slots → List (Nat × Nat) → Prop) : Prop where
  h : scanD E ops all i l D s G W K
structure DrawG (E : Env) (ops : Array Oper) (all : List Oper) (f : Nat) (D : List Nat) (s : Slots) (N : Nat) (G : Heap) (W : List (Nat × Nat)) (K : Slots → Nat → Heap → Prop) : Prop where
  h : drawD E ops all f D s N G W K
structure EvG (E : Env) (N0 : Nat) (c : Code) (s : Slots) (N : Nat) (G : Heap) (Q : Ex → Slots → Nat → Heap → Prop) : Prop where
  h : ev E N0 c s N G Q
theorem OpsG_eq : @OpsG = @runOps := by
  funext E all l s N G K
  exact propext ⟨fun h => h.h, fun h => ⟨h⟩⟩
theorem ScanG_eq : @ScanG = @scanD := by
  funext E ops all i l D s G W K
  exact propext ⟨fun h => h.h, fun h => ⟨h⟩⟩
theorem DrawG_eq : @DrawG = @drawD := by
  funext E ops all f D s N G W K
  exact propext ⟨fun h => h.h, fun h => ⟨h⟩⟩
theorem EvG_eq : @EvG = @ev := by
  funext E N0 c s N G Q
  exact propext ⟨fun h => h.h, fun h => ⟨h⟩⟩

/-! ### Numbers and names laid open, so that nothing is reckoned twice -/
def natK (n : Nat) (K : Nat → Prop) : Prop :=
  cond (Nat.beq n 0) (K 0) (cond (Nat.beq n 1) (K 1) (cond (Nat.beq n 2) (K 2) (cond (Nat.beq n 3) (K 3) (cond (Nat.beq n 4) (K 4) (cond (Nat.beq n 5) (K 5) (cond (Nat.beq n 6) (K 6) (cond (Nat.beq n 7) (K 7) (cond (Nat.beq n 8) (K 8) (cond (Nat.beq n 9) (K 9) (cond (Nat.beq n 10) (K 10) (cond (Nat.beq n 11) (K 11) (cond (Nat.beq n 12) (K 12) (cond (Nat.beq n 13) (K 13) (cond (Nat.beq n 14) (K 14) (cond (Nat.beq n 15) (K 15) (cond (Nat.beq n 16) (K 16) (cond (Nat.beq n 17) (K 17) (cond (Nat.beq n 18) (K 18) (cond (Nat.beq n 19) (K 19) (cond (Nat.beq n 20) (K 20) (cond (Nat.beq n 21) (K 21) (cond (Nat.beq n 22) (K 22) (cond (Nat.beq n 23) (K 23) (cond (Nat.beq n 24) (K 24) (cond (Nat.beq n 25) (K 25) (cond (Nat.beq n 26) (K 26) (cond (Nat.beq n 27) (K 27) (cond (Nat.beq n 28) (K 28) (cond (Nat.beq n 29) (K 29) (cond (Nat.beq n 30) (K 30) (cond (Nat.beq n 31) (K 31) (cond (Nat.beq n 32) (K 32) (cond (Nat.beq n 33) (K 33) (cond (Nat.beq n 34) (K 34) (cond (Nat.beq n 35) (K 35) (cond (Nat.beq n 36) (K 36) (cond (Nat.beq n 37) (K 37) (cond (Nat.beq n 38) (K 38) (cond (Nat.beq n 39) (K 39) (K n))))))))))))))))))))))))))))))))))))))))
theorem nat_step {n i : Nat} {K : Nat → Prop} {X : Prop} (h : X = K n) : cond (Nat.beq n i) (K i) X = K n := by
  cases hb : Nat.beq n i with
  | true => simp only [cond_true]; rw [Nat.eq_of_beq_eq_true hb]
  | false => simp only [cond_false]; exact h
theorem natK_eq (n : Nat) (K : Nat → Prop) : natK n K = K n := by
  unfold natK
  repeat' apply nat_step
  rfl
mutual
def avK (v : AV) (K : AV → Prop) : Prop :=
  match v with
  | .int k n => K (.int k n)
  | .bool b => K (.bool b)
  | .str s => K (.str s)
  | .ptr id p i j => natK id fun id => natK j fun j => K (.ptr id p i j)
  | .sl id p => natK id fun id => K (.sl id p)
  | .sub id p i len cap => natK id fun id => K (.sub id p i len cap)
  | .nilsl => K .nilsl
  | .nilptr => K .nilptr
  | .nilmap => K .nilmap
  | .map id => natK id fun id => K (.map id)
  | .iter id m => natK id fun id => natK m fun m => K (.iter id m)
  | .func f caps => avLK caps fun caps => K (.func f caps)
  | .agg cs => avLK cs fun cs => K (.agg cs)
  | .tuple vs => avLK vs fun vs => K (.tuple vs)
  | .opt gt w g a => avK a fun a => K (.opt gt w g a)
  | .top => K .top
def avLK (vs : List AV) (K : List AV → Prop) : Prop :=
  match vs with
  | [] => K []
  | v :: r => avK v fun v => avLK r fun r => K (v :: r)
end
mutual
theorem avK_eq : ∀ (v : AV) (K : AV → Prop), avK v K = K v
  | .int _ _, _ => by simp only [avK]
  | .bool _, _ => by simp only [avK]
  | .str _, _ => by simp only [avK]
  | .ptr _ _ _ _, _ => by simp only [avK, natK_eq]
  | .sl _ _, _ => by simp only [avK, natK_eq]
  | .sub _ _ _ _ _, _ => by simp only [avK, natK_eq]
  | .nilsl, _ => by simp only [avK]
  | .nilptr, _ => by simp only [avK]
  | .nilmap, _ => by simp only [avK]
  | .map _, _ => by simp only [avK, natK_eq]
  | .iter _ _, _ => by simp only [avK, natK_eq]
  | .func _ caps, _ => by simp only [avK, avLK_eq caps]
  | .agg cs, _ => by simp only [avK, avLK_eq cs]
  | .tuple vs, _ => by simp only [avK, avLK_eq vs]
  | .opt _ _ _ a, _ => by simp only [avK, avK_eq a]
  | .top, _ => by simp only [avK]
theorem avLK_eq : ∀ (vs : List AV) (K : List AV → Prop), avLK vs K = K vs
  | [], _ => by simp only [avLK]
  | v :: r, _ => by simp only [avLK, avK_eq v, avLK_eq r]
end
def avRK : List (List AV) → (List (List AV) → Prop) → Prop
  | [], K => K []
  | v :: r, K => avLK v fun v => avRK r fun r => K (v :: r)
theorem avRK_eq : ∀ (l : List (List AV)) (K : List (List AV) → Prop), avRK l K = K l
  | [], _ => rfl
  | v :: r, _ => by simp only [avRK, avLK_eq, avRK_eq r]
def objN (o : AObj) (K : AObj → Prop) : Prop :=
  match o with
  | .flat own f => match f with
    | .gen sz rows => natK sz fun sz => avRK rows fun rows => K (.flat own (.gen sz rows))
    | .ints k xs => K (.flat own (.ints k xs))
    | .r2 xs => K (.flat own (.r2 xs))
    | .r3 xs => K (.flat own (.r3 xs))
    | .r4 xs => K (.flat own (.r4 xs))
    | .bools xs => K (.flat own (.bools xs))
    | .strs xs => K (.flat own (.strs xs))
    | .rows M off n => natK M fun M => K (.flat own (.rows M off n))
    | .bld t p s => avK p fun p => avK s fun s => K (.flat own (.bld t p s))
    | .tby t xs => K (.flat own (.tby t xs))
    | .tops n => K (.flat own (.tops n))
    | .rowl M is => natK M fun M => K (.flat own (.rowl M is))
  | .nestH own R segs => natK R fun R => K (.nestH own R segs)
  | o => K o
theorem objN_eq (o : AObj) (K : AObj → Prop) : objN o K = K o := by
  unfold objN
  split
  · split <;> simp only [natK_eq, avRK_eq, avK_eq]
  · simp only [natK_eq]
  · rfl
def tidyN : Heap → (Heap → Prop) → Prop
  | [], K => K []
  | (k, o) :: r, K => natK k fun k => objN o fun o => tidyN r fun r => K ((k, o) :: r)
theorem tidyN_eq : ∀ (G : Heap) (K : Heap → Prop), tidyN G K = K G
  | [], _ => rfl
  | (k, o) :: r, _ => by simp only [tidyN, natK_eq, objN_eq, tidyN_eq r]
def headK (s : Slots) (K : Slots → Prop) : Prop :=
  match s with
  | [] => K []
  | (t, v) :: r => avK v fun v => K ((t, v) :: r)
theorem headK_eq (s : Slots) (K : Slots → Prop) : headK s K = K s := by
  unfold headK
  split
  · rfl
  · rw [avK_eq]
def openK (s : Slots) (N : Nat) (G : Heap) (K : Slots → Nat → Heap → Prop) : Prop := headK s fun s => natK N fun N => tidyN G fun G => K s N G
theorem openK_eq (s : Slots) (N : Nat) (G : Heap) (K : Slots → Nat → Heap → Prop) : openK s N G K = K s N G := by
  simp only [openK, headK_eq, natK_eq, tidyN_eq]
def watchK (x : Option Nat) (i : Nat) (W : List (Nat × Nat)) (K : List (Nat × Nat) → Prop) : Prop :=
  match x with
  | some id => natK i fun i => K ((i, id) :: W)
  | none => K W
theorem watchK_eq (x : Option Nat) (i : Nat) (W : List (Nat × Nat)) (K : List (Nat × Nat) → Prop) : watchK x i W K = K (watch x i W) := by
  cases x <;> simp only [watchK, watch, natK_eq]
def wRestK (es : List Edge) : List (Nat × Nat) → (List (Nat × Nat) → Prop) → Prop
  | [], K => K []
  | (i, id) :: r, K => bif onE i es then wRestK es r K else wRestK es r fun r => K ((i, id) :: r)
theorem wRestK_eq (es : List Edge) : ∀ (W : List (Nat × Nat)) (K : List (Nat × Nat) → Prop), wRestK es W K = K (wRest es W)
  | [], _ => rfl
  | (i, id) :: r, K => by
    simp only [wRestK, wRest]
    cases onE i es <;> simp only [cond_true, cond_false, wRestK_eq es r]
def wIdsK (es : List Edge) : List (Nat × Nat) → (List Nat → Prop) → Prop
  | [], K => K []
  | (i, id) :: r, K => bif onE i es then wIdsK es r K else wIdsK es r fun r => K (id :: r)
theorem wIdsK_eq (es : List Edge) : ∀ (W : List (Nat × Nat)) (K : List Nat → Prop), wIdsK es W K = K (wIds es W)
  | [], _ => rfl
  | (i, id) :: r, K => by
    simp only [wIdsK, wIds]
    cases onE i es <;> simp only [cond_true, cond_false, wIdsK_eq es r]

/-- For each of a list, one after another. -/
structure EachG (l : List (Nat × Oper)) (F : Nat → Oper → Prop) : Prop where
  h : eachR l F
theorem EachG_eq : @EachG = @eachR := by
  funext l F
  exact propext ⟨fun h => h.h, fun h => ⟨h⟩⟩
def each1 (l : List (Nat × Oper)) (F : Nat → Oper → Prop) : Prop :=
  match l with
  | [] => True
  | x :: r => match r with
    | [] => F x.1 x.2
    | _ :: _ => F x.1 x.2 ∧ EachG r F
theorem each1_eq (l : List (Nat × Oper)) (F : Nat → Oper → Prop) : each1 l F = eachR l F := by
  unfold each1
  split
  · simp only [eachR]
  · split <;> simp only [eachR, EachG_eq]
theorem each_step {l : List (Nat × Oper)} {F : Nat → Oper → Prop} (h : each1 l F) : EachG l F := ⟨by rw [each1_eq] at h; exact h⟩
def readyK (D : List Nat) : Nat → List Oper → (List (Nat × Oper) → Prop) → Prop
  | _, [], K => K []
  | i, o :: r, K => bif !memB D i && allIn D o.after.toList then natK (i + 1) fun i' => readyK D i' r fun l => K ((i, o) :: l) else natK (i + 1) fun i' => readyK D i' r K
theorem readyK_eq (D : List Nat) : ∀ (l : List Oper) (i : Nat) (K : List (Nat × Oper) → Prop), readyK D i l K = K (readyL D i l)
  | [], _, _ => rfl
  | o :: r, i, K => by
    simp only [readyK, readyL, natK_eq, readyK_eq D r]
    cases (!memB D i && allIn D o.after.toList) <;> rfl

def ops1 (E : Env) (all l : List Oper) (s : Slots) (N : Nat) (G : Heap) (K : Slots → Nat → Heap → Prop) : Prop :=
  match l with
  | [] => K s N G
  | o :: r => match isEffect o.op with
    | true => stepK E all o s N G fun s' N' G' => openK s' N' G' fun s' N' G' => OpsG E all r s' N' G' K
    | false => stepK E all o s N G fun s' N' G' => OpsG E all r s' N' G' K
theorem ops_step {E : Env} {all l : List Oper} {s : Slots} {N : Nat} {G : Heap} {K : Slots → Nat → Heap → Prop} (h : ops1 E all l s N G K) : OpsG E all l s N G K := by
  simp only [ops1, OpsG_eq, openK_eq] at h ⊢
  cases l with
  | nil => unfold runOps; exact h
  | cons o r =>
    unfold runOps
    simp only at h
    split at h <;> exact h
def scan1 (E : Env) (ops : Array Oper) (all : List Oper) (i : Nat) (l : List Oper) (D : List Nat) (s : Slots) (G : Heap) (W : List (Nat × Nat)) (K : List Nat → Slots → List (Nat × Nat) → Prop) : Prop :=
  match l with
  | [] => K D s W
  | o :: r => bif !memB D i && allIn D o.after.toList && !isEffect o.op && freeQ ops D i o 0 all then qstep E all o s G fun s' => watchK (qidOf o s) i W fun W => natK (i + 1) fun i' => ScanG E ops all i' r (i :: D) s' G W K else natK (i + 1) fun i' => ScanG E ops all i' r D s G W K
theorem scan_step {E : Env} {ops : Array Oper} {all : List Oper} {i : Nat} {l : List Oper} {D : List Nat} {s : Slots} {G : Heap} {W : List (Nat × Nat)} {K : List Nat → Slots → List (Nat × Nat) → Prop}
    (h : scan1 E ops all i l D s G W K) : ScanG E ops all i l D s G W K := by
  simp only [scan1, ScanG_eq, watchK_eq, natK_eq] at h ⊢
  cases l <;> (unfold scanD; exact h)
def draw1 (E : Env) (ops : Array Oper) (all : List Oper) (f : Nat) (D : List Nat) (s : Slots) (N : Nat) (G : Heap) (W : List (Nat × Nat)) (K : Slots → Nat → Heap → Prop) : Prop :=
  match f with
  | 0 => False
  | f + 1 => ScanG E ops all 0 all D s G W fun D s W => readyK D 0 all fun l => match l with
    | [] => K s N G
    | x :: l => each1 (x :: l) fun j o => match isEffect o.op with
      | true => wIdsK o.after.toList W fun ws => wRestK o.after.toList W fun W => estep E all o s N G ws fun s' N' G' => openK s' N' G' fun s' N' G' => natK j fun j => DrawG E ops all f (j :: D) s' N' G' W K
      | false => qstep E all o s G fun s' => wRestK o.after.toList W fun W => natK j fun j => DrawG E ops all f (j :: D) s' N G W K
theorem draw_step {E : Env} {ops : Array Oper} {all : List Oper} {f : Nat} {D : List Nat} {s : Slots} {N : Nat} {G : Heap} {W : List (Nat × Nat)} {K : Slots → Nat → Heap → Prop}
    (h : draw1 E ops all f D s N G W K) : DrawG E ops all f D s N G W K := by
  simp only [draw1, DrawG_eq, ScanG_eq, wIdsK_eq, wRestK_eq, openK_eq, natK_eq, readyK_eq, each1_eq] at h ⊢
  cases f <;> (unfold drawD; exact h)
def ev1 (E : Env) (N0 : Nat) (c : Code) (s : Slots) (N : Nat) (G : Heap) (Q : Ex → Slots → Nat → Heap → Prop) : Prop :=
  match c with
  | .skip => Q .normal s N G
  | .region _ ops draw => match draw with
    | true => bif noSel ops.toList && E.P.follows .mixedOrders then CutG N0 (fun K => DrawG E ops ops.toList (ops.toList.length + 1) [] s N G [] fun s N G => trimK E.keep s fun s => K s N G) (fun s N G => Q .normal s N G) else False
    | false => OpsG E ops.toList ops.toList s N G fun s N G => trimK E.keep s fun s => Q .normal s N G
  | .seq x y => EvG E N0 x s N G fun e s N G => match e with
    | .normal => EvG E N0 y s N G Q
    | .exit i => Q (.exit i) s N G
    | .ret => Q .ret s N G
  | .cond c x y => match ao s c with
    | .bool b => cond b (EvG E N0 x s N G Q) (EvG E N0 y s N G Q)
    | _ => False
  | .block id x => EvG E N0 x s N G fun e s N G => match e with
    | .normal => Q .normal s N G
    | .exit i => bif Nat.beq i id then Q .normal s N G else Q (.exit i) s N G
    | .ret => Q .ret s N G
  | .loop x => LoopG N0 s N G fun s N G k => EvG E N0 x s N G fun e s N G => match e with
      | .normal => k s N G
      | .exit i => Q (.exit i) s N G
      | .ret => Q .ret s N G
  | .exit id => Q (.exit id) s N G
  | .ret => Q .ret s N G
  | .label _ => Q .normal s N G
  | _ => False
theorem ev_step {E : Env} {N0 : Nat} {c : Code} {s : Slots} {N : Nat} {G : Heap} {Q : Ex → Slots → Nat → Heap → Prop} (h : ev1 E N0 c s N G Q) : EvG E N0 c s N G Q := by
  simp only [ev1, EvG_eq, OpsG_eq, DrawG_eq] at h ⊢
  cases c <;> (unfold ev; exact h)

theorem cond_split {b : Bool} {X Y : Prop} (h1 : b = true → X) (h2 : b = false → Y) : cond b X Y := by
  cases b with
  | true => exact h1 rfl
  | false => exact h2 rfl

/-! ### Loops, by what a round turns -/
def delS (ks : List Nat) : Slots → (Slots → Prop) → Prop
  | [], K => K []
  | (t, v) :: r, K => bif memB ks t then delS ks r K else match v with
    | .opt _ _ _ _ => delS (t :: ks) r K
    | v => delS (t :: ks) r fun r' => K ((t, v) :: r')
def delG (ks : List Nat) : Heap → (Heap → Prop) → Prop
  | [], K => K []
  | (t, v) :: r, K => bif memB ks t then delG ks r K else delG ks r fun r' => K ((t, v) :: r')
def putS : Slots → List Nat → (Slots → List Nat → Prop) → Prop
  | [], ks, K => K [] ks
  | (t, v) :: r, ks, K => putS r (t :: ks) fun r' ks' => K ((t, v) :: r') ks'
def putG : Heap → List Nat → (Heap → List Nat → Prop) → Prop
  | [], ks, K => K [] ks
  | (t, v) :: r, ks, K => putG r (t :: ks) fun r' ks' => K ((t, v) :: r') ks'
def updS (m s : Slots) (K : Slots → Prop) : Prop := putS m [] fun m' ks => delS ks s fun s' => K (m'.append s')
def updG (m s : Heap) (K : Heap → Prop) : Prop := putG m [] fun m' ks => delG ks s fun s' => K (m'.append s')
theorem delS_eq : ∀ (s : Slots) (ks : List Nat), ∃ s', ∀ K, delS ks s K = K s'
  | [], ks => ⟨[], fun _ => rfl⟩
  | (t, v) :: r, ks => by
    cases h : memB ks t with
    | true => obtain ⟨s', hs⟩ := delS_eq r ks; exact ⟨s', fun K => by simp [delS, h, hs]⟩
    | false =>
      obtain ⟨s', hs⟩ := delS_eq r (t :: ks)
      cases v with
      | opt a b c d => exact ⟨s', fun K => by simp [delS, h, hs]⟩
      | _ => exact ⟨_ :: s', fun K => by simp [delS, h, hs]; rfl⟩
theorem delG_eq : ∀ (s : Heap) (ks : List Nat), ∃ s', ∀ K, delG ks s K = K s'
  | [], ks => ⟨[], fun _ => rfl⟩
  | (t, v) :: r, ks => by
    obtain ⟨s', hs⟩ := delG_eq r ks
    cases h : memB ks t with
    | true => exact ⟨s', fun K => by simp [delG, h, hs]⟩
    | false => exact ⟨(t, v) :: s', fun K => by simp [delG, h, hs]⟩
theorem putS_eq : ∀ (s : Slots) (ks : List Nat), ∃ s' ks', ∀ K, putS s ks K = K s' ks'
  | [], ks => ⟨[], ks, fun _ => rfl⟩
  | (t, v) :: r, ks => by
    obtain ⟨s', ks', hs⟩ := putS_eq r (t :: ks)
    exact ⟨(t, v) :: s', ks', fun K => by simp [putS, hs]⟩
theorem putG_eq : ∀ (s : Heap) (ks : List Nat), ∃ s' ks', ∀ K, putG s ks K = K s' ks'
  | [], ks => ⟨[], ks, fun _ => rfl⟩
  | (t, v) :: r, ks => by
    obtain ⟨s', ks', hs⟩ := putG_eq r (t :: ks)
    exact ⟨(t, v) :: s', ks', fun K => by simp [putG, hs]⟩
theorem updS_eq (m s : Slots) : ∃ s', ∀ K, updS m s K = K s' := by
  obtain ⟨m', ks, h1⟩ := putS_eq m []
  obtain ⟨s', h2⟩ := delS_eq s ks
  exact ⟨m'.append s', fun K => by simp [updS, h1, h2]⟩
theorem updG_eq (m s : Heap) : ∃ s', ∀ K, updG m s K = K s' := by
  obtain ⟨m', ks, h1⟩ := putG_eq m []
  obtain ⟨s', h2⟩ := delG_eq s ks
  exact ⟨m'.append s', fun K => by simp [updG, h1, h2]⟩

/-- What is to be shown at the end of a round. -/
def NextR (N0 : Nat) (s : Slots) (G : Heap) (N' : Nat) (m : Slots) (g : Heap) (s1 : Slots) (N1 : Nat) (G1 : Heap) : Prop :=
  updS m s fun s' => updG g G fun G' => SubA N0 s1 N1 G1 s' N' G'
theorem loop_at {N0 : Nat} {s : Slots} {N : Nat} {G : Heap} {F : Slots → Nat → Heap → (Slots → Nat → Heap → Prop) → Prop} {α : Type} (p : α → Prop) (N' : Nat) (sm : α → Slots) (gm : α → Heap) (μ : α → Nat) (a0 : α) (h0 : p a0)
    (hs : NextR N0 s G N' (sm a0) (gm a0) s N G)
    (hr : ∀ a, p a → updS (sm a) s fun s' => updG (gm a) G fun G' => F s' N' G' fun s1 N1 G1 => ∃ b, p b ∧ μ b < μ a ∧ NextR N0 s G N' (sm b) (gm b) s1 N1 G1) : LoopG N0 s N G F := by
  have e1 : ∀ a, ∃ s', ∀ K, updS (sm a) s K = K s' := fun a => updS_eq _ _
  have e2 : ∀ a, ∃ s', ∀ K, updG (gm a) G K = K s' := fun a => updG_eq _ _
  obtain ⟨f1, h1⟩ := Classical.axiomOfChoice e1
  obtain ⟨f2, h2⟩ := Classical.axiomOfChoice e2
  have hn : ∀ a s1 N1 G1, NextR N0 s G N' (sm a) (gm a) s1 N1 G1 → Sub N0 s1 N1 G1 (f1 a) N' (f2 a) := fun a s1 N1 G1 h => by
    unfold NextR at h
    rw [h1 a, h2 a] at h
    exact sub_auto h
  refine ⟨α, p, fun a => (f1 a, N', f2 a), μ, fun a => NextR N0 s G N' (sm a) (gm a), hn, ⟨a0, h0, hs⟩, fun a ha => ?_⟩
  have h := hr a ha
  rw [h1 a, h2 a] at h
  exact h

/-- The same, where a round may have eaten objects that were there (those named in 'dl'). -/
def NextD (dl : List Nat) (N0 : Nat) (s : Slots) (G : Heap) (N' : Nat) (m : Slots) (g : Heap) (s1 : Slots) (N1 : Nat) (G1 : Heap) : Prop :=
  delG dl G fun Gd => updS m s fun s' => updG g Gd fun G' => SubA N0 s1 N1 G1 s' N' G'
theorem loop_del (dl : List Nat) {N0 : Nat} {s : Slots} {N : Nat} {G : Heap} {F : Slots → Nat → Heap → (Slots → Nat → Heap → Prop) → Prop} {α : Type} (p : α → Prop) (N' : Nat) (sm : α → Slots) (gm : α → Heap) (μ : α → Nat) (a0 : α) (h0 : p a0)
    (hs : NextD dl N0 s G N' (sm a0) (gm a0) s N G)
    (hr : ∀ a, p a → delG dl G fun Gd => updS (sm a) s fun s' => updG (gm a) Gd fun G' => F s' N' G' fun s1 N1 G1 => ∃ b, p b ∧ μ b < μ a ∧ NextD dl N0 s G N' (sm b) (gm b) s1 N1 G1) : LoopG N0 s N G F := by
  obtain ⟨Gd, hd⟩ := delG_eq G dl
  have e1 : ∀ a, ∃ s', ∀ K, updS (sm a) s K = K s' := fun a => updS_eq _ _
  have e2 : ∀ a, ∃ s', ∀ K, updG (gm a) Gd K = K s' := fun a => updG_eq _ _
  obtain ⟨f1, h1⟩ := Classical.axiomOfChoice e1
  obtain ⟨f2, h2⟩ := Classical.axiomOfChoice e2
  have hn : ∀ a s1 N1 G1, NextD dl N0 s G N' (sm a) (gm a) s1 N1 G1 → Sub N0 s1 N1 G1 (f1 a) N' (f2 a) := fun a s1 N1 G1 h => by
    unfold NextD at h
    rw [hd, h1 a, h2 a] at h
    exact sub_auto h
  refine ⟨α, p, fun a => (f1 a, N', f2 a), μ, fun a => NextD dl N0 s G N' (sm a) (gm a), hn, ⟨a0, h0, hs⟩, fun a ha => ?_⟩
  have h := hr a ha
  rw [hd, h1 a, h2 a] at h
  exact h

/-! ### The plain form -/
structure FnIs (P : Program) (f : Nat) (args : List AV) (N : Nat) (G : Heap) (v : AV) (n : Nat) (g : Heap) : Prop where
  call : ACall P f args N G fun v' N' G' => v' = v ∧ N' = n ∧ G' = g

/-- What a contract's use leaves to be shown. -/
abbrev PostR := List (Nat × Nat) → Nat → Heap → (AV → Nat → Heap → Prop) → Prop
def isR (N0 : Nat) (G0 : Heap) (v : AV) (n : Nat) (g : Heap) : PostR := fun m N G K => K (v.ren (rN m N0 N)) (Nat.add (Nat.sub n N0) N) (join m N0 N G0 g G)
def exR {α : Type} (N0 : Nat) (G0 : Heap) (p : α → Prop) (v : α → AV) (n : Nat) (g : α → Heap) : PostR := fun m N G K => ∀ a, p a → K ((v a).ren (rN m N0 N)) (Nat.add (Nat.sub n N0) N) (join m N0 N G0 (g a) G)
def useCG (m : List (Nat × Nat)) (args0 : List AV) (N0 : Nat) (G0 : Heap) (args : List AV) (N : Nat) (G : Heap) : Prop :=
  (bif allLt m N N0 && nodupK (mapKeys ⟨m, [], N0⟩ G0) then True else False) ∧ AV.leL ⟨m, [], N0⟩ args0 args ∧ HpG ⟨m, [], N0⟩ G0 G
/-- Used at a call. -/
def useA (args0 : List AV) (N0 : Nat) (G0 : Heap) (R : PostR) (args : List AV) (N : Nat) (G : Heap) (K : AV → Nat → Heap → Prop) : Prop :=
  autoM 0 G0 G 60 (AV.prsL args0 args) [] [] fun m _ => useCG m args0 N0 G0 args N G ∧ R m N G K
/-- A contract, as far as its use asks. -/
structure FnR (P : Program) (f : Nat) (args0 : List AV) (N0 : Nat) (G0 : Heap) (R : PostR) : Prop where
  use : ∀ (m : List (Nat × Nat)) (args : List AV) (N : Nat) (G : Heap) (K : AV → Nat → Heap → Prop), useC m args0 N0 G0 args N G → R m N G K → ACall P f args N G K
theorem FnR.useA {P : Program} {f : Nat} {args0 : List AV} {N0 : Nat} {G0 : Heap} {R : PostR} (h : FnR P f args0 N0 G0 R) {args : List AV} {N : Nat} {G : Heap} {K : AV → Nat → Heap → Prop}
    (hu : Go.Sx.useA args0 N0 G0 R args N G K) : ACall P f args N G K := by
  obtain ⟨m, _, h1, h2⟩ := autoM_spec hu
  exact h.use m _ _ _ _ ⟨h1.1, h1.2.1, h1.2.2.h⟩ h2
theorem FnIs.r {P : Program} {f : Nat} {args0 : List AV} {N0 : Nat} {G0 : Heap} {v : AV} {n : Nat} {g : Heap} (h : FnIs P f args0 N0 G0 v n g) : FnR P f args0 N0 G0 (isR N0 G0 v n g) :=
  ⟨fun m _ _ _ _ h1 h2 => h.call.lift m h1 fun _ _ _ ⟨e1, e2, e3⟩ _ => by subst e1 e2 e3; exact h2⟩

/-- A contract that tells its outcome only in part. -/
structure FnEx (P : Program) (f : Nat) (args : List AV) (N : Nat) (G : Heap) {α : Type} (p : α → Prop) (v : α → AV) (n : Nat) (g : α → Heap) : Prop where
  call : ACall P f args N G fun v' N' G' => ∃ a, p a ∧ v' = v a ∧ N' = n ∧ G' = g a
theorem FnEx.r {P : Program} {f : Nat} {args0 : List AV} {N0 : Nat} {G0 : Heap} {α : Type} {p : α → Prop} {v : α → AV} {n : Nat} {g : α → Heap} (h : FnEx P f args0 N0 G0 p v n g) : FnR P f args0 N0 G0 (exR N0 G0 p v n g) :=
  ⟨fun m _ _ _ _ h1 h2 => h.call.lift m h1 fun _ _ _ ⟨a, ha, e1, e2, e3⟩ _ => by subst e1 e2 e3; exact h2 a ha⟩
theorem FnIs.ex {P : Program} {f : Nat} {args : List AV} {N : Nat} {G : Heap} {α : Type} {p : α → Prop} {v : α → AV} {n : Nat} {g : α → Heap} (a : α) (ha : p a) (h : FnIs P f args N G (v a) n (g a)) : FnEx P f args N G p v n g :=
  ⟨h.call.mono fun _ _ _ ⟨e1, e2, e3⟩ => ⟨a, ha, e1, e2, e3⟩⟩

theorem ex_of_evk (ks : List Nat) {P : Program} {T : Tbl} (hT : TblOK P T) {f : Nat} {fn : Func} {c : Code} (hf : P.funcs[f]? = some fn) (hb : fn.body = some c) (hok : (fn.name == "runtime.NumGoroutine") = false) {args : List AV} {N : Nat} {G : Heap} {α : Type} {p : α → Prop} {v : α → AV} {n : Nat} {g : α → Heap}
    (hle : Nat.ble args.length fn.ntmps = true)
    (h : EvG ⟨P, T, fn.ntmps, ks⟩ N c (initSlots 0 args) N G (fun e s N' G' => match e with
      | .exit _ => False
      | _ => RetVC ⟨P, T, fn.ntmps, ks⟩ fn.results.toList s N' G' fun rv N' G' => ∃ a, p a ∧ SubA N [(0, rv)] N' G' [(0, v a)] n (g a))) : FnEx P f args N G p v n g :=
  ⟨acall_of_ev hT hf hb ⟨⟨fn, hf, hok, by rw [hb]; rfl⟩⟩ hle (fun _ _ _ ⟨a, ha, hr⟩ => ⟨v a, n, g a, sub_auto hr, a, ha, rfl, rfl, rfl⟩) h.h⟩

theorem fn_of_evk (ks : List Nat) {P : Program} {T : Tbl} (hT : TblOK P T) {f : Nat} {fn : Func} {c : Code} (hf : P.funcs[f]? = some fn) (hb : fn.body = some c) (hok : (fn.name == "runtime.NumGoroutine") = false) {args : List AV} {N : Nat} {G : Heap} {v : AV} {n : Nat} {g : Heap}
    (hle : Nat.ble args.length fn.ntmps = true)
    (h : EvG ⟨P, T, fn.ntmps, ks⟩ N c (initSlots 0 args) N G (fun e s N' G' => match e with
      | .exit _ => False
      | _ => RetVC ⟨P, T, fn.ntmps, ks⟩ fn.results.toList s N' G' fun rv N' G' => SubA N [(0, rv)] N' G' [(0, v)] n g)) : FnIs P f args N G v n g :=
  ⟨acall_of_ev hT hf hb ⟨⟨fn, hf, hok, by rw [hb]; rfl⟩⟩ hle (fun _ _ _ hr => ⟨v, n, g, sub_auto hr, rfl, rfl, rfl⟩) h.h⟩

theorem fn_of_ev {P : Program} {T : Tbl} (hT : TblOK P T) {f : Nat} {fn : Func} {c : Code} (hf : P.funcs[f]? = some fn) (hb : fn.body = some c) (hok : (fn.name == "runtime.NumGoroutine") = false) {args : List AV} {N : Nat} {G : Heap} {v : AV} {n : Nat} {g : Heap}
    (hle : Nat.ble args.length fn.ntmps = true)
    (h : EvG ⟨P, T, fn.ntmps, []⟩ N c (initSlots 0 args) N G (fun e s N' G' => match e with
      | .exit _ => False
      | _ => RetVC ⟨P, T, fn.ntmps, []⟩ fn.results.toList s N' G' fun rv N' G' => SubA N [(0, rv)] N' G' [(0, v)] n g)) : FnIs P f args N G v n g :=
  fn_of_evk [] hT hf hb hok hle h

end Go.Sx
