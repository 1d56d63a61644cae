/-
  Forgetting and renaming (at a loop's head, at a return), code, and the function rule.
-/
import Derived.Test.YtbjlbmehklfijaaSxM
namespace Go.Sx
set_option linter.unusedVariables false
set_option linter.unusedSimpArgs false
open Go
open Go.RowKit

/-! ### One state is an instance of another: names turned by 'm', empty new slices 'z' -/
def mlook : List (Nat × Nat) → Nat → Nat
  | [], id => id
  | (a, b) :: r, id => bif Nat.beq a id then b else mlook r id
def memB : List Nat → Nat → Bool
  | [], _ => false
  | a :: r, id => bif Nat.beq a id then true else memB r id

structure Map where
  m : List (Nat × Nat)
  z : List Nat
  N' : Nat

mutual
/-- The first value (of the state that is forgotten into) stands for whatever the second stands for. -/
def AV.le (M : Map) (t s : AV) : Prop :=
  match t with
  | .top => True
  | .int k n => match s with
    | .int k' n' => bif k == k' then n = n' else False
    | _ => False
  | .bool b => match s with
    | .bool b' => b = b'
    | _ => False
  | .str x => match s with
    | .str x' => x = x'
    | _ => False
  | .ptr id p i j => match s with
    | .ptr id' p' i' j' => bif Nat.beq (mlook M.m id) id' && Nat.blt id M.N' && !memB M.z id then p = p' ∧ i = i' ∧ j = j' else False
    | _ => False
  | .sl id p => match s with
    | .sl id' p' => bif Nat.beq (mlook M.m id) id' && Nat.blt id M.N' && !memB M.z id then p = p' else False
    | .nilsl => bif memB M.z id && Nat.blt id M.N' then p = [] else False
    | _ => False
  | .sub id p i len cap => match s with
    | .sub id' p' i' len' cap' => bif Nat.beq (mlook M.m id) id' && Nat.blt id M.N' && !memB M.z id then p = p' ∧ i = i' ∧ len = len' ∧ (cap = none ∨ cap = cap') else False
    | _ => False
  | .nilsl => match s with
    | .nilsl => True
    | _ => False
  | .nilptr => match s with
    | .nilptr => True
    | _ => False
  | .nilmap => match s with
    | .nilmap => True
    | _ => False
  | .map id => match s with
    | .map id' => bif Nat.beq (mlook M.m id) id' && Nat.blt id M.N' && !memB M.z id then True else False
    | _ => False
  | .func f caps => match s with
    | .func f' caps' => bif Nat.beq f f' then AV.leL M caps caps' else False
    | _ => False
  | .agg cs => match s with
    | .agg cs' => AV.leL M cs cs'
    | _ => False
  | .tuple cs => match s with
    | .tuple cs' => AV.leL M cs cs'
    | _ => False
  | .opt _ _ _ _ => False
def AV.leL (M : Map) (ts ss : List AV) : Prop :=
  match ts with
  | [] => match ss with
    | [] => True
    | _ :: _ => False
  | t :: r => match ss with
    | [] => False
    | s :: q => AV.le M t s ∧ AV.leL M r q
end

def leRows (M : Map) (ts ss : List (List AV)) : Prop :=
  match ts with
  | [] => match ss with
    | [] => True
    | _ :: _ => False
  | t :: r => match ss with
    | [] => False
    | s :: q => AV.leL M t s ∧ leRows M r q

def Flat.le (M : Map) (t s : Flat) : Prop :=
  match t with
  | .ints k xs => match s with
    | .ints k' ys => bif k == k' then xs = ys else False
    | _ => False
  | .r2 xs => match s with
    | .r2 ys => xs = ys
    | _ => False
  | .r3 xs => match s with
    | .r3 ys => xs = ys
    | _ => False
  | .r4 xs => match s with
    | .r4 ys => xs = ys
    | _ => False
  | .bools xs => match s with
    | .bools ys => xs = ys
    | _ => False
  | .strs xs => match s with
    | .strs ys => xs = ys
    | _ => False
  | .gen sz xs => match s with
    | .gen sz' ys => bif Nat.beq sz sz' then leRows M xs ys else False
    | _ => False
  | .rows id off n => match s with
    | .rows id' off' n' => bif Nat.beq (mlook M.m id) id' && Nat.blt id M.N' && !memB M.z id && Nat.beq off off' then n = n' else False
    | _ => False

def AObj.le (M : Map) (t s : AObj) : Prop :=
  match t with
  | .flat own f => match s with
    | .flat own' f' => bif !own || own' then f.le M f' else False
    | _ => False
  | .nestI own k xss => match s with
    | .nestI own' k' yss => bif (!own || own') && k == k' then xss = yss else False
    | _ => False
  | .nestR2 own xss => match s with
    | .nestR2 own' yss => bif !own || own' then xss = yss else False
    | _ => False

def slotsLe (M : Map) : Slots → Slots → Prop
  | [], _ => True
  | (t, v) :: r, s => AV.le M v (look s t) ∧ slotsLe M r s

/-- An object that has just been made up: flat, one's own, empty. -/
def emptyObj (o : AObj) : Prop :=
  match o with
  | .flat own f => match own with
    | true => match f with
      | .ints _ xs => xs = []
      | .r2 xs => xs = []
      | .r3 xs => xs = []
      | .r4 xs => xs = []
      | .bools xs => xs = []
      | .strs xs => xs = []
      | .gen _ _ => False
      | .rows _ _ n => n = 0
    | false => False
  | .nestI _ _ xss => xss = []
  | .nestR2 _ xss => xss = []
theorem emptyObj_spec {o : AObj} (h : emptyObj o) : (∃ f, o = .flat true f ∧ f.n = 0 ∧ 0 < f.sz) ∨ ∀ id p, o.node id p = none := by
  unfold emptyObj at h
  split at h
  · split at h
    · left
      split at h <;> first | exact h.elim | (subst h; exact ⟨_, rfl, rfl, by simp [Flat.sz]⟩)
    · exact h.elim
  · right
    intro id p
    subst h
    match p with
    | [] => rfl
    | [y] => rfl
    | _ :: _ :: _ => rfl
  · right
    intro id p
    subst h
    match p with
    | [] => rfl
    | [y] => rfl
    | _ :: _ :: _ => rfl
def heapLe (M : Map) : Heap → Heap → Prop
  | [], _ => True
  | (id, o) :: r, G => (bif Nat.blt id M.N' then (bif memB M.z id then emptyObj o else match hget G (mlook M.m id) with
      | some o' => o.le M o'
      | none => False) else False) ∧ heapLe M r G
def nodupK : List Nat → Bool
  | [] => true
  | a :: r => !memB r a && nodupK r
def mapKeys (M : Map) : Heap → List Nat
  | [] => []
  | (id, _) :: r => bif memB M.z id then mapKeys M r else mlook M.m id :: mapKeys M r
def geAll (N0 : Nat) : List (Nat × Nat) → Bool
  | [] => true
  | (a, _) :: r => Nat.ble N0 a && geAll N0 r
def geAll' (N0 : Nat) : List Nat → Bool
  | [] => true
  | a :: r => Nat.ble N0 a && geAll' N0 r

/-- (s, N, G) is an instance of (s', N', G'). -/
def Sub (N0 : Nat) (s : Slots) (_N : Nat) (G : Heap) (s' : Slots) (N' : Nat) (G' : Heap) : Prop :=
  ∃ (m : List (Nat × Nat)) (z : List Nat), (bif geAll N0 m && geAll' N0 z && Nat.ble N0 N' && nodupK (mapKeys ⟨m, z, N'⟩ G') then True else False) ∧ slotsLe ⟨m, z, N'⟩ s' s ∧ heapLe ⟨m, z, N'⟩ G' G

section
variable {E : Env} {B : Entry} {s : Slots} {N : Nat} {G : Heap} {a : Act} {w : World}

theorem bcond {b : Bool} {X : Prop} (h : bif b then X else False) : b = true ∧ X := by
  cases b with
  | false => exact h.elim
  | true => exact ⟨rfl, h⟩

/-- The blocks under the new names. -/
def reρ (M : Map) (ρ : Rho) (G' : Heap) : Rho := fun id p => if memB M.z id = true then ⟨0, 0, ((hget G' id).bind fun o => (o.node id p).map (·.sz)).getD 1, 0, 0⟩ else ρ (mlook M.m id) p

mutual
theorem AV.le_sound {M : Map} {ρ : Rho} {G' : Heap} : ∀ (t s : AV) (v : Value), AV.le M t s → VR ρ N s v → VR (reρ M ρ G') M.N' t v
  | .top, _, _, _, _ => by simp only [VR]
  | .int k n, s, v, h, hv => by
    cases s <;> simp only [AV.le] at h
    obtain ⟨hb, rfl⟩ := bcond h
    have := eq_of_beq hb
    subst this
    simpa only [VR] using hv
  | .bool b, s, v, h, hv => by
    cases s <;> simp only [AV.le] at h
    subst h; simpa only [VR] using hv
  | .str x, s, v, h, hv => by
    cases s <;> simp only [AV.le] at h
    subst h; simpa only [VR] using hv
  | .ptr id p i j, s, v, h, hv => by
    cases s <;> simp only [AV.le] at h
    obtain ⟨hb, rfl, rfl, rfl⟩ := bcond h
    simp only [Bool.and_eq_true, Nat.beq_eq, Nat.blt_eq, Bool.not_eq_true'] at hb
    obtain ⟨⟨h1, h2⟩, h3⟩ := hb
    simp only [VR] at hv ⊢
    refine ⟨h2, ?_⟩
    rw [hv.2]
    simp [reρ, h3, h1]
  | .sl id p, s, v, h, hv => by
    cases s <;> simp only [AV.le] at h
    · obtain ⟨hb, rfl⟩ := bcond h
      simp only [Bool.and_eq_true, Nat.beq_eq, Nat.blt_eq, Bool.not_eq_true'] at hb
      obtain ⟨⟨h1, h2⟩, h3⟩ := hb
      simp only [VR] at hv ⊢
      refine ⟨h2, ?_⟩
      have := hv.2
      simpa [reρ, h3, h1] using this
    · obtain ⟨hb, rfl⟩ := bcond h
      simp only [Bool.and_eq_true, Nat.blt_eq] at hb
      simp only [VR] at hv ⊢
      refine ⟨hb.2, none, 0, ?_, .inr ⟨?_, rfl⟩⟩
      · rw [hv]; simp [reρ, hb.1]
      · simp [reρ, hb.1]
  | .sub id p i len cap, s, v, h, hv => by
    cases s <;> simp only [AV.le] at h
    obtain ⟨hb, rfl, rfl, rfl, hcap⟩ := bcond h
    simp only [Bool.and_eq_true, Nat.beq_eq, Nat.blt_eq, Bool.not_eq_true'] at hb
    obtain ⟨⟨h1, h2⟩, h3⟩ := hb
    simp only [VR] at hv ⊢
    refine ⟨h2, ?_⟩
    obtain ⟨_, A, c, q1, q2, q3⟩ := hv
    refine ⟨A, c, q1, by simpa [reρ, h3, h1] using q2, fun c' hc => ?_⟩
    rcases hcap with rfl | rfl
    · cases hc
    · exact q3 c' hc
  | .nilsl, s, v, h, hv => by
    cases s <;> simp only [AV.le] at h
    simpa only [VR] using hv
  | .nilptr, s, v, h, hv => by
    cases s <;> simp only [AV.le] at h
    simpa only [VR] using hv
  | .nilmap, s, v, h, hv => by
    cases s <;> simp only [AV.le] at h
    simpa only [VR] using hv
  | .map id, s, v, h, hv => by
    cases s <;> simp only [AV.le] at h
    obtain ⟨hb, _⟩ := bcond h
    simp only [Bool.and_eq_true, Nat.beq_eq, Nat.blt_eq, Bool.not_eq_true'] at hb
    obtain ⟨⟨h1, h2⟩, h3⟩ := hb
    simp only [VR] at hv ⊢
    refine ⟨h2, ?_⟩
    rw [hv.2]
    simp [reρ, h3, h1]
  | .func f caps, s, v, h, hv => by
    cases s <;> simp only [AV.le] at h
    obtain ⟨hb, hl⟩ := bcond h
    have := Nat.eq_of_beq_eq_true hb
    subst this
    simp only [VR] at hv ⊢
    obtain ⟨cs, e, hc⟩ := hv
    exact ⟨cs, e, AV.leL_sound _ _ _ hl hc⟩
  | .agg cs, s, v, h, hv => by
    cases s <;> simp only [AV.le] at h
    simp only [VR] at hv ⊢
    obtain ⟨us, e, hc, h1⟩ := hv
    exact ⟨us, e, AV.leL_sound _ _ _ h hc, h1⟩
  | .tuple cs, s, v, h, hv => by
    cases s <;> simp only [AV.le] at h
    simp only [VR] at hv ⊢
    obtain ⟨us, e, hc⟩ := hv
    exact ⟨us, e, AV.leL_sound _ _ _ h hc⟩
  | .opt _ _ _ _, _, _, h, _ => by simp only [AV.le] at h
theorem AV.leL_sound {M : Map} {ρ : Rho} {G' : Heap} : ∀ (ts ss : List AV) (vs : List Value), AV.leL M ts ss → VRL ρ N ss vs → VRL (reρ M ρ G') M.N' ts vs
  | [], ss, vs, h, hv => by
    cases ss <;> simp only [AV.leL] at h
    simpa only [VRL] using hv
  | t :: r, ss, vs, h, hv => by
    cases ss <;> simp only [AV.leL] at h
    simp only [VRL] at hv ⊢
    obtain ⟨v, q, e, h1, h2⟩ := hv
    exact ⟨v, q, e, AV.le_sound _ _ _ h.1 h1, AV.leL_sound _ _ _ h.2 h2⟩
end

theorem leL_len {M : Map} : ∀ {ts ss : List AV}, AV.leL M ts ss → ts.length = ss.length
  | [], [], _ => rfl
  | [], _ :: _, h => by simp only [AV.leL] at h
  | _ :: _, [], h => by simp only [AV.leL] at h
  | _ :: r, _ :: q, h => by simp only [AV.leL] at h; simp [leL_len h.2]
theorem leL_get {M : Map} : ∀ {ts ss : List AV} (_ : AV.leL M ts ss) (i : Nat), AV.le M (ts.getD i .top) (ss.getD i .top)
  | [], [], _, _ => by simp [AV.le]
  | [], _ :: _, h, _ => by simp only [AV.leL] at h
  | _ :: _, [], h, _ => by simp only [AV.leL] at h
  | t :: r, s :: q, h, i => by
    simp only [AV.leL] at h
    cases i with
    | zero => exact h.1
    | succ i => simpa using leL_get h.2 i
theorem leRows_len {M : Map} : ∀ {ts ss : List (List AV)}, leRows M ts ss → ts.length = ss.length
  | [], [], _ => rfl
  | [], _ :: _, h => by simp only [leRows] at h
  | _ :: _, [], h => by simp only [leRows] at h
  | _ :: r, _ :: q, h => by simp only [leRows] at h; simp [leRows_len h.2]
theorem leRows_get {M : Map} : ∀ {ts ss : List (List AV)} (_ : leRows M ts ss) (i : Nat), AV.leL M (ts.getD i []) (ss.getD i [])
  | [], [], _, _ => by simp [AV.leL]
  | [], _ :: _, h, _ => by simp only [leRows] at h
  | _ :: _, [], h, _ => by simp only [leRows] at h
  | t :: r, s :: q, h, i => by
    simp only [leRows] at h
    cases i with
    | zero => exact h.1
    | succ i => simpa using leRows_get h.2 i

/-- What it says of the nodes. -/
structure NodeLe (M : Map) (nd nd' : Node) : Prop where
  n : nd.n = nd'.n
  sz : nd.sz = nd'.sz
  cell : ∀ i j, AV.le M (nd.cell i j) (nd'.cell i j)

theorem Flat.le_node {M : Map} {t s : Flat} (h : t.le M s) : NodeLe M t.node s.node := by
  have hint : ∀ (k : IntKind) (n : Int), AV.le M (.int k n) (.int k n) := fun k n => by simp [AV.le]
  cases t <;> cases s <;> simp only [Flat.le] at h
  · obtain ⟨hb, rfl⟩ := bcond h
    have := eq_of_beq hb
    subst this
    exact ⟨rfl, rfl, fun i j => hint _ _⟩
  · subst h; exact ⟨rfl, rfl, fun i j => hint _ _⟩
  · subst h; exact ⟨rfl, rfl, fun i j => hint _ _⟩
  · subst h; exact ⟨rfl, rfl, fun i j => hint _ _⟩
  · subst h; exact ⟨rfl, rfl, fun i j => by simp [Flat.node, Flat.cell, AV.le]⟩
  · subst h; exact ⟨rfl, rfl, fun i j => by simp [Flat.node, Flat.cell, AV.le]⟩
  · obtain ⟨hb, hl⟩ := bcond h
    have := Nat.eq_of_beq_eq_true hb
    subst this
    exact ⟨leRows_len hl, rfl, fun i j => leL_get (leRows_get hl i) j⟩
  · obtain ⟨hb, rfl⟩ := bcond h
    simp only [Bool.and_eq_true, Bool.not_eq_true'] at hb
    obtain ⟨⟨⟨hb1, hb2⟩, hb3⟩, hb4⟩ := hb
    have hb4 := Nat.eq_of_beq_eq_true hb4
    subst hb4
    exact ⟨rfl, rfl, fun i j => by simp [Flat.node, Flat.cell, AV.le, hb1, hb2, hb3]⟩

theorem AObj.le_node {M : Map} {t s : AObj} (h : t.le M s) {id : Nat} (hid : Nat.blt id M.N' = true) (hz : memB M.z id = false) {p : List Nat} {nd : Node} (hn : t.node id p = some nd) : ∃ nd', s.node (mlook M.m id) p = some nd' ∧ NodeLe M nd nd' ∧ (t.own = true → s.own = true) := by
  have hint : ∀ (k : IntKind) (n : Int), AV.le M (.int k n) (.int k n) := fun k n => by simp [AV.le]
  have hown : ∀ {o o' : Bool}, (!o || o') = true → o = true → o' = true := fun {o o'} h e => by subst e; simpa using h
  cases t <;> cases s <;> simp only [AObj.le] at h
  · obtain ⟨hb, hf⟩ := bcond h
    cases p with
    | nil =>
      simp only [AObj.node, Option.some.injEq] at hn
      subst hn
      exact ⟨_, rfl, Flat.le_node hf, hown hb⟩
    | cons _ _ => simp [AObj.node] at hn
  · obtain ⟨hb, rfl⟩ := bcond h
    simp only [Bool.and_eq_true] at hb
    have := eq_of_beq hb.2
    subst this
    cases p with
    | nil => simp [AObj.node] at hn
    | cons y r =>
      cases r with
      | nil =>
        simp only [AObj.node] at hn ⊢
        split at hn
        · next hlt =>
          injection hn with hn
          subst hn
          exact ⟨_, by rw [if_pos hlt], ⟨rfl, rfl, fun i j => hint _ _⟩, hown hb.1⟩
        · cases hn
      | cons _ _ => simp [AObj.node] at hn
  · obtain ⟨hb, rfl⟩ := bcond h
    cases p with
    | nil => simp [AObj.node] at hn
    | cons y r =>
      cases r with
      | nil =>
        simp only [AObj.node] at hn ⊢
        split at hn
        · next hlt =>
          injection hn with hn
          subst hn
          exact ⟨_, by rw [if_pos hlt], ⟨rfl, rfl, fun i j => hint _ _⟩, hown hb⟩
        · cases hn
      | cons _ _ => simp [AObj.node] at hn

theorem heapLe_get {M : Map} : ∀ {G' G : Heap}, heapLe M G' G → ∀ {id : Nat} {o : AObj}, hget G' id = some o → Nat.blt id M.N' = true ∧ ((memB M.z id = true ∧ emptyObj o) ∨ (memB M.z id = false ∧ ∃ o', hget G (mlook M.m id) = some o' ∧ o.le M o'))
  | [], _, _, _, _, h => by simp [hget] at h
  | (k, x) :: r, G, h, id, o, hg => by
    simp only [heapLe] at h
    obtain ⟨h1, h2⟩ := h
    simp only [hget] at hg
    cases hb : Nat.beq k id with
    | false => simp only [hb, cond_false] at hg; exact heapLe_get h2 hg
    | true =>
      simp only [hb, cond_true, Option.some.injEq] at hg
      have := Nat.eq_of_beq_eq_true hb
      subst this hg
      obtain ⟨hlt, h1⟩ := bcond h1
      refine ⟨hlt, ?_⟩
      cases hz : memB M.z k with
      | true => simp only [hz, cond_true] at h1; exact .inl ⟨rfl, h1⟩
      | false =>
        simp only [hz, cond_false] at h1
        split at h1
        · rename_i o' ho'; exact .inr ⟨rfl, o', ho', h1⟩
        · exact h1.elim

theorem memB_keys {M : Map} : ∀ {G : Heap} {id : Nat} {o : AObj}, hget G id = some o → memB M.z id = false → memB (mapKeys M G) (mlook M.m id) = true
  | [], _, _, h, _ => by simp [hget] at h
  | (k, x) :: r, id, o, h, hz => by
    simp only [hget] at h
    simp only [mapKeys]
    cases hb : Nat.beq k id with
    | true =>
      have := Nat.eq_of_beq_eq_true hb
      subst this
      simp only [hz, cond_false, memB]
      simp
    | false =>
      simp only [hb, cond_false] at h
      have ih := memB_keys (M := M) h hz
      cases memB M.z k with
      | true => exact ih
      | false => simp only [cond_false, memB]; cases Nat.beq (mlook M.m k) (mlook M.m id) <;> simp [ih]
theorem keys_inj {M : Map} : ∀ {G : Heap}, nodupK (mapKeys M G) = true → ∀ {id id' : Nat} {o o' : AObj}, hget G id = some o → hget G id' = some o' → memB M.z id = false → memB M.z id' = false → mlook M.m id = mlook M.m id' → id = id'
  | [], _, _, _, _, _, h, _, _, _, _ => by simp [hget] at h
  | (k, x) :: r, hn, id, id', o, o', h, h', hz, hz', he => by
    simp only [hget] at h h'
    simp only [mapKeys] at hn
    have hcase : ∀ {i j : Nat} {oi oj : AObj}, Nat.beq k i = true → Nat.beq k j = false → memB M.z i = false → (hget r j = some oj) → memB M.z j = false → mlook M.m i = mlook M.m j → False := fun {i j oi oj} hb hb' hzi hj hzj heq => by
      have := Nat.eq_of_beq_eq_true hb
      subst this
      simp only [hzi, cond_false, nodupK, Bool.and_eq_true, Bool.not_eq_true'] at hn
      have := memB_keys (M := M) hj hzj
      rw [← heq, hn.1] at this
      cases this
    cases hb : Nat.beq k id with
    | true =>
      cases hb' : Nat.beq k id' with
      | true => exact (Nat.eq_of_beq_eq_true hb).symm.trans (Nat.eq_of_beq_eq_true hb')
      | false =>
        simp only [hb', cond_false] at h'
        exact (hcase (oi := o) hb hb' hz h' hz' he).elim
    | false =>
      simp only [hb, cond_false] at h
      cases hb' : Nat.beq k id' with
      | true => exact (hcase (oi := o) hb' hb hz' h hz he.symm).elim
      | false =>
        simp only [hb', cond_false] at h'
        refine keys_inj (G := r) ?_ h h' hz hz' he
        cases hzk : memB M.z k with
        | true => simpa only [hzk, cond_true] using hn
        | false =>
          simp only [hzk, cond_false, nodupK, Bool.and_eq_true] at hn
          exact hn.2

theorem mlook_ge {N0 : Nat} : ∀ {m : List (Nat × Nat)}, geAll N0 m = true → ∀ {id : Nat}, id < N0 → mlook m id = id
  | [], _, _, _ => rfl
  | (x, y) :: r, h, id, hid => by
    simp only [geAll, Bool.and_eq_true, Nat.ble_eq] at h
    simp only [mlook]
    have : Nat.beq x id = false := by
      cases hb : Nat.beq x id with
      | false => rfl
      | true => have := Nat.eq_of_beq_eq_true hb; omega
    simp only [this, cond_false]
    exact mlook_ge h.2 hid
theorem memB_ge {N0 : Nat} : ∀ {z : List Nat}, geAll' N0 z = true → ∀ {id : Nat}, id < N0 → memB z id = false
  | [], _, _, _ => rfl
  | x :: r, h, id, hid => by
    simp only [geAll', Bool.and_eq_true, Nat.ble_eq] at h
    simp only [memB]
    have : Nat.beq x id = false := by
      cases hb : Nat.beq x id with
      | false => rfl
      | true => have := Nat.eq_of_beq_eq_true hb; omega
    simp only [this, cond_false]
    exact memB_ge h.2 hid

/-- The heap under the new names. -/
theorem HeapRep.forget {ρ : Rho} {M : Map} {G' : Heap} (hH : HeapRep ρ N G w) (hle : heapLe M G' G) (hnd : nodupK (mapKeys M G') = true) :
    HeapRep (reρ M ρ G') M.N' G' w ∧ ∀ b, Owns (reρ M ρ G') G' b → Owns ρ G b := by
  have hnode : ∀ {id p nd own}, NodeAt G' id p nd own → (nd.n = 0 ∧ own = true ∧ 0 < nd.sz ∧ (reρ M ρ G') id p = ⟨0, 0, nd.sz, 0, 0⟩) ∨
      (memB M.z id = false ∧ ∃ nd' own', NodeAt G (mlook M.m id) p nd' own' ∧ NodeLe M nd nd' ∧ (own = true → own' = true) ∧ (reρ M ρ G') id p = ρ (mlook M.m id) p) := fun {id p nd own} hn => by
    obtain ⟨o, h1, h2, h3⟩ := hn.ex
    obtain ⟨hlt, h4 | h4⟩ := heapLe_get hle h1
    · left
      obtain ⟨hz, h5⟩ := h4
      rcases emptyObj_spec h5 with ⟨f, rfl, hf1, hf2⟩ | h6
      · cases p with
        | nil =>
          have h2' := h2
          simp only [AObj.node, Option.some.injEq] at h2'
          subst h2'
          exact ⟨hf1, h3.symm, hf2, by simp [reρ, hz, h1, AObj.node]⟩
        | cons _ _ => simp [AObj.node] at h2
      · rw [h6] at h2; cases h2
    · right
      obtain ⟨hz, o', h5, h6⟩ := h4
      obtain ⟨nd', q1, q2, q3⟩ := AObj.le_node h6 hlt hz h2
      exact ⟨hz, nd', o'.own, ⟨⟨o', h5, q1, rfl⟩⟩, q2, fun e => q3 (h3.trans e), by simp [reρ, hz]⟩
  have hsol : ∀ {B : Blk} {nd nd' : Node} {own own' : Bool}, NodeLe M nd nd' → (own = true → own' = true) → (own' = true → (B.tot = 0 ∧ nd'.n = 0) ∨ 0 < B.tot) → Solid B nd own → Solid B nd' own' := fun {B nd nd' own own'} hl ho ht hs => by
    unfold Solid at hs ⊢
    cases own with
    | true => simp only [if_true] at hs; rw [if_pos (ho rfl)]; exact hs
    | false =>
      simp only [Bool.false_eq_true, if_false] at hs
      split
      · rename_i h
        rcases ht h with ⟨_, h0⟩ | h0
        · rw [hl.n, h0] at hs; omega
        · exact h0
      · rw [← hl.n, ← hl.sz]; exact hs
  have hown' : ∀ {id p nd}, NodeAt G id p nd true → ((ρ id p).tot = 0 ∧ nd.n = 0) ∨ 0 < (ρ id p).tot := fun hn => by
    rcases hH.ow _ _ _ hn with h | ⟨_, _, _, _, h⟩
    · exact .inl h
    · exact .inr h
  refine ⟨⟨fun id o h => ?_, fun id p nd own hn => ?_, fun id p nd own hn i hi j hj => ?_, fun id p nd hn => ?_, fun id p nd id' p' nd' own' hn hn' hne ht hs => ?_⟩, fun b hb => ?_⟩
  · have := (heapLe_get hle h).1
    simpa [Nat.blt_eq] using this
  · rcases hnode hn with ⟨h1, _, h3, h4⟩ | ⟨_, nd', own', h1, h2, _, h4⟩
    · rw [h4]; exact ⟨rfl, h1.symm, h3⟩
    · rw [h4, h2.n, h2.sz]; exact hH.shape _ _ _ _ h1
  · rcases hnode hn with ⟨h1, _, h3, h4⟩ | ⟨_, nd', own', h1, h2, _, h4⟩
    · omega
    · rw [h4, h2.sz]
      obtain ⟨v, q1, q2, q3⟩ := hH.rd _ _ _ _ h1 i (h2.n ▸ hi) j (h2.sz ▸ hj)
      exact ⟨v, q1, AV.le_sound _ _ _ (h2.cell i j) q2, q3⟩
  · rcases hnode hn with ⟨h1, _, h3, h4⟩ | ⟨_, nd', own', h1, h2, h3, h4⟩
    · rw [h4]; exact .inl ⟨rfl, h1⟩
    · rw [h4, h2.n]
      have : own' = true := h3 rfl
      subst this
      exact hH.ow _ _ _ h1
  · rcases hnode hn with ⟨h1, _, h3, h4⟩ | ⟨hz, nd1, own1, h1, h2, h3, h4⟩
    · rw [h4] at ht; simp at ht
    · rcases hnode hn' with ⟨k1, k2, k3, k4⟩ | ⟨kz, nd2, own2, k1, k2, k3, k4⟩
      · rw [k4, k2] at hs; simp [Solid] at hs
      · rw [h4] at ht
        rw [k4] at hs
        rw [h4, k4]
        have : own1 = true := h3 rfl
        subst this
        refine hH.sep _ _ _ _ _ _ own2 h1 k1 (fun h => hne ?_) ht (hsol k2 k3 (fun e => by subst e; exact hown' k1) hs)
        obtain ⟨o1, g1, _⟩ := hn.ex
        obtain ⟨o2, g2, _⟩ := hn'.ex
        exact ⟨keys_inj hnd g1 g2 hz kz h.1, h.2⟩
  · obtain ⟨id, p, nd, hn, ht, rfl⟩ := hb
    rcases hnode hn with ⟨h1, _, h3, h4⟩ | ⟨_, nd1, own1, h1, h2, h3, h4⟩
    · rw [h4] at ht; simp at ht
    · rw [h4] at ht ⊢
      have : own1 = true := h3 rfl
      subst this
      exact ⟨_, _, _, h1, ht, rfl⟩

theorem St.forget {s' : Slots} {N' : Nat} {G' : Heap} (hS : St E B s N G a w) (h : Sub B.N s N G s' N' G') : St E B s' N' G' a w := by
  obtain ⟨⟨ρ, hs, hH, hN, hag, hfr, hown⟩, hz, hdf⟩ := hS
  obtain ⟨m, z, h1, h2, h3⟩ := h
  obtain ⟨hb, _⟩ := bcond h1
  simp only [Bool.and_eq_true, Nat.ble_eq] at hb
  obtain ⟨⟨⟨b1, b2⟩, b3⟩, b4⟩ := hb
  obtain ⟨q1, q2⟩ := hH.forget h3 b4
  refine ⟨⟨_, fun t => ?_, q1, b3, fun id hid => ?_, hfr, fun b hb => hown b (q2 b hb)⟩, hz, hdf⟩
  · have key : ∀ (s' : Slots), slotsLe ⟨m, z, N'⟩ s' s → VR (reρ ⟨m, z, N'⟩ ρ G') N' (look s' t) (a.tmps.getD t undef) := fun s' => by
      induction s' with
      | nil => intro _; simp only [look, VR]
      | cons x r ih =>
        obtain ⟨k, v⟩ := x
        intro h
        simp only [slotsLe] at h
        simp only [look]
        cases hb : Nat.beq k t with
        | true =>
          have := Nat.eq_of_beq_eq_true hb
          subst this
          exact AV.le_sound _ _ _ h.1 (hs k)
        | false => exact ih h.2
    exact key s' h2
  · funext p
    have hz0 : memB z id = false := memB_ge b2 hid
    have hm0 : mlook m id = id := mlook_ge b1 hid
    simp only [reρ, hz0, Bool.false_eq_true, if_false, hm0]
    exact congrFun (hag id hid) p

end
end Go.Sx
