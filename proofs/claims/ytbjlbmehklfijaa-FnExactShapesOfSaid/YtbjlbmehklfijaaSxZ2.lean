/-
  Slices of slices: a literal, append.
-/
import Derived.Test.YtbjlbmehklfijaaSxZ
namespace Go.Sx
set_option linter.unusedVariables false
set_option linter.unusedSimpArgs false
open Go
open Go.RowKit

section
variable {P : Program} {T : Tbl} {ρ : Rho} {N : Nat} {G : Heap} {w : World}

/-! ### A literal -/
def selI (k : IntKind) (f : Flat) : Option (List Int) :=
  match f with
  | .ints k' xs => bif k == k' then some xs else none
  | _ => none
def selR2 (f : Flat) : Option (List R2) :=
  match f with
  | .r2 xs => some xs
  | _ => none
def litG {α : Type} (sel : Flat → Option (List α)) : List (List AV) → Heap → (List (List α) → List (Option Nat) → Heap → Prop) → Prop
  | [], G, K => K [] [] G
  | c :: r, G, K => match c with
    | [] => False
    | v :: q => match q with
      | [] => rowSrc G v fun id f => match f with
        | none => litG sel r G fun xss rs G' => K ([] :: xss) (none :: rs) G'
        | some f => match sel f with
          | some xs => hdelO G id fun G1 => litG sel r G1 fun xss rs G' => K (xs :: xss) (id :: rs) G'
          | none => False
      | _ :: _ => False
/-- What stands in one place of a literal. -/
def LitAt {α : Type} (sel : Flat → Option (List α)) (G Gd : Heap) (v : List AV) (xs : List α) (id : Option Nat) : Prop :=
  match id with
  | none => v = [.nilsl] ∧ xs = []
  | some r => v = [.sl r []] ∧ hget Gd r = none ∧ ∃ f, hget G r = some (.flat true f) ∧ sel f = some xs
theorem litG_spec {α : Type} {sel : Flat → Option (List α)} : ∀ {rows : List (List AV)} {G : Heap} {K : List (List α) → List (Option Nat) → Heap → Prop}, litG sel rows G K →
    ∃ xss rs Gd, K xss rs Gd ∧ xss.length = rows.length ∧ rs.length = rows.length ∧ (∀ i o, hget Gd i = some o → hget G i = some o) ∧
      (∀ a, a < rows.length → LitAt sel G Gd (rows.getD a []) (xss.getD a []) (rs.getD a none)) ∧ ∀ a b id, rs.getD a none = some id → rs.getD b none = some id → a = b
  | [], G, K, h => ⟨[], [], G, h, rfl, rfl, fun _ _ h => h, by simp, by simp⟩
  | c :: r, G, K, h => by
    simp only [litG] at h
    split at h
    · exact h.elim
    · rename_i v q
      split at h
      · rcases rowSrc_spec h with ⟨rfl, h⟩ | ⟨id, f, rfl, hr, h⟩
        · obtain ⟨xss, rs, Gd, hK, e1, e2, e3, e4, e5⟩ := litG_spec h
          refine ⟨[] :: xss, none :: rs, Gd, hK, by simp [e1], by simp [e2], e3, fun a ha => ?_, fun a b id h1 h2 => ?_⟩
          · cases a with
            | zero => exact ⟨rfl, rfl⟩
            | succ a => exact e4 a (by simpa using ha)
          · cases a with
            | zero => cases h1
            | succ a =>
              cases b with
              | zero => cases h2
              | succ b => rw [e5 a b id h1 h2]
        · simp only at h
          split at h
          case h_2 => exact h.elim
          rename_i xs hsel
          have h := hdelK_eq _ _ _ h
          obtain ⟨xss, rs, Gd, hK, e1, e2, e3, e4, e5⟩ := litG_spec h
          have hne : ∀ a id', a < r.length → rs.getD a none = some id' → id' ≠ id := fun a id' ha he => by
            have := e4 a ha
            rw [he] at this
            obtain ⟨_, _, f', hf', _⟩ := this
            intro e
            subst e
            rw [hdel_none] at hf'
            cases hf'
          have hlt : ∀ a id', rs.getD a none = some id' → a < r.length := fun a id' he => by
            rcases Nat.lt_or_ge a r.length with h | h
            · exact h
            · rw [List.getD, List.getElem?_eq_none (by omega)] at he; cases he
          refine ⟨xs :: xss, some id :: rs, Gd, hK, by simp [e1], by simp [e2], fun i o h => hdel_sub G id i o (e3 i o h), fun a ha => ?_, fun a b id' h1 h2 => ?_⟩
          · cases a with
            | zero =>
              refine ⟨rfl, ?_, f, hr, hsel⟩
              cases hh : hget Gd id with
              | none => rfl
              | some o => have := e3 _ _ hh; rw [hdel_none] at this; cases this
            | succ a =>
              have := e4 a (by simpa using ha)
              simp only [List.getD_cons_succ]
              cases hrs : rs.getD a none with
              | none => rw [hrs] at this; exact this
              | some id' =>
                rw [hrs] at this
                obtain ⟨q1, q2, f', q3, q4⟩ := this
                exact ⟨q1, q2, f', hdel_sub G id _ _ q3, q4⟩
          · cases a with
            | zero =>
              cases b with
              | zero => rfl
              | succ b =>
                simp only [List.getD_cons_zero, List.getD_cons_succ] at h1 h2
                injection h1 with h1
                exact absurd h1.symm (hne b id' (hlt b id' h2) h2)
            | succ a =>
              cases b with
              | zero =>
                simp only [List.getD_cons_zero, List.getD_cons_succ] at h1 h2
                injection h2 with h2
                exact absurd h2.symm (hne a id' (hlt a id' h1) h1)
              | succ b => rw [e5 a b id' h1 h2]
      · exact h.elim
def litK (k : EK) (rows : List (List AV)) (G : Heap) (K : AObj → Nat → List (Option Nat) → Heap → Prop) : Prop :=
  match k with
  | .nestI k => litG (selI k) rows G fun xss rs Gd => K (.nestI true k xss) xss.length rs Gd
  | .nestR2 => litG selR2 rows G fun xss rs Gd => K (.nestR2 true xss) xss.length rs Gd
  | _ => False
theorem litK_spec {k : EK} {rows : List (List AV)} {G : Heap} {K : AObj → Nat → List (Option Nat) → Heap → Prop} (h : litK k rows G K) :
    ∃ o rs Gd, K o rows.length rs Gd ∧ o.own = true ∧ o.nest = true ∧ k ≠ .other ∧ k.zero = [.nilsl] ∧ rs.length = rows.length ∧ (∀ i o, hget Gd i = some o → hget G i = some o) ∧
      (∀ id a nd, o.node id [a] = some nd → a < rows.length ∧ match rs.getD a none with
        | none => rows.getD a [] = [.nilsl] ∧ nd.n = 0 ∧ 0 < nd.sz
        | some r => rows.getD a [] = [.sl r []] ∧ hget Gd r = none ∧ ∃ f, hget G r = some (.flat true f) ∧ nd = f.node) ∧
      (∀ id a, a < rows.length → ∃ nd, o.node id [a] = some nd) ∧ ∀ a b id, rs.getD a none = some id → rs.getD b none = some id → a = b := by
  unfold litK at h
  split at h
  case h_3 => exact h.elim
  case h_1 =>
    rename_i k
    obtain ⟨xss, rs, Gd, hK, e1, e2, e3, e4, e5⟩ := litG_spec h
    rw [e1] at hK
    refine ⟨_, rs, Gd, hK, rfl, rfl, by simp, rfl, e2, e3, fun id a nd hn => ?_, fun id a ha => ⟨_, if_pos (by omega)⟩, e5⟩
    simp only [AObj.node] at hn
    split at hn
    case isFalse => cases hn
    rename_i ha
    injection hn with hn
    have h4 := e4 a (by omega)
    refine ⟨by omega, ?_⟩
    cases hrs : rs.getD a none with
    | none =>
      rw [hrs] at h4
      obtain ⟨q1, q2⟩ := h4
      rw [q2] at hn
      subst hn
      exact ⟨q1, rfl, Nat.zero_lt_one⟩
    | some r =>
      rw [hrs] at h4
      obtain ⟨q1, q2, f, q3, q4⟩ := h4
      refine ⟨q1, q2, f, q3, ?_⟩
      cases f <;> simp only [selI, reduceCtorEq] at q4
      rename_i k' ys
      cases hb : k == k' with
      | false => simp [hb] at q4
      | true =>
        have : k = k' := by simpa using hb
        subst this
        simp only [beq_self_eq_true, cond_true, Option.some.injEq] at q4
        rw [← hn, ← q4]
  case h_2 =>
    obtain ⟨xss, rs, Gd, hK, e1, e2, e3, e4, e5⟩ := litG_spec h
    rw [e1] at hK
    refine ⟨_, rs, Gd, hK, rfl, rfl, by simp, rfl, e2, e3, fun id a nd hn => ?_, fun id a ha => ⟨_, if_pos (by omega)⟩, e5⟩
    simp only [AObj.node] at hn
    split at hn
    case isFalse => cases hn
    rename_i ha
    injection hn with hn
    have h4 := e4 a (by omega)
    refine ⟨by omega, ?_⟩
    cases hrs : rs.getD a none with
    | none =>
      rw [hrs] at h4
      obtain ⟨q1, q2⟩ := h4
      rw [q2] at hn
      subst hn
      exact ⟨q1, rfl, Nat.zero_lt_two⟩
    | some r =>
      rw [hrs] at h4
      obtain ⟨q1, q2, f, q3, q4⟩ := h4
      refine ⟨q1, q2, f, q3, ?_⟩
      cases f <;> simp only [selR2, reduceCtorEq, Option.some.injEq] at q4
      rw [← hn, ← q4]

def litB (ρ : Rho) (rs : List (Option Nat)) (sz : Nat) : List Nat → Blk
  | [a] => match rs.getD a none with
    | some r => ρ r []
    | none => ⟨0, 0, sz, 0, 0⟩
  | _ => ⟨0, 0, sz, 0, 0⟩
def litS (rs : List (Option Nat)) : List Nat → Option (Nat × List Nat)
  | [a] => (rs.getD a none).map fun r => (r, [])
  | _ => none

def eBuildX (T : Tbl) (lk : Operand → AV) (t len : Nat) (parts : List (Nat × Operand)) (N : Nat) (G : Heap) (K : AV → Nat → Heap → Prop) : Prop :=
  match tget T t with
  | some ti => match ti.d with
    | .slice _ esz _ k => match k.isNest with
      | false => eBuildSlice T lk t len parts N G K
      | true => bif Nat.beq len parts.length && Nat.ble (len * esz) 1000 then collectK lk esz 0 parts fun rows => litK k rows G fun o n _ Gd => K (.sl (N + 1) []) (N + 1 + 1) ((N + 1, .flat true (.rows N 0 n)) :: (N, o) :: Gd) else False
    | _ => False
  | none => False
/-- The cells' sizes of all rows of an object are alike. -/
theorem nest_sz {o : AObj} (h : o.nest = true) : ∃ s, 0 < s ∧ ∀ id p nd, o.node id p = some nd → nd.sz = s := by
  cases o with
  | flat _ _ => cases h
  | nestI own k xss =>
    refine ⟨1, Nat.zero_lt_one, fun id p nd hn => ?_⟩
    obtain ⟨a, rfl⟩ := nest_nodes (o := .nestI own k xss) rfl id p nd hn
    simp only [AObj.node] at hn
    split at hn
    · injection hn with hn; subst hn; rfl
    · cases hn
  | nestR2 own xss =>
    refine ⟨2, Nat.zero_lt_two, fun id p nd hn => ?_⟩
    obtain ⟨a, rfl⟩ := nest_nodes (o := .nestR2 own xss) rfl id p nd hn
    simp only [AObj.node] at hn
    split at hn
    · injection hn with hn; subst hn; rfl
    · cases hn
theorem eBuildX_sound {lk : Operand → AV} {ev : Operand → Value} (hT : TblOK P T) (hH : HeapRep ρ N G w) (hlk : ∀ x, VR ρ N (lk x) (ev x)) {t len : Nat} {parts : List (Nat × Operand)} {K : AV → Nat → Heap → Prop}
    (h : eBuildX T lk t len parts N G K) : ∃ v w', (Instr.buildSlice t len (parts.map fun x => (x.1, ev x.2)).toArray).run P w = .ok v w' ∧ Out ρ N G w K v w' := by
  unfold eBuildX at h
  split at h
  case h_2 => exact h.elim
  rename_i ti ht
  split at h
  case h_2 => exact h.elim
  rename_i e esz eb k hd1
  split at h
  case h_1 => exact eBuildSlice_sound hT hH hlk h
  cases hb : (Nat.beq len parts.length && Nat.ble (len * esz) 1000) with
  | false => simp [hb] at h
  | true =>
    simp only [hb, cond_true] at h
    simp only [Bool.and_eq_true, Nat.beq_eq, Nat.ble_eq] at hb
    obtain ⟨rfl, hsmall⟩ := hb
    obtain ⟨rows, vss, h, e1, e2, e3, e4⟩ := collectK_spec hlk h
    obtain ⟨o, rs, Gd, hK, hown, hnest, hko, hkz, hrl, hsub, hnd, _, hinj⟩ := litK_spec h
    obtain ⟨s, hs, hsz⟩ := nest_sz hnest
    obtain ⟨hH1, hO1⟩ := hH.take hsub (o := o) hown (litB ρ rs s) (litS rs) (fun p nd hp => by
      obtain ⟨a, rfl⟩ := nest_nodes hnest N p nd hp
      obtain ⟨_, h2⟩ := hnd N a nd hp
      simp only [litB, litS]
      cases hrs : rs.getD a none with
      | none =>
        rw [hrs] at h2
        exact .inl ⟨rfl, h2.2.1, h2.2.2, by rw [hsz N [a] nd hp]⟩
      | some r =>
        rw [hrs] at h2
        obtain ⟨_, q2, f, q3, rfl⟩ := h2
        exact .inr ⟨r, [], rfl, NodeAt.of_get q3 rfl, q2, rfl⟩) (fun p p' x h1 h2 => by
      match p, p' with
      | [a], [b] =>
        simp only [litS, Option.map_eq_some_iff] at h1 h2
        obtain ⟨r1, q1, rfl⟩ := h1
        obtain ⟨r2, q2, q3⟩ := h2
        simp only [Prod.mk.injEq, and_true] at q3
        subst q3
        rw [hinj a b _ q1 q2]
      | [], _ => simp [litS] at h1
      | _ :: _ :: _, _ => simp [litS] at h1
      | [_], [] => simp [litS] at h2
      | [_], _ :: _ :: _ => simp [litS] at h2)
    have hρ := updR_lt ρ N (litB ρ rs s)
    obtain ⟨v, w', hrun, hout⟩ := build_core (ev := ev) hT hH1 ht hd1 hko hsmall e1 e2 e3 e4 (f := .rows N 0 rows.length) rfl (by rw [hkz]; rfl) (fun i j u hi hj hu => by
      simp only [Flat.sz] at hj
      obtain rfl : j = 0 := by omega
      obtain ⟨nd, hn⟩ := (‹∀ id a, a < rows.length → ∃ nd, o.node id [a] = some nd› N i hi)
      obtain ⟨_, h2⟩ := hnd N i nd hn
      simp only [Flat.cell, offs, VR, updR_at, litB]
      refine ⟨Nat.lt_succ_self N, ?_⟩
      cases hrs : rs.getD i none with
      | none =>
        rw [hrs] at h2
        rw [h2.1] at hu
        simp only [List.getD_cons_zero, VR] at hu
        exact ⟨none, 0, hu, .inr ⟨rfl, rfl⟩⟩
      | some r =>
        rw [hrs] at h2
        rw [h2.1] at hu
        simp only [List.getD_cons_zero, VR] at hu
        exact hu.2) hK
    exact ⟨v, w', hrun, Out.ghost (Nat.le_succ N) hρ hO1 hout⟩

/-! ### append -/
/-- A slice of rows that is one's own. -/
def rowsOf (G : Heap) (H : Nat) (K : Nat → Nat → AObj → Prop) : Prop :=
  match hget G H with
  | some o => match o with
    | .flat own f => match f with
      | .rows M off n => match hget G M with
        | some o => bif own && Nat.beq off 0 && o.own && o.nest then K M n o else False
        | none => False
      | _ => False
    | _ => False
  | none => False
theorem rowsOf_spec {H : Nat} {K : Nat → Nat → AObj → Prop} (h : rowsOf G H K) : ∃ M n o, K M n o ∧ hget G H = some (.flat true (.rows M 0 n)) ∧ hget G M = some o ∧ o.own = true ∧ o.nest = true := by
  unfold rowsOf at h
  split at h
  case h_2 => exact h.elim
  rename_i o ho
  split at h
  case h_2 => exact h.elim
  split at h
  case h_2 => exact h.elim
  split at h
  case h_2 => exact h.elim
  rename_i own f M off n _ o1 hM
  cases hb : (own && Nat.beq off 0 && o1.own && o1.nest) with
  | false => simp [hb] at h
  | true =>
    simp only [hb, cond_true] at h
    simp only [Bool.and_eq_true, Nat.beq_eq] at hb
    obtain ⟨⟨⟨rfl, rfl⟩, h1⟩, h2⟩ := hb
    exact ⟨_, _, _, h, ho, hM, h1, h2⟩
def isRows (G : Heap) (H : Nat) : Bool :=
  match hget G H with
  | some o => match o with
    | .flat _ f => match f with
      | .rows _ _ _ => true
      | _ => false
    | _ => false
  | none => false
/-- Two objects of rows together; how many rows the first one and all have. -/
def appO (o1 : Option AObj) (o2 : AObj) (K : Nat → Nat → Nat → AObj → Prop) : Prop :=
  match o2 with
  | .nestI _ k yss => match o1 with
    | none => K 0 yss.length yss.length (.nestI true k yss)
    | some o1 => match o1 with
      | .nestI _ k' xss => bif k == k' then K xss.length yss.length (xss ++ yss).length (.nestI true k (xss ++ yss)) else False
      | _ => False
  | .nestR2 _ yss => match o1 with
    | none => K 0 yss.length yss.length (.nestR2 true yss)
    | some o1 => match o1 with
      | .nestR2 _ xss => K xss.length yss.length (xss ++ yss).length (.nestR2 true (xss ++ yss))
      | _ => False
  | _ => False
theorem appO_spec {o1 : Option AObj} {o2 : AObj} {K : Nat → Nat → Nat → AObj → Prop} (h : appO o1 o2 K) : ∃ l1 l2 o, K l1 l2 (l1 + l2) o ∧ o.own = true ∧ o.nest = true ∧ (o1 = none → l1 = 0) ∧
    ∀ id a nd, o.node id [a] = some nd → (a < l1 ∧ ∃ o', o1 = some o' ∧ ∀ M, o'.node M [a] = some nd) ∨ (l1 ≤ a ∧ ∀ M, o2.node M [a - l1] = some nd) := by
  have key : ∀ {α : Type} (xs ys : List (List α)) (a : Nat), a < (xs ++ ys).length → (a < xs.length ∧ (xs ++ ys).getD a [] = xs.getD a []) ∨ (xs.length ≤ a ∧ a - xs.length < ys.length ∧ (xs ++ ys).getD a [] = ys.getD (a - xs.length) []) := fun xs ys a ha => by
    rw [getD_app]
    by_cases h : a < xs.length
    · exact .inl ⟨h, by rw [if_pos h]⟩
    · refine .inr ⟨by omega, ?_, by rw [if_neg h]⟩
      rw [List.length_append] at ha; omega
  cases o2 with
  | flat _ _ => exact h.elim
  | nestI own k yss =>
    simp only [appO] at h
    cases o1 with
    | none =>
      refine ⟨0, _, _, (by simpa using h), rfl, rfl, fun _ => rfl, fun id a nd hn => .inr ⟨Nat.zero_le _, fun M => ?_⟩⟩
      exact hn
    | some o1 =>
      cases o1 <;> simp only at h
      rename_i own' k' xss
      cases hb : k == k' with
      | false => simp [hb] at h
      | true =>
        have : k = k' := by simpa using hb
        subst this
        simp only [beq_self_eq_true, cond_true, List.length_append] at h
        refine ⟨_, _, _, h, rfl, rfl, by simp, fun id a nd hn => ?_⟩
        simp only [AObj.node] at hn
        split at hn
        case isFalse => cases hn
        rename_i ha
        rcases key xss yss a ha with ⟨h1, h2⟩ | ⟨h1, h2, h3⟩
        · refine .inl ⟨h1, _, rfl, fun M => ?_⟩
          simp only [AObj.node, if_pos h1, ← h2]
          exact hn
        · refine .inr ⟨h1, fun M => ?_⟩
          simp only [AObj.node, if_pos h2, ← h3]
          exact hn
  | nestR2 own yss =>
    simp only [appO] at h
    cases o1 with
    | none =>
      refine ⟨0, _, _, (by simpa using h), rfl, rfl, fun _ => rfl, fun id a nd hn => .inr ⟨Nat.zero_le _, fun M => ?_⟩⟩
      exact hn
    | some o1 =>
      cases o1 <;> simp only at h
      rename_i own' xss
      simp only [List.length_append] at h
      refine ⟨_, _, _, h, rfl, rfl, by simp, fun id a nd hn => ?_⟩
      simp only [AObj.node] at hn
      split at hn
      case isFalse => cases hn
      rename_i ha
      rcases key xss yss a ha with ⟨h1, h2⟩ | ⟨h1, h2, h3⟩
      · refine .inl ⟨h1, _, rfl, fun M => ?_⟩
        simp only [AObj.node, if_pos h1, ← h2]
        exact hn
      · refine .inr ⟨h1, fun M => ?_⟩
        simp only [AObj.node, if_pos h2, ← h3]
        exact hn

def appB (ρ : Rho) (M1 M2 l1 sz : Nat) : List Nat → Blk
  | [a] => if a < l1 then ρ M1 [a] else ρ M2 [a - l1]
  | _ => ⟨0, 0, sz, 0, 0⟩
def appS (M1 M2 l1 : Nat) : List Nat → Option (Nat × List Nat)
  | [a] => if a < l1 then some (M1, [a]) else some (M2, [a - l1])
  | _ => none

def eAppendR (T : Tbl) (t t2 : Nat) (s : AV) (H2 M2 n2 : Nat) (o2 : AObj) (N : Nat) (G : Heap) (K : AV → Nat → Heap → Prop) : Prop :=
  match tget T t with
  | some ti => match ti.d with
    | .slice _ esz _ _ => match tget T t2 with
      | some ti2 => bif ti2.d.sl && Nat.beq esz 1 then match s with
        | .nilsl => appO none o2 fun _ l2 n o => hdelK G M2 fun G1 => hdelK G1 H2 fun Gd => need (some (n2 = l2)) (need (some (n ≤ 1099511627776)) (K (.sl (N + 1) []) (N + 1 + 1) ((N + 1, .flat true (.rows N 0 n)) :: (N, o) :: Gd)))
        | .sl H1 p => match p with
          | [] => bif Nat.beq H1 H2 then False else rowsOf G H1 fun M1 n1 o1 => bif Nat.beq M1 M2 then False else appO (some o1) o2 fun l1 l2 n o => hdelK G M1 fun G1 => hdelK G1 M2 fun G2 => hdelK G2 H1 fun G3 => hdelK G3 H2 fun Gd =>
              need (some (n1 = l1)) (need (some (n2 = l2)) (need (some (n ≤ 1099511627776)) (K (.sl (N + 1) []) (N + 1 + 1) ((N + 1, .flat true (.rows N 0 n)) :: (N, o) :: Gd))))
          | _ :: _ => False
        | _ => False
        else False
      | none => False
    | _ => False
  | none => False
def eAppendX (T : Tbl) (t t2 : Nat) (s x : AV) (N : Nat) (G : Heap) (K : AV → Nat → Heap → Prop) : Prop :=
  match x with
  | .sl H2 p => match p with
    | [] => match isRows G H2 with
      | true => rowsOf G H2 fun M2 n2 o2 => eAppendR T t t2 s H2 M2 n2 o2 N G K
      | false => eAppend T t t2 s (.sl H2 []) N G K
    | y :: q => eAppend T t t2 s (.sl H2 (y :: q)) N G K
  | x => eAppend T t t2 s x N G K

theorem take_app (hH : HeapRep ρ N G w) {Gd : Heap} (hsub : ∀ i o, hget Gd i = some o → hget G i = some o) {M1 M2 l1 : Nat} {o1 : Option AObj} {o2 o : AObj} (hown : o.own = true) (hnest : o.nest = true) (h1 : ∀ o', o1 = some o' → hget G M1 = some o' ∧ o'.own = true ∧ hget Gd M1 = none ∧ M1 ≠ M2) (h2 : hget G M2 = some o2) (h2o : o2.own = true) (h2d : hget Gd M2 = none) (hn1 : o1 = none → l1 = 0)
    (hnd : ∀ id a nd, o.node id [a] = some nd → (a < l1 ∧ ∃ o', o1 = some o' ∧ ∀ M, o'.node M [a] = some nd) ∨ (l1 ≤ a ∧ ∀ M, o2.node M [a - l1] = some nd)) :
    HeapRep (updR ρ N (appB ρ M1 M2 l1 1)) (N + 1) ((N, o) :: Gd) w ∧ ∀ b, Owns (updR ρ N (appB ρ M1 M2 l1 1)) ((N, o) :: Gd) b → Owns ρ G b := by
  refine hH.take hsub hown _ (appS M1 M2 l1) (fun p nd hp => ?_) (fun p p' x h h' => ?_)
  · obtain ⟨a, rfl⟩ := nest_nodes hnest N p nd hp
    simp only [appB, appS]
    rcases hnd N a nd hp with ⟨ha, o', rfl, q⟩ | ⟨ha, q⟩
    · obtain ⟨q1, q2, q3, _⟩ := h1 o' rfl
      rw [if_pos ha, if_pos ha]
      exact .inr ⟨M1, [a], rfl, ⟨⟨o', q1, q M1, q2⟩⟩, q3, rfl⟩
    · rw [if_neg (by omega), if_neg (by omega)]
      exact .inr ⟨M2, [a - l1], rfl, ⟨⟨o2, h2, q M2, h2o⟩⟩, h2d, rfl⟩
  · have hne : ∀ a, a < l1 → M1 ≠ M2 := fun a ha => by
      cases o1 with
      | none => have := hn1 rfl; omega
      | some o' => exact (h1 o' rfl).2.2.2
    match p, p' with
    | [a], [b] =>
      simp only [appS] at h h'
      split at h <;> split at h'
      · rw [← h] at h'; simp at h'; rw [h']
      · next ha _ => rw [← h] at h'; simp at h'; exact absurd h'.1.symm (hne a ha)
      · next ha => rw [← h] at h'; simp at h'; exact absurd h'.1 (hne b ha)
      · rw [← h] at h'; simp at h'
        have : a = b := by omega
        rw [this]
    | [], _ => simp [appS] at h
    | _ :: _ :: _, _ => simp [appS] at h
    | [_], [] => simp [appS] at h'
    | [_], _ :: _ :: _ => simp [appS] at h'

theorem eAppendR_sound (hT : TblOK P T) (hH : HeapRep ρ N G w) {t t2 ty : Nat} {s : AV} {H2 M2 n2 : Nat} {o2 : AObj} {K : AV → Nat → Heap → Prop} (h : eAppendR T t t2 s H2 M2 n2 o2 N G K)
    (hH2 : hget G H2 = some (.flat true (.rows M2 0 n2))) (hM2 : hget G M2 = some o2) (ho2 : o2.own = true) (hne2 : o2.nest = true) {sv xv : Value} (hs : VR ρ N s sv) (hx : VR ρ N (.sl H2 []) xv) :
    ∃ v w', (Builtin.append_ #[t, t2] ty #[sv, xv]).run P w = .ok v w' ∧ Out ρ N G w K v w' := by
  unfold eAppendR at h
  split at h
  case h_2 => exact h.elim
  rename_i ti ht
  split at h
  case h_2 => exact h.elim
  rename_i e esz eb k hd1
  split at h
  case h_2 => exact h.elim
  rename_i ti2 ht2
  cases hb : (ti2.d.sl && Nat.beq esz 1) with
  | false => simp [hb] at h
  | true =>
  simp only [hb, cond_true] at h
  simp only [Bool.and_eq_true, Nat.beq_eq] at hb
  obtain ⟨hsl2, rfl⟩ := hb
  have hd0 := (hT _ _ ht).desc
  rw [hd1] at hd0
  obtain ⟨hd, i, z, hi, hsz, hby, hpos, heb, hz, hzs, hzk, hz1⟩ : DescOK P t (.slice e 1 eb k) := hd0
  have hd2 : ∃ e2, P.underlying t2 = some (.slice e2) := by
    have := (hT _ _ ht2).desc
    cases hdd : ti2.d <;> rw [hdd] at this hsl2 <;> simp only [TD.sl, Bool.false_eq_true] at hsl2
    exact ⟨_, this.1⟩
  obtain ⟨e2, hd2⟩ := hd2
  have hM2N := hH.keys _ _ hM2
  have hne : H2 ≠ M2 := fun e => by subst e; rw [hH2] at hM2; injection hM2 with hM2; subst hM2; cases hne2
  -- the source's cells
  have hsrc : srcK G (.sl H2 []) (fun C g => C = none ∧ g = some (.rows M2 0 n2)) := by simp [srcK, hH2, nodeV]
  obtain ⟨C2, g, ⟨rfl, rfl⟩, hg⟩ := srcK_spec hH hsrc hx
  obtain ⟨A2, m, cc2, news, rfl, m1, m2, m3, m4⟩ := (hg trivial 1 (by intro f h; injection h with h; subst h; rfl)).ex
  obtain rfl : n2 = m := m3.symm
  have m4 := m4 rfl
  split at h
  · -- to nil
    obtain ⟨l1, l2, o, h, hown, hnest, hl1, hnd⟩ := appO_spec h
    obtain rfl := hl1 rfl
    have h := hdelK_eq _ _ _ (hdelK_eq _ _ _ h)
    obtain ⟨c2, h⟩ := need_spec h
    obtain ⟨c3, hK⟩ := need_spec h
    simp only [Cnd.holds] at c2 c3
    subst c2
    simp only [VR] at hs
    subst hs
    have hsub : ∀ a x, hget (hdel (hdel G M2) H2) a = some x → hget G a = some x := fun a x hx => hdel_sub G M2 a x (hdel_sub _ H2 a x hx)
    obtain ⟨hH1, hO1⟩ := take_app hH hsub (M1 := 0) (M2 := M2) (l1 := 0) (o1 := none) hown hnest (by simp) hM2 ho2 (by rw [hdel_ne (Ne.symm hne)]; exact hdel_none G M2) (fun _ => rfl) hnd
    have hρ := updR_lt ρ N (appB ρ 0 M2 0 1)
    obtain ⟨v, w', hrun, hout⟩ := append_core (t := t) (t2 := t2) (ty := ty) (A := none) (n := 0) (c := 0) (c2 := cc2) (olds := []) hH1 hd hi hz (by rw [hzs, hsz]) hd2 (by omega) (by omega) (by simp) (by rw [hsz]; exact m1) (fun h => absurd h (Nat.lt_irrefl 0)) m2 (f := .rows N 0 (0 + n2)) (by simp [Flat.n]) (by rw [hsz]; rfl) (fun a ha => absurd ha (Nat.not_lt_zero a)) (fun a ha b hb => by
      rw [hsz] at hb ⊢
      obtain ⟨u, q1, q2, q3⟩ := m4 a ha b hb
      refine ⟨u, q1, ?_, q3⟩
      simp only [Flat.cell, offs, VR, updR_at, appB] at q2 ⊢
      rw [if_neg (by omega), show 0 + a - 0 = a by omega]
      exact ⟨Nat.lt_succ_self N, q2.2⟩) (fun _ _ h => h) (fun _ => .inl ⟨by omega, rfl⟩) (by simpa [Flat.n] using c3) hK
    exact ⟨v, w', hrun, Out.ghost (Nat.le_succ N) hρ hO1 hout⟩
  · rename_i H1 p
    split at h
    case h_2 => exact h.elim
    cases hb : Nat.beq H1 H2 with
    | true => simp [hb] at h
    | false =>
    simp only [hb, cond_false] at h
    have hHH : H1 ≠ H2 := fun e => by subst e; simp at hb
    obtain ⟨M1, n1, o1, h, hH1g, hM1, ho1, hne1⟩ := rowsOf_spec h
    cases hb : Nat.beq M1 M2 with
    | true => simp [hb] at h
    | false =>
    simp only [hb, cond_false] at h
    have hMM : M1 ≠ M2 := fun e => by subst e; simp at hb
    obtain ⟨l1, l2, o, h, hown, hnest, _, hnd⟩ := appO_spec h
    have h := hdelK_eq _ _ _ (hdelK_eq _ _ _ (hdelK_eq _ _ _ (hdelK_eq _ _ _ h)))
    obtain ⟨c1, h⟩ := need_spec h
    obtain ⟨c2, h⟩ := need_spec h
    obtain ⟨c3, hK⟩ := need_spec h
    simp only [Cnd.holds] at c1 c2 c3
    subst c1 c2
    have hM1N := hH.keys _ _ hM1
    have hH1N := hH.keys _ _ hH1g
    have hflat : ∀ {a b : Nat} {f : Flat} {x : AObj}, hget G a = some (.flat true f) → hget G b = some x → x.nest = true → a ≠ b := fun {a b f x} h1 h2 h3 e => by
      subst e; rw [h1] at h2; injection h2 with h2; subst h2; cases h3
    -- without the two objects of rows; and without the two headers too
    have hsub1 : ∀ a x, hget (hdel (hdel G M1) M2) a = some x → hget G a = some x := fun a x hx => hdel_sub G M1 a x (hdel_sub _ M2 a x hx)
    obtain ⟨hH1, hO1⟩ := take_app hH hsub1 (M1 := M1) (M2 := M2) (l1 := n1) (o1 := some o1) hown hnest (fun o' e => by
      injection e with e; subst e
      exact ⟨hM1, ho1, by rw [hdel_ne hMM]; exact hdel_none G M1, hMM⟩) hM2 ho2 (hdel_none _ _) (by simp) hnd
    have hρ := updR_lt ρ N (appB ρ M1 M2 n1 1)
    have hdst : dstK G (.sl H1 []) (fun C f Gd fix => C = none ∧ f = some (.rows M1 0 n1) ∧ Gd = hdel G H1 ∧ fix = none) := by
      have : ∀ (G : Heap) (id : Nat) (K : Heap → Prop), K (hdel G id) → hdelK G id K := fun G id => by
        induction G with
        | nil => exact fun K h => h
        | cons x r ih =>
          obtain ⟨k, o⟩ := x
          intro K h
          simp only [hdel, hdelK] at h ⊢
          cases hb : Nat.beq k id with
          | true => simp only [hb, cond_true] at h ⊢; exact ih K h
          | false => simp only [hb, cond_false] at h ⊢; exact ih _ h
      simp only [dstK, hH1g]
      exact this _ _ _ (by simp)
    obtain ⟨C1, f, Gd0, fix, ⟨rfl, rfl, rfl, rfl⟩, hf⟩ := dstK_spec hH hdst hs
    obtain ⟨A, n, c, olds, rfl, k1, k2, ⟨k3, k3'⟩, k4⟩ := (hf trivial 1 (by intro f h; injection h with h; subst h; rfl)).ex
    obtain rfl : n1 = n := k3.symm
    have k3' := k3' rfl
    have hget1 : ∀ a, a ≠ M1 → a ≠ M2 → a < N → hget ((N, o) :: hdel (hdel G M1) M2) a = hget G a := fun a h1 h2 h3 => by
      rw [hget_cons, if_neg (by omega), hdel_ne h2, hdel_ne h1]
    obtain ⟨v, w', hrun, hout⟩ := append_core (t := t) (t2 := t2) (ty := ty) (A := A) (n := n1) (c := c) (c2 := cc2) (olds := olds) hH1 hd hi hz (by rw [hzs, hsz]) hd2 (by omega) (by omega) (by rw [hsz]; exact k1) (by rw [hsz]; exact m1) k2 m2 (f := .rows N 0 (n1 + n2)) (by simp [Flat.n]) (by rw [hsz]; rfl) (fun a ha b hb => by
      rw [hsz] at hb ⊢
      obtain ⟨u, q1, q2, q3⟩ := k3' a ha b hb
      refine ⟨u, q1, ?_, q3⟩
      simp only [Flat.cell, offs, VR, updR_at, appB] at q2 ⊢
      rw [if_pos ha]
      exact ⟨Nat.lt_succ_self N, q2.2⟩) (fun a ha b hb => by
      rw [hsz] at hb ⊢
      obtain ⟨u, q1, q2, q3⟩ := m4 a ha b hb
      refine ⟨u, q1, ?_, q3⟩
      simp only [Flat.cell, offs, VR, updR_at, appB, Flat.n] at q2 ⊢
      rw [if_neg (by omega), show n1 + a - n1 = a by omega]
      exact ⟨Nat.lt_succ_self N, q2.2⟩) (Gd := (N, o) :: hdel (hdel (hdel (hdel G M1) M2) H1) H2) (fun a x hx => by
        rw [hget_cons] at hx ⊢
        split at hx
        · next he => rw [if_pos he]; exact hx
        · next he => rw [if_neg he]; exact hdel_sub _ H1 a x (hdel_sub _ H2 a x hx)) (fun hle => by
        rcases k4 with q | ⟨id, f0, oo, q1, q2, q3, q4, q5, q6⟩
        · by_cases h0 : n1 + n2 = 0
          · exact .inl ⟨h0, q.2⟩
          · omega
        · by_cases hc0 : c = 0
          · refine .inl ⟨?_, hc0⟩
            omega
          · have hidH : id = H1 := by
              rcases Nat.decEq id H1 with h | h
              · rw [hdel_ne h, q1] at q2; cases q2
              · exact h
            subst hidH
            refine .inr ⟨id, f0, oo, ?_, ?_, ?_, ?_, ?_⟩
            · rw [hget1 id (hflat q1 hM1 hne1) (hflat q1 hM2 hne2) hH1N]; exact q1
            · rw [hget_cons, if_neg (by omega), hdel_ne hHH]; exact hdel_none _ _
            · rw [hρ id hH1N]; exact q3
            · rw [hρ id hH1N, hsz]; exact q4
            · rw [hρ id hH1N]; exact q5 (by omega)) (by simpa [Flat.n] using c3) hK
    exact ⟨v, w', hrun, Out.ghost (Nat.le_succ N) hρ hO1 hout⟩
  · exact h.elim

theorem eAppendX_sound (hT : TblOK P T) (hH : HeapRep ρ N G w) {t t2 ty : Nat} {s x : AV} {K : AV → Nat → Heap → Prop} (h : eAppendX T t t2 s x N G K) {sv xv : Value} (hs : VR ρ N s sv) (hx : VR ρ N x xv) :
    ∃ v w', (Builtin.append_ #[t, t2] ty #[sv, xv]).run P w = .ok v w' ∧ Out ρ N G w K v w' := by
  unfold eAppendX at h
  split at h
  · split at h
    · split at h
      · obtain ⟨M, n, o, h, h1, h2, h3, h4⟩ := rowsOf_spec h
        exact eAppendR_sound hT hH h h1 h2 h3 h4 hs hx
      · exact eAppend_sound hT hH h hs hx
    · exact eAppend_sound hT hH h hs hx
  · exact eAppend_sound hT hH h hs hx

end
end Go.Sx
