/-
  From a contract to a law's statement: the arguments, as the statement reads them, are values and objects of the symbolic heap; and the reading behind the call.
-/
import Derived.Test.YtbjlbmehklfijaaSxQ2
import Derived.ProofKit
import Derived.OpenShut
import Derived.ShutString
import Derived.ChangeOld
import Derived.Below
import Derived.Deep.Slices
import Derived.Handed
namespace Go.Sx
set_option linter.unusedVariables false
set_option linter.unusedSimpArgs false
open Go
open Go.ChangeShapes Go.WideShapes Go.ChangeAt Go.RowKit

def NoOwn (G : Heap) : Prop := ∀ id o, hget G id = some o → o.own = false

def updρ (ρ : Rho) (N : Nat) (B : List Nat → Blk) : Rho := fun id p => if id = N then B p else ρ id p
theorem updρ_lt (ρ : Rho) (N : Nat) (B : List Nat → Blk) : ∀ id, id < N → updρ ρ N B id = ρ id := fun id h => by
  funext p
  unfold updρ
  rw [if_neg (by omega)]
theorem updρ_at (ρ : Rho) (N : Nat) (B : List Nat → Blk) (p : List Nat) : updρ ρ N B N p = B p := by simp [updρ]

theorem HeapRep.foreign {ρ : Rho} {N : Nat} {G : Heap} {w : World} (hH : HeapRep ρ N G w) (hno : NoOwn G) {o : AObj} (ho : o.own = false) (B : List Nat → Blk)
    (hb : ∀ p nd, o.node N p = some nd → (B p).sz = nd.sz ∧ (B p).n = nd.n ∧ 0 < nd.sz ∧ ∀ i, i < nd.n → ∀ j, j < nd.sz → ∃ v, w.cell? ⟨(B p).b, (B p).o + (i * nd.sz + j), none⟩ = some v ∧ VR (updρ ρ N B) (N + 1) (nd.cell i j) v ∧ v.oneCell' = true) :
    HeapRep (updρ ρ N B) (N + 1) ((N, o) :: G) w ∧ NoOwn ((N, o) :: G) := by
  have hno' : NoOwn ((N, o) :: G) := by
    intro id x hx
    rw [hget_cons] at hx
    split at hx
    · injection hx with hx; subst hx; exact ho
    · exact hno id x hx
  have hnever : ∀ id p nd, ¬ NodeAt ((N, o) :: G) id p nd true := fun id p nd h => by
    obtain ⟨x, hx, _, hw⟩ := h.ex
    rw [hno' id x hx] at hw
    cases hw
  have hcase : ∀ {id p nd own}, NodeAt ((N, o) :: G) id p nd own → (id = N ∧ o.node N p = some nd) ∨ (id < N ∧ NodeAt G id p nd own) := fun {id p nd own} h => by
    obtain ⟨x, hx, hn, hw⟩ := h.ex
    rw [hget_cons] at hx
    split at hx
    · rename_i e
      injection hx with hx
      subst hx e
      exact .inl ⟨rfl, hn⟩
    · exact .inr ⟨hH.keys _ _ hx, ⟨⟨x, hx, hn, hw⟩⟩⟩
  refine ⟨⟨fun id x hx => ?_, fun id p nd own h => ?_, fun id p nd own h => ?_, fun id p nd h => absurd h (hnever id p nd), fun id p nd _ _ _ _ h => absurd h (hnever id p nd)⟩, hno'⟩
  · rw [hget_cons] at hx
    split at hx
    · omega
    · exact Nat.lt_succ_of_lt (hH.keys _ _ hx)
  · rcases hcase h with ⟨rfl, hn⟩ | ⟨hlt, hn⟩
    · rw [updρ_at]
      obtain ⟨h1, h2, h3, _⟩ := hb p nd hn
      exact ⟨h1, h2, h3⟩
    · rw [updρ_lt ρ N B id hlt]
      exact hH.shape id p nd own hn
  · rcases hcase h with ⟨rfl, hn⟩ | ⟨hlt, hn⟩
    · rw [updρ_at]
      exact (hb p nd hn).2.2.2
    · rw [updρ_lt ρ N B id hlt]
      intro i hi j hj
      obtain ⟨v, h1, h2, h3⟩ := hH.rd id p nd own hn i hi j hj
      exact ⟨v, h1, VR.mono (Nat.le_succ N) (updρ_lt ρ N B) _ _ h2, h3⟩

/-- The heap that came in, opened so far. -/
structure Came (ρ : Rho) (N : Nat) (G : Heap) (w : World) : Prop where
  rep : HeapRep ρ N G w
  no : NoOwn G
theorem came0 (w : World) : Came (fun _ _ => ⟨0, 0, 0, 0, 0⟩) 0 [] w :=
  ⟨⟨fun id o h => by simp [hget] at h, fun id p nd own h => by obtain ⟨o, h, _⟩ := h.ex; simp [hget] at h, fun id p nd own h => by obtain ⟨o, h, _⟩ := h.ex; simp [hget] at h,
    fun id p nd h => by obtain ⟨o, h, _⟩ := h.ex; simp [hget] at h, fun id p nd _ _ _ _ h => by obtain ⟨o, h, _⟩ := h.ex; simp [hget] at h⟩, fun id o h => by simp [hget] at h⟩

theorem Came.flat {ρ : Rho} {N : Nat} {G : Heap} {w : World} (hc : Came ρ N G w) (f : Flat) (hsz : 0 < f.sz) {A : Option Addr} {c : Nat} (hle : f.n ≤ c)
    (hA : (∃ b o, A = some ⟨b, o, none⟩ ∧ ∀ i, i < f.n → ∀ j, j < f.sz → ∃ v, w.cell? ⟨b, o + (i * f.sz + j), none⟩ = some v ∧ VR ρ N (f.cell i j) v ∧ v.oneCell' = true) ∨ (f.n = 0 ∧ c = 0)) :
    ∃ ρ', Came ρ' (N + 1) ((N, .flat false f) :: G) w ∧ (∀ id, id < N → ρ' id = ρ id) ∧ VR ρ' (N + 1) (.sl N []) (.slice A f.n c) := by
  obtain ⟨b, o, hbo, hcell⟩ : ∃ b o, (A = some ⟨b, o, none⟩ ∨ (f.n = 0 ∧ c = 0)) ∧ ∀ i, i < f.n → ∀ j, j < f.sz → ∃ v, w.cell? ⟨b, o + (i * f.sz + j), none⟩ = some v ∧ VR ρ N (f.cell i j) v ∧ v.oneCell' = true := by
    rcases hA with ⟨b, o, h1, h2⟩ | ⟨h1, h2⟩
    · exact ⟨b, o, .inl h1, h2⟩
    · exact ⟨0, 0, .inr ⟨h1, h2⟩, fun i hi => by omega⟩
  obtain ⟨h1, h2⟩ := hc.rep.foreign hc.no (o := .flat false f) rfl (fun _ => ⟨b, o, f.sz, f.n, o + c * f.sz⟩) (fun p nd hn => by
    cases p with
    | cons _ _ => simp [AObj.node] at hn
    | nil =>
      simp only [AObj.node, Option.some.injEq] at hn
      subst hn
      refine ⟨rfl, rfl, hsz, fun i hi j hj => ?_⟩
      obtain ⟨v, q1, q2, q3⟩ := hcell i hi j hj
      exact ⟨v, q1, VR.mono (Nat.le_succ N) (updρ_lt ρ N _) _ _ q2, q3⟩)
  refine ⟨_, ⟨h1, h2⟩, updρ_lt ρ N _, ?_⟩
  simp only [VR, updρ_at]
  refine ⟨Nat.lt_succ_self N, A, c, rfl, ?_⟩
  rcases hbo with rfl | ⟨e1, e2⟩
  · exact .inl ⟨by simp, hle, by simp⟩
  · exact .inr ⟨e1, e2⟩

/-! ### Types whose cells are int64 alone -/
def chainB (P : Program) (q : TypeId → Nat → Bool) : List Field → Nat → Nat → Bool
  | [], off, n => off == n
  | g :: r, off, n => g.offset == off && q g.type (P.cellsOf g.type) && chainB P q r (off + P.cellsOf g.type) n
def allIntsB (P : Program) : Nat → TypeId → Nat → Bool
  | 0, _, _ => false
  | f + 1, t, n => match P.underlying t with
    | some (.int .i64) => n == 1
    | some (.struct fs) => P.cellsOf t == n && chainB P (allIntsB P f) fs.toList 0 n
    | _ => false

theorem wf_i64 {n : Int} (h : (Lit.int .i64 n).wf = true) : inI64 n := by
  have := bounds_i64 h
  unfold inI64; omega

section
variable {H : Type} {enc : TypeId × Value → H} {P : Program} {w : World} {base : Nat} {spare : Nat → Bool} {held : Bool}

theorem chainB_sound {q : TypeId → Nat → Bool} {cs : List Value} {n : Nat} (hl : cs.length = n)
    (hq : ∀ t m us fuel x, q t m = true → DataW.trod enc P w base spare held fuel t us = some x → ∃ ns : List Int, us = ns.map (Value.int .i64) ∧ ns.length = m ∧ ∀ k ∈ ns, inI64 k) :
    ∀ (l : List Field) (off : Nat), chainB P q l off n = true → (∀ g ∈ l, ∃ fuel x, DataW.trod enc P w base spare held fuel g.type ((cs.drop g.offset).take (P.cellsOf g.type)) = some x) →
      ∃ ns : List Int, cs.drop off = ns.map (Value.int .i64) ∧ off + ns.length = n ∧ ∀ k ∈ ns, inI64 k
  | [], off, h, _ => by
    simp only [chainB, beq_iff_eq] at h
    subst h
    exact ⟨[], by simp [hl], by simp, by simp⟩
  | g :: r, off, h, hf => by
    simp only [chainB, Bool.and_eq_true, beq_iff_eq] at h
    obtain ⟨⟨h1, h2⟩, h3⟩ := h
    obtain ⟨fuel, x, hx⟩ := hf g List.mem_cons_self
    obtain ⟨ns, e1, e2, e3⟩ := hq _ _ _ _ _ h2 hx
    obtain ⟨ms, k1, k2, k3⟩ := chainB_sound hl hq r _ h3 (fun g' hg' => hf g' (List.mem_cons_of_mem _ hg'))
    rw [h1] at e1
    refine ⟨ns ++ ms, ?_, by simp; omega, fun k hk => ?_⟩
    · rw [List.map_append, ← e1, ← k1]
      conv => lhs; rw [← List.take_append_drop (P.cellsOf g.type) (cs.drop off)]
      rw [List.drop_drop]
    · rcases List.mem_append.1 hk with hk | hk
      · exact e3 k hk
      · exact k3 k hk

theorem allIntsB_sound : ∀ (f : Nat) (t : TypeId) (n : Nat) (cs : List Value) (fuel : Nat) (x : DataW H × List MemPlace), allIntsB P f t n = true → DataW.trod enc P w base spare held fuel t cs = some x →
    ∃ ns : List Int, cs = ns.map (Value.int .i64) ∧ ns.length = n ∧ ∀ k ∈ ns, inI64 k
  | 0, _, _, _, _, _, h, _ => by simp [allIntsB] at h
  | f + 1, t, n, cs, fuel, x, h, hx => by
    unfold allIntsB at h
    split at h
    · rename_i hu
      obtain ⟨m, rfl, _, hw⟩ := DataW.trod_int hu hx
      simp only [beq_iff_eq] at h
      exact ⟨[m], rfl, h.symm ▸ rfl, fun k hk => by rcases List.mem_singleton.1 hk with rfl; exact wf_i64 hw⟩
    · rename_i fs hu
      simp only [Bool.and_eq_true, beq_iff_eq] at h
      obtain ⟨h1, h2⟩ := h
      obtain ⟨xs, n', rfl, _, hl, hxs, hfs⟩ := DataW.trod_struct hu hx
      obtain ⟨ns, e1, e2, e3⟩ := chainB_sound (hl.trans h1) (fun t m us fuel x hq hx => allIntsB_sound f t m us fuel x hq hx) fs.toList 0 h2 (fun g hg => by
        obtain ⟨i, hi⟩ := List.getElem?_of_mem hg
        have hi' : fs[i]? = some g := by simpa using hi
        have hlt : i < fs.size := by
          obtain ⟨q, _⟩ := Array.getElem?_eq_some_iff.1 hi'
          exact q
        refine ⟨n', xs[i]'(by omega), ?_⟩
        rw [hfs i g hi', List.getElem?_eq_getElem])
      exact ⟨ns, by simpa using e1, by omega, e3⟩
    · exact absurd h (by simp)

/-! ### Slices that came in -/
/-- A slice of elements of all int64 cells. -/
theorem open_recs {t e : TypeId} {fuel : Nat} {cs : List Value} {x : DataW H × List MemPlace} {sz : Nat} (hsz : 0 < sz) (ht : P.underlying t = some (.slice e)) (hai : allIntsB P 8 e sz = true) (hce : P.cellsOf e = sz)
    (h : DataW.trod enc P w base (fun _ => true) held fuel t cs = some x) :
    ∃ (A : Option Addr) (len c : Nat) (rows : List (List Int)), cs = [.slice A len c] ∧ rows.length = len ∧ len ≤ c ∧ len ≤ maxLen ∧ (∀ r ∈ rows, r.length = sz ∧ ∀ k ∈ r, inI64 k) ∧
      ((∃ b o, A = some ⟨b, o, none⟩ ∧ ∀ i, i < len → ∀ j, j < sz → w.cell? ⟨b, o + (i * sz + j), none⟩ = some (.int .i64 ((rows.getD i []).getD j 0))) ∨ (len = 0 ∧ c = 0)) := by
  rcases Go.Deep.open_slice ht h with ⟨rfl, _⟩ | ⟨a, len, cap, m, n, D, Pl, rfl, _, hl, hm, hmm, _, hx⟩
  · exact ⟨none, 0, 0, [], rfl, rfl, Nat.le_refl _, Nat.zero_le _, by simp, .inr ⟨rfl, rfl⟩⟩
  · simp only [if_true] at hmm
    subst hmm
    rw [hce] at hx
    have hrow : ∀ i, i < m → ∃ ns : List Int, (ns.length = sz ∧ ∀ k ∈ ns, inI64 k) ∧ ∀ j, j < sz → w.cell? (a.add (i * sz + j)) = some (.int .i64 (ns.getD j 0)) := fun i hi => by
      obtain ⟨us, h1, h2⟩ := hx i hi
      obtain ⟨ns, rfl, e2, e3⟩ := allIntsB_sound 8 e sz us n _ hai h2
      obtain ⟨_, _, hc⟩ := World.cells?_some h1
      refine ⟨ns, ⟨e2, e3⟩, fun j hj => ?_⟩
      have := hc j hj
      rw [Go.Deep.add_add] at this
      rw [this]
      simp [List.getD, List.getElem?_eq_getElem (show j < ns.length by omega)]
    obtain ⟨R, hR⟩ := Go.Deep.choose_lt (α := List Int) hrow
    refine ⟨some a, len, m, (List.range len).map R, rfl, by simp, hl, by omega, fun r hr => ?_, ?_⟩
    · obtain ⟨i, hi, rfl⟩ := List.mem_map.1 hr
      exact (hR i (by have := List.mem_range.1 hi; omega)).1
    · by_cases hm0 : m = 0
      · right; omega
      · left
        have h0 := (hR 0 (by omega)).2 0 hsz
        have hsp : a.spot = none := by
          have := World.cell?_spot h0
          simpa [Addr.add] using this
        obtain ⟨b, o, s⟩ := a
        simp only at hsp
        subst hsp
        refine ⟨b, o, rfl, fun i hi j hj => ?_⟩
        have := (hR i (by omega)).2 j hj
        rw [show (Addr.add ⟨b, o, none⟩ (i * sz + j)) = ⟨b, o + (i * sz + j), none⟩ by unfold Addr.add; split <;> simp_all] at this
        rw [this]
        simp [List.getD, hi]

variable {ρ : Rho} {N : Nat} {G : Heap}

/-- What is known of a slice that came in. -/
def OpenSl (ρ : Rho) (N : Nat) (G : Heap) (w : World) (cs : List Value) (f : Flat) : Prop :=
  ∃ v ρ', cs = [v] ∧ v.oneCell' = true ∧ Came ρ' (N + 1) ((N, .flat false f) :: G) w ∧ (∀ id, id < N → ρ' id = ρ id) ∧ VR ρ' (N + 1) (.sl N []) v

theorem open_sl_i64 {t e : TypeId} {fuel : Nat} {cs : List Value} {x : DataW H × List MemPlace} (hc : Came ρ N G w) (ht : P.underlying t = some (.slice e)) (hai : allIntsB P 8 e 1 = true) (hce : P.cellsOf e = 1)
    (h : DataW.trod enc P w base (fun _ => true) held fuel t cs = some x) : ∃ xs : List Int, xs.length ≤ maxLen ∧ (∀ k ∈ xs, inI64 k) ∧ OpenSl ρ N G w cs (.ints .i64 xs) := by
  obtain ⟨A, len, c, rows, rfl, hl, hlc, hm, hr, hA⟩ := open_recs (by omega) ht hai hce h
  subst hl
  refine ⟨rows.map fun r => r.getD 0 0, by simpa using hm, fun k hk => ?_, ?_⟩
  · obtain ⟨r, hr', rfl⟩ := List.mem_map.1 hk
    obtain ⟨q1, q2⟩ := hr r hr'
    match r, q1 with
    | [a], _ => exact q2 a (by simp)
  · obtain ⟨ρ', h1, h2, h3⟩ := hc.flat (.ints .i64 (rows.map fun r => r.getD 0 0)) (by simp [Flat.sz]) (A := A) (c := c) (by simpa [Flat.n] using hlc) (by
      rcases hA with ⟨b, o, rfl, hcell⟩ | ⟨e1, e2⟩
      · refine .inl ⟨b, o, rfl, fun i hi j hj => ?_⟩
        simp only [Flat.sz, Flat.n, List.length_map] at hi hj ⊢
        obtain rfl : j = 0 := by omega
        refine ⟨_, hcell i hi 0 (by omega), ?_, rfl⟩
        simp only [Flat.cell, VR]
        congr 1
        simp [List.getD, List.getElem?_eq_getElem hi]
      · exact .inr ⟨by simpa [Flat.n] using e1, e2⟩)
    exact ⟨_, ρ', rfl, rfl, h1, h2, by simpa [Flat.n] using h3⟩

theorem open_sl_r2 {t e : TypeId} {fuel : Nat} {cs : List Value} {x : DataW H × List MemPlace} (hc : Came ρ N G w) (ht : P.underlying t = some (.slice e)) (hai : allIntsB P 8 e 2 = true) (hce : P.cellsOf e = 2)
    (h : DataW.trod enc P w base (fun _ => true) held fuel t cs = some x) : ∃ xs : List R2, xs.length ≤ maxLen ∧ (∀ k ∈ xs, inI64 k.a ∧ inI64 k.b) ∧ OpenSl ρ N G w cs (.r2 xs) := by
  obtain ⟨A, len, c, rows, rfl, hl, hlc, hm, hr, hA⟩ := open_recs (by omega) ht hai hce h
  subst hl
  refine ⟨rows.map fun r => ⟨r.getD 0 0, r.getD 1 0⟩, by simpa using hm, fun k hk => ?_, ?_⟩
  · obtain ⟨r, hr', rfl⟩ := List.mem_map.1 hk
    obtain ⟨q1, q2⟩ := hr r hr'
    match r, q1 with
    | [a, b], _ => exact ⟨q2 a (by simp), q2 b (by simp)⟩
  · obtain ⟨ρ', h1, h2, h3⟩ := hc.flat (.r2 (rows.map fun r => ⟨r.getD 0 0, r.getD 1 0⟩)) (by simp [Flat.sz]) (A := A) (c := c) (by simpa [Flat.n] using hlc) (by
      rcases hA with ⟨b, o, rfl, hcell⟩ | ⟨e1, e2⟩
      · refine .inl ⟨b, o, rfl, fun i hi j hj => ?_⟩
        simp only [Flat.sz, Flat.n, List.length_map] at hi hj ⊢
        refine ⟨_, hcell i hi j hj, ?_, rfl⟩
        simp only [Flat.cell, VR]
        congr 1
        have hj2 : j = 0 ∨ j = 1 := by omega
        rcases hj2 with rfl | rfl <;> simp [R2.get, List.getD, List.getElem?_eq_getElem hi]
      · exact .inr ⟨by simpa [Flat.n] using e1, e2⟩)
    exact ⟨_, ρ', rfl, rfl, h1, h2, by simpa [Flat.n] using h3⟩

theorem open_sl_r3 {t e : TypeId} {fuel : Nat} {cs : List Value} {x : DataW H × List MemPlace} (hc : Came ρ N G w) (ht : P.underlying t = some (.slice e)) (hai : allIntsB P 8 e 3 = true) (hce : P.cellsOf e = 3)
    (h : DataW.trod enc P w base (fun _ => true) held fuel t cs = some x) : ∃ xs : List R3, xs.length ≤ maxLen ∧ (∀ k ∈ xs, inI64 k.a ∧ inI64 k.b ∧ inI64 k.c) ∧ OpenSl ρ N G w cs (.r3 xs) := by
  obtain ⟨A, len, c, rows, rfl, hl, hlc, hm, hr, hA⟩ := open_recs (by omega) ht hai hce h
  subst hl
  refine ⟨rows.map fun r => ⟨r.getD 0 0, r.getD 1 0, r.getD 2 0⟩, by simpa using hm, fun k hk => ?_, ?_⟩
  · obtain ⟨r, hr', rfl⟩ := List.mem_map.1 hk
    obtain ⟨q1, q2⟩ := hr r hr'
    match r, q1 with
    | [a, b, c], _ => exact ⟨q2 a (by simp), q2 b (by simp), q2 c (by simp)⟩
  · obtain ⟨ρ', h1, h2, h3⟩ := hc.flat (.r3 (rows.map fun r => ⟨r.getD 0 0, r.getD 1 0, r.getD 2 0⟩)) (by simp [Flat.sz]) (A := A) (c := c) (by simpa [Flat.n] using hlc) (by
      rcases hA with ⟨b, o, rfl, hcell⟩ | ⟨e1, e2⟩
      · refine .inl ⟨b, o, rfl, fun i hi j hj => ?_⟩
        simp only [Flat.sz, Flat.n, List.length_map] at hi hj ⊢
        refine ⟨_, hcell i hi j hj, ?_, rfl⟩
        simp only [Flat.cell, VR]
        congr 1
        have hj2 : j = 0 ∨ j = 1 ∨ j = 2 := by omega
        rcases hj2 with rfl | rfl | rfl <;> simp [R3.get, List.getD, List.getElem?_eq_getElem hi]
      · exact .inr ⟨by simpa [Flat.n] using e1, e2⟩)
    exact ⟨_, ρ', rfl, rfl, h1, h2, by simpa [Flat.n] using h3⟩

theorem open_sl_r4 {t e : TypeId} {fuel : Nat} {cs : List Value} {x : DataW H × List MemPlace} (hc : Came ρ N G w) (ht : P.underlying t = some (.slice e)) (hai : allIntsB P 8 e 4 = true) (hce : P.cellsOf e = 4)
    (h : DataW.trod enc P w base (fun _ => true) held fuel t cs = some x) : ∃ xs : List R4, xs.length ≤ maxLen ∧ (∀ k ∈ xs, inI64 k.a ∧ inI64 k.b ∧ inI64 k.c ∧ inI64 k.d) ∧ OpenSl ρ N G w cs (.r4 xs) := by
  obtain ⟨A, len, c, rows, rfl, hl, hlc, hm, hr, hA⟩ := open_recs (by omega) ht hai hce h
  subst hl
  refine ⟨rows.map fun r => ⟨r.getD 0 0, r.getD 1 0, r.getD 2 0, r.getD 3 0⟩, by simpa using hm, fun k hk => ?_, ?_⟩
  · obtain ⟨r, hr', rfl⟩ := List.mem_map.1 hk
    obtain ⟨q1, q2⟩ := hr r hr'
    match r, q1 with
    | [a, b, c, d], _ => exact ⟨q2 a (by simp), q2 b (by simp), q2 c (by simp), q2 d (by simp)⟩
  · obtain ⟨ρ', h1, h2, h3⟩ := hc.flat (.r4 (rows.map fun r => ⟨r.getD 0 0, r.getD 1 0, r.getD 2 0, r.getD 3 0⟩)) (by simp [Flat.sz]) (A := A) (c := c) (by simpa [Flat.n] using hlc) (by
      rcases hA with ⟨b, o, rfl, hcell⟩ | ⟨e1, e2⟩
      · refine .inl ⟨b, o, rfl, fun i hi j hj => ?_⟩
        simp only [Flat.sz, Flat.n, List.length_map] at hi hj ⊢
        refine ⟨_, hcell i hi j hj, ?_, rfl⟩
        simp only [Flat.cell, VR]
        congr 1
        have hj2 : j = 0 ∨ j = 1 ∨ j = 2 ∨ j = 3 := by omega
        rcases hj2 with rfl | rfl | rfl | rfl <;> simp [R4.get, List.getD, List.getElem?_eq_getElem hi]
      · exact .inr ⟨by simpa [Flat.n] using e1, e2⟩)
    exact ⟨_, ρ', rfl, rfl, h1, h2, by simpa [Flat.n] using h3⟩

/-! ### The reading behind the call -/
theorem trodAll_after (hl : laidOutB P = true) {W W' : World} (hb : Below W.heap.size W W') : ∀ {ts : List TypeId} {vs : List Value} {ds : List (DataW H)} {ps : List MemPlace}, ts.all (fun t => P.readableRec t && decide (t < P.types.size)) = true →
    DataW.TrodAll enc P W 0 (fun _ => true) true ts vs ds ps → ∃ qs, DataW.TrodAll enc P W' 0 (fun b => decide (b < W.heap.size)) true ts vs ds qs
  | [], vs, ds, ps, _, h => by
    obtain ⟨rfl, rfl, rfl⟩ := trodAll_nil h
    exact ⟨[], trodAll_mk0⟩
  | t :: ts, vs, ds, ps, ht, h => by
    simp only [List.all_cons, Bool.and_eq_true, decide_eq_true_eq] at ht
    obtain ⟨v, vs', d, ds', p, q, rfl, rfl, rfl, h1, h2⟩ := trodAll_cons h
    obtain ⟨qs, hqs⟩ := trodAll_after hl hb (by simpa using ht.2) h2
    have lt : ∀ x ∈ p, x.block < W.heap.size := by obtain ⟨m, hm⟩ := h1; exact DataW.trod_lt m _ _ _ hm
    exact ⟨_, trodAll_cons_mk (Below.trod hl ht.1.1 ht.1.2 h1 hb lt) hqs⟩

/-- A law's contract is its statement's. -/
theorem law_done (hl : laidOutB P = true) {fn : Func} {s : ChangeSpec} {W : World} {args : Array Value} {ds gs : List (DataW H)} {before : List MemPlace} {bt : TypeId} {n : Nat} {f : FuncId}
    (hW : DataW.Whole enc P fn.params.toList s.vars false W args.toList ds gs before) (hvars : s.vars = []) (hrd : fn.params.toList.all (fun t => P.readableRec t && decide (t < P.types.size)) = true)
    (hres : fn.resultTypes = #[bt]) (hbt : P.underlying bt = some .bool) (hn : fn.params.toList.length = n) (hfn : ∀ ds : List (DataW H), ds.length = n → s.fn H (ds ++ []) = { results := [.lit (.bool true)], args := ds })
    (hcall : ∀ p, DataW.TrodAll enc P W 0 (fun _ => true) true fn.params.toList args.toList ds p → Calls P f args W fun e W' => e = .returned (.bool true) ∧ Below W.heap.size W W') :
    Calls P f args W fun e W' => ∃ v, e = .returned v ∧ s.post enc P fn false true false false W args v W' := by
  have hW' := hW
  obtain ⟨p, q, hA, hV, rfl, hfz, hnd⟩ := hW
  refine (hcall p hA).mono fun e W' ⟨he, hb⟩ => ⟨_, he, ?_⟩
  rw [hvars] at hV
  obtain ⟨rfl, rfl⟩ := trodVars_none hV
  obtain ⟨qs, hqs⟩ := trodAll_after hl hb hrd hA
  have hdl : ds.length = n := by
    rw [← hn]
    clear hW' hfz hnd hqs hfn hn hcall hrd
    generalize fn.params.toList = ts at hA
    generalize args.toList = vs at hA
    induction ts generalizing vs ds p with
    | nil => obtain ⟨_, rfl, _⟩ := trodAll_nil hA; rfl
    | cons t ts ih =>
      obtain ⟨v, vs', d, ds', p, q, rfl, rfl, rfl, h1, h2⟩ := trodAll_cons hA
      have := ih q vs' h2
      simp [this]
  refine ⟨ds, [], _, [], qs, [], hW', ?_, ?_, ?_, hb.frame _, fun h => by cases h⟩
  · rw [hfn ds hdl, hres]
    exact trodAll_mk1 (shut_bool hbt _)
  · rw [hfn ds hdl]; exact hqs
  · rw [hvars, hfn ds hdl]; rfl

/-- The call, from a contract over the heap that came in. -/
theorem law_call {f : FuncId} {avs : List AV} {vs : List Value} (hc : Came ρ N G w) (hv : VRL ρ N avs vs) {n : Nat} {g : Heap} (h : FnIs P f avs N G (.bool true) n g) :
    Calls P f vs.toArray w fun e W' => e = .returned (.bool true) ∧ Below w.heap.size w W' := by
  refine (h.call.run ρ w vs hc.rep hv).mono fun e W' ⟨v, he, ho⟩ => ?_
  obtain ⟨av, ρ', N', G', ⟨e1, _, _⟩, h2, _, _, _, hf, _⟩ := ho.ex
  subst e1
  simp only [VR] at h2
  subst h2
  refine ⟨he, ⟨hf.os, hf.tape, hf.output, hf.size, fun k hk => hf.block k hk ?_⟩⟩
  rintro ⟨id, p, nd, hn, _⟩
  obtain ⟨o, ho, _, hw⟩ := hn.ex
  rw [hc.no id o ho] at hw
  cases hw
end
end Go.Sx
