/-
  Slices of slices that came in as a law's arguments.
-/
import Derived.Test.YtbjlbmehklfijaaSxV
import Derived.Lib.SmallJoins
namespace Go.Sx
set_option linter.unusedVariables false
set_option linter.unusedSimpArgs false
open Go
open Go.ChangeShapes Go.WideShapes Go.ChangeAt Go.RowKit Go.Joins Go.Deep
variable {H : Type} {enc : TypeId × Value → H} {P : Program} {w : World} {base : Nat} {spare : Nat → Bool} {held : Bool}

theorem open_agg1 {r : Reach} {b0 : Nat} {t : TypeId} {f0 : Field} {v : Value} {d : DataW H} {p : List MemPlace} (hs : P.underlying t = some (.struct #[f0])) (hone : oneCellFields P #[f0] = true) (hC : P.cellsOf t = 1)
    (hv : Value.okWide P w r b0 t v) (h : DataW.Trod enc P w base spare held t v d p) :
    ∃ (v0 : Value) (y0 : DataW H × List MemPlace) (n : Nat), v = .agg #[v0] ∧ DataW.trod enc P w base spare held n f0.type [v0] = some y0 := by
  obtain ⟨cs, rfl, hsz⟩ := okWide_struct hs hv
  obtain ⟨c0, rfl⟩ : ∃ c0, cs = #[c0] := by
    obtain ⟨l⟩ := cs
    match l, hsz.trans hC with
    | [c0], _ => exact ⟨c0, rfl⟩
  obtain ⟨fuel, hf⟩ := h
  obtain ⟨xs, n, _, _, hl, hlen, hfs⟩ := DataW.trod_struct hs hf
  obtain ⟨o0, k0⟩ := hone_of hone 0 f0 rfl
  match xs, hlen with
  | [y0], _ => exact ⟨c0, y0, n, rfl, by simpa [Value.cells, o0, k0] using hfs 0 f0 rfl⟩

/-- The blocks that slice values bear. -/
def vBlk (sz : Nat) (v : Value) : Blk :=
  match v with
  | .slice (some ⟨b, o, _⟩) n c => ⟨b, o, sz, n, o + c * sz⟩
  | _ => ⟨0, 0, sz, 0, 0⟩

/-- A row that came in: a slice of records of sz numbers. -/
structure RowIn (w : World) (sz : Nat) (v : Value) (R : List (List Int)) : Prop where
  one : v.oneCell' = true
  len : R.length ≤ maxLen
  rng : ∀ r ∈ R, r.length = sz ∧ ∀ k ∈ r, inI64 k
  ex : ∃ A c, v = .slice A R.length c ∧ R.length ≤ c ∧ ((∃ b o, A = some ⟨b, o, none⟩ ∧ ∀ i, i < R.length → ∀ j, j < sz → w.cell? ⟨b, o + (i * sz + j), none⟩ = some (.int .i64 ((R.getD i []).getD j 0))) ∨ (R.length = 0 ∧ c = 0))

theorem open_rows {t e e2 : TypeId} {fuel : Nat} {cs : List Value} {x : DataW H × List MemPlace} {sz : Nat} (hsz : 0 < sz) (ht : P.underlying t = some (.slice e)) (hce1 : P.cellsOf e = 1) (he : P.underlying e = some (.slice e2)) (hai : allIntsB P 8 e2 sz = true) (hce : P.cellsOf e2 = sz)
    (h : DataW.trod enc P w base (fun _ => true) held fuel t cs = some x) :
    ∃ (A : Option Addr) (len c : Nat) (V : Nat → Value) (R : Nat → List (List Int)), cs = [.slice A len c] ∧ len ≤ c ∧ len ≤ maxLen ∧ (∀ i, i < len → RowIn w sz (V i) (R i)) ∧
      ((∃ b o, A = some ⟨b, o, none⟩ ∧ ∀ i, i < len → w.cell? ⟨b, o + i, none⟩ = some (V i)) ∨ (len = 0 ∧ c = 0)) := by
  rcases Go.Deep.open_slice1 ht hce1 h with ⟨rfl, _⟩ | ⟨a, len, cap, m, n, V, D, Pl, rfl, _, hl, hm, hmm, _, hx⟩
  · exact ⟨none, 0, 0, fun _ => undef, fun _ => [], rfl, Nat.le_refl _, Nat.zero_le _, fun i hi => absurd hi (Nat.not_lt_zero i), .inr ⟨rfl, rfl⟩⟩
  · simp only [if_true] at hmm
    subst hmm
    have hrow : ∀ i, i < m → ∃ R : List (List Int), RowIn w sz (V i) R := fun i hi => by
      obtain ⟨_, h2⟩ := hx i hi
      obtain ⟨A, ln, c, rows, e1, e2, e3, e4, e5, e6⟩ := open_recs hsz he hai hce h2
      injection e1 with e1
      subst e2
      exact ⟨rows, by rw [e1]; rfl, e4, e5, A, c, e1, e3, e6⟩
    obtain ⟨R, hR⟩ := Go.Deep.choose_lt (α := List (List Int)) hrow
    refine ⟨some a, len, m, V, R, rfl, hl, by omega, fun i hi => hR i (by omega), ?_⟩
    by_cases hm0 : m = 0
    · right; omega
    · left
      have h0 := (hx 0 (by omega)).1
      have hsp : a.spot = none := by
        have := World.cell?_spot h0
        simpa [Addr.add] using this
      obtain ⟨b, o, s⟩ := a
      simp only at hsp
      subst hsp
      refine ⟨b, o, rfl, fun i hi => ?_⟩
      have := (hx i (by omega)).1
      rw [show (Addr.add ⟨b, o, none⟩ i) = ⟨b, o + i, none⟩ by unfold Addr.add; split <;> simp_all] at this
      exact this

variable {ρ : Rho} {N : Nat} {G : Heap}

/-- What is known of a slice of slices that came in. -/
def OpenNest (ρ : Rho) (N : Nat) (G : Heap) (w : World) (cs : List Value) (o : AObj) (n : Nat) : Prop :=
  ∃ v ρ', cs = [v] ∧ v.oneCell' = true ∧ Came ρ' (N + 1 + 1) ((N + 1, .flat false (.rows N 0 n)) :: (N, o) :: G) w ∧ (∀ id, id < N → ρ' id = ρ id) ∧ VR ρ' (N + 1 + 1) (.sl (N + 1) []) v

/-- The rows beside the header. -/
theorem Came.nest (hc : Came ρ N G w) {sz : Nat} (hsz : 0 < sz) {A : Option Addr} {len c : Nat} {V : Nat → Value} {R : Nat → List (List Int)} (hlc : len ≤ c) (hR : ∀ i, i < len → RowIn w sz (V i) (R i))
    (hA : (∃ b o, A = some ⟨b, o, none⟩ ∧ ∀ i, i < len → w.cell? ⟨b, o + i, none⟩ = some (V i)) ∨ (len = 0 ∧ c = 0)) {o : AObj} (ho : o.own = false)
    (hnd : ∀ p nd, o.node N p = some nd → ∃ y, p = [y] ∧ y < len ∧ nd.sz = sz ∧ nd.n = (R y).length ∧ ∀ i, i < nd.n → ∀ j, j < sz → nd.cell i j = .int .i64 (((R y).getD i []).getD j 0)) :
    OpenNest ρ N G w [.slice A len c] o len := by
  have h1 := hc.rep.foreign hc.no (o := o) ho (fun p => match p with
    | [y] => vBlk sz (V y)
    | _ => ⟨0, 0, sz, 0, 0⟩) (fun p nd hp => by
      obtain ⟨y, rfl, hy, s1, s2, s3⟩ := hnd p nd hp
      obtain ⟨A', c', e, hle, hcase⟩ := (hR y hy).ex
      dsimp only
      rw [s1]
      rcases hcase with ⟨b, oo, rfl, hcell⟩ | ⟨h0, h0'⟩
      · rw [e]
        simp only [vBlk]
        refine ⟨by first | trivial | rfl, s2.symm, hsz, fun i hi j hj => ⟨_, hcell i (by omega) j hj, ?_, rfl⟩⟩
        rw [s3 i hi j hj]
        simp only [VR]
      · have hB : (vBlk sz (V y)).sz = sz ∧ (vBlk sz (V y)).n = 0 := by
          rw [e, h0]; cases A' <;> exact ⟨rfl, rfl⟩
        exact ⟨hB.1, by rw [hB.2]; omega, hsz, fun i hi => by omega⟩)
  obtain ⟨h1, h1n⟩ := h1
  have hag := updρ_lt ρ N (fun p => match p with
    | [y] => vBlk sz (V y)
    | _ => ⟨0, 0, sz, 0, 0⟩)
  have hc1 : Came _ (N + 1) ((N, o) :: G) w := ⟨h1, h1n⟩
  obtain ⟨ρ2, k1, k2, k3⟩ := hc1.flat (.rows N 0 len) (by simp [Flat.sz]) (A := A) (c := c) hlc (by
    rcases hA with ⟨b, oo, rfl, hcell⟩ | ⟨h0, h0'⟩
    · refine .inl ⟨b, oo, rfl, fun i hi j hj => ⟨V i, ?_, ?_, ?_⟩⟩
      · simp only [Flat.sz, Flat.n] at hi hj ⊢
        obtain rfl : j = 0 := by omega
        simpa using hcell i hi
      · simp only [Flat.n] at hi
        obtain ⟨A', c', e, hle, hcase⟩ := (hR i hi).ex
        simp only [Flat.cell, offs, VR, updρ_at]
        refine ⟨Nat.lt_succ_self N, A', c', ?_, ?_⟩
        · rw [e]
          rcases hcase with ⟨b', o', rfl, _⟩ | ⟨h0, _⟩
          · rfl
          · rw [h0]; cases A' <;> rfl
        · rw [e]
          rcases hcase with ⟨b', o', rfl, _⟩ | ⟨h0, h0'⟩
          · left
            exact ⟨by simp [vBlk], hle, by simp [vBlk]⟩
          · right
            exact ⟨by rw [h0]; cases A' <;> rfl, h0'⟩
      · simp only [Flat.n] at hi
        exact (hR i hi).one
    · exact .inr ⟨h0, h0'⟩)
  refine ⟨_, ρ2, rfl, rfl, k1, fun id hid => (k2 id (by omega)).trans (hag id hid), k3⟩

theorem open_nest_i64 {t e e2 : TypeId} {fuel : Nat} {cs : List Value} {x : DataW H × List MemPlace} (hc : Came ρ N G w) (ht : P.underlying t = some (.slice e)) (hce1 : P.cellsOf e = 1) (he : P.underlying e = some (.slice e2)) (hai : allIntsB P 8 e2 1 = true) (hce : P.cellsOf e2 = 1)
    (h : DataW.trod enc P w base (fun _ => true) held fuel t cs = some x) : ∃ xss : List (List Int), xss.length ≤ maxLen ∧ (∀ xs ∈ xss, xs.length ≤ maxLen ∧ ∀ k ∈ xs, inI64 k) ∧ OpenNest ρ N G w cs (.nestI false .i64 xss) xss.length := by
  obtain ⟨A, len, c, V, R, rfl, h1, h2, h3, h4⟩ := open_rows (by omega) ht hce1 he hai hce h
  have hlen : ((List.range len).map fun i => (R i).map fun r => r.getD 0 0).length = len := by simp
  have hget : ∀ y, y < len → ((List.range len).map fun i => (R i).map fun r => r.getD 0 0).getD y [] = (R y).map fun r => r.getD 0 0 := fun y hy => by
    simp [List.getD, hy]
  refine ⟨(List.range len).map fun i => (R i).map fun r => r.getD 0 0, by simpa using h2, fun xs hxs => ?_, ?_⟩
  · obtain ⟨i, hi, rfl⟩ := List.mem_map.1 hxs
    have hr := h3 i (List.mem_range.1 hi)
    refine ⟨by simpa using hr.len, fun k hk => ?_⟩
    obtain ⟨r, hr', rfl⟩ := List.mem_map.1 hk
    obtain ⟨q1, q2⟩ := hr.rng r hr'
    match r, q1 with
    | [a], _ => exact q2 a (by simp)
  · rw [hlen]
    refine hc.nest (sz := 1) (by omega) h1 h3 h4 rfl (fun p nd hp => ?_)
    obtain ⟨y, rfl⟩ := nest_nodes (o := .nestI false .i64 _) rfl N p nd hp
    simp only [AObj.node] at hp
    split at hp
    · next hy =>
      rw [hlen] at hy
      injection hp with hp
      rw [hget y hy] at hp
      subst hp
      refine ⟨y, rfl, hy, rfl, by simp [Flat.node, Flat.n], fun i hi j hj => ?_⟩
      simp only [Flat.node, Flat.n, List.length_map] at hi
      obtain rfl : j = 0 := by omega
      simp [Flat.node, Flat.cell, List.getD, List.getElem?_eq_getElem hi]
    · cases hp
theorem open_nest_r2 {t e e2 : TypeId} {fuel : Nat} {cs : List Value} {x : DataW H × List MemPlace} (hc : Came ρ N G w) (ht : P.underlying t = some (.slice e)) (hce1 : P.cellsOf e = 1) (he : P.underlying e = some (.slice e2)) (hai : allIntsB P 8 e2 2 = true) (hce : P.cellsOf e2 = 2)
    (h : DataW.trod enc P w base (fun _ => true) held fuel t cs = some x) : ∃ xss : List (List R2), xss.length ≤ maxLen ∧ (∀ xs ∈ xss, xs.length ≤ maxLen ∧ ∀ k ∈ xs, inI64 k.a ∧ inI64 k.b) ∧ OpenNest ρ N G w cs (.nestR2 false xss) xss.length := by
  obtain ⟨A, len, c, V, R, rfl, h1, h2, h3, h4⟩ := open_rows (by omega) ht hce1 he hai hce h
  have hlen : ((List.range len).map fun i => (R i).map fun r => (⟨r.getD 0 0, r.getD 1 0⟩ : R2)).length = len := by simp
  have hget : ∀ y, y < len → ((List.range len).map fun i => (R i).map fun r => (⟨r.getD 0 0, r.getD 1 0⟩ : R2)).getD y [] = (R y).map fun r => (⟨r.getD 0 0, r.getD 1 0⟩ : R2) := fun y hy => by
    simp [List.getD, hy]
  refine ⟨(List.range len).map fun i => (R i).map fun r => (⟨r.getD 0 0, r.getD 1 0⟩ : R2), by simpa using h2, fun xs hxs => ?_, ?_⟩
  · obtain ⟨i, hi, rfl⟩ := List.mem_map.1 hxs
    have hr := h3 i (List.mem_range.1 hi)
    refine ⟨by simpa using hr.len, fun k hk => ?_⟩
    obtain ⟨r, hr', rfl⟩ := List.mem_map.1 hk
    obtain ⟨q1, q2⟩ := hr.rng r hr'
    match r, q1 with
    | [a, b], _ => exact ⟨q2 a (by simp), q2 b (by simp)⟩
  · rw [hlen]
    refine hc.nest (sz := 2) (by omega) h1 h3 h4 rfl (fun p nd hp => ?_)
    obtain ⟨y, rfl⟩ := nest_nodes (o := .nestR2 false _) rfl N p nd hp
    simp only [AObj.node] at hp
    split at hp
    · next hy =>
      rw [hlen] at hy
      injection hp with hp
      rw [hget y hy] at hp
      subst hp
      refine ⟨y, rfl, hy, rfl, by simp [Flat.node, Flat.n], fun i hi j hj => ?_⟩
      simp only [Flat.node, Flat.n, List.length_map] at hi
      have hj2 : j = 0 ∨ j = 1 := by omega
      rcases hj2 with rfl | rfl <;> simp [Flat.node, Flat.cell, R2.get, List.getD, List.getElem?_eq_getElem hi]
    · cases hp

end Go.Sx
