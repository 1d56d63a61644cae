/-
  Effects, one by one.
-/
import Derived.Test.YtbjlbmehklfijaaSxE
namespace Go.Sx
set_option linter.unusedVariables false
set_option linter.unusedSimpArgs false
open Go
open Go.RowKit

/-- The cells of a value that is written out. -/
def cellsK (v : AV) (K : List AV → Prop) : Prop :=
  match v with
  | .agg cs => K cs
  | .tuple _ => False
  | .opt _ _ _ _ => False
  | .top => False
  | v => K [v]

section
variable {P : Program} {T : Tbl} {ρ : Rho} {N : Nat} {G : Heap} {w : World}

theorem cellsK_spec {v : AV} {K : List AV → Prop} (h : cellsK v K) {cv : Value} (hv : VR ρ N v cv) : ∃ cs us, K cs ∧ cv.cells = us.toArray ∧ VRL ρ N cs us ∧ ∀ u ∈ us, u.oneCell' = true := by
  have one : ∀ (a : AV), VR ρ N a cv → cv.oneCell' = true → K [a] → ∃ cs us, K cs ∧ cv.cells = us.toArray ∧ VRL ρ N cs us ∧ ∀ u ∈ us, u.oneCell' = true := fun a ha ho hk => by
    refine ⟨[a], [cv], hk, ?_, ?_, by simpa using ho⟩
    · cases cv <;> simp_all [Value.cells, Value.oneCell']
    · simp only [VRL]; exact ⟨cv, [], rfl, ha, rfl⟩
  unfold cellsK at h
  split at h
  · rename_i cs
    simp only [VR] at hv
    obtain ⟨vs, rfl, h1, h2⟩ := hv
    exact ⟨cs, vs, h, rfl, h1, h2⟩
  · exact h.elim
  · exact h.elim
  · exact h.elim
  · rename_i q1 q2 q3 q4
    refine one _ hv ?_ h
    cases v <;> simp only [VR] at hv
    · subst hv; rfl
    · subst hv; rfl
    · subst hv; rfl
    · obtain ⟨_, rfl⟩ := hv; rfl
    · obtain ⟨_, _, _, rfl, _⟩ := hv; rfl
    · obtain ⟨_, _, _, rfl, _⟩ := hv; rfl
    · subst hv; rfl
    · subst hv; rfl
    · subst hv; rfl
    · obtain ⟨_, rfl⟩ := hv; rfl
    · obtain ⟨_, rfl, _⟩ := hv; rfl
    · exact (q1 _ rfl).elim
    · exact (q2 _ rfl).elim
    · exact (q3 _ _ _ _ rfl).elim
    · exact (q4 rfl).elim

/-! ### A new box -/
def eBox (cs : List AV) (N : Nat) (G : Heap) (K : AV → Nat → Heap → Prop) : Prop :=
  match cs with
  | [] => False
  | c :: r => K (.ptr N [] 0 0) (N + 1) ((N, .flat true (.gen (c :: r).length [c :: r])) :: G)

theorem eBox_sound (hH : HeapRep ρ N G w) {cs : List AV} {us : List Value} (hcs : VRL ρ N cs us) (h1 : ∀ u ∈ us, u.oneCell' = true) {K : AV → Nat → Heap → Prop} (h : eBox cs N G K) (t : TypeId) :
    Out ρ N G w K (.pointer (some ⟨w.heap.size, 0, none⟩)) (w.alloc (.cells us.toArray t)) := by
  cases cs with
  | nil => exact h.elim
  | cons c r =>
    simp only [eBox] at h
    have hl := hcs.length
    refine out_new (t := t) (cs := us) hH h (by simp [Flat.sz]) (by simp [Flat.n, Flat.sz, hl]) ?_ (frame_alloc _ _) (heap_alloc_new _ _) ?_
    · intro i hi j hj
      simp only [Flat.n, List.length_cons, List.length_nil] at hi
      obtain rfl : i = 0 := by omega
      simp only [Flat.sz] at hj
      obtain ⟨v, h2, h3⟩ := hcs.get j hj
      refine ⟨v, by simpa using h2, ?_, h1 v (List.mem_of_getElem? h2)⟩
      simpa [Flat.cell, List.getD] using h3
    · simp only [VR]
      exact ⟨Nat.lt_succ_self N, by simp⟩

/-! ### Cells that are written -/
theorem setCells_block (b : Nat) (t : TypeId) (fr : Nat × Nat) : ∀ (vs : List Value) (o : Nat) (w : World) (c : Array Value), w.heap[b]? = some (.cells c t fr) →
    ∃ c', (w.setCells b o vs).heap[b]? = some (.cells c' t fr) ∧ c'.size = c.size ∧ ∀ k, c'[k]? = if o ≤ k ∧ k < o + vs.length ∧ k < c.size then vs[k - o]? else c[k]?
  | [], o, w, c, h => ⟨c, h, rfl, fun k => by
      have : ¬ (o ≤ k ∧ k < o + ([] : List Value).length ∧ k < c.size) := by simp; omega
      rw [if_neg this]⟩
  | v :: r, o, w, c, h => by
    have h1 : (w.setCell ⟨b, o, none⟩ v).heap[b]? = some (.cells (c.setIfInBounds o v) t fr) := by
      simp [World.setCell, Array.getElem?_modify, h]
    obtain ⟨c', h2, h3, h4⟩ := setCells_block b t fr r (o + 1) _ _ h1
    refine ⟨c', h2, by simpa using h3, fun k => ?_⟩
    rw [h4 k]
    simp only [Array.size_setIfInBounds, List.length_cons]
    by_cases hk : o + 1 ≤ k ∧ k < o + 1 + r.length ∧ k < c.size
    · rw [if_pos hk, if_pos (by omega), show k - o = (k - (o + 1)) + 1 by omega, List.getElem?_cons_succ]
    · rw [if_neg hk, Array.getElem?_setIfInBounds]
      by_cases hko : o = k
      · subst hko
        by_cases hs : o < c.size
        · simp [hs]
        · rw [if_pos rfl, if_neg hs, if_neg (by omega)]
          simp [Array.getElem?_eq_none (Nat.le_of_not_lt hs)]
      · rw [if_neg hko, if_neg (by omega)]
theorem setCells_other (b : Nat) : ∀ (vs : List Value) (o : Nat) (w : World) (k : Nat), k ≠ b → (w.setCells b o vs).heap[k]? = w.heap[k]?
  | [], _, _, _, _ => rfl
  | v :: r, o, w, k, h => by rw [World.setCells, setCells_other b r _ _ k h]; exact Below.heap_setCell _ _ _ _ (by simpa using h)
theorem setCells_frame (b : Nat) : ∀ (vs : List Value) (o : Nat) (w : World), FrameW (· = b) w (w.setCells b o vs)
  | [], _, w => FrameW.refl _ w
  | v :: r, o, w => by
    rw [World.setCells]
    have h1 : FrameW (· = b) w (w.setCell ⟨b, o, none⟩ v) := ⟨rfl, rfl, rfl, by simp [World.setCell], fun k _ hn => Below.heap_setCell w ⟨b, o, none⟩ v k (by simpa using hn)⟩
    exact h1.trans (setCells_frame b r (o + 1) _) (fun _ _ h => h)

/-- A new content for a flat object of one's own. -/
def Flat.setK (f : Flat) (i j : Nat) (cs : List AV) (K : Cnd → Flat → Prop) : Prop :=
  match f with
  | .ints k xs => match j, cs with
    | 0, [.int k' n] => bif k == k' then K (some (i < xs.length)) (.ints k (xs.set i n)) else False
    | _, _ => False
  | .r2 xs => match j, cs with
    | 0, [.int .i64 n] => K (some (i < xs.length)) (.r2 (xs.set i ⟨n, (xs.getD i default).b⟩))
    | 1, [.int .i64 n] => K (some (i < xs.length)) (.r2 (xs.set i ⟨(xs.getD i default).a, n⟩))
    | 0, [.int .i64 a, .int .i64 b] => K (some (i < xs.length)) (.r2 (xs.set i ⟨a, b⟩))
    | _, _ => False
  | .r3 xs => match j, cs with
    | 0, [.int .i64 n] => K (some (i < xs.length)) (.r3 (xs.set i ⟨n, (xs.getD i default).b, (xs.getD i default).c⟩))
    | 1, [.int .i64 n] => K (some (i < xs.length)) (.r3 (xs.set i ⟨(xs.getD i default).a, n, (xs.getD i default).c⟩))
    | 2, [.int .i64 n] => K (some (i < xs.length)) (.r3 (xs.set i ⟨(xs.getD i default).a, (xs.getD i default).b, n⟩))
    | 0, [.int .i64 a, .int .i64 b, .int .i64 c] => K (some (i < xs.length)) (.r3 (xs.set i ⟨a, b, c⟩))
    | _, _ => False
  | .r4 xs => match j, cs with
    | 0, [.int .i64 n] => K (some (i < xs.length)) (.r4 (xs.set i ⟨n, (xs.getD i default).b, (xs.getD i default).c, (xs.getD i default).d⟩))
    | 1, [.int .i64 n] => K (some (i < xs.length)) (.r4 (xs.set i ⟨(xs.getD i default).a, n, (xs.getD i default).c, (xs.getD i default).d⟩))
    | 2, [.int .i64 n] => K (some (i < xs.length)) (.r4 (xs.set i ⟨(xs.getD i default).a, (xs.getD i default).b, n, (xs.getD i default).d⟩))
    | 3, [.int .i64 n] => K (some (i < xs.length)) (.r4 (xs.set i ⟨(xs.getD i default).a, (xs.getD i default).b, (xs.getD i default).c, n⟩))
    | 0, [.int .i64 a, .int .i64 b, .int .i64 c, .int .i64 d] => K (some (i < xs.length)) (.r4 (xs.set i ⟨a, b, c, d⟩))
    | _, _ => False
  | .bools xs => match j, cs with
    | 0, [.bool b] => K (some (i < xs.length)) (.bools (xs.set i b))
    | _, _ => False
  | .strs xs => match j, cs with
    | 0, [.str s] => K (some (i < xs.length)) (.strs (xs.set i s))
    | _, _ => False
  | .gen sz xs => lrowK xs i fun row => bif Nat.ble (j + cs.length) sz && Nat.ble (j + cs.length) row.length then K none (.gen sz (xs.set i (row.take j ++ cs ++ row.drop (j + cs.length)))) else False
  | .rows _ _ _ => False

/-- What 'setK' gives. -/
structure SetOK (f : Flat) (i j : Nat) (cs : List AV) (f' : Flat) : Prop where
  hi : i < f.n
  hj : j + cs.length ≤ f.sz
  n : f'.n = f.n
  sz : f'.sz = f.sz
  cell : ∀ a b, a < f.n → b < f.sz → f'.cell a b = if a = i ∧ j ≤ b ∧ b < j + cs.length then cs.getD (b - j) .top else f.cell a b

theorem getD_set' {α : Type} (xs : List α) (i a : Nat) (x d : α) (hi : i < xs.length) : (xs.set i x).getD a d = if a = i then x else xs.getD a d := by
  simp only [List.getD, List.getElem?_set]
  by_cases h : i = a
  · subst h; simp [hi]
  · rw [if_neg h, if_neg (Ne.symm h)]

theorem setK_spec {f : Flat} {i j : Nat} {cs : List AV} {K : Cnd → Flat → Prop} (h : f.setK i j cs K) : ∃ C f', K C f' ∧ (C.holds → SetOK f i j cs f') := by
  unfold Flat.setK at h
  split at h
  case h_8 => exact h.elim
  case h_7 sz xs =>
    obtain ⟨row, hr, h⟩ := lrowK_spec h
    cases hb : (Nat.ble (j + cs.length) sz && Nat.ble (j + cs.length) row.length) with
    | false => simp [hb] at h
    | true =>
      simp only [hb, cond_true] at h
      simp only [Bool.and_eq_true, Nat.ble_eq] at hb
      obtain ⟨hi, hrow⟩ := List.getElem?_eq_some_iff.1 hr
      refine ⟨_, _, h, fun _ => ⟨hi, hb.1, by simp [Flat.n], rfl, fun a b ha hbb => ?_⟩⟩
      simp only [Flat.cell]
      rw [getD_set' _ _ _ _ _ hi]
      by_cases hai : a = i
      · subst hai
        simp only [if_true, true_and]
        rw [show xs.getD a [] = row by simp [List.getD, hr]]
        simp only [List.getD, List.append_assoc]
        by_cases h1 : b < j
        · rw [if_neg (by omega), List.getElem?_append_left (by simp; omega), List.getElem?_take_of_lt h1]
        · by_cases h2 : b < j + cs.length
          · rw [if_pos ⟨by omega, h2⟩, List.getElem?_append_right (by simp; omega), List.getElem?_append_left (by simp; omega)]
            congr 2; simp; omega
          · rw [if_neg (by omega), List.getElem?_append_right (by simp; omega), List.getElem?_append_right (by simp; omega), List.getElem?_drop]
            congr 2; simp; omega
      · simp [hai]
  case h_1 k xs =>
    split at h
    case h_2 => exact h.elim
    rename_i k' n
    cases hb : k == k' with
    | false => simp [hb] at h
    | true =>
      simp only [hb, cond_true] at h
      have : k = k' := by simpa using hb
      subst this
      refine ⟨_, _, h, fun hi => ⟨hi, by simp [Flat.sz], by simp [Flat.n], rfl, fun a b ha hbb => ?_⟩⟩
      simp only [Flat.sz] at hbb
      obtain rfl : b = 0 := by omega
      simp only [Flat.cell]
      rw [getD_set' _ _ _ _ _ hi]
      by_cases hai : a = i <;> simp [hai]
  all_goals
    split at h <;> try exact h.elim
  all_goals
    refine ⟨_, _, h, fun hi => ⟨hi, by simp [Flat.sz], by simp [Flat.n], rfl, fun a b ha hbb => ?_⟩⟩
    simp only [Flat.sz] at hbb
    simp only [Flat.cell]
    rw [getD_set' _ _ _ _ _ hi]
    by_cases hai : a = i
    · subst hai
      have hb4 : b = 0 ∨ b = 1 ∨ b = 2 ∨ b = 3 := by omega
      rcases hb4 with rfl | rfl | rfl | rfl <;> first | omega | simp [R2.get, R3.get, R4.get]
    · simp [hai]

end
end Go.Sx
