/-
  A literal slice; append.
-/
import Derived.Test.YtbjlbmehklfijaaSxH
namespace Go.Sx
set_option linter.unusedVariables false
set_option linter.unusedSimpArgs false
open Go
open Go.RowKit

section
variable {P : Program} {T : Tbl} {ρ : Rho} {N : Nat} {G : Heap} {w : World}

def eBuildSlice (T : Tbl) (lk : Operand → AV) (t len : Nat) (parts : List (Nat × Operand)) (N : Nat) (G : Heap) (K : AV → Nat → Heap → Prop) : Prop :=
  match tget T t with
  | some ti => match ti.d with
    | .slice _ esz _ k => bif Nat.beq len parts.length && Nat.ble (len * esz) 1000 then collectK lk esz 0 parts fun rows => k.rowsK rows fun f => K (.sl N []) (N + 1) ((N, .flat true f) :: G) else False
    | _ => False
  | none => False

theorem flatten_get {esz : Nat} : ∀ {vss : List (List Value)}, (∀ vs ∈ vss, vs.length = esz) → ∀ (i j : Nat), i < vss.length → j < esz → vss.flatten[i * esz + j]? = (vss.getD i [])[j]?
  | [], _, i, _, hi, _ => by simp at hi
  | vs :: r, h, i, j, hi, hj => by
    have hl := h vs (by simp)
    cases i with
    | zero => simp [List.getElem?_append_left (show j < vs.length by omega)]
    | succ i =>
      have ih := flatten_get (vss := r) (fun u hu => h u (by simp [hu])) i j (by simpa using hi) hj
      rw [List.flatten_cons, List.getElem?_append_right (by rw [hl, Nat.add_mul]; omega), hl, show (i + 1) * esz + j - esz = i * esz + j by rw [Nat.add_mul]; omega, ih]
      simp
theorem flatten_len {esz : Nat} : ∀ {vss : List (List Value)}, (∀ vs ∈ vss, vs.length = esz) → vss.flatten.length = vss.length * esz
  | [], _ => by simp
  | vs :: r, h => by
    rw [List.flatten_cons, List.length_append, h vs (by simp), flatten_len (fun u hu => h u (by simp [hu])), List.length_cons, Nat.add_mul]; omega
theorem mem_getD {α : Type} {l : List (List α)} {P : List α → Prop} (h : ∀ i, i < l.length → P (l.getD i [])) : ∀ x ∈ l, P x := fun x hx => by
  obtain ⟨i, hi, rfl⟩ := List.getElem_of_mem hx
  have := h i hi
  simpa [List.getD, List.getElem?_eq_getElem hi] using this

/-- The run of a literal slice, and the object that it makes, whatever stands for its cells. -/
theorem build_core {ev : Operand → Value} (hT : TblOK P T) (hH : HeapRep ρ N G w) {t : Nat} {ti : TI} (ht : tget T t = some ti) {e esz eb : Nat} {k : EK} (hd1 : ti.d = .slice e esz eb k) (hko : k ≠ .other) {parts : List (Nat × Operand)} (hsmall : parts.length * esz ≤ 1000)
    {rows : List (List AV)} {vss : List (List Value)} {N0 : Nat} {ρ0 : Rho} (e1 : rows.length = parts.length) (e2 : vss.length = parts.length) (e3 : ∀ i, i < rows.length → VRL ρ0 N0 (rows.getD i []) (vss.getD i []) ∧ (vss.getD i []).length = esz ∧ ∀ u ∈ vss.getD i [], u.oneCell' = true)
    (e4 : ∀ (cells : List Value), (0 + parts.length) * esz ≤ cells.length → Instr.fill (fun i => some (i * esz, esz)) cells.toArray (parts.map fun x => (x.1, ev x.2)) = some (cells.take (0 * esz) ++ vss.flatten ++ cells.drop ((0 + parts.length) * esz)).toArray)
    {f : Flat} (hfn : f.n = rows.length) (hfs : f.sz = k.zero.length) (hfc : ∀ i j u, i < rows.length → j < f.sz → VR ρ0 N0 ((rows.getD i []).getD j .top) u → VR ρ N (f.cell i j) u) {K : AV → Nat → Heap → Prop} (hK : K (.sl N []) (N + 1) ((N, .flat true f) :: G)) :
    ∃ v w', (Instr.buildSlice t parts.length (parts.map fun x => (x.1, ev x.2)).toArray).run P w = .ok v w' ∧ Out ρ N G w K v w' := by
  have hd0 := (hT _ _ ht).desc
  rw [hd1] at hd0
  obtain ⟨hd, i, z, hi, hsz, hby, hpos, heb, hz, hzs, hzk, hz1⟩ : DescOK P t (.slice e esz eb k) := hd0
  obtain ⟨hzl, _⟩ := hzk hko
  have hvl : ∀ vs ∈ vss, vs.length = esz := mem_getD fun a ha => (e3 a (by omega)).2.1
  have hfl := flatten_len hvl
  refine ⟨.slice (some ⟨w.heap.size, 0, none⟩) parts.length parts.length, w.alloc (.cells vss.flatten.toArray e), ?_, ?_⟩
  · have hn24 : ¬ (16777216 < parts.length * esz) := by omega
    have hfill : ∀ cells : List Value, cells.length = parts.length * esz → Instr.fill (fun i => some (i * esz, esz)) cells.toArray (parts.map fun x => (x.1, ev x.2)) = some vss.flatten.toArray := fun cells hc => by
      rw [e4 cells (by simp [hc])]
      simp [hc]
    by_cases h0 : parts.length * esz = 0
    · have := hfill [] (by simp [h0])
      have hcast : (Array.map (fun _ => (default : Value)) (Array.range 0)) = (([] : List Value).toArray) := by simp
      simp only [Instr.buildSlice, Sem.run_bind, run_underlying hd, Result.andThen_ok, run_sizeOf hi, hsz]
      simp [h0]
      rw [hcast, this]
      simp [newRow]
    · have hz' : ∀ n : Nat, (Array.map (fun x => z.cells[x % z.cells.size]!) (Array.range n)) = ((List.range n).map fun x => z.cells[x % z.cells.size]!).toArray := fun n => by
        apply Array.ext'; simp
      have := hfill ((List.range (parts.length * esz)).map fun x => z.cells[x % z.cells.size]!) (by simp)
      simp only [Instr.buildSlice, Sem.run_bind, run_underlying hd, Result.andThen_ok, run_sizeOf hi, hsz]
      simp [hn24, h0, zeroValue, typeInfo, hi, hz, hz', this, newRow]
  · refine out_new (f := f) (t := e) (cs := vss.flatten) hH hK (by rw [hfs, hzl]; exact hpos) (by rw [hfl, hfn, hfs, hzl, e1, e2]; exact Nat.le_refl _) ?_ (frame_alloc _ _) (heap_alloc_new w _) ?_
    · intro a ha b hbb
      rw [hfn] at ha
      rw [hfs, hzl] at hbb ⊢
      obtain ⟨q1, q2, q3⟩ := e3 a ha
      obtain ⟨u, hu, hr⟩ := q1.get b (by have := q1.length; omega)
      rw [flatten_get hvl a b (by omega) hbb]
      refine ⟨u, hu, ?_, q3 u (List.mem_of_getElem? hu)⟩
      exact hfc a b u ha (by rw [hfs, hzl]; exact hbb) hr
    · simp only [VR, if_true]
      refine ⟨Nat.lt_succ_self N, _, _, by rw [hfn, e1], .inl ⟨by simp, by rw [hfn, e1]; exact Nat.le_refl _, ?_⟩⟩
      rw [hfl, hfs, hzl, e2]; simp

theorem eBuildSlice_sound {lk : Operand → AV} {ev : Operand → Value} (hT : TblOK P T) (hH : HeapRep ρ N G w) (hlk : ∀ x, VR ρ N (lk x) (ev x)) {t len : Nat} {parts : List (Nat × Operand)} {K : AV → Nat → Heap → Prop}
    (h : eBuildSlice T lk t len parts N G K) : ∃ v w', (Instr.buildSlice t len (parts.map fun x => (x.1, ev x.2)).toArray).run P w = .ok v w' ∧ Out ρ N G w K v w' := by
  unfold eBuildSlice at h
  split at h
  case h_2 => exact h.elim
  rename_i ti ht
  split at h
  case h_2 => exact h.elim
  rename_i e esz eb k hd1
  cases hb : (Nat.beq len parts.length && Nat.ble (len * esz) 1000) with
  | false => simp [hb] at h
  | true =>
    simp only [hb, cond_true] at h
    simp only [Bool.and_eq_true, Nat.beq_eq, Nat.ble_eq] at hb
    obtain ⟨rfl, hsmall⟩ := hb
    obtain ⟨rows, vss, h, e1, e2, e3, e4⟩ := collectK_spec hlk h
    obtain ⟨f, hK, hko, hfn, hfs, hfc⟩ := rowsK_spec h
    exact build_core hT hH ht hd1 hko hsmall e1 e2 e3 e4 hfn hfs (fun i j u hi hj hu => by rw [hfc i j hi hj]; exact hu) hK

/-! ### append -/
theorem le_grownCap (w : World) (need old : Nat) (e : TypeId) (h : need < 2 ^ 63) : need ≤ grownCap w need old e := by
  unfold grownCap Question.cut
  exact Nat.le_add_right _ _

/-- The run of append, whatever its source and whatever is appended to. -/
theorem run_append_gen {t t2 ty e e2 : TypeId} {i : TypeInfo} {z : Value} (ht : P.underlying t = some (.slice e)) (hi : P.info? e = some i) (hz : i.zero = some z) (hzs : z.cells.size = i.size) (ht2 : P.underlying t2 = some (.slice e2)) (hby : i.bytes ≤ 64)
    {A A2 : Option Addr} {n c m c2 : Nat} {olds news : List Value} (ho : olds.length = n * i.size) (hn : news.length = m * i.size)
    (hA : 0 < n → ∃ b o, A = some ⟨b, o, none⟩ ∧ ∀ (j : Nat) v, olds[j]? = some v → w.cell? ⟨b, o + j, none⟩ = some v)
    (hA2 : 0 < m → ∃ b o, A2 = some ⟨b, o, none⟩ ∧ ∀ (j : Nat) v, news[j]? = some v → w.cell? ⟨b, o + j, none⟩ = some v)
    (h1 : ∀ u ∈ news, u.oneCell' = true) (hsz : 0 < i.size)
    (hin : n + m ≤ c → 0 < m → ∃ b o, A = some ⟨b, o, none⟩ ∧ ∀ j, j < m * i.size → (w.cell? ⟨b, o + n * i.size + j, none⟩).isSome = true ∧ w.frozen? ⟨b, o + n * i.size + j, none⟩ = false)
    (hlen : n + m ≤ 1099511627776) :
    ∃ v' w', (Builtin.append_ #[t, t2] ty #[.slice A n c, .slice A2 m c2]).run P w = .ok v' w' ∧
      ((n + m ≤ c ∧ v' = .slice A (n + m) c ∧ ((m = 0 ∧ w' = w) ∨ ∃ b o, 0 < m ∧ A = some ⟨b, o, none⟩ ∧ w' = w.setCells b (o + n * i.size) news)) ∨
       (c < n + m ∧ ∃ cap rest, v' = .slice (some ⟨w.heap.size, 0, none⟩) (n + m) cap ∧ n + m ≤ cap ∧ (olds ++ news ++ rest).length = cap * i.size ∧ w' = w.drew.alloc (.cells (olds ++ news ++ rest).toArray e))) := by
  have hfc : ∀ (w' : World), (∀ a, w'.cell? a = w.cell? a) → (Builtin.firstCells i.size m (.slice A2 m c2)).run P w' = .ok news.toArray w' := fun w' hw => by
    by_cases hm : 0 < m
    · obtain ⟨b, o, rfl, hc⟩ := hA2 hm
      refine run_firstCells_some w' i.size m _ m c2 news hn fun j v hj => ?_
      rw [hw, ← hc j v hj]
      congr 1
      unfold Addr.add; split <;> simp_all
    · have hm0 : m = 0 := by omega
      subst hm0
      have : news = [] := List.eq_nil_of_length_eq_zero (by omega)
      subst this
      cases A2 with
      | none => simp [Builtin.firstCells]
      | some a => simp [Builtin.firstCells, loadCells, loadCellsFrom]
  have hfo : ∀ (w' : World), (∀ a, w'.cell? a = w.cell? a) → (Builtin.firstCells i.size n (.slice A n c)).run P w' = .ok olds.toArray w' := fun w' hw => by
    by_cases hm : 0 < n
    · obtain ⟨b, o, rfl, hc⟩ := hA hm
      refine run_firstCells_some w' i.size n _ n c olds ho fun j v hj => ?_
      rw [hw, ← hc j v hj]
      congr 1
      unfold Addr.add; split <;> simp_all
    · have hm0 : n = 0 := by omega
      subst hm0
      have : olds = [] := List.eq_nil_of_length_eq_zero (by omega)
      subst this
      cases A with
      | none => simp [Builtin.firstCells]
      | some a => simp [Builtin.firstCells, loadCells, loadCellsFrom]
  by_cases hle : n + m ≤ c
  · by_cases hm : 0 < m
    · obtain ⟨b, o, rfl, hcells⟩ := hin hle hm
      have hst := run_storeCells_cells (P := P) b (o + n * i.size) news 0 w (fun j hj => by have := (hcells j (by omega)).1; simpa using this) (fun j hj => by have := (hcells j (by omega)).2; simpa using this) h1
      have hadd : (⟨b, o, none⟩ : Addr).add (n * i.size) = ⟨b, o + n * i.size, none⟩ := by unfold Addr.add; split <;> simp_all
      simp only [Nat.add_zero] at hst
      refine ⟨_, _, ?_, .inl ⟨hle, rfl, .inr ⟨b, o, hm, rfl, rfl⟩⟩⟩
      simp [Builtin.append_, run_underlying ht, run_underlying ht2, sizeOf, typeInfo, hi, Builtin.lenOf, hle, hfc w (fun _ => rfl), hadd, hst]
    · have hm0 : m = 0 := by omega
      subst hm0
      have hnn : news = [] := List.eq_nil_of_length_eq_zero (by omega)
      refine ⟨_, _, ?_, .inl ⟨hle, rfl, .inl ⟨rfl, rfl⟩⟩⟩
      have := hfc w (fun _ => rfl)
      rw [hnn] at this
      simp only [Nat.add_zero] at hle
      cases A <;> simp [Builtin.append_, run_underlying ht, run_underlying ht2, sizeOf, typeInfo, hi, Builtin.lenOf, hle, this, storeCells]
  · have hlt : c < n + m := by omega
    have h63 : ¬ (9223372036854775807 < ((n : Int) + (m : Int))) := by omega
    have hb : (n + m) * i.bytes ≤ 140737488355328 := by
      have := Nat.mul_le_mul hlen hby
      omega
    have h48 : ¬ (281474976710656 < Builtin.nextslicecap (n + m) c * i.bytes) := by
      have := growslice_fits hlt hb
      omega
    refine ⟨.slice (some ⟨w.heap.size, 0, none⟩) (n + m) (grownCap w (n + m) c e), _, ?_, .inr ⟨hlt, _, (Builtin.zeroCells z.cells (grownCap w (n + m) c e - (n + m))).toList, rfl, ?_, ?_, rfl⟩⟩
    · have hfc' := hfc w.drew (fun _ => rfl)
      have hfo' := hfo w.drew (fun _ => rfl)
      simp [Builtin.append_, run_underlying ht, run_underlying ht2, sizeOf, Builtin.lenOf, hle, typeInfo, zeroValue, hi, hz, h63, h48, Question.forced, hfc', hfo', newRow, grownCap]
      congr 2
      apply Array.ext'
      simp [List.append_assoc]
    · have := le_grownCap w (n + m) c e (by omega)
      omega
    · have hg := le_grownCap w (n + m) c e (by omega)
      have hzl : (Builtin.zeroCells z.cells (grownCap w (n + m) c e - (n + m))).toList.length = (grownCap w (n + m) c e - (n + m)) * i.size := by simp [Builtin.zeroCells, hzs]
      rw [List.length_append, List.length_append, hzl, ho, hn, ← Nat.add_mul, ← Nat.add_mul]
      congr 1
      omega

/-! ### The contents of the two sides -/
def Flat.part (f : Flat) (i len : Nat) : Flat :=
  match f with
  | .ints k xs => .ints k ((xs.drop i).take len)
  | .r2 xs => .r2 ((xs.drop i).take len)
  | .r3 xs => .r3 ((xs.drop i).take len)
  | .r4 xs => .r4 ((xs.drop i).take len)
  | .bools xs => .bools ((xs.drop i).take len)
  | .strs xs => .strs ((xs.drop i).take len)
  | .gen sz xs => .gen sz ((xs.drop i).take len)
  | .rows M off _ => .rows M (off + i) len
theorem getD_part {α : Type} (xs : List α) (i len a : Nat) (d : α) (h : a < len) : ((xs.drop i).take len).getD a d = xs.getD (i + a) d := by
  simp [List.getD, List.getElem?_take, h, List.getElem?_drop]
theorem part_spec {f : Flat} {i len : Nat} (h : i + len ≤ f.n) : (f.part i len).n = len ∧ (f.part i len).sz = f.sz ∧ ∀ a b, a < len → (f.part i len).cell a b = f.cell (i + a) b := by
  cases f <;> simp only [Flat.n] at h
  case rows => exact ⟨rfl, rfl, fun a b ha => by simp only [Flat.part, Flat.cell, offs_eq, Nat.add_assoc]⟩
  all_goals
    refine ⟨by simp [Flat.part, Flat.n]; omega, rfl, fun a b ha => ?_⟩
    simp only [Flat.part, Flat.cell]
    rw [getD_part _ _ _ _ _ ha]

def Flat.appK (f g : Flat) (K : Flat → Prop) : Prop :=
  match f with
  | .ints k xs => match g with
    | .ints k' ys => bif k == k' then K (.ints k (xs ++ ys)) else False
    | _ => False
  | .r2 xs => match g with
    | .r2 ys => K (.r2 (xs ++ ys))
    | _ => False
  | .r3 xs => match g with
    | .r3 ys => K (.r3 (xs ++ ys))
    | _ => False
  | .r4 xs => match g with
    | .r4 ys => K (.r4 (xs ++ ys))
    | _ => False
  | .bools xs => match g with
    | .bools ys => K (.bools (xs ++ ys))
    | _ => False
  | .strs xs => match g with
    | .strs ys => K (.strs (xs ++ ys))
    | _ => False
  | .gen _ _ => False
  | .rows _ _ _ => False
theorem getD_app {α : Type} (xs ys : List α) (a : Nat) (d : α) : (xs ++ ys).getD a d = if a < xs.length then xs.getD a d else ys.getD (a - xs.length) d := by
  simp only [List.getD]
  by_cases h : a < xs.length
  · rw [if_pos h, List.getElem?_append_left h]
  · rw [if_neg h, List.getElem?_append_right (by omega)]
theorem appK_spec {f g : Flat} {K : Flat → Prop} (h : f.appK g K) : ∃ r, K r ∧ r.n = f.n + g.n ∧ r.sz = f.sz ∧ g.sz = f.sz ∧ ∀ a b, r.cell a b = if a < f.n then f.cell a b else g.cell (a - f.n) b := by
  unfold Flat.appK at h
  split at h
  case h_7 => exact h.elim
  case h_8 => exact h.elim
  all_goals
    split at h <;> try exact h.elim
  case h_1 =>
    rename_i k xs _ k' ys
    cases hb : k == k' with
    | false => simp [hb] at h
    | true =>
      simp only [hb, cond_true] at h
      have : k = k' := by simpa using hb
      subst this
      refine ⟨_, h, by simp [Flat.n], rfl, rfl, fun a b => ?_⟩
      simp only [Flat.cell, Flat.n, getD_app]
      split <;> simp [*]
  all_goals
    refine ⟨_, h, by simp [Flat.n], rfl, rfl, fun a b => ?_⟩
    simp only [Flat.cell, Flat.n, getD_app]
    split <;> simp [*]

end
end Go.Sx
