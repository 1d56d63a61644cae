/-
  A library of symbolic execution over the kit (part Sb): its own parts, one behind another.
-/
import Derived.Test.YtligakfmabjoeaaDoorSa
import Derived.Lib.AppendStr
import Derived.Maps.RangeRun
/-
  A literal slice; append.
-/
namespace Go.Sx
set_option linter.unusedVariables false
set_option linter.unusedSimpArgs false
open Go
open Go.RowKit

section
variable {P : Program} {T : Tbl} {ρ : Rho} {N : Nat} {G : Heap} {w : World}

def eBuildSlice (T : Tbl) (lk : Operand → AV) (t len : Nat) (parts : List (Nat × Operand)) (N : Nat) (G : Heap) (K : AV → Nat → Heap → Prop) : Prop :=
  match tget T t with
  | some ti => match ti.d with
    | .slice _ esz _ k => bif Nat.beq len parts.length && Nat.ble (len * esz) 1000 then collectK lk esz 0 parts fun rows => k.rowsK rows fun f => K (.sl N []) (N + 1) ((N, .flat true f) :: G) else False
    | _ => False
  | none => False

theorem flatten_get {esz : Nat} : ∀ {vss : List (List Value)}, (∀ vs ∈ vss, vs.length = esz) → ∀ (i j : Nat), i < vss.length → j < esz → vss.flatten[i * esz + j]? = (vss.getD i [])[j]?
  | [], _, i, _, hi, _ => by simp at hi
  | vs :: r, h, i, j, hi, hj => by
    have hl := h vs (by simp)
    cases i with
    | zero => simp [List.getElem?_append_left (show j < vs.length by omega)]
    | succ i =>
      have ih := flatten_get (vss := r) (fun u hu => h u (by simp [hu])) i j (by simpa using hi) hj
      rw [List.flatten_cons, List.getElem?_append_right (by rw [hl, Nat.add_mul]; omega), hl, show (i + 1) * esz + j - esz = i * esz + j by rw [Nat.add_mul]; omega, ih]
      simp
theorem flatten_len {esz : Nat} : ∀ {vss : List (List Value)}, (∀ vs ∈ vss, vs.length = esz) → vss.flatten.length = vss.length * esz
  | [], _ => by simp
  | vs :: r, h => by
    rw [List.flatten_cons, List.length_append, h vs (by simp), flatten_len (fun u hu => h u (by simp [hu])), List.length_cons, Nat.add_mul]; omega
theorem mem_getD {α : Type} {l : List (List α)} {P : List α → Prop} (h : ∀ i, i < l.length → P (l.getD i [])) : ∀ x ∈ l, P x := fun x hx => by
  obtain ⟨i, hi, rfl⟩ := List.getElem_of_mem hx
  have := h i hi
  simpa [List.getD, List.getElem?_eq_getElem hi] using this

/-- The run of a literal slice, and the object that it makes, whatever stands for its cells. -/
theorem build_core {ev : Operand → Value} (hT : TblOK P T) (hH : HeapRep ρ N G w) {t : Nat} {ti : TI} (ht : tget T t = some ti) {e esz eb : Nat} {k : EK} (hd1 : ti.d = .slice e esz eb k) (hko : k ≠ .other) {parts : List (Nat × Operand)} (hsmall : parts.length * esz ≤ 1000)
    {rows : List (List AV)} {vss : List (List Value)} {N0 : Nat} {ρ0 : Rho} (e1 : rows.length = parts.length) (e2 : vss.length = parts.length) (e3 : ∀ i, i < rows.length → VRL ρ0 N0 (rows.getD i []) (vss.getD i []) ∧ (vss.getD i []).length = esz ∧ ∀ u ∈ vss.getD i [], u.oneCell' = true)
    (e4 : ∀ (cells : List Value), (0 + parts.length) * esz ≤ cells.length → Instr.fill (fun i => some (i * esz, esz)) cells.toArray (parts.map fun x => (x.1, ev x.2)) = some (cells.take (0 * esz) ++ vss.flatten ++ cells.drop ((0 + parts.length) * esz)).toArray)
    {f : Flat} (hfn : f.n = rows.length) (hfs : f.sz = k.zero.length) (hfc : ∀ i j u, i < rows.length → j < f.sz → VR ρ0 N0 ((rows.getD i []).getD j .top) u → VR ρ N (f.cell i j) u) {K : AV → Nat → Heap → Prop} (hK : K (.sl N []) (N + 1) ((N, .flat true f) :: G)) (hfty : f.ty = none := by rfl) :
    ∃ v w', (Instr.buildSlice t parts.length (parts.map fun x => (x.1, ev x.2)).toArray).run P w = .ok v w' ∧ Out ρ N G w K v w' := by
  have hd0 := (hT _ _ ht).desc
  rw [hd1] at hd0
  obtain ⟨hd, i, z, hi, hsz, hby, hpos, heb, hz, hzs, hzk, hz1⟩ : DescOK P t (.slice e esz eb k) := hd0
  obtain ⟨hzl, _⟩ := hzk hko
  have hvl : ∀ vs ∈ vss, vs.length = esz := mem_getD fun a ha => (e3 a (by omega)).2.1
  have hfl := flatten_len hvl
  refine ⟨.slice (some ⟨w.heap.size, 0, none⟩) parts.length parts.length, w.alloc (.cells vss.flatten.toArray e), ?_, ?_⟩
  · have hn24 : ¬ (16777216 < parts.length * esz) := by omega
    have hfill : ∀ cells : List Value, cells.length = parts.length * esz → Instr.fill (fun i => some (i * esz, esz)) cells.toArray (parts.map fun x => (x.1, ev x.2)) = some vss.flatten.toArray := fun cells hc => by
      rw [e4 cells (by simp [hc])]
      simp [hc]
    by_cases h0 : parts.length * esz = 0
    · have := hfill [] (by simp [h0])
      have hcast : (Array.map (fun _ => (default : Value)) (Array.range 0)) = (([] : List Value).toArray) := by simp
      simp only [Instr.buildSlice, Sem.run_bind, run_underlying hd, Result.andThen_ok, run_sizeOf hi, hsz]
      simp [h0]
      rw [hcast, this]
      simp [newRow]
    · have hz' : ∀ n : Nat, (Array.map (fun x => z.cells[x % z.cells.size]!) (Array.range n)) = ((List.range n).map fun x => z.cells[x % z.cells.size]!).toArray := fun n => by
        apply Array.ext'; simp
      have := hfill ((List.range (parts.length * esz)).map fun x => z.cells[x % z.cells.size]!) (by simp)
      simp only [Instr.buildSlice, Sem.run_bind, run_underlying hd, Result.andThen_ok, run_sizeOf hi, hsz]
      simp [hn24, h0, zeroValue, typeInfo, hi, hz, hz', this, newRow]
  · refine out_new (f := f) (t := e) (cs := vss.flatten) hH hK (by rw [hfs, hzl]; exact hpos) (by rw [hfl, hfn, hfs, hzl, e1, e2]; exact Nat.le_refl _) ?_ (frame_alloc _ _) (fun _ h => nomatch hfty.symm.trans h) (heap_alloc_new w _) ?_
    · intro a ha b hbb
      rw [hfn] at ha
      rw [hfs, hzl] at hbb ⊢
      obtain ⟨q1, q2, q3⟩ := e3 a ha
      obtain ⟨u, hu, hr⟩ := q1.get b (by have := q1.length; omega)
      rw [flatten_get hvl a b (by omega) hbb]
      refine ⟨u, hu, ?_, q3 u (List.mem_of_getElem? hu)⟩
      exact hfc a b u ha (by rw [hfs, hzl]; exact hbb) hr
    · simp only [VR, if_true]
      refine ⟨Nat.lt_succ_self N, _, _, by rw [hfn, e1], .inl ⟨by simp, by rw [hfn, e1]; exact Nat.le_refl _, ?_⟩⟩
      rw [hfl, hfs, hzl, e2]; simp

theorem eBuildSlice_sound {lk : Operand → AV} {ev : Operand → Value} (hT : TblOK P T) (hH : HeapRep ρ N G w) (hlk : ∀ x, VR ρ N (lk x) (ev x)) {t len : Nat} {parts : List (Nat × Operand)} {K : AV → Nat → Heap → Prop}
    (h : eBuildSlice T lk t len parts N G K) : ∃ v w', (Instr.buildSlice t len (parts.map fun x => (x.1, ev x.2)).toArray).run P w = .ok v w' ∧ Out ρ N G w K v w' := by
  unfold eBuildSlice at h
  split at h
  case h_2 => exact h.elim
  rename_i ti ht
  split at h
  case h_2 => exact h.elim
  rename_i e esz eb k hd1
  cases hb : (Nat.beq len parts.length && Nat.ble (len * esz) 1000) with
  | false => simp [hb] at h
  | true =>
    simp only [hb, cond_true] at h
    simp only [Bool.and_eq_true, Nat.beq_eq, Nat.ble_eq] at hb
    obtain ⟨rfl, hsmall⟩ := hb
    obtain ⟨rows, vss, h, e1, e2, e3, e4⟩ := collectK_spec hlk h
    obtain ⟨f, ⟨hK, hfty⟩, hko, hfn, hfs, hfc⟩ := rowsK_spec h
    exact build_core hT hH ht hd1 hko hsmall e1 e2 e3 e4 hfn hfs (fun i j u hi hj hu => by rw [hfc i j hi hj]; exact hu) hK hfty

/-! ### append -/
theorem le_grownCap (w : World) (need old : Nat) (e : TypeId) (h : need < 2 ^ 63) : need ≤ grownCap w need old e := by
  unfold grownCap Question.cut
  exact Nat.le_add_right _ _

/-- What is appended: a slice's cells, or a string's bytes. -/
def SrcV (P : Program) (w : World) (t2 : TypeId) (xv : Value) (m : Nat) (news : List Value) : Prop :=
  (∃ A2 c2 e2, xv = .slice A2 m c2 ∧ P.underlying t2 = some (.slice e2) ∧ (0 < m → ∃ b o, A2 = some ⟨b, o, none⟩ ∧ ∀ (j : Nat) v, news[j]? = some v → w.cell? ⟨b, o + j, none⟩ = some v)) ∨
  (∃ s : ByteArray, xv = .string s ∧ P.underlying t2 = some .string ∧ m = s.size ∧ news = Lib.strCells s)
/-- The run of append, whatever its source and whatever is appended to. -/
theorem run_append_gen {t t2 ty e : TypeId} {i : TypeInfo} {z : Value} (ht : P.underlying t = some (.slice e)) (hi : P.info? e = some i) (hz : i.zero = some z) (hzs : z.cells.size = i.size) (hby : i.bytes ≤ 64)
    {A : Option Addr} {xv : Value} {n c m : Nat} {olds news : List Value} (ho : olds.length = n * i.size) (hn : news.length = m * i.size)
    (hA : 0 < n → ∃ b o, A = some ⟨b, o, none⟩ ∧ ∀ (j : Nat) v, olds[j]? = some v → w.cell? ⟨b, o + j, none⟩ = some v)
    (hx : SrcV P w t2 xv m news)
    (h1 : ∀ u ∈ news, u.oneCell' = true) (hsz : 0 < i.size)
    (hin : n + m ≤ c → 0 < m → ∃ b o, A = some ⟨b, o, none⟩ ∧ ∀ j, j < m * i.size → (w.cell? ⟨b, o + n * i.size + j, none⟩).isSome = true ∧ w.frozen? ⟨b, o + n * i.size + j, none⟩ = false)
    (hlen : n + m ≤ 1099511627776) :
    ∃ v' w', (Builtin.append_ #[t, t2] ty #[.slice A n c, xv]).run P w = .ok v' w' ∧
      ((n + m ≤ c ∧ v' = .slice A (n + m) c ∧ ((m = 0 ∧ w' = w) ∨ ∃ b o, 0 < m ∧ A = some ⟨b, o, none⟩ ∧ w' = w.setCells b (o + n * i.size) news)) ∨
       (c < n + m ∧ ∃ cap rest, v' = .slice (some ⟨w.heap.size, 0, none⟩) (n + m) cap ∧ n + m ≤ cap ∧ (olds ++ news ++ rest).length = cap * i.size ∧ w' = w.drew.alloc (.cells (olds ++ news ++ rest).toArray e))) := by
  have hfc : ∀ (w' : World), (∀ a, w'.cell? a = w.cell? a) → (Builtin.firstCells i.size m xv).run P w' = .ok news.toArray w' := fun w' hw => by
    rcases hx with ⟨A2, c2, e2, rfl, ht2, hA2⟩ | ⟨s, rfl, ht2, rfl, rfl⟩
    case inr => exact Lib.run_firstCells_string w' _ s
    by_cases hm : 0 < m
    · obtain ⟨b, o, rfl, hc⟩ := hA2 hm
      refine run_firstCells_some w' i.size m _ m c2 news hn fun j v hj => ?_
      rw [hw, ← hc j v hj]
      congr 1
      unfold Addr.add; split <;> simp_all
    · have hm0 : m = 0 := by omega
      subst hm0
      have : news = [] := List.eq_nil_of_length_eq_zero (by omega)
      subst this
      cases A2 with
      | none => simp [Builtin.firstCells]
      | some a => simp [Builtin.firstCells, loadCells, loadCellsFrom]
  have hlo : (Builtin.lenOf xv) = pure m := by
    rcases hx with ⟨A2, c2, e2, rfl, ht2, hA2⟩ | ⟨s, rfl, ht2, rfl, rfl⟩ <;> rfl
  have hd2 : (∃ e2, P.underlying t2 = some (.slice e2)) ∨ P.underlying t2 = some .string := by
    rcases hx with ⟨A2, c2, e2, rfl, ht2, hA2⟩ | ⟨s, rfl, ht2, rfl, rfl⟩
    · exact .inl ⟨_, ht2⟩
    · exact .inr ht2
  have hfo : ∀ (w' : World), (∀ a, w'.cell? a = w.cell? a) → (Builtin.firstCells i.size n (.slice A n c)).run P w' = .ok olds.toArray w' := fun w' hw => by
    by_cases hm : 0 < n
    · obtain ⟨b, o, rfl, hc⟩ := hA hm
      refine run_firstCells_some w' i.size n _ n c olds ho fun j v hj => ?_
      rw [hw, ← hc j v hj]
      congr 1
      unfold Addr.add; split <;> simp_all
    · have hm0 : n = 0 := by omega
      subst hm0
      have : olds = [] := List.eq_nil_of_length_eq_zero (by omega)
      subst this
      cases A with
      | none => simp [Builtin.firstCells]
      | some a => simp [Builtin.firstCells, loadCells, loadCellsFrom]
  by_cases hle : n + m ≤ c
  · by_cases hm : 0 < m
    · obtain ⟨b, o, rfl, hcells⟩ := hin hle hm
      have hst := run_storeCells_cells (P := P) b (o + n * i.size) news 0 w (fun j hj => by have := (hcells j (by omega)).1; simpa using this) (fun j hj => by have := (hcells j (by omega)).2; simpa using this) h1
      have hadd : (⟨b, o, none⟩ : Addr).add (n * i.size) = ⟨b, o + n * i.size, none⟩ := by unfold Addr.add; split <;> simp_all
      simp only [Nat.add_zero] at hst
      refine ⟨_, _, ?_, .inl ⟨hle, rfl, .inr ⟨b, o, hm, rfl, rfl⟩⟩⟩
      rcases hd2 with ⟨e2, ht2⟩ | ht2 <;> simp [Builtin.append_, run_underlying ht, run_underlying ht2, hlo, sizeOf, typeInfo, hi, hle, hfc w (fun _ => rfl), hadd, hst]
    · have hm0 : m = 0 := by omega
      subst hm0
      have hnn : news = [] := List.eq_nil_of_length_eq_zero (by omega)
      refine ⟨_, _, ?_, .inl ⟨hle, rfl, .inl ⟨rfl, rfl⟩⟩⟩
      have := hfc w (fun _ => rfl)
      rw [hnn] at this
      simp only [Nat.add_zero] at hle
      rcases hd2 with ⟨e2, ht2⟩ | ht2 <;> cases A <;> simp [Builtin.append_, run_underlying ht, run_underlying ht2, hlo, sizeOf, typeInfo, hi, hle, this, storeCells]
  · have hlt : c < n + m := by omega
    have h63 : ¬ (9223372036854775807 < ((n : Int) + (m : Int))) := by omega
    have hb : (n + m) * i.bytes ≤ 140737488355328 := by
      have := Nat.mul_le_mul hlen hby
      omega
    have h48 : ¬ (281474976710656 < Builtin.nextslicecap (n + m) c * i.bytes) := by
      have := growslice_fits hlt hb
      omega
    refine ⟨.slice (some ⟨w.heap.size, 0, none⟩) (n + m) (grownCap w (n + m) c e), _, ?_, .inr ⟨hlt, _, (Builtin.zeroCells z.cells (grownCap w (n + m) c e - (n + m))).toList, rfl, ?_, ?_, rfl⟩⟩
    · have hfc' := hfc w.drew (fun _ => rfl)
      have hfo' := hfo w.drew (fun _ => rfl)
      rcases hd2 with ⟨e2, ht2⟩ | ht2 <;> simp [Builtin.append_, run_underlying ht, run_underlying ht2, hlo, sizeOf, hle, typeInfo, zeroValue, hi, hz, h63, h48, Question.forced, hfc', hfo', newRow, grownCap]
      all_goals
        congr 2
        apply Array.ext'
        simp [List.append_assoc]
    · have := le_grownCap w (n + m) c e (by omega)
      omega
    · have hg := le_grownCap w (n + m) c e (by omega)
      have hzl : (Builtin.zeroCells z.cells (grownCap w (n + m) c e - (n + m))).toList.length = (grownCap w (n + m) c e - (n + m)) * i.size := by simp [Builtin.zeroCells, hzs]
      rw [List.length_append, List.length_append, hzl, ho, hn, ← Nat.add_mul, ← Nat.add_mul]
      congr 1
      omega

/-! ### The contents of the two sides -/
def Flat.part (f : Flat) (i len : Nat) : Flat :=
  match f with
  | .ints k xs => .ints k ((xs.drop i).take len)
  | .r2 xs => .r2 ((xs.drop i).take len)
  | .r3 xs => .r3 ((xs.drop i).take len)
  | .r4 xs => .r4 ((xs.drop i).take len)
  | .bools xs => .bools ((xs.drop i).take len)
  | .strs xs => .strs ((xs.drop i).take len)
  | .gen sz xs => .gen sz ((xs.drop i).take len)
  | .rows M off _ => .rows M (off + i) len
  | .bld t p s => .gen 2 (([[p, s]].drop i).take len)
  | .tby _ xs => .ints .u8 ((xs.drop i).take len)
  | .tops _ => .tops len
  | .rowl M is => .rowl M ((is.drop i).take len)
theorem getD_part {α : Type} (xs : List α) (i len a : Nat) (d : α) (h : a < len) : ((xs.drop i).take len).getD a d = xs.getD (i + a) d := by
  simp [List.getD, List.getElem?_take, h, List.getElem?_drop]
theorem part_ty (f : Flat) (i len : Nat) : (f.part i len).ty = none := by cases f <;> rfl
theorem part_spec {f : Flat} {i len : Nat} (h : i + len ≤ f.n) : (f.part i len).n = len ∧ (f.part i len).sz = f.sz ∧ ∀ a b, a < len → (f.part i len).cell a b = f.cell (i + a) b := by
  cases f <;> simp only [Flat.n] at h
  case tops => exact ⟨rfl, rfl, fun _ _ _ => rfl⟩
  case rows => exact ⟨rfl, rfl, fun a b ha => by simp only [Flat.part, Flat.cell, offs_eq, Nat.add_assoc]⟩
  case bld =>
    refine ⟨by simp [Flat.part, Flat.n]; omega, rfl, fun a b ha => ?_⟩
    simp only [Flat.part, Flat.cell]
    rw [getD_part _ _ _ _ _ ha, show i + a = 0 by omega]
    match b with
    | 0 => rfl
    | 1 => rfl
    | _ + 2 => rfl
  all_goals
    refine ⟨by simp [Flat.part, Flat.n]; omega, rfl, fun a b ha => ?_⟩
    simp only [Flat.part, Flat.cell]
    rw [getD_part _ _ _ _ _ ha]

def Flat.appK (f g : Flat) (K : Flat → Prop) : Prop :=
  match f with
  | .ints k xs => match g with
    | .ints k' ys => bif k == k' then K (.ints k (xs ++ ys)) else False
    | _ => False
  | .r2 xs => match g with
    | .r2 ys => K (.r2 (xs ++ ys))
    | _ => False
  | .r3 xs => match g with
    | .r3 ys => K (.r3 (xs ++ ys))
    | _ => False
  | .r4 xs => match g with
    | .r4 ys => K (.r4 (xs ++ ys))
    | _ => False
  | .bools xs => match g with
    | .bools ys => K (.bools (xs ++ ys))
    | _ => False
  | .strs xs => match g with
    | .strs ys => K (.strs (xs ++ ys))
    | _ => False
  | .gen _ _ => False
  | .rows _ _ n => match g with
    | .tops m => K (.tops (n + m))
    | .rowl M is => match n with
      | 0 => K (.rowl M is)
      | _ + 1 => False
    | _ => False
  | .tops n => bif Nat.beq g.sz 1 then K (.tops (n + g.n)) else False
  | .rowl M is => match g with
    | .rowl M' js => bif Nat.beq M M' then K (.rowl M (is ++ js)) else False
    | _ => False
  | .bld _ _ _ => False
  | .tby t xs => match g with
    | .ints k ys => match k with
      | .u8 => K (.tby t (xs ++ ys))
      | _ => False
    | _ => False
theorem getD_app {α : Type} (xs ys : List α) (a : Nat) (d : α) : (xs ++ ys).getD a d = if a < xs.length then xs.getD a d else ys.getD (a - xs.length) d := by
  simp only [List.getD]
  by_cases h : a < xs.length
  · rw [if_pos h, List.getElem?_append_left h]
  · rw [if_neg h, List.getElem?_append_right (by omega)]
theorem appK_spec {f g : Flat} {K : Flat → Prop} (h : f.appK g K) : ∃ r, K r ∧ r.n = f.n + g.n ∧ r.sz = f.sz ∧ g.sz = f.sz ∧ (∀ (ρ : Rho) (N a b : Nat) (u : Value), VR ρ N (if a < f.n then f.cell a b else g.cell (a - f.n) b) u → VR ρ N (r.cell a b) u) ∧ r.ty = f.ty := by
  unfold Flat.appK at h
  split at h
  case h_7 => exact h.elim
  case h_11 => exact h.elim
  case h_8 M off n =>
    split at h
    · exact ⟨_, h, rfl, rfl, rfl, fun ρ N a b u _ => by simp only [Flat.cell, VR], rfl⟩
    · split at h
      · refine ⟨_, h, by simp [Flat.n], rfl, rfl, fun ρ N a b u hu => ?_, rfl⟩
        simpa [Flat.n] using hu
      · exact h.elim
    · exact h.elim
  case h_9 n =>
    cases hb : Nat.beq g.sz 1 with
    | false => simp [hb] at h
    | true =>
      simp only [hb, cond_true] at h
      exact ⟨_, h, rfl, rfl, Nat.eq_of_beq_eq_true hb, fun ρ N a b u _ => by simp only [Flat.cell, VR], rfl⟩
  case h_10 M is =>
    split at h
    case h_2 => exact h.elim
    rename_i M' js
    cases hb : Nat.beq M M' with
    | false => simp [hb] at h
    | true =>
      simp only [hb, cond_true] at h
      have := Nat.eq_of_beq_eq_true hb
      subst this
      refine ⟨_, h, by simp [Flat.n], rfl, rfl, fun ρ N a b u hu => ?_, rfl⟩
      simp only [Flat.cell, Flat.n, getD_app] at hu ⊢
      split <;> simpa [*] using hu
  all_goals
    split at h <;> try exact h.elim
  case h_1 =>
    rename_i k xs _ k' ys
    cases hb : k == k' with
    | false => simp [hb] at h
    | true =>
      simp only [hb, cond_true] at h
      have : k = k' := by simpa using hb
      subst this
      refine ⟨_, h, by simp [Flat.n], rfl, rfl, fun ρ N a b u hu => ?_, rfl⟩
      simp only [Flat.cell, Flat.n, getD_app] at hu ⊢
      split <;> simpa [*] using hu
  all_goals try (split at h <;> try exact h.elim)
  all_goals
    refine ⟨_, h, by simp [Flat.n], rfl, rfl, fun ρ N a b u hu => ?_, rfl⟩
    simp only [Flat.cell, Flat.n, getD_app] at hu ⊢
    split <;> simpa [*] using hu

end
end Go.Sx

/-
  append as an effect.
-/
namespace Go.Sx
set_option linter.unusedVariables false
set_option linter.unusedSimpArgs false
open Go
open Go.RowKit

section
variable {P : Program} {T : Tbl} {ρ : Rho} {N : Nat} {G : Heap} {w : World}

theorem Out.widen {G Gd : Heap} (h : ∀ i o, hget Gd i = some o → hget G i = some o) {K : AV → Nat → Heap → Prop} {v : Value} {w' : World} (ho : Out ρ N Gd w K v w') : Out ρ N G w K v w' := by
  obtain ⟨av, ρ', N', G', h1, h2, h3, h4, h5, h6, h7⟩ := ho.ex
  refine ⟨⟨av, ρ', N', G', h1, h2, h3, h4, h5, ⟨h6.os, h6.tape, h6.output, h6.size, fun k hk hn => h6.block k hk (fun e => hn (e.sub h)), h6.drawn⟩, fun b hb => ?_⟩⟩
  rcases h7 b hb with h | h'
  · exact .inl h
  · exact .inr (h'.sub h)

theorem append_core (hH : HeapRep ρ N G w) {t t2 ty e : TypeId} {i : TypeInfo} {z : Value} (ht : P.underlying t = some (.slice e)) (hi : P.info? e = some i) (hz : i.zero = some z) (hzs : z.cells.size = i.size) (hby : i.bytes ≤ 64) (hsz : 0 < i.size)
    {A : Option Addr} {xv : Value} {n c m : Nat} {olds news : List Value} (ho : olds.length = n * i.size) (hn : news.length = m * i.size)
    (hA : 0 < n → ∃ b o, A = some ⟨b, o, none⟩ ∧ ∀ (j : Nat) v, olds[j]? = some v → w.cell? ⟨b, o + j, none⟩ = some v)
    (hx : SrcV P w t2 xv m news)
    {f : Flat} (hfn : f.n = n + m) (hfs : f.sz = i.size)
    (hol : ∀ a, a < n → ∀ b, b < i.size → ∃ u, olds[a * i.size + b]? = some u ∧ VR ρ N (f.cell a b) u ∧ u.oneCell' = true)
    (hne : ∀ a, a < m → ∀ b, b < i.size → ∃ u, news[a * i.size + b]? = some u ∧ VR ρ N (f.cell (n + a) b) u ∧ u.oneCell' = true)
    {Gd : Heap} (hsub : ∀ i o, hget Gd i = some o → hget G i = some o)
    (hin : n + m ≤ c → (n + m = 0 ∧ c = 0) ∨ ∃ id f0 o, hget G id = some (.flat true f0) ∧ hget Gd id = none ∧ A = some ⟨(ρ id []).b, o, none⟩ ∧ o + c * i.size ≤ (ρ id []).tot ∧ 0 < (ρ id []).tot ∧ ∀ t', f.ty = some t' → f0.ty = some t' ∧ o = (ρ id []).o)
    (hfe : ∀ t', f.ty = some t' → t' = e) (hlen : n + m ≤ 1099511627776) {K : AV → Nat → Heap → Prop} (hK : K (.sl N []) (N + 1) ((N, .flat true f) :: Gd)) :
    ∃ v w', (Builtin.append_ #[t, t2] ty #[.slice A n c, xv]).run P w = .ok v w' ∧ Out ρ N G w K v w' := by
  have h1 : ∀ u ∈ news, u.oneCell' = true := fun u hu => by
    obtain ⟨k, hk, rfl⟩ := List.getElem_of_mem hu
    have hkm : k / i.size < m := by rw [hn] at hk; exact Nat.div_lt_of_lt_mul (by rw [Nat.mul_comm]; exact hk)
    obtain ⟨u, q1, _, q3⟩ := hne (k / i.size) hkm (k % i.size) (Nat.mod_lt _ hsz)
    rw [Nat.div_add_mod' k i.size, List.getElem?_eq_getElem hk] at q1
    injection q1 with q1
    rw [q1]; exact q3
  have hblk : ∀ {id f0}, hget G id = some (.flat true f0) → 0 < (ρ id []).tot → ∃ c0 t0, w.heap[(ρ id []).b]? = some (.cells c0 t0 (0, 0)) ∧ c0.size = (ρ id []).tot ∧ ∀ t', f0.ty = some t' → t0 = t' ∧ (ρ id []).o = 0 := fun {id f0} h ht => by
    rcases hH.ow id [] f0.node (NodeAt.of_get h rfl) with ⟨h0, _⟩ | ⟨ob, q1, ⟨c0, t0, rfl, q2, q3⟩, _⟩
    · omega
    · exact ⟨c0, t0, q1, q2, q3⟩
  obtain ⟨v', w', hrun, hres⟩ := run_append_gen (w := w) (ty := ty) ht hi hz hzs hby ho hn hA hx h1 hsz (fun hle hm => by
    rcases hin hle with ⟨h0, _⟩ | ⟨id, f0, o, g1, g2, rfl, g3, g4, _⟩
    · omega
    · obtain ⟨c0, t0, q1, q2, _⟩ := hblk g1 g4
      refine ⟨_, o, rfl, fun j hj => ⟨?_, frozen_of_row w _ _ c0 t0 q1⟩⟩
      have hmul : (n + m) * i.size ≤ c * i.size := Nat.mul_le_mul_right _ hle
      rw [Nat.add_mul] at hmul
      rw [cell_of_row w _ _ c0 t0 (0, 0) q1, Array.getElem?_eq_getElem (by omega)]; rfl) hlen
  refine ⟨v', w', hrun, ?_⟩
  have hHd : HeapRep ρ N Gd w := hH.sub hsub
  rcases hres with ⟨hle, rfl, hw⟩ | ⟨hgt, cap, rest, rfl, hcap, hcl, rfl⟩
  · have hρ : ∀ (B : Blk) (id : Nat), id < N → (fun (id : Nat) (p : List Nat) => if id = N then B else ρ id p) id = ρ id := fun B id h => by
      funext p; simp only; rw [if_neg (by omega)]
    have hnone : hget Gd N = none := by
      cases h : hget Gd N with
      | none => rfl
      | some o => exact absurd (hHd.keys N o h) (Nat.lt_irrefl N)
    have hnode : ∀ {p nd}, (AObj.flat true f).node N p = some nd → p = [] ∧ nd = f.node := fun {p nd} hnd => by
      cases p with
      | nil => simp [AObj.node] at hnd; exact ⟨rfl, hnd.symm⟩
      | cons _ _ => simp [AObj.node] at hnd
    have hdlt : ∀ {id p nd own}, NodeAt Gd id p nd own → id ≠ N := fun hx => by
      obtain ⟨o, q1, _⟩ := hx.ex
      have := hHd.keys _ _ q1
      omega
    rcases hin hle with ⟨h0, rfl⟩ | ⟨id, f0, o, g1, g2, rfl, g3, g4, g5⟩
    · have hwe : w' = w := by
        rcases hw with ⟨_, h⟩ | ⟨_, _, hm, _⟩
        · exact h
        · omega
      subst hwe
      have hput := (hHd.mono (Nat.le_succ N) (hρ ⟨0, 0, i.size, 0, 0⟩)).put (o := .flat true f) (Nat.lt_succ_self N) hnone rfl (fun p nd hnd => by
        obtain ⟨rfl, rfl⟩ := hnode hnd
        simp only [if_true, Flat.node, hfn, hfs]
        refine ⟨trivial, h0.symm, hsz, fun a ha => by omega, .inl ⟨trivial, h0, trivial⟩, fun h => absurd h (Nat.lt_irrefl 0)⟩)
      refine ⟨⟨.sl N [], _, N + 1, _, hK, ?_, hput, Nat.le_succ N, hρ _, FrameW.refl _ _, fun b hb => ?_⟩⟩
      · simp only [VR, if_true]
        exact ⟨Nat.lt_succ_self N, A, 0, by rw [h0], .inr ⟨rfl, rfl⟩⟩
      · obtain ⟨i', p, nd, hx, htot, rfl⟩ := hb
        obtain ⟨x, q1, q2, q3⟩ := hx.ex
        rw [hget_cons] at q1
        split at q1
        · next he => subst he; simp only [if_true] at htot; omega
        · next he =>
          simp only [he, if_false] at htot ⊢
          exact .inr ⟨i', p, nd, ⟨⟨x, hsub _ _ q1, q2, q3⟩⟩, htot, rfl⟩
    · obtain ⟨c0, t0, q1, q2, q3⟩ := hblk g1 g4
      have hwe : w' = w.setCells (ρ id []).b (o + n * i.size) news := by
        rcases hw with ⟨h0, h⟩ | ⟨b, o2, _, hA', h⟩
        · have : news = [] := List.eq_nil_of_length_eq_zero (by rw [hn, h0]; simp)
          rw [this, h]; rfl
        · simp only [Option.some.injEq, Addr.mk.injEq, and_true] at hA'
          obtain ⟨rfl, rfl⟩ := hA'
          exact h
      subst hwe
      have hOwn : Owns ρ G (ρ id []).b := ⟨id, [], f0.node, NodeAt.of_get g1 rfl, g4, rfl⟩
      have hfr := setCells_frame (ρ id []).b news (o + n * i.size) w
      obtain ⟨c', r1, r2, r3⟩ := setCells_block (ρ id []).b t0 (0, 0) news (o + n * i.size) w c0 q1
      have hsepd : ∀ i' p nd own, NodeAt Gd i' p nd own → Solid (ρ i' p) nd own → (ρ id []).b ≠ (ρ i' p).b := fun i' p nd own hx hs => by
        obtain ⟨x, x1, x2, x3⟩ := hx.ex
        refine hH.sep id [] f0.node i' p nd own (NodeAt.of_get g1 rfl) ⟨⟨x, hsub _ _ x1, x2, x3⟩⟩ (fun h => ?_) g4 hs
        rw [← h.1, g2] at x1
        cases x1
      have hHd' : HeapRep ρ N Gd (w.setCells (ρ id []).b (o + n * i.size) news) := hHd.frame hfr fun i' p nd own hx hs h => hsepd i' p nd own hx hs h.symm
      have hmulc : (n + m) * i.size ≤ c * i.size := Nat.mul_le_mul_right _ hle
      rw [Nat.add_mul] at hmulc
      have hput := (hHd'.mono (Nat.le_succ N) (hρ ⟨(ρ id []).b, o, i.size, n + m, (ρ id []).tot⟩)).put (o := .flat true f) (Nat.lt_succ_self N) hnone rfl (fun p nd hnd => by
        obtain ⟨rfl, rfl⟩ := hnode hnd
        simp only [if_true, Flat.node, hfn, hfs]
        refine ⟨trivial, trivial, hsz, fun a ha b hb => ?_, .inr ⟨_, r1, ⟨c', t0, rfl, r2.trans q2, fun t' ht' => ⟨(q3 t' (g5 t' ht').1).1, (g5 t' ht').2.trans (q3 t' (g5 t' ht').1).2⟩⟩, g4⟩, fun _ => ⟨fun p' nd' hnd' hne => ?_, fun i' p' nd' own' hx hs => ?_⟩⟩
        · rw [cell_of_row _ _ _ c' t0 (0, 0) r1, r3]
          by_cases han : a < n
          · have hmul : (a + 1) * i.size ≤ n * i.size := Nat.mul_le_mul_right _ han
            rw [Nat.add_mul] at hmul
            rw [if_neg (by omega)]
            obtain ⟨u, s1, s2, s3⟩ := hol a han b hb
            obtain ⟨b1, o1, hA', hc⟩ := hA (by omega)
            simp only [Option.some.injEq, Addr.mk.injEq, and_true] at hA'
            obtain ⟨rfl, rfl⟩ := hA'
            have := hc _ _ s1
            rw [cell_of_row w _ _ c0 t0 (0, 0) q1] at this
            exact ⟨u, this, s2.mono (Nat.le_succ N) (hρ _), s3⟩
          · have hmul : (a + 1) * i.size ≤ (n + m) * i.size := Nat.mul_le_mul_right _ ha
            rw [Nat.add_mul, Nat.add_mul] at hmul
            obtain ⟨u, s1, s2, s3⟩ := hne (a - n) (by omega) b hb
            have hsplit : a * i.size = n * i.size + (a - n) * i.size := by rw [← Nat.add_mul]; congr 1; omega
            rw [if_pos ⟨by omega, by omega, by omega⟩]
            refine ⟨u, ?_, ?_, s3⟩
            · rw [← s1]; congr 1; omega
            · rw [show n + (a - n) = a by omega] at s2
              exact s2.mono (Nat.le_succ N) (hρ _)
        · cases p' with
          | nil => exact absurd rfl hne
          | cons _ _ => simp [AObj.node] at hnd'
        · have hne := hdlt hx
          simp only [hne, if_false] at hs ⊢
          exact hsepd i' p' nd' own' hx hs)
      refine ⟨⟨.sl N [], _, N + 1, _, hK, ?_, hput, Nat.le_succ N, hρ _, ⟨hfr.os, hfr.tape, hfr.output, hfr.size, fun k hk hnn => hfr.block k hk (fun e => hnn (e ▸ hOwn)), hfr.drawn⟩, fun b hb => ?_⟩⟩
      · simp only [VR, if_true]
        exact ⟨Nat.lt_succ_self N, _, c, rfl, .inl ⟨by simp, hle, by simpa using g3⟩⟩
      · obtain ⟨i', p, nd, hx, htot, rfl⟩ := hb
        obtain ⟨x, x1, x2, x3⟩ := hx.ex
        rw [hget_cons] at x1
        split at x1
        · next he => subst he; simp only [if_true]; exact .inr hOwn
        · next he =>
          simp only [he, if_false] at htot ⊢
          exact .inr ⟨i', p, nd, ⟨⟨x, hsub _ _ x1, x2, x3⟩⟩, htot, rfl⟩
  · refine Out.widen hsub ?_
    have hfr : FrameW (fun _ => False) w (w.drew.alloc (.cells (olds ++ news ++ rest).toArray e)) := (frame_drew w).trans (frame_alloc _ _) (fun _ _ h => h)
    refine out_new (f := f) (t := e) (cs := olds ++ news ++ rest) hHd hK (by rw [hfs]; exact hsz) (by rw [hcl, hfn, hfs]; exact Nat.mul_le_mul_right _ hcap) ?_ hfr (fun t' ht' => (hfe t' ht').symm) (heap_alloc_new w.drew _) ?_
    · intro a ha b hb
      rw [hfn] at ha
      rw [hfs] at hb ⊢
      by_cases han : a < n
      · have hmul : (a + 1) * i.size ≤ n * i.size := Nat.mul_le_mul_right _ han
        rw [Nat.add_mul] at hmul
        obtain ⟨u, s1, s2, s3⟩ := hol a han b hb
        refine ⟨u, ?_, s2, s3⟩
        rw [List.append_assoc, List.getElem?_append_left (by omega), s1]
      · have hmul : (a + 1) * i.size ≤ (n + m) * i.size := Nat.mul_le_mul_right _ ha
        rw [Nat.add_mul, Nat.add_mul] at hmul
        have hsplit : a * i.size = n * i.size + (a - n) * i.size := by rw [← Nat.add_mul]; congr 1; omega
        obtain ⟨u, s1, s2, s3⟩ := hne (a - n) (by omega) b hb
        refine ⟨u, ?_, by rw [show n + (a - n) = a by omega] at s2; exact s2, s3⟩
        rw [List.append_assoc, List.getElem?_append_right (by omega), List.getElem?_append_left (by omega), ← s1]
        congr 1; omega
    · simp only [VR, if_true]
      refine ⟨Nat.lt_succ_self N, _, cap, by rw [hfn], .inl ⟨by simp, by rw [hfn]; exact hcap, ?_⟩⟩
      rw [hcl, hfs]; simp

def hdelK : Heap → Nat → (Heap → Prop) → Prop
  | [], _, K => K []
  | (k, o) :: r, id, K => bif Nat.beq k id then hdelK r id K else hdelK r id fun r' => K ((k, o) :: r')
theorem hdelK_eq : ∀ (G : Heap) (id : Nat) (K : Heap → Prop), hdelK G id K → K (hdel G id)
  | [], _, _, h => h
  | (k, o) :: r, id, K, h => by
    simp only [hdelK, hdel] at h ⊢
    cases hb : Nat.beq k id with
    | true => simp only [hb, cond_true] at h ⊢; exact hdelK_eq r id K h
    | false => simp only [hb, cond_false] at h ⊢; exact hdelK_eq r id _ h

def srcK (G : Heap) (v : AV) (K : Cnd → Option Flat → Prop) : Prop :=
  match v with
  | .nilsl => K none none
  | .sl id p => match hget G id with
    | some o => nodeV o id p fun C V => match V with
      | .fl f => K C (some f)
    | none => False
  | .sub id p i len _ => match hget G id with
    | some o => nodeV o id p fun C V => match V with
      | .fl f => K (cAnd C (some (i + len ≤ f.n))) (some (f.part i len))
    | none => False
  | _ => False

/-- A source: its cells. -/
structure SrcOK (ρ : Rho) (N : Nat) (w : World) (cv : Value) (g : Option Flat) (sz : Nat) : Prop where
  ex : ∃ (A : Option Addr) (m c : Nat) (news : List Value), cv = .slice A m c ∧ news.length = m * sz ∧ (0 < m → ∃ b o, A = some ⟨b, o, none⟩ ∧ ∀ (j : Nat) v, news[j]? = some v → w.cell? ⟨b, o + j, none⟩ = some v) ∧
    match g with
    | none => m = 0 ∧ A = none ∧ c = 0
    | some f => m = f.n ∧ (f.sz = sz → ∀ a, a < m → ∀ b, b < sz → ∃ u, news[a * sz + b]? = some u ∧ VR ρ N (f.cell a b) u ∧ u.oneCell' = true)

/-- n elements of a node from the i-th on, as cells. -/
theorem node_cells (hH : HeapRep ρ N G w) {id : Nat} {p : List Nat} {nd : Node} {own : Bool} (hn : NodeAt G id p nd own) {i len : Nat} (hi : i + len ≤ nd.n) :
    ∃ news : List Value, news.length = len * nd.sz ∧ (∀ (j : Nat) v, news[j]? = some v → w.cell? ⟨(ρ id p).b, (ρ id p).o + i * nd.sz + j, none⟩ = some v) ∧
      ∀ a, a < len → ∀ b, b < nd.sz → ∃ u, news[a * nd.sz + b]? = some u ∧ VR ρ N (nd.cell (i + a) b) u ∧ u.oneCell' = true := by
  have hsz := (hH.shape id p nd own hn).2.2
  have hall : ∀ d, ∃ v, d < len * nd.sz → w.cell? ⟨(ρ id p).b, (ρ id p).o + i * nd.sz + d, none⟩ = some v ∧ VR ρ N (nd.cell (i + d / nd.sz) (d % nd.sz)) v ∧ v.oneCell' = true := fun d => by
    by_cases hd : d < len * nd.sz
    · have h1 : d / nd.sz < len := Nat.div_lt_of_lt_mul (by rw [Nat.mul_comm]; exact hd)
      obtain ⟨v, q1, q2⟩ := hH.rd id p nd own hn (i + d / nd.sz) (by omega) (d % nd.sz) (Nat.mod_lt _ hsz)
      refine ⟨v, fun _ => ⟨?_, q2⟩⟩
      rw [← q1]
      congr 2
      rw [Nat.add_mul, Nat.add_assoc (i * nd.sz), Nat.div_add_mod' d nd.sz]
      omega
    · exact ⟨undef, fun h => absurd h hd⟩
  obtain ⟨g, hg⟩ := Classical.axiomOfChoice hall
  refine ⟨(List.range (len * nd.sz)).map g, by simp, fun j v hj => ?_, fun a ha b hb => ?_⟩
  · have hlt : j < len * nd.sz := by
      have := (List.getElem?_eq_some_iff.1 hj).1
      simpa using this
    rw [(hg j hlt).1]
    simpa [hlt] using hj
  · have hmul : (a + 1) * nd.sz ≤ len * nd.sz := Nat.mul_le_mul_right _ ha
    rw [Nat.add_mul] at hmul
    have hlt : a * nd.sz + b < len * nd.sz := by omega
    obtain ⟨_, q2, q3⟩ := hg _ hlt
    refine ⟨g (a * nd.sz + b), by simp [hlt], ?_, q3⟩
    have hd : (a * nd.sz + b) / nd.sz = a := by rw [Nat.mul_comm a, Nat.mul_add_div hsz, Nat.div_eq_of_lt hb, Nat.add_zero]
    have hm : (a * nd.sz + b) % nd.sz = b := by rw [Nat.mul_comm a, Nat.mul_add_mod, Nat.mod_eq_of_lt hb]
    rw [hd, hm] at q2
    exact q2

theorem SlRel.addr {B : Blk} {i len c : Nat} {A : Option Addr} (h : SlRel B i len c A) (hl : 0 < len) : A = some ⟨B.b, B.o + i * B.sz, none⟩ := by
  rcases h with h | h
  · exact h.1
  · omega

theorem srcK_spec (hH : HeapRep ρ N G w) {v : AV} {K : Cnd → Option Flat → Prop} (h : srcK G v K) {cv : Value} (hv : VR ρ N v cv) : ∃ C g, K C g ∧ (C.holds → ∀ sz, (∀ f, g = some f → f.sz = sz) → SrcOK ρ N w cv g sz) := by
  unfold srcK at h
  split at h
  · simp only [VR] at hv
    exact ⟨_, _, h, fun _ sz _ => ⟨⟨none, 0, 0, [], hv, by simp, by simp, rfl, rfl, rfl⟩⟩⟩
  · rename_i id p
    simp only [VR] at hv
    obtain ⟨_, A, c, rfl, hsl⟩ := hv
    split at h
    case h_2 => exact h.elim
    rename_i o ho
    obtain ⟨C, V, h, hn⟩ := nodeV_spec h
    obtain ⟨f⟩ := V
    simp only at h
    refine ⟨_, _, h, fun hc sz hsz => ?_⟩
    obtain rfl := hsz f rfl
    have hnode := NodeAt.of_get ho (hn hc)
    simp only [NV.node] at hnode
    obtain ⟨s1, s2, s3⟩ := hH.shape id p _ _ hnode
    simp only [Flat.node] at s1 s2 s3
    obtain ⟨news, n1, n2, n3⟩ := node_cells hH hnode (i := 0) (len := f.n) (by simp [Flat.node])
    simp only [Flat.node, Nat.zero_mul, Nat.add_zero, Nat.zero_add] at n1 n2 n3
    refine ⟨⟨A, _, c, news, rfl, by rw [s2]; exact n1, fun hm => ?_, s2, fun _ => by rw [s2]; exact n3⟩⟩
    have := hsl.addr hm
    exact ⟨_, _, by simpa using this, n2⟩
  · rename_i id p i len cap
    simp only [VR] at hv
    obtain ⟨_, A, c, rfl, hsl, _⟩ := hv
    split at h
    case h_2 => exact h.elim
    rename_i o ho
    obtain ⟨C, V, h, hn⟩ := nodeV_spec h
    obtain ⟨f⟩ := V
    simp only at h
    refine ⟨_, _, h, fun hcc sz hsz => ?_⟩
    obtain ⟨hc, hc2⟩ := cAnd_holds hcc
    simp only [Cnd.holds] at hc2
    obtain ⟨p1, p2, p3⟩ := part_spec hc2
    obtain rfl := hsz _ rfl
    have hnode := NodeAt.of_get ho (hn hc)
    simp only [NV.node] at hnode
    obtain ⟨s1, s2, s3⟩ := hH.shape id p _ _ hnode
    simp only [Flat.node] at s1 s2 s3
    obtain ⟨news, n1, n2, n3⟩ := node_cells hH hnode (i := i) (len := len) (by simpa [Flat.node] using hc2)
    simp only [Flat.node] at n1 n2 n3
    rw [p2]
    refine ⟨⟨A, _, c, news, rfl, n1, fun hm => ?_, p1.symm, fun _ a ha b hb => ?_⟩⟩
    · have := hsl.addr hm
      rw [s1] at this
      exact ⟨_, _, this, n2⟩
    · obtain ⟨u, q1, q2, q3⟩ := n3 a ha b hb
      exact ⟨u, q1, by rw [p3 a b ha]; exact q2, q3⟩
  · exact h.elim

end
end Go.Sx

/-
  append, whole; all effects in one.
-/
namespace Go.Sx
set_option linter.unusedVariables false
set_option linter.unusedSimpArgs false
open Go
open Go.RowKit

section
variable {P : Program} {T : Tbl} {ρ : Rho} {N : Nat} {G : Heap} {w : World}

def dstK (G : Heap) (v : AV) (K : Cnd → Option Flat → Heap → Option (Nat × Nat) → Prop) : Prop :=
  match v with
  | .nilsl => K none none G none
  | .sl id p => match p with
    | [] => match hget G id with
      | some o => match o with
        | .flat own f => match own with
          | true => hdelK G id fun Gd => K none (some f) Gd none
          | false => False
        | _ => False
      | none => False
    | _ :: _ => False
  | .sub id p i len cap => match cap with
    | some c => match hget G id with
      | some o => nodeV o id p fun C V => match V with
        | .fl f => K (cAnd C (some (i + len ≤ f.n))) (some (f.part i len)) G (some (len, c))
      | none => False
    | none => match p with
      | [] => match hget G id with
        | some o => match o with
          | .flat own f => match own with
            | true => hdelK G id fun Gd => K (some (i + len ≤ f.n)) (some (f.part i len)) Gd none
            | false => False
          | _ => False
        | none => False
      | _ :: _ => False
  | _ => False

structure DstOK (ρ : Rho) (N : Nat) (G Gd : Heap) (w : World) (cv : Value) (f : Option Flat) (fix : Option (Nat × Nat)) (sz : Nat) : Prop where
  sub : ∀ i o, hget Gd i = some o → hget G i = some o
  ex : ∃ (A : Option Addr) (n c : Nat) (olds : List Value), cv = .slice A n c ∧ olds.length = n * sz ∧ (0 < n → ∃ b o, A = some ⟨b, o, none⟩ ∧ ∀ (j : Nat) v, olds[j]? = some v → w.cell? ⟨b, o + j, none⟩ = some v) ∧
    (match f with
    | none => n = 0 ∧ c = 0 ∧ A = none
    | some f => n = f.n ∧ (f.sz = sz → ∀ a, a < n → ∀ b, b < sz → ∃ u, olds[a * sz + b]? = some u ∧ VR ρ N (f.cell a b) u ∧ u.oneCell' = true)) ∧
    (match fix with
    | some (len, c') => n = len ∧ c = c'
    | none => (n = 0 ∧ c = 0) ∨ ∃ id f0 o, hget G id = some (.flat true f0) ∧ hget Gd id = none ∧ A = some ⟨(ρ id []).b, o, none⟩ ∧ o + c * sz ≤ (ρ id []).tot ∧ (0 < c * sz → 0 < (ρ id []).tot) ∧ n ≤ c ∧ ∀ fl, f = some fl → ∀ t', fl.ty = some t' → f0.ty = some t' ∧ o = (ρ id []).o)

theorem dstK_spec (hH : HeapRep ρ N G w) {v : AV} {K : Cnd → Option Flat → Heap → Option (Nat × Nat) → Prop} (h : dstK G v K) {cv : Value} (hv : VR ρ N v cv) :
    ∃ C f Gd fix, K C f Gd fix ∧ (C.holds → ∀ sz, (∀ f', f = some f' → f'.sz = sz) → DstOK ρ N G Gd w cv f fix sz) := by
  have hdsub : ∀ id, (∀ i o, hget (hdel G id) i = some o → hget G i = some o) := fun id i o h => by
    rw [hget_hdel] at h
    split at h
    · cases h
    · exact h
  have hdnone : ∀ id, hget (hdel G id) id = none := fun id => by rw [hget_hdel]; simp
  unfold dstK at h
  split at h
  · simp only [VR] at hv
    exact ⟨_, _, _, _, h, fun _ sz _ => ⟨fun _ _ h => h, none, 0, 0, [], hv, by simp, by simp, ⟨rfl, rfl, rfl⟩, .inl ⟨rfl, rfl⟩⟩⟩
  · rename_i id p
    simp only [VR] at hv
    obtain ⟨_, A, c, rfl, hsl⟩ := hv
    split at h
    case h_2 => exact h.elim
    split at h
    case h_2 => exact h.elim
    rename_i o ho
    split at h
    case h_2 => exact h.elim
    rename_i own f
    split at h
    case h_2 => exact h.elim
    refine ⟨_, _, _, _, hdelK_eq _ _ _ h, fun hc sz hsz => ?_⟩
    obtain rfl := hsz f rfl
    have hnode : NodeAt G id [] f.node true := NodeAt.of_get ho rfl
    obtain ⟨s1, s2, s3⟩ := hH.shape id [] _ _ hnode
    simp only [Flat.node] at s1 s2 s3
    obtain ⟨news, n1, n2, n3⟩ := node_cells hH hnode (i := 0) (len := f.n) (by simp [Flat.node])
    simp only [Flat.node, Nat.zero_mul, Nat.add_zero, Nat.zero_add] at n1 n2 n3
    refine ⟨hdsub id, A, _, c, news, rfl, by rw [s2]; exact n1, fun hm => ?_, ⟨s2, fun _ => by rw [s2]; exact n3⟩, ?_⟩
    · have := hsl.addr hm
      exact ⟨_, _, by simpa using this, n2⟩
    · rcases hsl with ⟨rfl, h1, h2⟩ | h1
      · simp only [Nat.zero_mul, Nat.add_zero, Nat.zero_add, s1] at h2 ⊢
        exact .inr ⟨id, f, _, ho, hdnone id, rfl, h2, fun h => by omega, h1, fun fl hfl t' ht => by injection hfl with hfl; subst hfl; exact ⟨ht, rfl⟩⟩
      · exact .inl h1
  · rename_i id p i len cap
    simp only [VR] at hv
    obtain ⟨_, A, c, rfl, hsl, hcap⟩ := hv
    split at h
    · rename_i c'
      obtain rfl := hcap c' rfl
      split at h
      case h_2 => exact h.elim
      rename_i o ho
      obtain ⟨C, V, h, hn⟩ := nodeV_spec h
      obtain ⟨f⟩ := V
      simp only at h
      refine ⟨_, _, _, _, h, fun hcc sz hsz => ?_⟩
      obtain ⟨hc, hc2⟩ := cAnd_holds hcc
      simp only [Cnd.holds] at hc2
      obtain ⟨p1, p2, p3⟩ := part_spec hc2
      obtain rfl := hsz _ rfl
      have hnode := NodeAt.of_get ho (hn hc)
      simp only [NV.node] at hnode
      obtain ⟨s1, s2, s3⟩ := hH.shape id p _ _ hnode
      simp only [Flat.node] at s1 s2 s3
      obtain ⟨news, n1, n2, n3⟩ := node_cells hH hnode (i := i) (len := len) (by simpa [Flat.node] using hc2)
      simp only [Flat.node] at n1 n2 n3
      rw [p2]
      refine ⟨fun _ _ h => h, A, _, c, news, rfl, n1, fun hm => ?_, ⟨p1.symm, fun _ a ha b hb => ?_⟩, rfl, rfl⟩
      · have := hsl.addr hm
        rw [s1] at this
        exact ⟨_, _, this, n2⟩
      · obtain ⟨u, q1, q2, q3⟩ := n3 a ha b hb
        exact ⟨u, q1, by rw [p3 a b ha]; exact q2, q3⟩
    · split at h
      case h_2 => exact h.elim
      split at h
      case h_2 => exact h.elim
      rename_i o ho
      split at h
      case h_2 => exact h.elim
      rename_i own f
      split at h
      case h_2 => exact h.elim
      refine ⟨_, _, _, _, hdelK_eq _ _ _ h, fun hc2 sz hsz => ?_⟩
      simp only [Cnd.holds] at hc2
      obtain ⟨p1, p2, p3⟩ := part_spec hc2
      obtain rfl := hsz _ rfl
      have hnode : NodeAt G id [] f.node true := NodeAt.of_get ho rfl
      obtain ⟨s1, s2, s3⟩ := hH.shape id [] _ _ hnode
      simp only [Flat.node] at s1 s2 s3
      obtain ⟨news, n1, n2, n3⟩ := node_cells hH hnode (i := i) (len := len) (by simpa [Flat.node] using hc2)
      simp only [Flat.node] at n1 n2 n3
      rw [p2]
      refine ⟨hdsub id, A, _, c, news, rfl, n1, fun hm => ?_, ⟨p1.symm, fun _ a ha b hb => ?_⟩, ?_⟩
      · have := hsl.addr hm
        rw [s1] at this
        exact ⟨_, _, this, n2⟩
      · obtain ⟨u, q1, q2, q3⟩ := n3 a ha b hb
        exact ⟨u, q1, by rw [p3 a b ha]; exact q2, q3⟩
      · rcases hsl with ⟨rfl, h1, h2⟩ | h1
        · rw [s1, Nat.add_mul, ← Nat.add_assoc] at h2
          rw [s1]
          exact .inr ⟨id, f, _, ho, hdnone id, rfl, h2, fun h => by omega, h1, fun fl hfl t' ht => by injection hfl with hfl; subst hfl; rw [part_ty] at ht; cases ht⟩
        · exact .inl h1
  · exact h.elim

def appFlat (f g : Option Flat) (K : Option Flat → Prop) : Prop :=
  match f with
  | none => match g with
    | none => K none
    | some g => K (some g)
  | some f => match g with
    | none => K (some f)
    | some g => f.appK g fun r => K (some r)
def fixC (fix : Option (Nat × Nat)) (g : Option Flat) : Cnd :=
  match fix with
  | none => none
  | some (len, c) => match g with
    | none => some (len ≤ c → len = 0 ∧ c = 0)
    | some g => some (len + g.n ≤ c → len + g.n = 0 ∧ c = 0)
def TD.sl : TD → Bool
  | .slice _ _ _ _ => true
  | _ => false
/-- An object with a known type of its block: the element's. -/
def tyB (r : Flat) (f : Option Flat) (e : Nat) : Bool :=
  match r.ty with
  | none => true
  | some t => match f with
    | none => false
    | some _ => Nat.beq t e
def eAppend (T : Tbl) (t t2 : Nat) (s x : AV) (N : Nat) (G : Heap) (K : AV → Nat → Heap → Prop) : Prop :=
  match tget T t with
  | some ti => match ti.d with
    | .slice e esz _ _ => match tget T t2 with
      | some ti2 => match ti2.d.sl with
        | true => srcK G x fun C2 g => dstK G s fun C1 f Gd fix => appFlat f g fun r => match r with
          | none => need C1 (need C2 (K .nilsl N G))
          | some r => bif Nat.beq r.sz esz && tyB r f e then need C1 (need C2 (need (fixC fix g) (need (some (r.n ≤ 1099511627776)) (K (.sl N []) (N + 1) ((N, .flat true r) :: Gd))))) else False
        | false => False
      | none => False
    | _ => False
  | none => False

theorem tyB_none {r : Flat} {e : Nat} (h : tyB r none e = true) : r.ty = none := by
  unfold tyB at h
  split at h
  · assumption
  · cases h
theorem tyB_some {r f : Flat} {e : Nat} (h : tyB r (some f) e = true) : ∀ t', r.ty = some t' → t' = e := by
  intro t' ht
  unfold tyB at h
  rw [ht] at h
  exact Nat.eq_of_beq_eq_true h
theorem eAppend_sound (hT : TblOK P T) (hH : HeapRep ρ N G w) {t t2 ty : Nat} {s x : AV} {K : AV → Nat → Heap → Prop} (h : eAppend T t t2 s x N G K) {sv xv : Value} (hs : VR ρ N s sv) (hx : VR ρ N x xv) :
    ∃ v w', (Builtin.append_ #[t, t2] ty #[sv, xv]).run P w = .ok v w' ∧ Out ρ N G w K v w' := by
  unfold eAppend at h
  split at h
  case h_2 => exact h.elim
  rename_i ti ht
  split at h
  case h_2 => exact h.elim
  rename_i e esz eb k hd1
  split at h
  case h_2 => exact h.elim
  rename_i ti2 ht2
  split at h
  case h_2 => exact h.elim
  rename_i hsl2
  have hd0 := (hT _ _ ht).desc
  rw [hd1] at hd0
  obtain ⟨hd, i, z, hi, hsz, hby, hpos, heb, hz, hzs, hzk, hz1⟩ : DescOK P t (.slice e esz eb k) := hd0
  have hd2 : ∃ e2, P.underlying t2 = some (.slice e2) := by
    have := (hT _ _ ht2).desc
    cases hdd : ti2.d <;> rw [hdd] at this hsl2 <;> simp only [TD.sl, Bool.false_eq_true] at hsl2
    exact ⟨_, this.1⟩
  obtain ⟨e2, hd2⟩ := hd2
  obtain ⟨C2, g, h, hg⟩ := srcK_spec hH h hx
  obtain ⟨C1, f, Gd, fix, h, hf⟩ := dstK_spec hH h hs
  cases f with
  | none =>
    cases g with
    | none =>
      simp only [appFlat] at h
      obtain ⟨c1, h⟩ := need_spec h
      obtain ⟨c2, hK⟩ := need_spec h
      obtain ⟨A2, m, cc2, news, rfl, n1, n2, n3, n4, n5⟩ := (hg c2 esz (by simp)).ex
      obtain ⟨A, n, c, olds, rfl, o1, o2, ⟨o3, o3', o3''⟩, o4⟩ := (hf c1 esz (by simp)).ex
      subst n3 o3 o3' o3'' n4 n5
      refine ⟨.slice none 0 0, w, ?_, ⟨⟨.nilsl, ρ, N, G, hK, by simp only [VR], hH, Nat.le_refl _, fun _ _ => rfl, FrameW.refl _ _, fun _ h => .inr h⟩⟩⟩
      simp [Builtin.append_, run_underlying hd, run_underlying hd2, sizeOf, typeInfo, hi, Builtin.lenOf, Builtin.firstCells]
    | some g =>
      simp only [appFlat] at h
      cases hb : (Nat.beq g.sz esz && tyB g none e) with
      | false => simp [hb] at h
      | true =>
        simp only [hb, cond_true] at h
        simp only [Bool.and_eq_true] at hb
        have hgs := Nat.eq_of_beq_eq_true hb.1
        have hty := tyB_none hb.2
        obtain ⟨c1, h⟩ := need_spec h
        obtain ⟨c2, h⟩ := need_spec h
        obtain ⟨c3, h⟩ := need_spec h
        obtain ⟨c4, hK⟩ := need_spec h
        obtain ⟨A2, m, cc2, news, rfl, n1, n2, n3, n4⟩ := (hg c2 esz (by simpa using hgs)).ex
        obtain ⟨A, n, c, olds, rfl, o1, o2, ⟨o3, o3', o3''⟩, o4⟩ := (hf c1 esz (by simp)).ex
        subst n3 o3 o3' o3''
        simp only [Cnd.holds] at c4
        refine append_core hH hd hi hz (by rw [hzs, hsz]) (by omega) (by omega) (by rw [hsz]; exact o1) (by rw [hsz]; exact n1) o2 (.inl ⟨_, _, _, rfl, hd2, n2⟩) (f := g) (by simp) (by rw [hgs, hsz]) (fun a ha => absurd ha (Nat.not_lt_zero a)) (fun a ha b hb => ?_) (hf c1 esz (by simp)).sub (fun hle => .inl ⟨by omega, rfl⟩) (fun t' ht' => nomatch hty.symm.trans ht') (by simpa using c4) hK
        rw [hsz] at hb ⊢
        simpa using n4 hgs a ha b hb
  | some f =>
    cases g with
    | none =>
      simp only [appFlat] at h
      cases hb : (Nat.beq f.sz esz && tyB f (some f) e) with
      | false => simp [hb] at h
      | true =>
        simp only [hb, cond_true] at h
        simp only [Bool.and_eq_true] at hb
        have hfs := Nat.eq_of_beq_eq_true hb.1
        have hty := tyB_some hb.2
        obtain ⟨c1, h⟩ := need_spec h
        obtain ⟨c2, h⟩ := need_spec h
        obtain ⟨c3, h⟩ := need_spec h
        obtain ⟨c4, hK⟩ := need_spec h
        obtain ⟨A2, m, cc2, news, rfl, n1, n2, n3, n4, n5⟩ := (hg c2 esz (by simp)).ex
        obtain ⟨A, n, c, olds, rfl, o1, o2, ⟨o3, o3'⟩, o4⟩ := (hf c1 esz (by simpa using hfs)).ex
        subst n3 o3
        simp only [Cnd.holds] at c4
        refine append_core hH hd hi hz (by rw [hzs, hsz]) (by omega) (by omega) (by rw [hsz]; exact o1) (by rw [hsz]; exact n1) o2 (.inl ⟨_, _, _, rfl, hd2, n2⟩) (f := f) (by simp) (by rw [hfs, hsz]) (fun a ha b hb => ?_) (fun a ha => absurd ha (Nat.not_lt_zero a)) (hf c1 esz (by simpa using hfs)).sub (fun hle => ?_) hty (by simpa using c4) hK
        · rw [hsz] at hb ⊢
          exact o3' hfs a ha b hb
        · cases fix with
          | some fx =>
            obtain ⟨q1, q2⟩ := o4
            simp only [fixC, Cnd.holds] at c3
            left
            have := c3 (by rw [← q1, ← q2]; omega)
            exact ⟨by omega, by omega⟩
          | none =>
            rcases o4 with q | ⟨id, f0, o, q1, q2, q3, q4, q5, q6, q7⟩
            · exact .inl ⟨by omega, q.2⟩
            · by_cases hc0 : c = 0
              · exact .inl ⟨by omega, hc0⟩
              · exact .inr ⟨id, f0, o, q1, q2, q3, by rw [hsz]; exact q4, q5 (Nat.mul_pos (by omega) hpos), fun t' ht' => q7 _ rfl t' ht'⟩
    | some g =>
      simp only [appFlat] at h
      obtain ⟨r, h, r1, r2, r3, r4, r5⟩ := appK_spec h
      cases hb : (Nat.beq r.sz esz && tyB r (some f) e) with
      | false => simp [hb] at h
      | true =>
        simp only [hb, cond_true] at h
        simp only [Bool.and_eq_true] at hb
        have hrs := Nat.eq_of_beq_eq_true hb.1
        have hty := tyB_some hb.2
        have hfs : f.sz = esz := by rw [← r2]; exact hrs
        have hgs : g.sz = esz := by rw [r3]; exact hfs
        obtain ⟨c1, h⟩ := need_spec h
        obtain ⟨c2, h⟩ := need_spec h
        obtain ⟨c3, h⟩ := need_spec h
        obtain ⟨c4, hK⟩ := need_spec h
        obtain ⟨A2, m, cc2, news, rfl, n1, n2, n3, n4⟩ := (hg c2 esz (by simpa using hgs)).ex
        obtain ⟨A, n, c, olds, rfl, o1, o2, ⟨o3, o3'⟩, o4⟩ := (hf c1 esz (by simpa using hfs)).ex
        subst n3 o3
        simp only [Cnd.holds] at c4
        refine append_core hH hd hi hz (by rw [hzs, hsz]) (by omega) (by omega) (by rw [hsz]; exact o1) (by rw [hsz]; exact n1) o2 (.inl ⟨_, _, _, rfl, hd2, n2⟩) (f := r) r1 (by rw [hrs, hsz]) (fun a ha b hb => ?_) (fun a ha b hb => ?_) (hf c1 esz (by simpa using hfs)).sub (fun hle => ?_) hty (by rw [← r1]; exact c4) hK
        · rw [hsz] at hb ⊢
          obtain ⟨u, p1, p2, p3⟩ := o3' hfs a ha b hb
          exact ⟨u, p1, r4 _ _ a b u (by rw [if_pos ha]; exact p2), p3⟩
        · rw [hsz] at hb ⊢
          obtain ⟨u, p1, p2, p3⟩ := n4 hgs a ha b hb
          exact ⟨u, p1, r4 _ _ (f.n + a) b u (by rw [if_neg (by omega), show f.n + a - f.n = a by omega]; exact p2), p3⟩
        · cases fix with
          | some fx =>
            obtain ⟨q1, q2⟩ := o4
            simp only [fixC, Cnd.holds] at c3
            left
            have := c3 (by rw [← q1, ← q2]; omega)
            exact ⟨by omega, by omega⟩
          | none =>
            rcases o4 with q | ⟨id, f0, o, q1, q2, q3, q4, q5, q6, q7⟩
            · exact .inl ⟨by omega, q.2⟩
            · by_cases hc0 : c = 0
              · exact .inl ⟨by omega, hc0⟩
              · exact .inr ⟨id, f0, o, q1, q2, q3, by rw [hsz]; exact q4, q5 (Nat.mul_pos (by omega) hpos), fun t' ht' => q7 _ rfl t' (r5 ▸ ht')⟩

/-- A string's bytes as numbers. -/
def numsOf (s : ByteArray) : List Int := s.data.toList.map fun b => (b.toNat : Int)
theorem numsOf_length (s : ByteArray) : (numsOf s).length = s.size := by
  rw [numsOf, List.length_map, Array.length_toList]; rfl
/-- 'append' of a string to bytes. -/
def eAppendS (T : Tbl) (t t2 : Nat) (s : AV) (b : ByteArray) (N : Nat) (G : Heap) (K : AV → Nat → Heap → Prop) : Prop :=
  match tget T t with
  | some ti => match ti.d with
    | .slice e esz _ _ => match tget T t2 with
      | some ti2 => match ti2.d with
        | .str => dstK G s fun C1 f Gd fix => match f with
          | none => bif Nat.beq 1 esz then need C1 (need (some (b.size ≤ 1099511627776)) (K (.sl N []) (N + 1) ((N, .flat true (.tby e (numsOf b))) :: Gd))) else False
          | some f => f.appK (.ints .u8 (numsOf b)) fun r => bif Nat.beq r.sz esz && tyB r (some f) e then need C1 (need (fixC fix (some (.ints .u8 (numsOf b)))) (need (some (r.n ≤ 1099511627776)) (K (.sl N []) (N + 1) ((N, .flat true r) :: Gd)))) else False
        | _ => False
      | none => False
    | _ => False
  | none => False
theorem strCells_at (b : ByteArray) (a : Nat) (h : a < b.size) : (Lib.strCells b)[a]? = some (.int .u8 ((numsOf b).getD a 0)) := by
  have h' : a < b.data.size := h
  have e : b.data[a]? = some b.data[a] := Array.getElem?_eq_getElem h'
  simp [Lib.strCells, numsOf, List.getD, e]
theorem eAppendS_sound (hT : TblOK P T) (hH : HeapRep ρ N G w) {t t2 ty : Nat} {s : AV} {b : ByteArray} {K : AV → Nat → Heap → Prop} (h : eAppendS T t t2 s b N G K) {sv : Value} (hs : VR ρ N s sv) :
    ∃ v w', (Builtin.append_ #[t, t2] ty #[sv, .string b]).run P w = .ok v w' ∧ Out ρ N G w K v w' := by
  unfold eAppendS at h
  split at h
  case h_2 => exact h.elim
  rename_i ti ht
  split at h
  case h_2 => exact h.elim
  rename_i e esz eb k hd1
  split at h
  case h_2 => exact h.elim
  rename_i ti2 ht2
  split at h
  case h_2 => exact h.elim
  rename_i hsl2
  have hd0 := (hT _ _ ht).desc
  rw [hd1] at hd0
  obtain ⟨hd, i, z, hi, hsz, hby, hpos, heb, hz, hzs, hzk, hz1⟩ : DescOK P t (.slice e esz eb k) := hd0
  have hd2 : P.underlying t2 = some .string := by
    have := (hT _ _ ht2).desc
    rw [hsl2] at this
    exact this
  obtain ⟨C1, f, Gd, fix, h, hf⟩ := dstK_spec hH h hs
  have hsrc : SrcV P w t2 (.string b) b.size (Lib.strCells b) := .inr ⟨b, rfl, hd2, rfl, rfl⟩
  have hne : ∀ (r : Flat) (n : Nat), (∀ a j u, a < b.size → VR ρ N (.int .u8 ((numsOf b).getD a 0)) u → VR ρ N (r.cell (n + a) j) u) → i.size = 1 → ∀ a, a < b.size → ∀ j, j < i.size → ∃ u, (Lib.strCells b)[a * i.size + j]? = some u ∧ VR ρ N (r.cell (n + a) j) u ∧ u.oneCell' = true := fun r n hr h1 a ha j hj => by
    have hj0 : j = 0 := by omega
    subst hj0
    refine ⟨_, by rw [h1, Nat.mul_one, Nat.add_zero]; exact strCells_at b a ha, ?_, rfl⟩
    exact hr a 0 _ ha (by simp only [VR])
  cases f with
  | none =>
    simp only at h
    cases hb : Nat.beq 1 esz with
    | false => simp [hb] at h
    | true =>
      simp only [hb, cond_true] at h
      have hgs : 1 = esz := Nat.eq_of_beq_eq_true hb
      obtain ⟨c1, h⟩ := need_spec h
      obtain ⟨c4, hK⟩ := need_spec h
      obtain ⟨A, n, c, olds, rfl, o1, o2, ⟨o3, o3', o3''⟩, o4⟩ := (hf c1 esz (by simp)).ex
      subst o3 o3' o3''
      simp only [Cnd.holds] at c4
      refine append_core hH hd hi hz (by rw [hzs, hsz]) (by omega) (by omega) (by rw [hsz]; exact o1) (by rw [hsz, ← hgs, Lib.strCells_length, Nat.mul_one]) o2 hsrc (f := .tby e (numsOf b)) (by simp [Flat.n, numsOf_length]) (by rw [hsz]; exact hgs) (fun a ha => absurd ha (Nat.not_lt_zero a)) (hne _ _ (fun a j u _ hu => by simpa [Flat.cell] using hu) (by omega)) (hf c1 esz (by simp)).sub (fun hle => .inl ⟨by omega, rfl⟩) (fun t' ht' => by injection ht' with ht'; exact ht'.symm) (by omega) hK
  | some f =>
    simp only at h
    obtain ⟨r, h, r1, r2, r3, r4, r5⟩ := appK_spec h
    cases hb : (Nat.beq r.sz esz && tyB r (some f) e) with
    | false => simp [hb] at h
    | true =>
      simp only [hb, cond_true] at h
      simp only [Bool.and_eq_true] at hb
      have hrs := Nat.eq_of_beq_eq_true hb.1
      have hty := tyB_some hb.2
      have hfs : f.sz = esz := by rw [← r2]; exact hrs
      have hg1 : 1 = f.sz := r3
      obtain ⟨c1, h⟩ := need_spec h
      obtain ⟨c3, h⟩ := need_spec h
      obtain ⟨c4, hK⟩ := need_spec h
      obtain ⟨A, n, c, olds, rfl, o1, o2, ⟨o3, o3'⟩, o4⟩ := (hf c1 esz (by simpa using hfs)).ex
      subst o3
      simp only [Cnd.holds] at c4
      rw [r1] at c4
      simp only [Flat.n, numsOf_length] at c4
      have r1 : r.n = f.n + b.size := by rw [r1]; simp only [Flat.n, numsOf_length]
      refine append_core hH hd hi hz (by rw [hzs, hsz]) (by omega) (by omega) (by rw [hsz]; exact o1) (by rw [hsz, ← hfs, ← hg1, Lib.strCells_length, Nat.mul_one]) o2 hsrc (f := r) r1 (by rw [hrs, hsz]) (fun a ha b hb => ?_) (hne _ _ (fun a j u _ hv => ?_) (by omega)) (hf c1 esz (by simpa using hfs)).sub (fun hle => ?_) hty c4 hK
      · rw [hsz] at hb ⊢
        obtain ⟨u, p1, p2, p3⟩ := o3' hfs a ha b hb
        exact ⟨u, p1, r4 _ _ a b u (by rw [if_pos ha]; exact p2), p3⟩
      · refine r4 _ _ (f.n + a) j u (by rw [if_neg (by omega), show f.n + a - f.n = a by omega]; exact hv)
      · cases fix with
        | some fx =>
          obtain ⟨q1, q2⟩ := o4
          simp only [fixC, Cnd.holds, Flat.n, numsOf_length] at c3
          left
          have := c3 (by rw [← q1, ← q2]; omega)
          exact ⟨by omega, by omega⟩
        | none =>
          rcases o4 with q | ⟨id, f0, o, q1, q2, q3, q4, q5, q6, q7⟩
          · exact .inl ⟨by omega, q.2⟩
          · by_cases hc0 : c = 0
            · exact .inl ⟨by omega, hc0⟩
            · exact .inr ⟨id, f0, o, q1, q2, q3, by rw [hsz]; exact q4, q5 (Nat.mul_pos (by omega) hpos), fun t' ht' => q7 _ rfl t' (r5 ▸ ht')⟩

end
end Go.Sx

/-
  copy of numbers, as an effect.
-/
namespace Go.Sx
set_option linter.unusedVariables false
set_option linter.unusedSimpArgs false
open Go
open Go.RowKit

section
variable {P : Program} {T : Tbl} {ρ : Rho} {N : Nat} {G : Heap} {w : World}

def cownK (G : Heap) (id : Nat) (K : IntKind → List Int → Prop) : Prop :=
  match hget G id with
  | some o => match o with
    | .flat own f => match own with
      | true => match f with
        | .ints k xs => K k xs
        | _ => False
      | false => False
    | _ => False
  | none => False
theorem cownK_spec {id : Nat} {K : IntKind → List Int → Prop} (h : cownK G id K) : ∃ k xs, hget G id = some (.flat true (.ints k xs)) ∧ K k xs := by
  unfold cownK at h
  split at h
  case h_2 => exact h.elim
  rename_i o ho
  split at h
  case h_2 => exact h.elim
  split at h
  case h_2 => exact h.elim
  split at h
  case h_2 => exact h.elim
  exact ⟨_, _, ho, h⟩
def cdstK (G : Heap) (v : AV) (K : Cnd → Nat → IntKind → List Int → Nat → Nat → Prop) : Prop :=
  match v with
  | .sl id p => match p with
    | [] => cownK G id fun k xs => K none id k xs 0 xs.length
    | _ :: _ => False
  | .sub id p i len _ => match p with
    | [] => cownK G id fun k xs => K (some (i + len ≤ xs.length)) id k xs i len
    | _ :: _ => False
  | _ => False
theorem cdstK_spec (hH : HeapRep ρ N G w) {v : AV} {K : Cnd → Nat → IntKind → List Int → Nat → Nat → Prop} (h : cdstK G v K) {cv : Value} (hv : VR ρ N v cv) :
    ∃ C id k xs i len, K C id k xs i len ∧ hget G id = some (.flat true (.ints k xs)) ∧ (C.holds → i + len ≤ xs.length ∧ ∃ A c, cv = .slice A len c ∧ (0 < len → A = some ⟨(ρ id []).b, (ρ id []).o + i, none⟩)) := by
  unfold cdstK at h
  split at h
  · rename_i id p
    simp only [VR] at hv
    obtain ⟨_, A, c, rfl, hsl⟩ := hv
    split at h
    case h_2 => exact h.elim
    obtain ⟨k, xs, ho, h⟩ := cownK_spec h
    have hnode : NodeAt G id [] (Flat.ints k xs).node true := NodeAt.of_get ho rfl
    obtain ⟨s1, s2, s3⟩ := hH.shape id [] _ _ hnode
    simp only [Flat.node, Flat.n, Flat.sz] at s1 s2 s3
    refine ⟨_, _, _, _, _, _, h, ho, fun _ => ⟨by omega, A, c, by rw [s2], fun hl => ?_⟩⟩
    have := hsl.addr (by rw [s2]; exact hl)
    simpa using this
  · rename_i id p i len cap
    simp only [VR] at hv
    obtain ⟨_, A, c, rfl, hsl, _⟩ := hv
    split at h
    case h_2 => exact h.elim
    obtain ⟨k, xs, ho, h⟩ := cownK_spec h
    have hnode : NodeAt G id [] (Flat.ints k xs).node true := NodeAt.of_get ho rfl
    obtain ⟨s1, s2, s3⟩ := hH.shape id [] _ _ hnode
    simp only [Flat.node, Flat.n, Flat.sz] at s1 s2 s3
    refine ⟨_, _, _, _, _, _, h, ho, fun hc => ⟨hc, A, c, rfl, fun hl => ?_⟩⟩
    have := hsl.addr hl
    rw [s1, Nat.mul_one] at this
    exact this
  · exact h.elim

def spliceL (xs ys : List Int) (i n : Nat) : List Int := xs.take i ++ ys.take n ++ xs.drop (i + n)
theorem spliceL_len {xs ys : List Int} {i n : Nat} (h1 : i + n ≤ xs.length) (h2 : n ≤ ys.length) : (spliceL xs ys i n).length = xs.length := by
  simp [spliceL]; omega
theorem spliceL_get {xs ys : List Int} {i n : Nat} (h1 : i + n ≤ xs.length) (h2 : n ≤ ys.length) (a : Nat) : (spliceL xs ys i n).getD a 0 = if i ≤ a ∧ a < i + n then ys.getD (a - i) 0 else xs.getD a 0 := by
  simp only [spliceL, List.getD_eq_getElem?_getD]
  by_cases h3 : a < i
  · rw [List.getElem?_append_left (by simp; omega), List.getElem?_append_left (by simp; omega), List.getElem?_take_of_lt h3, if_neg (by omega)]
  · by_cases h4 : a < i + n
    · rw [List.getElem?_append_left (by simp; omega), List.getElem?_append_right (by simp; omega), if_pos (by omega)]
      rw [List.length_take, Nat.min_eq_left (by omega), List.getElem?_take_of_lt (by omega)]
    · rw [List.getElem?_append_right (by simp; omega), if_neg (by omega)]
      simp only [List.length_append, List.length_take, List.getElem?_drop]
      congr 2
      omega
theorem spliceL_zero (xs ys : List Int) (i : Nat) : spliceL xs ys i 0 = xs := by simp [spliceL]

def eCopy (T : Tbl) (t : Nat) (d x : AV) (N : Nat) (G : Heap) (K : AV → Nat → Heap → Prop) : Prop :=
  match tget T t with
  | some ti => match ti.d with
    | .slice _ esz _ _ => bif Nat.beq esz 1 then srcK G x fun C2 g => match g with
      | some g => match g with
        | .ints k' ys => cdstK G d fun C1 id k xs i len => bif k == k' then need C1 (need C2 (K (.int .i64 (Nat.min ys.length len : Nat)) N (hset G id (.flat true (.ints k (spliceL xs ys i (Nat.min ys.length len))))))) else False
        | _ => False
      | none => False
      else False
    | _ => False
  | none => False

theorem eCopy_sound (hT : TblOK P T) (hH : HeapRep ρ N G w) {t t2 ty : Nat} {d x : AV} {K : AV → Nat → Heap → Prop} (h : eCopy T t d x N G K) {dv xv : Value} (hd : VR ρ N d dv) (hx : VR ρ N x xv) :
    ∃ v w', (Builtin.copy_ #[t, t2] ty #[dv, xv]).run P w = .ok v w' ∧ Out ρ N G w K v w' := by
  unfold eCopy at h
  split at h
  case h_2 => exact h.elim
  rename_i ti ht
  split at h
  case h_2 => exact h.elim
  rename_i e esz eb kk hd1
  have hd0 := (hT _ _ ht).desc
  rw [hd1] at hd0
  obtain ⟨hdd, i0, z, hi0, hsz, _⟩ : DescOK P t (.slice e esz eb kk) := hd0
  cases hb : Nat.beq esz 1 with
  | false => simp [hb] at h
  | true =>
    simp only [hb, cond_true] at h
    have hb := Nat.eq_of_beq_eq_true hb
    subst hb
    obtain ⟨C2, g, h, hg⟩ := srcK_spec hH h hx
    split at h
    case h_2 => exact h.elim
    split at h
    case h_2 => exact h.elim
    rename_i k' ys
    obtain ⟨C1, id, k, xs, i, len, h5, ho, hdst⟩ := cdstK_spec hH h hd
    clear h
    cases hkk : k == k' with
    | false => simp [hkk] at h5
    | true =>
      simp only [hkk, cond_true] at h5
      have hkk : k = k' := by simpa using hkk
      subst hkk
      obtain ⟨c1, h6⟩ := need_spec h5
      obtain ⟨c2, hK⟩ := need_spec h6
      obtain ⟨hil, A, c, rfl, hA⟩ := hdst c1
      obtain ⟨A2, m, cc2, news, rfl, n1, n2, n3, n4⟩ := (hg c2 1 (by simp [Flat.sz])).ex
      simp only [Flat.n] at n3
      subst n3
      have n4 := n4 (by simp [Flat.sz])
      have hmin1 : Nat.min ys.length len ≤ ys.length := Nat.min_le_left _ _
      have hmin2 : Nat.min ys.length len ≤ len := Nat.min_le_right _ _
      have hlo : (Builtin.lenOf (.slice A2 ys.length cc2)).run P w = .ok ys.length w := rfl
      have hnl : news.length = ys.length := by omega
      have hvr : VR ρ N (.int .i64 (Nat.min ys.length len : Nat)) (goInt (Nat.min ys.length len)) := by simp only [VR]; rfl
      rcases Nat.eq_zero_or_pos (Nat.min ys.length len) with h0 | h0
      · rw [h0, spliceL_zero] at hK
        rw [h0] at hvr
        refine ⟨goInt 0, w, ?_, ⟨⟨_, ρ, N, _, hK, hvr, ?_, Nat.le_refl _, fun _ _ => rfl, FrameW.refl _ _, fun b hb => .inr ?_⟩⟩⟩
        · have hfc : (Builtin.firstCells 1 0 (.slice A2 ys.length cc2)).run P w = .ok #[] w := by
            cases A2 with
            | none => rfl
            | some a => simp [Builtin.firstCells, loadCells, loadCellsFrom]
          cases A <;> simp [Builtin.copy_, run_underlying hdd, hlo, h0, run_sizeOf hi0, hsz, hfc, storeCells]
        · refine hH.congr fun j => ?_
          rw [hget_hset]
          split
          · rename_i e; subst e; rw [ho]; rfl
          · rfl
        · obtain ⟨j, p, nd, hn, ht, rfl⟩ := hb
          exact ⟨j, p, nd, NodeAt.congr (fun j => by
            rw [hget_hset]
            split
            · rename_i e; subst e; rw [ho]; rfl
            · rfl) hn, ht, rfl⟩
      · have hlen : 0 < len := by omega
        obtain rfl := hA hlen
        obtain ⟨b2, o2, rfl, hcell⟩ := n2 (by omega)
        obtain ⟨c0, t0, hb0, hc0, htot⟩ := own_block hH ho (by simp [Flat.n]; omega)
        have hnode : NodeAt G id [] (Flat.ints k xs).node true := NodeAt.of_get ho rfl
        have hrd : ∀ a, a < xs.length → ∃ u, c0[(ρ id []).o + a]? = some u ∧ VR ρ N (.int k (xs.getD a 0)) u ∧ u.oneCell' = true := fun a ha => by
          obtain ⟨u, k1, k2⟩ := hH.rd id [] _ true hnode a ha 0 (by simp [Flat.node, Flat.sz])
          simp only [Flat.node, Flat.sz, Nat.mul_one, Nat.add_zero] at k1
          rw [cell_of_row w _ _ c0 t0 (0, 0) hb0] at k1
          exact ⟨u, k1, k2⟩
        have husl : (news.take (Nat.min ys.length len)).length = Nat.min ys.length len := by rw [List.length_take]; omega
        have hus1 : ∀ u ∈ news.take (Nat.min ys.length len), u.oneCell' = true := fun u hu => by
          obtain ⟨j, hj, rfl⟩ := List.getElem_of_mem (List.mem_of_mem_take hu)
          obtain ⟨u, q1, _, q3⟩ := n4 j (by omega) 0 (by omega)
          simp only [Nat.mul_one, Nat.add_zero] at q1
          rw [List.getElem?_eq_getElem hj] at q1
          injection q1 with q1
          rw [q1]; exact q3
        obtain ⟨c', hc1, hc2, hc3⟩ := setCells_block (ρ id []).b t0 (0, 0) (news.take (Nat.min ys.length len)) ((ρ id []).o + i) w c0 hb0
        have hwr : ∀ d, d < (news.take (Nat.min ys.length len)).length → ∃ u, c0[(ρ id []).o + i + d]? = some u := fun d hd => by
          rw [husl] at hd
          obtain ⟨u, k1, _⟩ := hrd (i + d) (by omega)
          exact ⟨u, by rw [← k1]; congr 1; omega⟩
        have hsl := spliceL_len (xs := xs) (ys := ys) (i := i) (n := Nat.min ys.length len) (by omega) (by omega)
        obtain ⟨q1, q2, q3⟩ := put_flat hH ho (f' := .ints k (spliceL xs ys i (Nat.min ys.length len))) hsl rfl (w' := w.setCells (ρ id []).b ((ρ id []).o + i) (news.take (Nat.min ys.length len))) (by simp only [Flat.n]; omega) (setCells_frame _ _ _ _) ⟨c', t0, hc1, hc2.trans hc0, fun _ h => nomatch h⟩ (fun a ha b hbb => by
          simp only [Flat.n] at ha
          simp only [Flat.sz] at hbb
          obtain rfl : b = 0 := by omega
          simp only [Flat.sz, Nat.mul_one, Nat.add_zero, Flat.cell]
          obtain ⟨u, k1, k2, k3⟩ := hrd a ha
          rw [cell_of_row _ _ _ c' t0 (0, 0) hc1, hc3, spliceL_get (by omega) (by omega)]
          have hsz0 : (ρ id []).o + a < c0.size := (Array.getElem?_eq_some_iff.1 k1).1
          by_cases hin : i ≤ a ∧ a < i + Nat.min ys.length len
          · rw [if_pos ⟨by omega, by rw [husl]; omega, hsz0⟩, if_pos hin]
            obtain ⟨x, x1, x2, x3⟩ := n4 (a - i) (by omega) 0 (by omega)
            simp only [Nat.mul_one, Nat.add_zero, Flat.cell] at x1 x2
            refine ⟨x, ?_, x2, x3⟩
            rw [show (ρ id []).o + a - ((ρ id []).o + i) = a - i by omega, List.getElem?_take_of_lt (by omega)]
            exact x1
          · rw [if_neg hin, if_neg (by rw [husl]; omega)]
            exact ⟨u, k1, k2, k3⟩)
        refine ⟨goInt (Nat.min ys.length len), _, ?_, ⟨⟨_, ρ, N, _, hK, hvr, q1, Nat.le_refl _, fun _ _ => rfl, q2, fun b hb => .inr (q3 b hb)⟩⟩⟩
        have hfc : (Builtin.firstCells 1 (Nat.min ys.length len) (.slice (some ⟨b2, o2, none⟩) ys.length cc2)).run P w = .ok (news.take (Nat.min ys.length len)).toArray w :=
          run_firstCells_some w 1 (Nat.min ys.length len) _ ys.length cc2 (news.take (Nat.min ys.length len)) (by rw [husl]; omega) fun j v hj => by
            have hj' : j < Nat.min ys.length len := by
              have := (List.getElem?_eq_some_iff.1 hj).1
              omega
            rw [List.getElem?_take_of_lt hj'] at hj
            rw [← hcell j v hj]
            congr 1
            unfold Addr.add; split <;> simp_all
        have hrun := run_storeCells_cells (P := P) (ρ id []).b ((ρ id []).o + i) (news.take (Nat.min ys.length len)) 0 w (fun d hd => by
            obtain ⟨u, hu⟩ := hwr d hd
            rw [cell_of_row w _ _ c0 t0 (0, 0) hb0]
            simp only [Nat.add_zero]
            rw [hu]; rfl) (fun d _ => frozen_of_row w _ _ c0 t0 hb0) hus1
        simp only [Nat.add_zero] at hrun
        have e0 : (#[t, t2] : Array Nat)[0]? = some t := rfl
        simp only [Builtin.copy_, Sem.run_bind, run_underlying hdd, Result.andThen_ok, hlo, run_sizeOf hi0, hsz, List.getElem?_toArray, List.getElem?_cons_zero, List.getElem?_cons_succ, hfc, hrun, Sem.run_pure]
end
end Go.Sx

/-
  clear of pairs, as an effect.
-/
namespace Go.Sx
set_option linter.unusedVariables false
set_option linter.unusedSimpArgs false
open Go
open Go.RowKit

section
variable {P : Program} {T : Tbl} {ρ : Rho} {N : Nat} {G : Heap} {w : World}

def clr2K (G : Heap) (v : AV) (K : Nat → List R2 → Nat → Nat → Prop) : Prop :=
  match v with
  | .sub id p i len _ => match p with
    | [] => match hget G id with
      | some o => match o with
        | .flat own f => match own with
          | true => match f with
            | .r2 xs => K id xs i len
            | _ => False
          | false => False
        | _ => False
      | none => False
    | _ :: _ => False
  | _ => False
theorem clr2K_spec {v : AV} {K : Nat → List R2 → Nat → Nat → Prop} (h : clr2K G v K) : ∃ id xs i len cap, v = .sub id [] i len cap ∧ hget G id = some (.flat true (.r2 xs)) ∧ K id xs i len := by
  unfold clr2K at h
  split at h
  case h_2 => exact h.elim
  split at h
  case h_2 => exact h.elim
  split at h
  case h_2 => exact h.elim
  rename_i o ho
  split at h
  case h_2 => exact h.elim
  split at h
  case h_2 => exact h.elim
  split at h
  case h_2 => exact h.elim
  exact ⟨_, _, _, _, _, rfl, ho, h⟩
def clrL (xs : List R2) (i len : Nat) : List R2 := xs.take i ++ List.replicate len default ++ xs.drop (i + len)
theorem clrL_len {xs : List R2} {i n : Nat} (h1 : i + n ≤ xs.length) : (clrL xs i n).length = xs.length := by
  simp [clrL]; omega
theorem clrL_get {xs : List R2} {i n : Nat} (h1 : i + n ≤ xs.length) (a : Nat) : (clrL xs i n).getD a default = if i ≤ a ∧ a < i + n then default else xs.getD a default := by
  simp only [clrL, List.getD_eq_getElem?_getD]
  by_cases h3 : a < i
  · rw [List.getElem?_append_left (by simp; omega), List.getElem?_append_left (by simp; omega), List.getElem?_take_of_lt h3, if_neg (by omega)]
  · by_cases h4 : a < i + n
    · rw [List.getElem?_append_left (by simp; omega), List.getElem?_append_right (by simp; omega), if_pos (by omega)]
      rw [List.getElem?_replicate]
      split <;> rfl
    · rw [List.getElem?_append_right (by simp; omega), if_neg (by omega)]
      simp only [List.length_append, List.length_take, List.getElem?_drop, List.length_replicate]
      congr 2
      omega

def eClear (T : Tbl) (t : Nat) (x : AV) (N : Nat) (G : Heap) (K : AV → Nat → Heap → Prop) : Prop :=
  match tget T t with
  | some ti => match ti.d with
    | .slice _ _ _ k => match k with
      | .r2 => clr2K G x fun id xs i len => need (some (i + len ≤ xs.length ∧ 0 < len)) (K (.tuple []) N (hset G id (.flat true (.r2 (clrL xs i len)))))
      | _ => False
    | _ => False
  | none => False

theorem eClear_sound (hT : TblOK P T) (hH : HeapRep ρ N G w) {t ty : Nat} {x : AV} {K : AV → Nat → Heap → Prop} (h : eClear T t x N G K) {xv : Value} (hx : VR ρ N x xv) :
    ∃ v w', (Builtin.clear_ #[t] ty #[xv]).run P w = .ok v w' ∧ Out ρ N G w K v w' := by
  unfold eClear at h
  split at h
  case h_2 => exact h.elim
  rename_i ti ht
  split at h
  case h_2 => exact h.elim
  rename_i e esz eb kk hd1
  have hd0 := (hT _ _ ht).desc
  rw [hd1] at hd0
  obtain ⟨hdd, i0, z, hi0, hsz, _, _, _, hz0, hzc, hkz, hz1⟩ : DescOK P t (.slice e esz eb kk) := hd0
  split at h
  case h_2 => exact h.elim
  obtain ⟨hel, hvz⟩ := hkz (by simp)
  simp only [EK.zero, List.length_cons, List.length_nil] at hel
  subst hel
  have hz2 : z.cells.toList = [.int .i64 0, .int .i64 0] := by
    have := hvz ρ N
    simp only [EK.zero, VRL, VR] at this
    obtain ⟨_, _, q1, rfl, _, _, rfl, rfl, rfl⟩ := this
    exact q1
  have hz3 : z.cells = #[.int .i64 0, .int .i64 0] := Array.ext' (by simpa using hz2)
  obtain ⟨id, xs, i, len, cap, rfl, ho, h⟩ := clr2K_spec h
  obtain ⟨⟨hil, hlen⟩, hK⟩ := need_spec h
  simp only [VR] at hx
  obtain ⟨_, A, c, rfl, hsl, _⟩ := hx
  have hnode : NodeAt G id [] (Flat.r2 xs).node true := NodeAt.of_get ho rfl
  obtain ⟨s1, s2, s3⟩ := hH.shape id [] _ _ hnode
  simp only [Flat.node, Flat.n, Flat.sz] at s1 s2 s3
  have hA := hsl.addr hlen
  rw [s1] at hA
  subst hA
  obtain ⟨c0, t0, hb0, hc0, htot⟩ := own_block hH ho (by simp [Flat.n]; omega)
  have hrd : ∀ a, a < xs.length → ∀ b, b < 2 → ∃ u, c0[(ρ id []).o + (a * 2 + b)]? = some u ∧ VR ρ N ((Flat.r2 xs).cell a b) u ∧ u.oneCell' = true := fun a ha b hb => by
    obtain ⟨u, k1, k2⟩ := hH.rd id [] _ true hnode a ha b (by simpa [Flat.node, Flat.sz] using hb)
    simp only [Flat.node, Flat.sz] at k1
    rw [cell_of_row w _ _ c0 t0 (0, 0) hb0] at k1
    exact ⟨u, k1, k2⟩
  have hnl : (List.replicate (len * 2) (Value.int .i64 0)).length = len * 2 := List.length_replicate
  obtain ⟨c', hc1, hc2, hc3⟩ := setCells_block (ρ id []).b t0 (0, 0) (List.replicate (len * 2) (Value.int .i64 0)) ((ρ id []).o + i * 2) w c0 hb0
  have hwr : ∀ d, d < (List.replicate (len * 2) (Value.int .i64 0)).length → ∃ u, c0[(ρ id []).o + i * 2 + d]? = some u := fun d hd => by
    rw [hnl] at hd
    obtain ⟨u, k1, _⟩ := hrd (i + d / 2) (by omega) (d % 2) (by omega)
    exact ⟨u, by rw [← k1]; congr 1; omega⟩
  have hsl2 := clrL_len (xs := xs) (i := i) (n := len) hil
  obtain ⟨q1, q2, q3⟩ := put_flat hH ho (f' := .r2 (clrL xs i len)) hsl2 rfl (w' := w.setCells (ρ id []).b ((ρ id []).o + i * 2) (List.replicate (len * 2) (Value.int .i64 0))) (by simp only [Flat.n]; omega) (setCells_frame _ _ _ _) ⟨c', t0, hc1, hc2.trans hc0, fun _ h => nomatch h⟩ (fun a ha b hbb => by
    simp only [Flat.n] at ha
    simp only [Flat.sz] at hbb ⊢
    obtain ⟨u, k1, k2, k3⟩ := hrd a ha b hbb
    rw [cell_of_row _ _ _ c' t0 (0, 0) hc1, hc3]
    have hsz0 : (ρ id []).o + (a * 2 + b) < c0.size := (Array.getElem?_eq_some_iff.1 k1).1
    simp only [Flat.cell] at k2 ⊢
    rw [clrL_get hil]
    by_cases hin : i ≤ a ∧ a < i + len
    · rw [if_pos ⟨by omega, by rw [hnl]; omega, hsz0⟩, if_pos hin]
      refine ⟨.int .i64 0, ?_, ?_, rfl⟩
      · rw [List.getElem?_replicate, if_pos (by omega)]
      · rcases (by omega : b = 0 ∨ b = 1) with rfl | rfl <;> simp only [R2.get, VR] <;> rfl
    · rw [if_neg hin, if_neg (by rw [hnl]; omega)]
      exact ⟨u, k1, k2, k3⟩)
  refine ⟨.tuple #[], _, ?_, ⟨⟨_, ρ, N, _, hK, by simp only [VR]; exact ⟨[], rfl, by simp [VRL]⟩, q1, Nat.le_refl _, fun _ _ => rfl, q2, fun b hb => .inr (q3 b hb)⟩⟩⟩
  have hzcs : (Builtin.zeroCells z.cells len).toList = List.replicate (len * 2) (Value.int .i64 0) := by
    rw [hz3]
    apply List.ext_getElem
    · simp [Builtin.zeroCells]
    · intro k h1 h2
      simp only [Builtin.zeroCells, Array.toList_map, List.getElem_map, List.getElem_replicate]
      have : ∀ m : Nat, (#[Value.int .i64 0, Value.int .i64 0] : Array Value)[m % 2]! = .int .i64 0 := fun m => by
        rcases (by omega : m % 2 = 0 ∨ m % 2 = 1) with h | h <;> rw [h] <;> rfl
      exact this _
  have hrun := run_storeCells_cells (P := P) (ρ id []).b ((ρ id []).o + i * 2) (List.replicate (len * 2) (Value.int .i64 0)) 0 w (fun d hd => by
      obtain ⟨u, hu⟩ := hwr d hd
      rw [cell_of_row w _ _ c0 t0 (0, 0) hb0]
      simp only [Nat.add_zero]
      rw [hu]; rfl) (fun d _ => frozen_of_row w _ _ c0 t0 hb0) (fun v hv => by rw [List.eq_of_mem_replicate hv]; rfl)
  simp only [Nat.add_zero] at hrun
  obtain ⟨m, rfl⟩ : ∃ m, len = m + 1 := ⟨len - 1, by omega⟩
  simp [Builtin.clear_, run_underlying hdd, zeroValue, typeInfo, hi0, hz0, hzcs, hrun]
end
end Go.Sx

/-
  Slices of slices: a header object of rows, and one object that holds all rows; rows that are stored, made, laid out, appended.
-/
namespace Go.Sx
set_option linter.unusedVariables false
set_option linter.unusedSimpArgs false
open Go
open Go.RowKit

section
variable {P : Program} {T : Tbl} {ρ : Rho} {N : Nat} {G : Heap} {w : World}

def updR (ρ : Rho) (N : Nat) (B : List Nat → Blk) : Rho := fun id p => if id = N then B p else ρ id p
theorem updR_lt (ρ : Rho) (N : Nat) (B : List Nat → Blk) : ∀ id, id < N → updR ρ N B id = ρ id := fun id h => by
  funext p; unfold updR; rw [if_neg (by omega)]
theorem updR_at (ρ : Rho) (N : Nat) (B : List Nat → Blk) (p : List Nat) : updR ρ N B N p = B p := by unfold updR; rw [if_pos rfl]

theorem Out.ghost {ρ' : Rho} {N' : Nat} {G1 : Heap} {K : AV → Nat → Heap → Prop} {v : Value} {w' : World} (hN : N ≤ N') (hρ : ∀ id, id < N → ρ' id = ρ id) (hown : ∀ b, Owns ρ' G1 b → Owns ρ G b) (h : Out ρ' N' G1 w K v w') : Out ρ N G w K v w' := by
  obtain ⟨av, ρ2, N2, G2, h1, h2, h3, h4, h5, h6, h7⟩ := h.ex
  refine ⟨⟨av, ρ2, N2, G2, h1, h2, h3, Nat.le_trans hN h4, fun id hid => (h5 id (Nat.lt_of_lt_of_le hid hN)).trans (hρ id hid), ⟨h6.os, h6.tape, h6.output, h6.size, fun k hk hn => h6.block k hk fun ho => hn (hown k ho), h6.drawn⟩, fun b hb => ?_⟩⟩
  rcases h7 b hb with h | h
  · exact .inl h
  · exact .inr (hown b h)

/-- One object more, which takes over nodes of objects that fall. -/
theorem HeapRep.take (hH : HeapRep ρ N G w) {Gd : Heap} (hsub : ∀ i o, hget Gd i = some o → hget G i = some o) {o : AObj} (hown : o.own = true) (hpl : o.plain = true) (B : List Nat → Blk) (src : List Nat → Option (Nat × List Nat))
    (hb : ∀ p nd, o.node N p = some nd → (src p = none ∧ nd.n = 0 ∧ 0 < nd.sz ∧ B p = ⟨0, 0, nd.sz, 0, 0⟩) ∨ ∃ id0 p0, src p = some (id0, p0) ∧ NodeAt G id0 p0 nd true ∧ hget Gd id0 = none ∧ B p = ρ id0 p0)
    (hinj : ∀ p p' x, src p = some x → src p' = some x → p = p') :
    HeapRep (updR ρ N B) (N + 1) ((N, o) :: Gd) w ∧ ∀ b, Owns (updR ρ N B) ((N, o) :: Gd) b → Owns ρ G b := by
  have hρ := updR_lt ρ N B
  have hnone : hget Gd N = none := by
    cases h : hget Gd N with
    | none => rfl
    | some o => exact absurd (hH.keys N o (hsub _ _ h)) (Nat.lt_irrefl N)
  have hup : ∀ {i p nd own}, NodeAt Gd i p nd own → NodeAt G i p nd own ∧ i < N := fun {i p nd own} hx => by
    obtain ⟨o, h1, h2, h3⟩ := hx.ex
    exact ⟨⟨⟨o, hsub _ _ h1, h2, h3⟩⟩, hH.keys _ _ (hsub _ _ h1)⟩
  refine ⟨((hH.sub hsub).mono (Nat.le_succ N) hρ).put (Nat.lt_succ_self N) hnone hown fun p nd hnd => ?_, fun b hb' => ?_⟩
  · simp only [updR_at]
    rcases hb p nd hnd with ⟨h0, h1, h2, h3⟩ | ⟨id0, p0, hs, hn, hg, hB⟩
    · rw [h3]
      exact ⟨rfl, h1.symm, h2, fun i hi => by omega, .inl ⟨rfl, h1, (AObj.plain_x hpl hnd).1⟩, fun h => absurd h (Nat.lt_irrefl 0)⟩
    · obtain ⟨s1, s2, s3⟩ := hH.shape _ _ _ _ hn
      rw [hB]
      refine ⟨s1, s2, s3, fun i hi j hj => ?_, hH.ow _ _ _ hn, fun ht => ⟨fun p' nd' hnd' hne ht' => ?_, fun id' p' nd' own' hn' hs' => ?_⟩⟩
      · obtain ⟨v, q1, q2, q3⟩ := hH.rd _ _ _ _ hn i hi j hj
        exact ⟨v, q1, q2.mono (Nat.le_succ N) hρ, q3⟩
      · rcases hb p' nd' hnd' with ⟨_, _, _, h3⟩ | ⟨id1, p1, hs1, hn1, _, hB1⟩
        · rw [h3] at ht'; exact absurd ht' (Nat.lt_irrefl 0)
        · rw [hB1] at ht' ⊢
          refine hH.sep _ _ _ _ _ _ _ hn hn1 (fun e => hne ?_) ht (by simpa [Solid] using ht')
          obtain ⟨rfl, rfl⟩ := e
          exact hinj _ _ _ hs hs1
      · obtain ⟨hn1, hlt⟩ := hup hn'
        have e : updR ρ N B id' p' = ρ id' p' := by rw [hρ id' hlt]
        rw [e] at hs' ⊢
        refine hH.sep _ _ _ _ _ _ _ hn hn1 (fun e => ?_) ht hs'
        obtain ⟨o', q1, _⟩ := hn'.ex
        rw [← e.1, hg] at q1
        cases q1
  · obtain ⟨id, p, nd, hn, ht, rfl⟩ := hb'
    obtain ⟨o', h1, h2, h3⟩ := hn.ex
    rw [hget_cons] at h1
    split at h1
    · next he =>
      subst he
      injection h1 with h1
      subst h1
      rw [updR_at] at ht ⊢
      rcases hb p nd h2 with ⟨_, _, _, h⟩ | ⟨id0, p0, _, hn0, _, hB⟩
      · rw [h] at ht; exact absurd ht (Nat.lt_irrefl 0)
      · rw [hB] at ht ⊢; exact ⟨id0, p0, nd, hn0, ht, rfl⟩
    · have hlt := hH.keys _ _ (hsub _ _ h1)
      rw [hρ id hlt] at ht ⊢
      exact ⟨id, p, nd, ⟨⟨o', hsub _ _ h1, h2, h3⟩⟩, ht, rfl⟩

/-! ### A node that is written -/
theorem own_node (hH : HeapRep ρ N G w) {id : Nat} {p : List Nat} {nd : Node} (hn : NodeAt G id p nd true) (h0 : 0 < nd.n) :
    ∃ c t, w.heap[(ρ id p).b]? = some (.cells c t (0, 0)) ∧ c.size = (ρ id p).tot ∧ 0 < (ρ id p).tot ∧ ∀ t', nd.ty = some t' → t = t' ∧ (ρ id p).o = 0 := by
  rcases hH.ow id p nd hn with ⟨_, h, _⟩ | ⟨ob, h1, h2, h3⟩
  · omega
  · obtain ⟨o, _, g2, _⟩ := hn.ex
    have hx : nd.x = none := (AObj.x_none g2).resolve_right (by omega)
    unfold Node.blk at h2
    rw [hx] at h2
    obtain ⟨c, t, rfl, h4, h5⟩ := h2
    exact ⟨c, t, h1, h4, h3, h5⟩

theorem put_node (hH : HeapRep ρ N G w) {id : Nat} {p : List Nat} {o o' : AObj} {nd nd' : Node} (ho : hget G id = some o) (hown : o.own = true) (hown' : o'.own = true) (hnd : o.node id p = some nd) (hnd' : o'.node id p = some nd')
    (hoth : ∀ q, q ≠ p → o'.node id q = o.node id q) (hn : nd'.n = nd.n) (hsz : nd'.sz = nd.sz) (hpos : 0 < nd.n) {w' : World}
    (hf : FrameW (· = (ρ id p).b) w w') (hblk : ∃ c t, w'.heap[(ρ id p).b]? = some (.cells c t (0, 0)) ∧ c.size = (ρ id p).tot ∧ ∀ t', nd'.ty = some t' → t = t' ∧ (ρ id p).o = 0)
    (hcells : ∀ i, i < nd.n → ∀ j, j < nd.sz → ∃ u, w'.cell? ⟨(ρ id p).b, (ρ id p).o + (i * nd.sz + j), none⟩ = some u ∧ VR ρ N (nd'.cell i j) u ∧ u.oneCell' = true) :
    HeapRep ρ N (hset G id o') w' ∧ FrameW (Owns ρ G) w w' ∧ ∀ b, Owns ρ (hset G id o') b → Owns ρ G b := by
  have hN : NodeAt G id p nd true := ⟨⟨o, ho, hnd, hown⟩⟩
  obtain ⟨c0, t0, hb0, hc0, htot, hty0⟩ := own_node hH hN hpos
  obtain ⟨sh1, sh2, sh3⟩ := hH.shape id p nd true hN
  have hcl : ∀ {i q nd0 ow}, NodeAt (hset G id o') i q nd0 ow → (i = id ∧ q = p ∧ nd0 = nd' ∧ ow = true) ∨ (¬ (i = id ∧ q = p) ∧ NodeAt G i q nd0 ow) := fun {i q nd0 ow} hx => by
    obtain ⟨x, h1, h2, h3⟩ := hx.ex
    rw [hget_hset] at h1
    split at h1
    · next he =>
      subst he
      simp only [ho, Option.map_some, Option.some.injEq] at h1
      subst h1
      by_cases hq : q = p
      · subst hq
        rw [hnd'] at h2
        injection h2 with h2
        exact .inl ⟨rfl, rfl, h2.symm, h3.symm.trans hown'⟩
      · rw [hoth q hq] at h2
        exact .inr ⟨fun e => hq e.2, ⟨⟨o, ho, h2, by rw [hown, ← h3, hown']⟩⟩⟩
    · next he => exact .inr ⟨fun e => he e.1, ⟨⟨x, h1, h2, h3⟩⟩⟩
  have hne : ∀ {i q nd0 ow}, ¬ (i = id ∧ q = p) → NodeAt G i q nd0 ow → Solid (ρ i q) nd0 ow → w'.heap[(ρ i q).b]? = w.heap[(ρ i q).b]? := fun {i q nd0 ow} h1 h2 h3 =>
    hf.block _ (hH.lt h2 h3) (Ne.symm (hH.sep id p nd i q nd0 ow hN h2 (fun e => h1 ⟨e.1.symm, e.2.symm⟩) htot h3))
  obtain ⟨c, t, hb, hc, hct⟩ := hblk
  refine ⟨⟨fun i x h => ?_, fun i q nd0 ow hx => ?_, fun i q nd0 ow hx a ha b hbb => ?_, fun i q nd0 hx => ?_, fun i q nd0 i' q' nd0' ow' hx hx' hd ht hs => ?_⟩, ⟨hf.os, hf.tape, hf.output, hf.size, fun k hk hno => hf.block k hk (fun e => hno ⟨id, p, nd, hN, htot, e.symm⟩), hf.drawn⟩, fun b hb => ?_⟩
  · rw [hget_hset] at h
    split at h
    · next he => subst he; exact hH.keys _ _ ho
    · exact hH.keys _ _ h
  · rcases hcl hx with ⟨rfl, rfl, rfl, rfl⟩ | ⟨_, h⟩
    · exact ⟨by rw [hsz, sh1], by rw [hn, sh2], by rw [hsz]; exact sh3⟩
    · exact hH.shape _ _ _ _ h
  · rcases hcl hx with ⟨rfl, rfl, rfl, rfl⟩ | ⟨h1, h⟩
    · rw [hsz] at hbb ⊢
      exact hcells a (by omega) b hbb
    · obtain ⟨v, q1, q2⟩ := hH.rd _ _ _ _ h a ha b hbb
      refine ⟨v, ?_, q2⟩
      rw [← q1]
      refine World.cell?_of_block (w := w) (hne h1 h ?_)
      cases ow with
      | false => simp only [Solid, Bool.false_eq_true, if_false]; exact Nat.mul_pos (by omega) (by omega)
      | true =>
        simp only [Solid, if_true]
        rcases hH.ow _ _ _ h with ⟨_, h0, _⟩ | ⟨_, _, _, h0⟩
        · omega
        · exact h0
  · rcases hcl hx with ⟨rfl, rfl, rfl, _⟩ | ⟨h1, h⟩
    · have hx : nd0.x = none := (AObj.x_none hnd').resolve_right (by omega)
      exact .inr ⟨_, hb, by unfold Node.blk; rw [hx]; exact ⟨c, t, rfl, hc, hct⟩, htot⟩
    · rcases hH.ow _ _ _ h with h0 | ⟨ob1, h2, h3, h4⟩
      · exact .inl h0
      · exact .inr ⟨ob1, (hne h1 h (by simpa [Solid] using h4)).trans h2, h3, h4⟩
  · rcases hcl hx with ⟨rfl, rfl, rfl, _⟩ | ⟨h1, h⟩ <;> rcases hcl hx' with ⟨rfl, rfl, rfl, rfl⟩ | ⟨h1', h'⟩
    · exact absurd ⟨rfl, rfl⟩ hd
    · exact hH.sep _ _ _ _ _ _ _ hN h' hd htot hs
    · exact hH.sep _ _ _ _ _ _ _ h hN hd ht (by simpa [Solid] using hs)
    · exact hH.sep _ _ _ _ _ _ _ h h' hd ht hs
  · obtain ⟨i, q, nd0, hx, ht, rfl⟩ := hb
    rcases hcl hx with ⟨rfl, rfl, _, _⟩ | ⟨_, h⟩
    · exact ⟨_, _, nd, hN, ht, rfl⟩
    · exact ⟨i, q, nd0, h, ht, rfl⟩

/-- The run of a store into a node of one's own. -/
theorem store_node (hT : TblOK P T) (hH : HeapRep ρ N G w) {t : Nat} {ti : TI} (ht : tget T t = some ti) {id : Nat} {p : List Nat} {o o' : AObj} {nd nd' : Node} (ho : hget G id = some o) (hown : o.own = true) (hown' : o'.own = true) (hnd : o.node id p = some nd) (hnd' : o'.node id p = some nd')
    (hoth : ∀ q, q ≠ p → o'.node id q = o.node id q) (hn : nd'.n = nd.n) (hsz : nd'.sz = nd.sz) (hnty : nd'.ty = nd.ty) {i j : Nat} {us : List Value} {vv : Value} (hvv : vv.cells = us.toArray) (hus : us.length = ti.size) (hi : i < nd.n) (hj : j + us.length ≤ nd.sz) (h1 : ∀ u ∈ us, u.oneCell' = true)
    (hcell : ∀ a b, a < nd.n → b < nd.sz → if a = i ∧ j ≤ b ∧ b < j + us.length then ∃ u, us[b - j]? = some u ∧ VR ρ N (nd'.cell a b) u else ∀ u, VR ρ N (nd.cell a b) u → VR ρ N (nd'.cell a b) u) :
    ∃ w', (Instr.storeAt t (.pointer (some ⟨(ρ id p).b, (ρ id p).o + (i * nd.sz + j), none⟩)) vv).run P w = .ok () w' ∧ HeapRep ρ N (hset G id o') w' ∧ FrameW (Owns ρ G) w w' ∧ ∀ b, Owns ρ (hset G id o') b → Owns ρ G b := by
  have hN : NodeAt G id p nd true := ⟨⟨o, ho, hnd, hown⟩⟩
  obtain ⟨c0, t0, hb0, hc0, htot, hty0⟩ := own_node hH hN (by omega)
  have hrd : ∀ a, a < nd.n → ∀ b, b < nd.sz → ∃ u, c0[(ρ id p).o + (a * nd.sz + b)]? = some u ∧ VR ρ N (nd.cell a b) u ∧ u.oneCell' = true := fun a ha b hbb => by
    obtain ⟨u, k1, k2⟩ := hH.rd id p nd true hN a ha b hbb
    rw [cell_of_row w _ _ c0 t0 (0, 0) hb0] at k1
    exact ⟨u, k1, k2⟩
  obtain ⟨c', hc1, hc2, hc3⟩ := setCells_block (ρ id p).b t0 (0, 0) us ((ρ id p).o + (i * nd.sz + j)) w c0 hb0
  have hwr : ∀ d, d < us.length → ∃ u, c0[(ρ id p).o + (i * nd.sz + j) + d]? = some u := fun d hd => by
    obtain ⟨u, k1, _⟩ := hrd i hi (j + d) (by omega)
    exact ⟨u, by rw [← k1]; congr 1; omega⟩
  have hput := put_node hH ho hown hown' hnd hnd' hoth hn hsz (w' := w.setCells (ρ id p).b ((ρ id p).o + (i * nd.sz + j)) us) (by omega) (setCells_frame _ _ _ _) ⟨c', t0, hc1, hc2.trans hc0, by rw [hnty]; exact hty0⟩ (fun a ha b hbb => by
    obtain ⟨u, k1, k2, k3⟩ := hrd a ha b hbb
    rw [cell_of_row _ _ _ c' t0 (0, 0) hc1, hc3]
    have hsz0 : (ρ id p).o + (a * nd.sz + b) < c0.size := (Array.getElem?_eq_some_iff.1 k1).1
    have hce := hcell a b ha hbb
    by_cases hin : a = i ∧ j ≤ b ∧ b < j + us.length
    · rw [if_pos hin] at hce
      obtain ⟨rfl, hb1, hb2⟩ := hin
      rw [if_pos ⟨by omega, by omega, hsz0⟩]
      obtain ⟨x, x1, x2⟩ := hce
      exact ⟨x, by rw [← x1]; congr 1; omega, x2, h1 x (List.mem_of_getElem? x1)⟩
    · rw [if_neg hin] at hce
      have : ¬ ((ρ id p).o + (i * nd.sz + j) ≤ (ρ id p).o + (a * nd.sz + b) ∧ (ρ id p).o + (a * nd.sz + b) < (ρ id p).o + (i * nd.sz + j) + us.length ∧ (ρ id p).o + (a * nd.sz + b) < c0.size) := by
        rintro ⟨e1, e2, _⟩
        apply hin
        have hai : a = i := by
          rcases Nat.lt_trichotomy a i with hlt | rfl | hlt
          · have := Nat.mul_le_mul_right nd.sz (show a + 1 ≤ i by omega)
            rw [Nat.add_mul] at this
            omega
          · rfl
          · have := Nat.mul_le_mul_right nd.sz (show i + 1 ≤ a by omega)
            rw [Nat.add_mul] at this
            omega
        subst hai
        exact ⟨rfl, by omega, by omega⟩
      rw [if_neg this]
      exact ⟨u, k1, hce u k2, k3⟩)
  refine ⟨_, ?_, hput⟩
  obtain ⟨i0, z, hi0, hi1, _⟩ := (hT _ _ ht).info
  have hrun := run_storeCells_cells (P := P) (ρ id p).b ((ρ id p).o + (i * nd.sz + j)) us 0 w (fun d hd => by
      obtain ⟨u, hu⟩ := hwr d hd
      rw [cell_of_row w _ _ c0 t0 (0, 0) hb0]
      simp only [Nat.add_zero]
      rw [hu]; rfl) (fun d _ => frozen_of_row w _ _ c0 t0 hb0) h1
  simp only [Nat.add_zero] at hrun
  simp only [Instr.storeAt, Instr.sureAddr, storeVar, Sem.run_bind, Sem.run_pure, Result.andThen_ok, run_sizeOf hi0, hvv]
  rw [if_neg (by simp; omega)]
  simpa using hrun

/-! ### Rows of an object of rows -/
/-- A new row (none: the empty one) in the y-th place. -/
def rowIn (o : AObj) (y : Nat) (f : Option Flat) (K : AObj → Prop) : Prop :=
  match o with
  | .nestI own k xss => match f with
    | none => K (.nestI own k (xss.set y []))
    | some f => match f with
      | .ints k' xs => bif k == k' then K (.nestI own k (xss.set y xs)) else False
      | _ => False
  | .nestR2 own xss => match f with
    | none => K (.nestR2 own (xss.set y []))
    | some f => match f with
      | .r2 xs => K (.nestR2 own (xss.set y xs))
      | _ => False
  | .flat _ _ => False
  | .mp _ => False
  | .it _ _ _ => False
  | .nestH _ _ _ => False
theorem lgetD_set_ne {α : Type} (xs : List α) (i a : Nat) (x d : α) (h : a ≠ i) : (xs.set i x).getD a d = xs.getD a d := by
  simp [List.getD, List.getElem?_set, Ne.symm h]
theorem lgetD_set_eq {α : Type} (xs : List α) (i : Nat) (x d : α) (h : i < xs.length) : (xs.set i x).getD i d = x := by
  simp [List.getD, h]
theorem rowIn_spec {o : AObj} {y : Nat} {f : Option Flat} {K : AObj → Prop} (h : rowIn o y f K) : ∃ o', K o' ∧ o'.own = o.own ∧
    (∀ id id' q, q ≠ [y] → o'.node id q = o.node id' q) ∧ (∀ id nd, o'.node id [y] = some nd → match f with
      | none => nd.n = 0 ∧ 0 < nd.sz
      | some f => nd = f.node) ∧ (∀ id nd, o.node id [y] = some nd → ∃ nd', o'.node id [y] = some nd') := by
  cases o with
  | flat _ _ => exact h.elim
  | mp _ => exact h.elim
  | it _ _ _ => exact h.elim
  | nestH _ _ _ => exact h.elim
  | nestI own k xss =>
    simp only [rowIn] at h
    have hne : ∀ (zs : List Int) (id id' : Nat) (q : List Nat), q ≠ [y] → (AObj.nestI own k (xss.set y zs)).node id q = (AObj.nestI own k xss).node id' q := fun zs id id' q hq => by
      match q with
      | [] => rfl
      | [a] =>
        have ha : a ≠ y := fun e => hq (by rw [e])
        simp only [AObj.node, List.length_set, lgetD_set_ne _ _ _ _ _ ha]
      | _ :: _ :: _ => rfl
    have hex : ∀ (zs : List Int) (id : Nat) (nd : Node), (AObj.nestI own k xss).node id [y] = some nd → ∃ nd', (AObj.nestI own k (xss.set y zs)).node id [y] = some nd' := fun zs id nd hn => by
      simp only [AObj.node, List.length_set] at hn ⊢
      split at hn
      · next h => exact ⟨_, if_pos h⟩
      · cases hn
    have hat : ∀ (zs : List Int) (id : Nat) (nd : Node), (AObj.nestI own k (xss.set y zs)).node id [y] = some nd → nd = (Flat.ints k zs).node := fun zs id nd hn => by
      simp only [AObj.node, List.length_set] at hn
      split at hn
      · next h => injection hn with hn; rw [← hn, lgetD_set_eq _ _ _ _ h]
      · cases hn
    cases f with
    | none => exact ⟨_, h, rfl, hne [], fun id nd hn => by rw [hat [] id nd hn]; exact ⟨rfl, Nat.zero_lt_one⟩, hex []⟩
    | some f =>
      cases f <;> simp only at h
      rename_i k' xs
      cases hb : k == k' with
      | false => simp [hb] at h
      | true =>
        have : k = k' := by simpa using hb
        subst this
        simp only [beq_self_eq_true, cond_true] at h
        exact ⟨_, h, rfl, hne xs, fun id nd hn => hat xs id nd hn, hex xs⟩
  | nestR2 own xss =>
    simp only [rowIn] at h
    have hne : ∀ (zs : List R2) (id id' : Nat) (q : List Nat), q ≠ [y] → (AObj.nestR2 own (xss.set y zs)).node id q = (AObj.nestR2 own xss).node id' q := fun zs id id' q hq => by
      match q with
      | [] => rfl
      | [a] =>
        have ha : a ≠ y := fun e => hq (by rw [e])
        simp only [AObj.node, List.length_set, lgetD_set_ne _ _ _ _ _ ha]
      | _ :: _ :: _ => rfl
    have hex : ∀ (zs : List R2) (id : Nat) (nd : Node), (AObj.nestR2 own xss).node id [y] = some nd → ∃ nd', (AObj.nestR2 own (xss.set y zs)).node id [y] = some nd' := fun zs id nd hn => by
      simp only [AObj.node, List.length_set] at hn ⊢
      split at hn
      · next h => exact ⟨_, if_pos h⟩
      · cases hn
    have hat : ∀ (zs : List R2) (id : Nat) (nd : Node), (AObj.nestR2 own (xss.set y zs)).node id [y] = some nd → nd = (Flat.r2 zs).node := fun zs id nd hn => by
      simp only [AObj.node, List.length_set] at hn
      split at hn
      · next h => injection hn with hn; rw [← hn, lgetD_set_eq _ _ _ _ h]
      · cases hn
    cases f with
    | none => exact ⟨_, h, rfl, hne [], fun id nd hn => by rw [hat [] id nd hn]; exact ⟨rfl, Nat.zero_lt_two⟩, hex []⟩
    | some f =>
      cases f <;> simp only at h
      rename_i xs
      exact ⟨_, h, rfl, hne xs, fun id nd hn => hat xs id nd hn, hex xs⟩
/-- An object of rows has no other nodes. -/
def AObj.nest : AObj → Bool
  | .flat _ _ => false
  | .mp _ => false
  | .it _ _ _ => false
  | _ => true
theorem nest_plain {o : AObj} (h : o.nest = true) : o.plain = true := by cases o <;> first | rfl | cases h
theorem nest_nodes {o : AObj} (h : o.nest = true) : ∀ id q nd, o.node id q = some nd → ∃ a, q = [a] := by
  intro id q nd hn
  cases o with
  | flat _ _ => cases h
  | mp _ => cases h
  | it _ _ _ => cases h
  | nestH _ _ _ =>
    match q with
    | [] => simp [AObj.node] at hn
    | [a] => exact ⟨a, rfl⟩
    | _ :: _ :: _ => simp [AObj.node] at hn
  | nestI _ _ _ =>
    match q with
    | [] => simp [AObj.node] at hn
    | [a] => exact ⟨a, rfl⟩
    | _ :: _ :: _ => simp [AObj.node] at hn
  | nestR2 _ _ =>
    match q with
    | [] => simp [AObj.node] at hn
    | [a] => exact ⟨a, rfl⟩
    | _ :: _ :: _ => simp [AObj.node] at hn
theorem rowIn_nest {o : AObj} {y : Nat} {f : Option Flat} {K : AObj → Prop} (h : rowIn o y f K) : rowIn o y f fun o' => K o' ∧ o'.nest = true := by
  cases o with
  | flat _ _ => exact h.elim
  | mp _ => exact h.elim
  | it _ _ _ => exact h.elim
  | nestH _ _ _ => exact h.elim
  | nestI own k xss =>
    simp only [rowIn] at h ⊢
    cases f with
    | none => exact ⟨h, rfl⟩
    | some f =>
      cases f <;> simp only at h ⊢
      rename_i k' xs
      cases hb : k == k' with
      | false => simp [hb] at h
      | true => simp only [hb, cond_true] at h ⊢; exact ⟨h, rfl⟩
  | nestR2 own xss =>
    simp only [rowIn] at h ⊢
    cases f with
    | none => exact ⟨h, rfl⟩
    | some f =>
      cases f <;> simp only at h ⊢
      exact ⟨h, rfl⟩

end
end Go.Sx

/-
  Slices of slices: the effects (a row stored, a cell of a row stored, make, a literal, append).
-/
namespace Go.Sx
set_option linter.unusedVariables false
set_option linter.unusedSimpArgs false
open Go
open Go.RowKit

section
variable {P : Program} {T : Tbl} {ρ : Rho} {N : Nat} {G : Heap} {w : World}

theorem hdel_sub (G : Heap) (id : Nat) : ∀ i o, hget (hdel G id) i = some o → hget G i = some o := fun i o h => by
  rw [hget_hdel] at h
  split at h
  · cases h
  · exact h
theorem hdel_none (G : Heap) (id : Nat) : hget (hdel G id) id = none := by rw [hget_hdel, if_pos rfl]
theorem hdel_ne {G : Heap} {id i : Nat} (h : i ≠ id) : hget (hdel G id) i = hget G i := by rw [hget_hdel, if_neg h]

/-! ### A row that is stored -/
def rowSrc (G : Heap) (v : AV) (K : Option Nat → Option Flat → Prop) : Prop :=
  match v with
  | .nilsl => K none none
  | .sl r p => match p with
    | [] => match hget G r with
      | some o => match o with
        | .flat own f => match own with
          | true => K (some r) (some f)
          | false => False
        | _ => False
      | none => False
    | _ :: _ => False
  | _ => False
def hdelO (G : Heap) (r : Option Nat) (K : Heap → Prop) : Prop :=
  match r with
  | none => K G
  | some r => hdelK G r K
theorem rowSrc_spec {v : AV} {K : Option Nat → Option Flat → Prop} (h : rowSrc G v K) : (v = .nilsl ∧ K none none) ∨ ∃ r f, v = .sl r [] ∧ hget G r = some (.flat true f) ∧ K (some r) (some f) := by
  unfold rowSrc at h
  split at h
  · exact .inl ⟨rfl, h⟩
  · split at h
    · split at h
      · split at h
        · split at h
          · rename_i r _ o ho own f
            exact .inr ⟨_, _, rfl, ‹_›, h⟩
          · exact h.elim
        · exact h.elim
      · exact h.elim
    · exact h.elim
  · exact h.elim

/-- The blocks of an object of rows in which one row is another one. -/
def rowB (ρ : Rho) (M i : Nat) (r : Option Nat) (sz : Nat) : List Nat → Blk
  | [a] => if a = i then (match r with
    | some r => ρ r []
    | none => ⟨0, 0, sz, 0, 0⟩) else ρ M [a]
  | _ => ⟨0, 0, sz, 0, 0⟩
def rowS (M i : Nat) (r : Option Nat) : List Nat → Option (Nat × List Nat)
  | [a] => if a = i then r.map (fun r => (r, [])) else some (M, [a])
  | _ => none

theorem rowIn_rows {o : AObj} {y M off n : Nat} {K : AObj → Prop} (h : rowIn o y (some (.rows M off n)) K) : False := by
  cases o <;> exact h

def eStoreX (T : Tbl) (t : Nat) (p v : AV) (N : Nat) (G : Heap) (K : AV → Nat → Heap → Prop) : Prop :=
  match p with
  | .ptr id pth i j => match hget G id with
    | some o => match pth with
      | [] => match o with
        | .flat own f => match f with
          | .rows M off n => match tget T t with
            | some ti => bif own && Nat.beq ti.size 1 && Nat.beq off 0 && Nat.beq j 0 then match hget G M with
              | some o => bif o.own && o.nest then rowSrc G v fun r f => rowIn o i f fun o' => hdelK G M fun G1 => hdelO G1 r fun G2 => need (some (i < n)) (K .top (N + 1) (hset ((N, o') :: G2) id (.flat true (.rows N 0 n)))) else False
              | none => False
              else False
            | none => False
          | _ => eStore T t p v N G K
        | _ => False
      | y :: q => match q with
        | [] => match tget T t with
          | some ti => bif o.own then nodeV o id [y] fun C V => match V with
            | .fl f => cellsK v fun cs => bif Nat.beq cs.length ti.size then f.setK i j cs fun C2 f' => rowIn o y (some f') fun o' => need C (need C2 (K .top N (hset G id o'))) else False
            else False
          | none => False
        | _ :: _ => False
    | none => False
  | _ => False

theorem eStoreX_sound (hT : TblOK P T) (hH : HeapRep ρ N G w) {t : Nat} {p v : AV} {K : AV → Nat → Heap → Prop} (h : eStoreX T t p v N G K) {pv vv : Value} (hp : VR ρ N p pv) (hv : VR ρ N v vv) :
    ∃ w', (Instr.storeAt t pv vv).run P w = .ok () w' ∧ Out ρ N G w K undef w' := by
  unfold eStoreX at h
  split at h
  case h_2 => exact h.elim
  rename_i id pth i j
  split at h
  case h_2 => exact h.elim
  rename_i o ho
  split at h
  · split at h
    case h_2 => exact h.elim
    rename_i own f
    split at h
    case h_2 => exact eStore_sound hT hH h hp hv
    rename_i M off n
    split at h
    case h_2 => exact h.elim
    rename_i ti ht
    cases hb : (own && Nat.beq ti.size 1 && Nat.beq off 0 && Nat.beq j 0) with
    | false => simp [hb] at h
    | true =>
      simp only [hb, cond_true] at h
      simp only [Bool.and_eq_true, Nat.beq_eq] at hb
      obtain ⟨⟨⟨rfl, hts⟩, rfl⟩, rfl⟩ := hb
      split at h
      case h_2 => exact h.elim
      rename_i o hM
      cases hb : (o.own && o.nest) with
      | false => simp [hb] at h
      | true =>
        simp only [hb, cond_true] at h
        simp only [Bool.and_eq_true] at hb
        obtain ⟨hown, hnest⟩ := hb
        have hidM : id ≠ M := fun e => by subst e; rw [ho] at hM; injection hM with hM; subst hM; cases hnest
        have hidN := hH.keys _ _ ho
        have hMN := hH.keys _ _ hM
        simp only [VR] at hp
        obtain ⟨_, hp⟩ := hp
        -- the two kinds of rows alike
        have main : ∀ (r : Option Nat) (f : Option Flat), (∀ rr, r = some rr → ∃ ff, f = some ff ∧ hget G rr = some (.flat true ff) ∧ rr ≠ id) → (r = none → f = none) →
            (∀ ρ' : Rho, (∀ x, x < N → ρ' x = ρ x) → (∀ sz, ρ' N [i] = rowB ρ M i r sz [i] → VR ρ' (N + 1) (.sl N [i]) vv)) → vv.cells = #[vv] → vv.oneCell' = true →
            (rowIn o i f fun o' => hdelK G M fun G1 => hdelO G1 r fun G2 => need (some (i < n)) (K .top (N + 1) (hset ((N, o') :: G2) id (.flat true (.rows N 0 n))))) →
            ∃ w', (Instr.storeAt t pv vv).run P w = .ok () w' ∧ Out ρ N G w K undef w' := fun r f hr hrn hval hcl hone hh => by
          obtain ⟨o', ⟨hk, hnest'⟩, hown', hoth, hat, _⟩ := rowIn_spec (rowIn_nest hh)
          have hk := hdelK_eq _ _ _ hk
          obtain ⟨G2, hG2, hsub, hM0, hr0, hid0⟩ : ∃ G2, (need (some (i < n)) (K .top (N + 1) (hset ((N, o') :: G2) id (.flat true (.rows N 0 n))))) ∧ (∀ a x, hget G2 a = some x → hget G a = some x) ∧ hget G2 M = none ∧ (∀ rr, r = some rr → hget G2 rr = none) ∧ hget G2 id = hget G id := by
            cases r with
            | none => exact ⟨_, hk, hdel_sub G M, hdel_none G M, (by simp), hdel_ne hidM⟩
            | some rr =>
              refine ⟨_, hdelK_eq _ _ _ hk, fun a x hx => hdel_sub G M a x (hdel_sub _ rr a x hx), ?_, ?_, ?_⟩
              · rw [hget_hdel]; split
                · rfl
                · exact hdel_none G M
              · intro r' e; injection e with e; subst e; exact hdel_none _ _
              · obtain ⟨_, _, _, hne⟩ := hr rr rfl
                rw [hdel_ne (Ne.symm hne), hdel_ne hidM]
          obtain ⟨hc, hK⟩ := need_spec hG2
          simp only [Cnd.holds] at hc
          have htake := hH.take hsub (o := o') (hown'.trans hown) (nest_plain hnest') (rowB ρ M i r (((o'.node N [i]).map (·.sz)).getD 1)) (rowS M i r) (fun q nd hq => by
            obtain ⟨a, rfl⟩ := nest_nodes hnest' N q nd hq
            by_cases ha : a = i
            · subst ha
              have h4 := hat N nd hq
              simp only [rowS, rowB, if_true]
              cases r with
              | none =>
                have hfn := hrn rfl
                subst hfn
                simp only at h4
                refine .inl ⟨rfl, h4.1, h4.2, ?_⟩
                simp [hq]
              | some rr =>
                obtain ⟨ff, rfl, hrr, _⟩ := hr rr rfl
                simp only at h4
                subst h4
                exact .inr ⟨rr, [], rfl, NodeAt.of_get hrr rfl, hr0 rr rfl, rfl⟩
            · simp only [rowS, rowB, if_neg ha]
              refine .inr ⟨M, [a], rfl, ⟨⟨o, hM, ?_, hown⟩⟩, hM0, rfl⟩
              rw [← hoth N M [a] (by simpa using ha)]
              exact hq) (fun q q' x h1 h2 => by
            match q, q' with
            | [a], [b] =>
              simp only [rowS] at h1 h2
              split at h1 <;> split at h2
              · subst_vars; rfl
              · cases r with
                | none => cases h1
                | some rr =>
                  simp only [Option.map_some, Option.some.injEq] at h1 h2
                  rw [← h1] at h2
                  simp at h2
              · cases r with
                | none => cases h2
                | some rr =>
                  simp only [Option.map_some, Option.some.injEq] at h1 h2
                  rw [← h1] at h2
                  simp at h2
              · simp only [Option.some.injEq] at h1 h2
                rw [← h1] at h2
                simp only [Prod.mk.injEq, List.cons.injEq, and_true, true_and] at h2
                rw [h2]
            | [], _ => simp [rowS] at h1
            | _ :: _ :: _, _ => simp [rowS] at h1
            | [_], [] => simp [rowS] at h2
            | [_], _ :: _ :: _ => simp [rowS] at h2)
          obtain ⟨hH1, hO1⟩ := htake
          have hρ := updR_lt ρ N (rowB ρ M i r (((o'.node N [i]).map (·.sz)).getD 1))
          have hid1 : hget ((N, o') :: G2) id = some (.flat true (.rows M 0 n)) := by
            rw [hget_cons, if_neg (by omega), hid0, ho]
          obtain ⟨s1, s2, s3⟩ := hH.shape id [] (Flat.node (.rows M 0 n)) true (NodeAt.of_get ho rfl)
          obtain ⟨w', hrun, q1, q2, q3⟩ := store_node hT hH1 ht hid1 rfl (o' := .flat true (.rows N 0 n)) rfl (p := []) (nd := Flat.node (.rows M 0 n)) rfl (nd' := Flat.node (.rows N 0 n)) rfl (fun q hq => by
              cases q with
              | nil => exact absurd rfl hq
              | cons _ _ => rfl) rfl rfl rfl (i := i) (j := 0) (us := [vv]) (vv := vv) hcl (by rw [hts]; rfl) (by simpa [Flat.node, Flat.n] using hc) (by simp [Flat.node, Flat.sz]) (by simpa using hone) (fun a b ha hbb => by
              simp only [Flat.node, Flat.sz, Flat.n, Flat.cell, offs] at ha hbb ⊢
              by_cases hai : a = i
              · subst hai
                obtain rfl : b = 0 := by omega
                rw [if_pos ⟨rfl, by omega, by simp⟩]
                exact ⟨vv, rfl, hval _ hρ _ (updR_at _ _ _ _)⟩
              · rw [if_neg (by omega)]
                intro u hu
                simp only [VR] at hu ⊢
                rw [hρ M hMN] at hu
                refine ⟨Nat.lt_succ_self N, ?_⟩
                rw [updR_at]
                simp only [rowB, if_neg hai]
                exact hu.2)
          refine ⟨w', ?_, Out.ghost (Nat.le_succ N) hρ hO1 ⟨⟨.top, _, N + 1, _, hK, by simp only [VR], q1, Nat.le_refl _, fun _ _ => rfl, q2, fun b hb => .inr (q3 b hb)⟩⟩⟩
          rw [hp]
          rw [hρ id hidN] at hrun
          simp only [Flat.node, Flat.sz] at hrun s1
          rw [s1]
          exact hrun
        rcases rowSrc_spec h with ⟨rfl, h⟩ | ⟨r, f, rfl, hr, h⟩
        · simp only [VR] at hv
          subst hv
          exact main none none (by simp) (fun _ => rfl) (fun ρ' _ sz e => by
            simp only [VR]
            refine ⟨Nat.lt_succ_self N, none, 0, ?_, ?_⟩
            · rw [e]; simp [rowB]
            · rw [e]; simp only [rowB, if_true]; exact .inr ⟨rfl, rfl⟩) rfl rfl h
        · simp only [VR] at hv
          obtain ⟨hrN, A, c, rfl, hsl⟩ := hv
          refine main (some r) (some f) (fun rr e => ?_) (by simp) (fun ρ' _ sz e => ?_) rfl rfl h
          · injection e with e
            subst e
            refine ⟨f, rfl, hr, fun e => ?_⟩
            subst e
            rw [ho] at hr
            injection hr with hr
            injection hr with _ hr
            subst hr
            exact rowIn_rows h
          · simp only [VR]
            refine ⟨Nat.lt_succ_self N, A, c, ?_, ?_⟩
            · rw [e]; simp [rowB]
            · rw [e]; simp only [rowB, if_true]; exact hsl
  · rename_i y q
    split at h
    case h_2 => exact h.elim
    split at h
    case h_2 => exact h.elim
    rename_i ti ht
    cases hown : o.own with
    | false => simp [hown] at h
    | true =>
      simp only [hown, cond_true] at h
      obtain ⟨C, V, h, hn⟩ := nodeV_spec h
      obtain ⟨f⟩ := V
      simp only at h
      obtain ⟨cs, us, h, hcells, hus, h1⟩ := cellsK_spec h hv
      cases hb : Nat.beq cs.length ti.size with
      | false => simp [hb] at h
      | true =>
        simp only [hb, cond_true] at h
        have hb := Nat.eq_of_beq_eq_true hb
        obtain ⟨C2, f', h, hset⟩ := setK_spec h
        obtain ⟨o', h, hown', hoth, hat, hex⟩ := rowIn_spec h
        obtain ⟨hC, h⟩ := need_spec h
        obtain ⟨hC2, hK⟩ := need_spec h
        have hs := hset hC2
        have hnd := hn hC
        simp only [NV.node] at hnd
        have hl := hus.length
        obtain ⟨nd', hnd'⟩ := hex id _ hnd
        have he := hat id nd' hnd'
        simp only at he
        subst he
        obtain ⟨sh1, sh2, sh3⟩ := hH.shape id [y] _ true ⟨⟨o, ho, hnd, hown⟩⟩
        simp only [VR] at hp
        obtain ⟨hidN, hp⟩ := hp
        obtain ⟨w', hrun, q1, q2, q3⟩ := store_node hT hH ht ho hown (hown'.trans hown) hnd hnd' (fun q hq => hoth id id q hq) hs.n hs.sz hs.ty hcells (by omega) hs.hi (by rw [hl]; exact hs.hj) h1 (fun a b ha hbb => by
          have hc := hs.cell a b ha hbb
          simp only [Flat.node]
          rw [hl]
          rcases hc with hc | hc
          · by_cases hin : a = i ∧ j ≤ b ∧ b < j + cs.length
            · rw [if_pos hin] at hc ⊢
              rw [hc]
              exact hus.get (b - j) (by omega)
            · rw [if_neg hin] at hc ⊢
              rw [hc]
              exact fun u hu => hu
          · rw [hc]
            by_cases hin : a = i ∧ j ≤ b ∧ b < j + cs.length
            · rw [if_pos hin]
              obtain ⟨u, x1, _⟩ := hus.get (b - j) (by omega)
              exact ⟨u, x1, by simp only [VR]⟩
            · rw [if_neg hin]
              exact fun u _ => by simp only [VR])
        refine ⟨w', ?_, ⟨⟨.top, ρ, N, _, hK, by simp only [VR], q1, Nat.le_refl _, fun _ _ => rfl, q2, fun b hb => .inr (q3 b hb)⟩⟩⟩
        rw [hp, sh1]
        exact hrun

/-! ### make -/
def EK.isNest : EK → Bool
  | .nestI _ => true
  | .nestR2 => true
  | .nestH => true
  | _ => false
def EK.nest0 (k : EK) (n : Nat) (K : AObj → Prop) : Prop :=
  match k with
  | .nestI k => K (.nestI true k (List.replicate n []))
  | .nestR2 => K (.nestR2 true (List.replicate n []))
  | _ => False
theorem nest0_spec {k : EK} {n : Nat} {K : AObj → Prop} (h : k.nest0 n K) : ∃ o, K o ∧ o.own = true ∧ k ≠ .other ∧ k.zero = [.nilsl] ∧ (∀ id p nd, o.node id p = some nd → nd.n = 0 ∧ 0 < nd.sz) ∧ o.nest = true := by
  have key : ∀ {α : Type} (y : Nat), (List.replicate n ([] : List α)).getD y [] = [] := fun y => by
    simp only [List.getD, List.getElem?_replicate]; split <;> rfl
  unfold EK.nest0 at h
  split at h
  · refine ⟨_, h, rfl, by simp, rfl, fun id p nd hn => ?_, rfl⟩
    obtain ⟨a, rfl⟩ := nest_nodes (o := .nestI true _ _) rfl id p nd hn
    simp only [AObj.node, key] at hn
    split at hn
    · injection hn with hn; subst hn; exact ⟨rfl, Nat.zero_lt_one⟩
    · cases hn
  · refine ⟨_, h, rfl, by simp, rfl, fun id p nd hn => ?_, rfl⟩
    obtain ⟨a, rfl⟩ := nest_nodes (o := .nestR2 true _) rfl id p nd hn
    simp only [AObj.node, key] at hn
    split at hn
    · injection hn with hn; subst hn; exact ⟨rfl, Nat.zero_lt_two⟩
    · cases hn
  · exact h.elim
def eMakeX (T : Tbl) (lk : Operand → AV) (t : Nat) (xl xc : Operand) (N : Nat) (G : Heap) (K : AV → Nat → Heap → Prop) : Prop :=
  match tget T t with
  | some ti => match ti.d with
    | .slice _ _ _ k => match k.isNest with
      | false => eMake T lk t xl xc N G K
      | true => match sameOpd xl xc with
        | true => match lk xl with
          | .int _ l => k.nest0 l.toNat fun o => need (some (0 ≤ l ∧ l ≤ 1099511627776)) (K (.sl (N + 1) []) (N + 1 + 1) ((N + 1, .flat true (.rows N 0 l.toNat)) :: (N, o) :: G))
          | _ => False
        | false => False
    | _ => False
  | none => False
theorem eMakeX_sound {lk : Operand → AV} {ev : Operand → Value} (hT : TblOK P T) (hH : HeapRep ρ N G w) (hlk : ∀ x, VR ρ N (lk x) (ev x)) {t : Nat} {xl xc : Operand} {K : AV → Nat → Heap → Prop} (hev : ∀ a b, sameOpd a b = true → ev a = ev b)
    (h : eMakeX T lk t xl xc N G K) : ∃ v w', (Instr.makeSlice t (ev xl) (ev xc)).run P w = .ok v w' ∧ Out ρ N G w K v w' := by
  unfold eMakeX at h
  split at h
  case h_2 => exact h.elim
  rename_i ti ht
  split at h
  case h_2 => exact h.elim
  rename_i e esz eb k hd1
  split at h
  case h_1 => exact eMake_sound hT hH hlk hev h
  split at h
  case h_2 => exact h.elim
  rename_i hsame
  split at h
  case h_2 => exact h.elim
  rename_i kk l hx
  have hvl := hlk xl
  rw [hx] at hvl
  simp only [VR] at hvl
  obtain ⟨o, h, hown, hko, hkz, hnd, hN0⟩ := nest0_spec h
  obtain ⟨hc, hK⟩ := need_spec h
  obtain ⟨h0, h1⟩ : 0 ≤ l ∧ l ≤ 1099511627776 := hc
  obtain ⟨hH1, hO1⟩ := hH.take (fun _ _ h => h) (o := o) hown (nest_plain hN0) (fun p => ⟨0, 0, ((o.node N p).map (·.sz)).getD 1, 0, 0⟩) (fun _ => none) (fun p nd hp => .inl ⟨rfl, (hnd N p nd hp).1, (hnd N p nd hp).2, by simp [hp]⟩) (fun _ _ _ h => by cases h)
  have hρ := updR_lt ρ N (fun p => ⟨0, 0, ((o.node N p).map (·.sz)).getD 1, 0, 0⟩)
  rw [← hev xl xc hsame, hvl]
  obtain ⟨v, w', hrun, hout⟩ := make_core hT hH1 ht hd1 hko (kk := kk) h0 h1 (f := .rows N 0 l.toNat) rfl (by rw [hkz]; rfl) (fun i j u hi hj hu => by
    simp only [Flat.sz] at hj
    obtain rfl : j = 0 := by omega
    rw [hkz] at hu
    simp only [List.getD_cons_zero, VR] at hu
    subst hu
    simp only [Flat.cell, VR, updR_at]
    exact ⟨Nat.lt_succ_self N, none, 0, rfl, .inr ⟨rfl, rfl⟩⟩) hK
  exact ⟨v, w', hrun, Out.ghost (Nat.le_succ N) hρ hO1 hout⟩

end
end Go.Sx

/-
  Slices of slices: a literal, append.
-/
namespace Go.Sx
set_option linter.unusedVariables false
set_option linter.unusedSimpArgs false
open Go
open Go.RowKit

section
variable {P : Program} {T : Tbl} {ρ : Rho} {N : Nat} {G : Heap} {w : World}

/-! ### A literal -/
def selI (k : IntKind) (f : Flat) : Option (List Int) :=
  match f with
  | .ints k' xs => bif k == k' then some xs else none
  | _ => none
def selR2 (f : Flat) : Option (List R2) :=
  match f with
  | .r2 xs => some xs
  | _ => none
def litG {α : Type} (sel : Flat → Option (List α)) : List (List AV) → Heap → (List (List α) → List (Option Nat) → Heap → Prop) → Prop
  | [], G, K => K [] [] G
  | c :: r, G, K => match c with
    | [] => False
    | v :: q => match q with
      | [] => rowSrc G v fun id f => match f with
        | none => litG sel r G fun xss rs G' => K ([] :: xss) (none :: rs) G'
        | some f => match sel f with
          | some xs => hdelO G id fun G1 => litG sel r G1 fun xss rs G' => K (xs :: xss) (id :: rs) G'
          | none => False
      | _ :: _ => False
/-- What stands in one place of a literal. -/
def LitAt {α : Type} (sel : Flat → Option (List α)) (G Gd : Heap) (v : List AV) (xs : List α) (id : Option Nat) : Prop :=
  match id with
  | none => v = [.nilsl] ∧ xs = []
  | some r => v = [.sl r []] ∧ hget Gd r = none ∧ ∃ f, hget G r = some (.flat true f) ∧ sel f = some xs
theorem litG_spec {α : Type} {sel : Flat → Option (List α)} : ∀ {rows : List (List AV)} {G : Heap} {K : List (List α) → List (Option Nat) → Heap → Prop}, litG sel rows G K →
    ∃ xss rs Gd, K xss rs Gd ∧ xss.length = rows.length ∧ rs.length = rows.length ∧ (∀ i o, hget Gd i = some o → hget G i = some o) ∧
      (∀ a, a < rows.length → LitAt sel G Gd (rows.getD a []) (xss.getD a []) (rs.getD a none)) ∧ ∀ a b id, rs.getD a none = some id → rs.getD b none = some id → a = b
  | [], G, K, h => ⟨[], [], G, h, rfl, rfl, fun _ _ h => h, by simp, by simp⟩
  | c :: r, G, K, h => by
    simp only [litG] at h
    split at h
    · exact h.elim
    · rename_i v q
      split at h
      · rcases rowSrc_spec h with ⟨rfl, h⟩ | ⟨id, f, rfl, hr, h⟩
        · obtain ⟨xss, rs, Gd, hK, e1, e2, e3, e4, e5⟩ := litG_spec h
          refine ⟨[] :: xss, none :: rs, Gd, hK, by simp [e1], by simp [e2], e3, fun a ha => ?_, fun a b id h1 h2 => ?_⟩
          · cases a with
            | zero => exact ⟨rfl, rfl⟩
            | succ a => exact e4 a (by simpa using ha)
          · cases a with
            | zero => cases h1
            | succ a =>
              cases b with
              | zero => cases h2
              | succ b => rw [e5 a b id h1 h2]
        · simp only at h
          split at h
          case h_2 => exact h.elim
          rename_i xs hsel
          have h := hdelK_eq _ _ _ h
          obtain ⟨xss, rs, Gd, hK, e1, e2, e3, e4, e5⟩ := litG_spec h
          have hne : ∀ a id', a < r.length → rs.getD a none = some id' → id' ≠ id := fun a id' ha he => by
            have := e4 a ha
            rw [he] at this
            obtain ⟨_, _, f', hf', _⟩ := this
            intro e
            subst e
            rw [hdel_none] at hf'
            cases hf'
          have hlt : ∀ a id', rs.getD a none = some id' → a < r.length := fun a id' he => by
            rcases Nat.lt_or_ge a r.length with h | h
            · exact h
            · rw [List.getD, List.getElem?_eq_none (by omega)] at he; cases he
          refine ⟨xs :: xss, some id :: rs, Gd, hK, by simp [e1], by simp [e2], fun i o h => hdel_sub G id i o (e3 i o h), fun a ha => ?_, fun a b id' h1 h2 => ?_⟩
          · cases a with
            | zero =>
              refine ⟨rfl, ?_, f, hr, hsel⟩
              cases hh : hget Gd id with
              | none => rfl
              | some o => have := e3 _ _ hh; rw [hdel_none] at this; cases this
            | succ a =>
              have := e4 a (by simpa using ha)
              simp only [List.getD_cons_succ]
              cases hrs : rs.getD a none with
              | none => rw [hrs] at this; exact this
              | some id' =>
                rw [hrs] at this
                obtain ⟨q1, q2, f', q3, q4⟩ := this
                exact ⟨q1, q2, f', hdel_sub G id _ _ q3, q4⟩
          · cases a with
            | zero =>
              cases b with
              | zero => rfl
              | succ b =>
                simp only [List.getD_cons_zero, List.getD_cons_succ] at h1 h2
                injection h1 with h1
                exact absurd h1.symm (hne b id' (hlt b id' h2) h2)
            | succ a =>
              cases b with
              | zero =>
                simp only [List.getD_cons_zero, List.getD_cons_succ] at h1 h2
                injection h2 with h2
                exact absurd h2.symm (hne a id' (hlt a id' h1) h1)
              | succ b => rw [e5 a b id' h1 h2]
      · exact h.elim
/-- One slice of rows, or none, in a slice of slices of rows. -/
def litH (N0 : Nat) (rows : List (List AV)) (G : Heap) (K : AObj → Nat → List (Option Nat) → Heap → Prop) : Prop :=
  match rows with
  | [] => K (.nestH true (Nat.sub N0 1) []) 0 [] G
  | c :: r => match c with
    | [] => False
    | v :: q => match q with
      | _ :: _ => False
      | [] => match r with
        | _ :: _ => False
        | [] => match v with
          | .sl h p => match p with
            | _ :: _ => False
            | [] => match hget G h with
              | none => False
              | some o => match o with
                | .flat own f => match own with
                  | false => False
                  | true => match f with
                    | .rows M off n => hdelO G (some h) fun Gd => K (.nestH true M [(off, n)]) 1 [some h] Gd
                    | _ => False
                | _ => False
          | _ => False
theorem litH_spec {N0 : Nat} {rows : List (List AV)} {G : Heap} {K : AObj → Nat → List (Option Nat) → Heap → Prop} (h : litH N0 rows G K) :
    (rows = [] ∧ K (.nestH true (N0 - 1) []) 0 [] G) ∨ ∃ r M off n, rows = [[.sl r []]] ∧ hget G r = some (.flat true (.rows M off n)) ∧ K (.nestH true M [(off, n)]) 1 [some r] (hdel G r) := by
  unfold litH at h
  split at h
  · exact .inl ⟨rfl, h⟩
  split at h
  · exact h.elim
  split at h
  · exact h.elim
  split at h
  · exact h.elim
  split at h
  case h_2 => exact h.elim
  split at h
  · exact h.elim
  split at h
  · exact h.elim
  rename_i ho
  split at h
  case h_2 => exact h.elim
  split at h
  · exact h.elim
  split at h
  case h_2 => exact h.elim
  exact .inr ⟨_, _, _, _, rfl, ho, hdelK_eq _ _ _ h⟩
def litK (k : EK) (N0 : Nat) (rows : List (List AV)) (G : Heap) (K : AObj → Nat → List (Option Nat) → Heap → Prop) : Prop :=
  match k with
  | .nestI k => litG (selI k) rows G fun xss rs Gd => K (.nestI true k xss) xss.length rs Gd
  | .nestR2 => litG selR2 rows G fun xss rs Gd => K (.nestR2 true xss) xss.length rs Gd
  | .nestH => litH N0 rows G K
  | _ => False
theorem litK_spec {k : EK} {N0 : Nat} {rows : List (List AV)} {G : Heap} {K : AObj → Nat → List (Option Nat) → Heap → Prop} (h : litK k N0 rows G K) :
    ∃ o rs Gd, K o rows.length rs Gd ∧ o.own = true ∧ o.nest = true ∧ k ≠ .other ∧ k.zero = [.nilsl] ∧ rs.length = rows.length ∧ (∀ i o, hget Gd i = some o → hget G i = some o) ∧
      (∀ id a nd, o.node id [a] = some nd → a < rows.length ∧ match rs.getD a none with
        | none => rows.getD a [] = [.nilsl] ∧ nd.n = 0 ∧ 0 < nd.sz
        | some r => rows.getD a [] = [.sl r []] ∧ hget Gd r = none ∧ ∃ f, hget G r = some (.flat true f) ∧ nd = f.node) ∧
      (∀ id a, a < rows.length → ∃ nd, o.node id [a] = some nd) ∧ ∀ a b id, rs.getD a none = some id → rs.getD b none = some id → a = b := by
  unfold litK at h
  split at h
  case h_4 => exact h.elim
  case h_3 =>
    rcases litH_spec h with ⟨rfl, h⟩ | ⟨r, M, off, n, rfl, hr, h⟩
    · exact ⟨_, [], G, h, rfl, rfl, by simp, rfl, rfl, fun _ _ h => h, fun id a nd hn => by simp [AObj.node] at hn, fun id a ha => by simp at ha, fun a b id h1 => by simp at h1⟩
    · refine ⟨_, [some r], hdel G r, h, rfl, rfl, by simp, rfl, rfl, fun i o h => hdel_sub G r i o h, fun id a nd hn => ?_, fun id a ha => ?_, fun a b id h1 h2 => ?_⟩
      · simp only [AObj.node, List.length_singleton] at hn
        split at hn
        case isFalse => cases hn
        rename_i ha
        obtain rfl : a = 0 := by omega
        injection hn with hn
        refine ⟨by simp, ?_⟩
        simp only [List.getD_cons_zero]
        exact ⟨trivial, hdel_none G r, _, hr, hn.symm⟩
      · simp only [List.length_singleton] at ha
        obtain rfl : a = 0 := by omega
        exact ⟨_, rfl⟩
      · have key : ∀ a id, ([some r] : List (Option Nat)).getD a none = some id → a = 0 := fun a id h => by
          cases a with
          | zero => rfl
          | succ a => simp at h
        rw [key a id h1, key b id h2]
  case h_1 =>
    rename_i k
    obtain ⟨xss, rs, Gd, hK, e1, e2, e3, e4, e5⟩ := litG_spec h
    rw [e1] at hK
    refine ⟨_, rs, Gd, hK, rfl, rfl, by simp, rfl, e2, e3, fun id a nd hn => ?_, fun id a ha => ⟨_, if_pos (by omega)⟩, e5⟩
    simp only [AObj.node] at hn
    split at hn
    case isFalse => cases hn
    rename_i ha
    injection hn with hn
    have h4 := e4 a (by omega)
    refine ⟨by omega, ?_⟩
    cases hrs : rs.getD a none with
    | none =>
      rw [hrs] at h4
      obtain ⟨q1, q2⟩ := h4
      rw [q2] at hn
      subst hn
      exact ⟨q1, rfl, Nat.zero_lt_one⟩
    | some r =>
      rw [hrs] at h4
      obtain ⟨q1, q2, f, q3, q4⟩ := h4
      refine ⟨q1, q2, f, q3, ?_⟩
      cases f <;> simp only [selI, reduceCtorEq] at q4
      rename_i k' ys
      cases hb : k == k' with
      | false => simp [hb] at q4
      | true =>
        have : k = k' := by simpa using hb
        subst this
        simp only [beq_self_eq_true, cond_true, Option.some.injEq] at q4
        rw [← hn, ← q4]
  case h_2 =>
    obtain ⟨xss, rs, Gd, hK, e1, e2, e3, e4, e5⟩ := litG_spec h
    rw [e1] at hK
    refine ⟨_, rs, Gd, hK, rfl, rfl, by simp, rfl, e2, e3, fun id a nd hn => ?_, fun id a ha => ⟨_, if_pos (by omega)⟩, e5⟩
    simp only [AObj.node] at hn
    split at hn
    case isFalse => cases hn
    rename_i ha
    injection hn with hn
    have h4 := e4 a (by omega)
    refine ⟨by omega, ?_⟩
    cases hrs : rs.getD a none with
    | none =>
      rw [hrs] at h4
      obtain ⟨q1, q2⟩ := h4
      rw [q2] at hn
      subst hn
      exact ⟨q1, rfl, Nat.zero_lt_two⟩
    | some r =>
      rw [hrs] at h4
      obtain ⟨q1, q2, f, q3, q4⟩ := h4
      refine ⟨q1, q2, f, q3, ?_⟩
      cases f <;> simp only [selR2, reduceCtorEq, Option.some.injEq] at q4
      rw [← hn, ← q4]

def litB (ρ : Rho) (rs : List (Option Nat)) (sz : Nat) : List Nat → Blk
  | [a] => match rs.getD a none with
    | some r => ρ r []
    | none => ⟨0, 0, sz, 0, 0⟩
  | _ => ⟨0, 0, sz, 0, 0⟩
def litS (rs : List (Option Nat)) : List Nat → Option (Nat × List Nat)
  | [a] => (rs.getD a none).map fun r => (r, [])
  | _ => none

def eBuildX (T : Tbl) (lk : Operand → AV) (t len : Nat) (parts : List (Nat × Operand)) (N : Nat) (G : Heap) (K : AV → Nat → Heap → Prop) : Prop :=
  match tget T t with
  | some ti => match ti.d with
    | .slice _ esz _ k => match k.isNest with
      | false => eBuildSlice T lk t len parts N G K
      | true => bif Nat.beq len parts.length && Nat.ble (len * esz) 1000 then collectK lk esz 0 parts fun rows => litK k N rows G fun o n _ Gd => K (.sl (N + 1) []) (N + 1 + 1) ((N + 1, .flat true (.rows N 0 n)) :: (N, o) :: Gd) else False
    | _ => False
  | none => False
/-- The cells' sizes of all rows of an object are alike. -/
theorem nest_sz {o : AObj} (h : o.nest = true) : ∃ s, 0 < s ∧ ∀ id p nd, o.node id p = some nd → nd.sz = s := by
  cases o with
  | flat _ _ => cases h
  | mp _ => cases h
  | it _ _ _ => cases h
  | nestH own R segs =>
    refine ⟨1, Nat.zero_lt_one, fun id p nd hn => ?_⟩
    obtain ⟨a, rfl⟩ := nest_nodes (o := .nestH own R segs) rfl id p nd hn
    simp only [AObj.node] at hn
    split at hn
    · injection hn with hn; subst hn; rfl
    · cases hn
  | nestI own k xss =>
    refine ⟨1, Nat.zero_lt_one, fun id p nd hn => ?_⟩
    obtain ⟨a, rfl⟩ := nest_nodes (o := .nestI own k xss) rfl id p nd hn
    simp only [AObj.node] at hn
    split at hn
    · injection hn with hn; subst hn; rfl
    · cases hn
  | nestR2 own xss =>
    refine ⟨2, Nat.zero_lt_two, fun id p nd hn => ?_⟩
    obtain ⟨a, rfl⟩ := nest_nodes (o := .nestR2 own xss) rfl id p nd hn
    simp only [AObj.node] at hn
    split at hn
    · injection hn with hn; subst hn; rfl
    · cases hn
theorem eBuildX_sound {lk : Operand → AV} {ev : Operand → Value} (hT : TblOK P T) (hH : HeapRep ρ N G w) (hlk : ∀ x, VR ρ N (lk x) (ev x)) {t len : Nat} {parts : List (Nat × Operand)} {K : AV → Nat → Heap → Prop}
    (h : eBuildX T lk t len parts N G K) : ∃ v w', (Instr.buildSlice t len (parts.map fun x => (x.1, ev x.2)).toArray).run P w = .ok v w' ∧ Out ρ N G w K v w' := by
  unfold eBuildX at h
  split at h
  case h_2 => exact h.elim
  rename_i ti ht
  split at h
  case h_2 => exact h.elim
  rename_i e esz eb k hd1
  split at h
  case h_1 => exact eBuildSlice_sound hT hH hlk h
  cases hb : (Nat.beq len parts.length && Nat.ble (len * esz) 1000) with
  | false => simp [hb] at h
  | true =>
    simp only [hb, cond_true] at h
    simp only [Bool.and_eq_true, Nat.beq_eq, Nat.ble_eq] at hb
    obtain ⟨rfl, hsmall⟩ := hb
    obtain ⟨rows, vss, h, e1, e2, e3, e4⟩ := collectK_spec hlk h
    obtain ⟨o, rs, Gd, hK, hown, hnest, hko, hkz, hrl, hsub, hnd, _, hinj⟩ := litK_spec h
    obtain ⟨s, hs, hsz⟩ := nest_sz hnest
    obtain ⟨hH1, hO1⟩ := hH.take hsub (o := o) hown (nest_plain hnest) (litB ρ rs s) (litS rs) (fun p nd hp => by
      obtain ⟨a, rfl⟩ := nest_nodes hnest N p nd hp
      obtain ⟨_, h2⟩ := hnd N a nd hp
      simp only [litB, litS]
      cases hrs : rs.getD a none with
      | none =>
        rw [hrs] at h2
        exact .inl ⟨rfl, h2.2.1, h2.2.2, by rw [hsz N [a] nd hp]⟩
      | some r =>
        rw [hrs] at h2
        obtain ⟨_, q2, f, q3, rfl⟩ := h2
        exact .inr ⟨r, [], rfl, NodeAt.of_get q3 rfl, q2, rfl⟩) (fun p p' x h1 h2 => by
      match p, p' with
      | [a], [b] =>
        simp only [litS, Option.map_eq_some_iff] at h1 h2
        obtain ⟨r1, q1, rfl⟩ := h1
        obtain ⟨r2, q2, q3⟩ := h2
        simp only [Prod.mk.injEq, and_true] at q3
        subst q3
        rw [hinj a b _ q1 q2]
      | [], _ => simp [litS] at h1
      | _ :: _ :: _, _ => simp [litS] at h1
      | [_], [] => simp [litS] at h2
      | [_], _ :: _ :: _ => simp [litS] at h2)
    have hρ := updR_lt ρ N (litB ρ rs s)
    obtain ⟨v, w', hrun, hout⟩ := build_core (ev := ev) hT hH1 ht hd1 hko hsmall e1 e2 e3 e4 (f := .rows N 0 rows.length) rfl (by rw [hkz]; rfl) (fun i j u hi hj hu => by
      simp only [Flat.sz] at hj
      obtain rfl : j = 0 := by omega
      obtain ⟨nd, hn⟩ := (‹∀ id a, a < rows.length → ∃ nd, o.node id [a] = some nd› N i hi)
      obtain ⟨_, h2⟩ := hnd N i nd hn
      simp only [Flat.cell, offs, VR, updR_at, litB]
      refine ⟨Nat.lt_succ_self N, ?_⟩
      cases hrs : rs.getD i none with
      | none =>
        rw [hrs] at h2
        rw [h2.1] at hu
        simp only [List.getD_cons_zero, VR] at hu
        exact ⟨none, 0, hu, .inr ⟨rfl, rfl⟩⟩
      | some r =>
        rw [hrs] at h2
        rw [h2.1] at hu
        simp only [List.getD_cons_zero, VR] at hu
        exact hu.2) hK
    exact ⟨v, w', hrun, Out.ghost (Nat.le_succ N) hρ hO1 hout⟩

/-- An empty slice of slices of rows has an object of rows of its own. -/
def eBuildY (T : Tbl) (lk : Operand → AV) (t len : Nat) (parts : List (Nat × Operand)) (N : Nat) (G : Heap) (K : AV → Nat → Heap → Prop) : Prop :=
  match tget T t with
  | some ti => match ti.d with
    | .slice _ _ _ k => match k with
      | .nestH => match parts with
        | [] => eBuildX T lk t len [] (N + 1) ((N, .nestR2 true []) :: G) K
        | x :: r => eBuildX T lk t len (x :: r) N G K
      | _ => eBuildX T lk t len parts N G K
    | _ => False
  | none => False
theorem eBuildY_sound {lk : Operand → AV} {ev : Operand → Value} (hT : TblOK P T) (hH : HeapRep ρ N G w) (hlk : ∀ x, VR ρ N (lk x) (ev x)) {t len : Nat} {parts : List (Nat × Operand)} {K : AV → Nat → Heap → Prop}
    (h : eBuildY T lk t len parts N G K) : ∃ v w', (Instr.buildSlice t len (parts.map fun x => (x.1, ev x.2)).toArray).run P w = .ok v w' ∧ Out ρ N G w K v w' := by
  unfold eBuildY at h
  split at h
  case h_2 => exact h.elim
  split at h
  case h_2 => exact h.elim
  split at h
  · split at h
    · obtain ⟨hH1, hO1⟩ := hH.take (Gd := G) (fun _ _ h => h) (o := .nestR2 true []) rfl rfl (fun _ => ⟨0, 0, 2, 0, 0⟩) (fun _ => none) (fun p nd hp => by
        obtain ⟨a, rfl⟩ := nest_nodes (o := .nestR2 true []) rfl N p nd hp
        simp [AObj.node] at hp) (fun p p' x h1 => by cases h1)
      have hρ := updR_lt ρ N (fun _ => (⟨0, 0, 2, 0, 0⟩ : Blk))
      obtain ⟨v, w', hrun, hout⟩ := eBuildX_sound hT hH1 (fun x => (hlk x).mono (Nat.le_succ N) hρ) h
      exact ⟨v, w', hrun, Out.ghost (Nat.le_succ N) hρ hO1 hout⟩
    · exact eBuildX_sound hT hH hlk h
  · exact eBuildX_sound hT hH hlk h

/-! ### append -/
/-- A slice of rows that is one's own. -/
def rowsOf (G : Heap) (H : Nat) (K : Nat → Nat → AObj → Prop) : Prop :=
  match hget G H with
  | some o => match o with
    | .flat own f => match f with
      | .rows M off n => match hget G M with
        | some o => bif own && Nat.beq off 0 && o.own && o.nest then K M n o else False
        | none => False
      | _ => False
    | _ => False
  | none => False
theorem rowsOf_spec {H : Nat} {K : Nat → Nat → AObj → Prop} (h : rowsOf G H K) : ∃ M n o, K M n o ∧ hget G H = some (.flat true (.rows M 0 n)) ∧ hget G M = some o ∧ o.own = true ∧ o.nest = true := by
  unfold rowsOf at h
  split at h
  case h_2 => exact h.elim
  rename_i o ho
  split at h
  case h_2 => exact h.elim
  split at h
  case h_2 => exact h.elim
  split at h
  case h_2 => exact h.elim
  rename_i own f M off n _ o1 hM
  cases hb : (own && Nat.beq off 0 && o1.own && o1.nest) with
  | false => simp [hb] at h
  | true =>
    simp only [hb, cond_true] at h
    simp only [Bool.and_eq_true, Nat.beq_eq] at hb
    obtain ⟨⟨⟨rfl, rfl⟩, h1⟩, h2⟩ := hb
    exact ⟨_, _, _, h, ho, hM, h1, h2⟩
def isRows (G : Heap) (H : Nat) : Bool :=
  match hget G H with
  | some o => match o with
    | .flat _ f => match f with
      | .rows _ _ _ => true
      | _ => false
    | _ => false
  | none => false
/-- Two objects of rows together; how many rows the first one and all have. -/
def appO (o1 : Option AObj) (o2 : AObj) (K : Nat → Nat → Nat → AObj → Prop) : Prop :=
  match o2 with
  | .nestI _ k yss => match o1 with
    | none => K 0 yss.length yss.length (.nestI true k yss)
    | some o1 => match o1 with
      | .nestI _ k' xss => bif k == k' then K xss.length yss.length (xss ++ yss).length (.nestI true k (xss ++ yss)) else False
      | _ => False
  | .nestR2 _ yss => match o1 with
    | none => K 0 yss.length yss.length (.nestR2 true yss)
    | some o1 => match o1 with
      | .nestR2 _ xss => K xss.length yss.length (xss ++ yss).length (.nestR2 true (xss ++ yss))
      | _ => False
  | .nestH _ R ys => match o1 with
    | none => False
    | some o1 => match o1 with
      | .nestH _ R' xs => bif Nat.beq R R' then K xs.length ys.length (xs ++ ys).length (.nestH true R (xs ++ ys)) else False
      | _ => False
  | _ => False
theorem appO_spec {o1 : Option AObj} {o2 : AObj} {K : Nat → Nat → Nat → AObj → Prop} (h : appO o1 o2 K) : ∃ l1 l2 o, K l1 l2 (l1 + l2) o ∧ o.own = true ∧ o.nest = true ∧ (o1 = none → l1 = 0) ∧
    ∀ id a nd, o.node id [a] = some nd → (a < l1 ∧ ∃ o', o1 = some o' ∧ ∀ M, o'.node M [a] = some nd) ∨ (l1 ≤ a ∧ ∀ M, o2.node M [a - l1] = some nd) := by
  have key : ∀ {α : Type} (xs ys : List (List α)) (a : Nat), a < (xs ++ ys).length → (a < xs.length ∧ (xs ++ ys).getD a [] = xs.getD a []) ∨ (xs.length ≤ a ∧ a - xs.length < ys.length ∧ (xs ++ ys).getD a [] = ys.getD (a - xs.length) []) := fun xs ys a ha => by
    rw [getD_app]
    by_cases h : a < xs.length
    · exact .inl ⟨h, by rw [if_pos h]⟩
    · refine .inr ⟨by omega, ?_, by rw [if_neg h]⟩
      rw [List.length_append] at ha; omega
  cases o2 with
  | flat _ _ => exact h.elim
  | mp _ => exact h.elim
  | it _ _ _ => exact h.elim
  | nestH own R ys =>
    simp only [appO] at h
    cases o1 with
    | none => exact h.elim
    | some o1 =>
      cases o1 <;> simp only at h
      rename_i own' R' xs
      cases hb : Nat.beq R R' with
      | false => simp [hb] at h
      | true =>
        have := Nat.eq_of_beq_eq_true hb
        subst this
        simp only [hb, cond_true, List.length_append] at h
        refine ⟨_, _, _, h, rfl, rfl, by simp, fun id a nd hn => ?_⟩
        simp only [AObj.node, List.length_append] at hn
        split at hn
        case isFalse => cases hn
        rename_i ha
        by_cases h1 : a < xs.length
        · refine .inl ⟨h1, _, rfl, fun M => ?_⟩
          have e : (xs ++ ys).getD a (0, 0) = xs.getD a (0, 0) := by rw [List.getD, List.getElem?_append_left h1]; rfl
          rw [e] at hn
          simp only [AObj.node, if_pos h1]
          exact hn
        · refine .inr ⟨by omega, fun M => ?_⟩
          have e : (xs ++ ys).getD a (0, 0) = ys.getD (a - xs.length) (0, 0) := by rw [List.getD, List.getElem?_append_right (by omega)]; rfl
          rw [e] at hn
          simp only [AObj.node, if_pos (show a - xs.length < ys.length by omega)]
          exact hn
  | nestI own k yss =>
    simp only [appO] at h
    cases o1 with
    | none =>
      refine ⟨0, _, _, (by simpa using h), rfl, rfl, fun _ => rfl, fun id a nd hn => .inr ⟨Nat.zero_le _, fun M => ?_⟩⟩
      exact hn
    | some o1 =>
      cases o1 <;> simp only at h
      rename_i own' k' xss
      cases hb : k == k' with
      | false => simp [hb] at h
      | true =>
        have : k = k' := by simpa using hb
        subst this
        simp only [beq_self_eq_true, cond_true, List.length_append] at h
        refine ⟨_, _, _, h, rfl, rfl, by simp, fun id a nd hn => ?_⟩
        simp only [AObj.node] at hn
        split at hn
        case isFalse => cases hn
        rename_i ha
        rcases key xss yss a ha with ⟨h1, h2⟩ | ⟨h1, h2, h3⟩
        · refine .inl ⟨h1, _, rfl, fun M => ?_⟩
          simp only [AObj.node, if_pos h1, ← h2]
          exact hn
        · refine .inr ⟨h1, fun M => ?_⟩
          simp only [AObj.node, if_pos h2, ← h3]
          exact hn
  | nestR2 own yss =>
    simp only [appO] at h
    cases o1 with
    | none =>
      refine ⟨0, _, _, (by simpa using h), rfl, rfl, fun _ => rfl, fun id a nd hn => .inr ⟨Nat.zero_le _, fun M => ?_⟩⟩
      exact hn
    | some o1 =>
      cases o1 <;> simp only at h
      rename_i own' xss
      simp only [List.length_append] at h
      refine ⟨_, _, _, h, rfl, rfl, by simp, fun id a nd hn => ?_⟩
      simp only [AObj.node] at hn
      split at hn
      case isFalse => cases hn
      rename_i ha
      rcases key xss yss a ha with ⟨h1, h2⟩ | ⟨h1, h2, h3⟩
      · refine .inl ⟨h1, _, rfl, fun M => ?_⟩
        simp only [AObj.node, if_pos h1, ← h2]
        exact hn
      · refine .inr ⟨h1, fun M => ?_⟩
        simp only [AObj.node, if_pos h2, ← h3]
        exact hn

def appB (ρ : Rho) (M1 M2 l1 sz : Nat) : List Nat → Blk
  | [a] => if a < l1 then ρ M1 [a] else ρ M2 [a - l1]
  | _ => ⟨0, 0, sz, 0, 0⟩
def appS (M1 M2 l1 : Nat) : List Nat → Option (Nat × List Nat)
  | [a] => if a < l1 then some (M1, [a]) else some (M2, [a - l1])
  | _ => none

def eAppendR (T : Tbl) (t t2 : Nat) (s : AV) (H2 M2 n2 : Nat) (o2 : AObj) (N : Nat) (G : Heap) (K : AV → Nat → Heap → Prop) : Prop :=
  match tget T t with
  | some ti => match ti.d with
    | .slice _ esz _ _ => match tget T t2 with
      | some ti2 => bif ti2.d.sl && Nat.beq esz 1 then match s with
        | .nilsl => appO none o2 fun _ l2 n o => hdelK G M2 fun G1 => hdelK G1 H2 fun Gd => need (some (n2 = l2)) (need (some (n ≤ 1099511627776)) (K (.sl (N + 1) []) (N + 1 + 1) ((N + 1, .flat true (.rows N 0 n)) :: (N, o) :: Gd)))
        | .sl H1 p => match p with
          | [] => bif Nat.beq H1 H2 then False else rowsOf G H1 fun M1 n1 o1 => bif Nat.beq M1 M2 then False else appO (some o1) o2 fun l1 l2 n o => hdelK G M1 fun G1 => hdelK G1 M2 fun G2 => hdelK G2 H1 fun G3 => hdelK G3 H2 fun Gd =>
              need (some (n1 = l1)) (need (some (n2 = l2)) (need (some (n ≤ 1099511627776)) (K (.sl (N + 1) []) (N + 1 + 1) ((N + 1, .flat true (.rows N 0 n)) :: (N, o) :: Gd))))
          | _ :: _ => False
        | _ => False
        else False
      | none => False
    | _ => False
  | none => False
/-- Both slices of slices of rows speak of one object of rows; then they are put together. -/
def eAppendH (T : Tbl) (t t2 : Nat) (s : AV) (H2 M2 n2 R2 : Nat) (ys : List (Nat × Nat)) (N : Nat) (G : Heap) (K : AV → Nat → Heap → Prop) : Prop :=
  match s with
  | .sl H1 p => match p with
    | _ :: _ => False
    | [] => rowsOf G H1 fun M1 _ o1 => match o1 with
      | .nestH _ R1 xs => match hget G R1 with
        | none => False
        | some q1 => match q1 with
          | .nestR2 w1 xss => match hget G R2 with
            | none => False
            | some q2 => match q2 with
              | .nestR2 w2 yss => bif w1 && w2 && !Nat.beq R1 R2 && !Nat.beq M1 M2 then
                  need (some (∀ a ∈ xs, a.1 + a.2 ≤ xss.length)) (need (some (∀ a ∈ ys, a.1 + a.2 ≤ yss.length)) (hdelK G R1 fun G1 => hdelK G1 R2 fun G2 => hdelK G2 M1 fun G3 => hdelK G3 M2 fun G4 =>
                    eAppendR T t t2 (.sl H1 []) H2 M2 n2 (.nestH true N (ys.map fun a => (xss.length + a.1, a.2))) (N + 1) ((M1, .nestH true N xs) :: (M2, .nestH true N (ys.map fun a => (xss.length + a.1, a.2))) :: (N, .nestR2 true (xss ++ yss)) :: G4) K))
                  else False
              | _ => False
          | _ => False
      | _ => False
  | _ => False
/-- Cells of which nothing is known? -/
def isTops (G : Heap) (s : AV) : Bool :=
  match s with
  | .sl H _ => match hget G H with
    | some (.flat _ f) => match f with
      | .tops _ => true
      | _ => false
    | _ => false
  | _ => false
def eAppendX (T : Tbl) (t t2 : Nat) (s x : AV) (N : Nat) (G : Heap) (K : AV → Nat → Heap → Prop) : Prop :=
  match x with
  | .sl H2 p => match p with
    | [] => match isRows G H2 && !isTops G s with
      | true => rowsOf G H2 fun M2 n2 o2 => match o2 with
        | .nestH _ R2 ys => eAppendH T t t2 s H2 M2 n2 R2 ys N G K
        | o2 => eAppendR T t t2 s H2 M2 n2 o2 N G K
      | false => eAppend T t t2 s (.sl H2 []) N G K
    | y :: q => eAppend T t t2 s (.sl H2 (y :: q)) N G K
  | .str b => eAppendS T t t2 s b N G K
  | x => eAppend T t t2 s x N G K

/-- What an object's cells are called may change. -/
theorem HeapRep.recell (hH : HeapRep ρ N G w) {id : Nat} {o o' : AObj} (ho : hget G id = some o) (hown : o'.own = o.own)
    (hnd : ∀ p nd', o'.node id p = some nd' → ∃ nd, o.node id p = some nd ∧ nd.n = nd'.n ∧ nd.sz = nd'.sz ∧ nd.x = nd'.x ∧ nd.ty = nd'.ty ∧ ∀ i, i < nd.n → ∀ j v, VR ρ N (nd.cell i j) v → VR ρ N (nd'.cell i j) v)
    {Gd : Heap} (hsub : ∀ i o, hget Gd i = some o → hget G i = some o) :
    HeapRep ρ N ((id, o') :: Gd) w ∧ ∀ b, Owns ρ ((id, o') :: Gd) b → Owns ρ G b := by
  have hc : ∀ {i p nd own}, NodeAt ((id, o') :: Gd) i p nd own → ∃ nd0, NodeAt G i p nd0 own ∧ nd0.n = nd.n ∧ nd0.sz = nd.sz ∧ nd0.x = nd.x ∧ nd0.ty = nd.ty ∧ ∀ a, a < nd0.n → ∀ j v, VR ρ N (nd0.cell a j) v → VR ρ N (nd.cell a j) v := fun {i p nd own} hx => by
    obtain ⟨x, h1, h2, h3⟩ := hx.ex
    rw [hget_cons] at h1
    split at h1
    · next he =>
      injection h1 with h1
      subst h1 he
      obtain ⟨nd0, q1, q2⟩ := hnd p nd h2
      exact ⟨nd0, ⟨⟨o, ho, q1, by rw [← hown]; exact h3⟩⟩, q2⟩
    · exact ⟨nd, ⟨⟨x, hsub _ _ h1, h2, h3⟩⟩, rfl, rfl, rfl, rfl, fun _ _ _ _ h => h⟩
  refine ⟨⟨fun i x h => ?_, fun i p nd own hx => ?_, fun i p nd own hx a ha b hb => ?_, fun i p nd hx => ?_, fun i p nd i' p' nd' own' hx hx' hd ht hs => ?_⟩, fun b hb => ?_⟩
  · rw [hget_cons] at h
    split at h
    · next he => subst he; exact hH.keys _ _ ho
    · exact hH.keys _ _ (hsub _ _ h)
  · obtain ⟨nd0, q, e1, e2, _⟩ := hc hx
    obtain ⟨s1, s2, s3⟩ := hH.shape _ _ _ _ q
    exact ⟨by omega, by omega, by omega⟩
  · obtain ⟨nd0, q, e1, e2, _, _, hv⟩ := hc hx
    obtain ⟨v, q1, q2, q3⟩ := hH.rd _ _ _ _ q a (by omega) b (by omega)
    rw [e2] at q1
    exact ⟨v, q1, hv a (by omega) b v q2, q3⟩
  · obtain ⟨nd0, q, e1, e2, e3, e4, _⟩ := hc hx
    rcases hH.ow _ _ _ q with ⟨h1, h2, h3⟩ | ⟨ob, h1, h2, h3⟩
    · exact .inl ⟨h1, by omega, by rw [← e3]; exact h3⟩
    · exact .inr ⟨ob, h1, by rw [← Node.blk_congr e3 e4]; exact h2, h3⟩
  · obtain ⟨nd0, q, _⟩ := hc hx
    obtain ⟨nd1, q', e1, e2, _⟩ := hc hx'
    exact hH.sep _ _ _ _ _ _ _ q q' hd ht (by simpa only [Solid, e1, e2] using hs)
  · obtain ⟨i, p, nd, hn, ht, rfl⟩ := hb
    obtain ⟨nd0, q, _⟩ := hc hn
    exact ⟨i, p, nd0, q, ht, rfl⟩

theorem take_app (hH : HeapRep ρ N G w) {Gd : Heap} (hsub : ∀ i o, hget Gd i = some o → hget G i = some o) {M1 M2 l1 : Nat} {o1 : Option AObj} {o2 o : AObj} (hown : o.own = true) (hnest : o.nest = true) (h1 : ∀ o', o1 = some o' → hget G M1 = some o' ∧ o'.own = true ∧ hget Gd M1 = none ∧ M1 ≠ M2) (h2 : hget G M2 = some o2) (h2o : o2.own = true) (h2d : hget Gd M2 = none) (hn1 : o1 = none → l1 = 0)
    (hnd : ∀ id a nd, o.node id [a] = some nd → (a < l1 ∧ ∃ o', o1 = some o' ∧ ∀ M, o'.node M [a] = some nd) ∨ (l1 ≤ a ∧ ∀ M, o2.node M [a - l1] = some nd)) :
    HeapRep (updR ρ N (appB ρ M1 M2 l1 1)) (N + 1) ((N, o) :: Gd) w ∧ ∀ b, Owns (updR ρ N (appB ρ M1 M2 l1 1)) ((N, o) :: Gd) b → Owns ρ G b := by
  refine hH.take hsub hown (nest_plain hnest) _ (appS M1 M2 l1) (fun p nd hp => ?_) (fun p p' x h h' => ?_)
  · obtain ⟨a, rfl⟩ := nest_nodes hnest N p nd hp
    simp only [appB, appS]
    rcases hnd N a nd hp with ⟨ha, o', rfl, q⟩ | ⟨ha, q⟩
    · obtain ⟨q1, q2, q3, _⟩ := h1 o' rfl
      rw [if_pos ha, if_pos ha]
      exact .inr ⟨M1, [a], rfl, ⟨⟨o', q1, q M1, q2⟩⟩, q3, rfl⟩
    · rw [if_neg (by omega), if_neg (by omega)]
      exact .inr ⟨M2, [a - l1], rfl, ⟨⟨o2, h2, q M2, h2o⟩⟩, h2d, rfl⟩
  · have hne : ∀ a, a < l1 → M1 ≠ M2 := fun a ha => by
      cases o1 with
      | none => have := hn1 rfl; omega
      | some o' => exact (h1 o' rfl).2.2.2
    match p, p' with
    | [a], [b] =>
      simp only [appS] at h h'
      split at h <;> split at h'
      · rw [← h] at h'; simp at h'; rw [h']
      · next ha _ => rw [← h] at h'; simp at h'; exact absurd h'.1.symm (hne a ha)
      · next ha => rw [← h] at h'; simp at h'; exact absurd h'.1 (hne b ha)
      · rw [← h] at h'; simp at h'
        have : a = b := by omega
        rw [this]
    | [], _ => simp [appS] at h
    | _ :: _ :: _, _ => simp [appS] at h
    | [_], [] => simp [appS] at h'
    | [_], _ :: _ :: _ => simp [appS] at h'

theorem eAppendR_sound (hT : TblOK P T) (hH : HeapRep ρ N G w) {t t2 ty : Nat} {s : AV} {H2 M2 n2 : Nat} {o2 : AObj} {K : AV → Nat → Heap → Prop} (h : eAppendR T t t2 s H2 M2 n2 o2 N G K)
    (hH2 : hget G H2 = some (.flat true (.rows M2 0 n2))) (hM2 : hget G M2 = some o2) (ho2 : o2.own = true) (hne2 : o2.nest = true) {sv xv : Value} (hs : VR ρ N s sv) (hx : VR ρ N (.sl H2 []) xv) :
    ∃ v w', (Builtin.append_ #[t, t2] ty #[sv, xv]).run P w = .ok v w' ∧ Out ρ N G w K v w' := by
  unfold eAppendR at h
  split at h
  case h_2 => exact h.elim
  rename_i ti ht
  split at h
  case h_2 => exact h.elim
  rename_i e esz eb k hd1
  split at h
  case h_2 => exact h.elim
  rename_i ti2 ht2
  cases hb : (ti2.d.sl && Nat.beq esz 1) with
  | false => simp [hb] at h
  | true =>
  simp only [hb, cond_true] at h
  simp only [Bool.and_eq_true, Nat.beq_eq] at hb
  obtain ⟨hsl2, rfl⟩ := hb
  have hd0 := (hT _ _ ht).desc
  rw [hd1] at hd0
  obtain ⟨hd, i, z, hi, hsz, hby, hpos, heb, hz, hzs, hzk, hz1⟩ : DescOK P t (.slice e 1 eb k) := hd0
  have hd2 : ∃ e2, P.underlying t2 = some (.slice e2) := by
    have := (hT _ _ ht2).desc
    cases hdd : ti2.d <;> rw [hdd] at this hsl2 <;> simp only [TD.sl, Bool.false_eq_true] at hsl2
    exact ⟨_, this.1⟩
  obtain ⟨e2, hd2⟩ := hd2
  have hM2N := hH.keys _ _ hM2
  have hne : H2 ≠ M2 := fun e => by subst e; rw [hH2] at hM2; injection hM2 with hM2; subst hM2; cases hne2
  -- the source's cells
  have hsrc : srcK G (.sl H2 []) (fun C g => C = none ∧ g = some (.rows M2 0 n2)) := by simp [srcK, hH2, nodeV]
  obtain ⟨C2, g, ⟨rfl, rfl⟩, hg⟩ := srcK_spec hH hsrc hx
  obtain ⟨A2, m, cc2, news, rfl, m1, m2, m3, m4⟩ := (hg trivial 1 (by intro f h; injection h with h; subst h; rfl)).ex
  obtain rfl : n2 = m := m3.symm
  have m4 := m4 rfl
  split at h
  · -- to nil
    obtain ⟨l1, l2, o, h, hown, hnest, hl1, hnd⟩ := appO_spec h
    obtain rfl := hl1 rfl
    have h := hdelK_eq _ _ _ (hdelK_eq _ _ _ h)
    obtain ⟨c2, h⟩ := need_spec h
    obtain ⟨c3, hK⟩ := need_spec h
    simp only [Cnd.holds] at c2 c3
    subst c2
    simp only [VR] at hs
    subst hs
    have hsub : ∀ a x, hget (hdel (hdel G M2) H2) a = some x → hget G a = some x := fun a x hx => hdel_sub G M2 a x (hdel_sub _ H2 a x hx)
    obtain ⟨hH1, hO1⟩ := take_app hH hsub (M1 := 0) (M2 := M2) (l1 := 0) (o1 := none) hown hnest (by simp) hM2 ho2 (by rw [hdel_ne (Ne.symm hne)]; exact hdel_none G M2) (fun _ => rfl) hnd
    have hρ := updR_lt ρ N (appB ρ 0 M2 0 1)
    obtain ⟨v, w', hrun, hout⟩ := append_core (t := t) (t2 := t2) (ty := ty) (A := none) (n := 0) (c := 0) (olds := []) hH1 hd hi hz (by rw [hzs, hsz]) (by omega) (by omega) (by simp) (by rw [hsz]; exact m1) (fun h => absurd h (Nat.lt_irrefl 0)) (.inl ⟨_, cc2, _, rfl, hd2, m2⟩) (f := .rows N 0 (0 + n2)) (by simp [Flat.n]) (by rw [hsz]; rfl) (fun a ha => absurd ha (Nat.not_lt_zero a)) (fun a ha b hb => by
      rw [hsz] at hb ⊢
      obtain ⟨u, q1, q2, q3⟩ := m4 a ha b hb
      refine ⟨u, q1, ?_, q3⟩
      simp only [Flat.cell, offs, VR, updR_at, appB] at q2 ⊢
      rw [if_neg (by omega), show 0 + a - 0 = a by omega]
      exact ⟨Nat.lt_succ_self N, q2.2⟩) (fun _ _ h => h) (fun _ => .inl ⟨by omega, rfl⟩) (fun _ h => nomatch h) (by simpa [Flat.n] using c3) hK
    exact ⟨v, w', hrun, Out.ghost (Nat.le_succ N) hρ hO1 hout⟩
  · rename_i H1 p
    split at h
    case h_2 => exact h.elim
    cases hb : Nat.beq H1 H2 with
    | true => simp [hb] at h
    | false =>
    simp only [hb, cond_false] at h
    have hHH : H1 ≠ H2 := fun e => by subst e; simp at hb
    obtain ⟨M1, n1, o1, h, hH1g, hM1, ho1, hne1⟩ := rowsOf_spec h
    cases hb : Nat.beq M1 M2 with
    | true => simp [hb] at h
    | false =>
    simp only [hb, cond_false] at h
    have hMM : M1 ≠ M2 := fun e => by subst e; simp at hb
    obtain ⟨l1, l2, o, h, hown, hnest, _, hnd⟩ := appO_spec h
    have h := hdelK_eq _ _ _ (hdelK_eq _ _ _ (hdelK_eq _ _ _ (hdelK_eq _ _ _ h)))
    obtain ⟨c1, h⟩ := need_spec h
    obtain ⟨c2, h⟩ := need_spec h
    obtain ⟨c3, hK⟩ := need_spec h
    simp only [Cnd.holds] at c1 c2 c3
    subst c1 c2
    have hM1N := hH.keys _ _ hM1
    have hH1N := hH.keys _ _ hH1g
    have hflat : ∀ {a b : Nat} {f : Flat} {x : AObj}, hget G a = some (.flat true f) → hget G b = some x → x.nest = true → a ≠ b := fun {a b f x} h1 h2 h3 e => by
      subst e; rw [h1] at h2; injection h2 with h2; subst h2; cases h3
    -- without the two objects of rows; and without the two headers too
    have hsub1 : ∀ a x, hget (hdel (hdel G M1) M2) a = some x → hget G a = some x := fun a x hx => hdel_sub G M1 a x (hdel_sub _ M2 a x hx)
    obtain ⟨hH1, hO1⟩ := take_app hH hsub1 (M1 := M1) (M2 := M2) (l1 := n1) (o1 := some o1) hown hnest (fun o' e => by
      injection e with e; subst e
      exact ⟨hM1, ho1, by rw [hdel_ne hMM]; exact hdel_none G M1, hMM⟩) hM2 ho2 (hdel_none _ _) (by simp) hnd
    have hρ := updR_lt ρ N (appB ρ M1 M2 n1 1)
    have hdst : dstK G (.sl H1 []) (fun C f Gd fix => C = none ∧ f = some (.rows M1 0 n1) ∧ Gd = hdel G H1 ∧ fix = none) := by
      have : ∀ (G : Heap) (id : Nat) (K : Heap → Prop), K (hdel G id) → hdelK G id K := fun G id => by
        induction G with
        | nil => exact fun K h => h
        | cons x r ih =>
          obtain ⟨k, o⟩ := x
          intro K h
          simp only [hdel, hdelK] at h ⊢
          cases hb : Nat.beq k id with
          | true => simp only [hb, cond_true] at h ⊢; exact ih K h
          | false => simp only [hb, cond_false] at h ⊢; exact ih _ h
      simp only [dstK, hH1g]
      exact this _ _ _ (by simp)
    obtain ⟨C1, f, Gd0, fix, ⟨rfl, rfl, rfl, rfl⟩, hf⟩ := dstK_spec hH hdst hs
    obtain ⟨A, n, c, olds, rfl, k1, k2, ⟨k3, k3'⟩, k4⟩ := (hf trivial 1 (by intro f h; injection h with h; subst h; rfl)).ex
    obtain rfl : n1 = n := k3.symm
    have k3' := k3' rfl
    have hget1 : ∀ a, a ≠ M1 → a ≠ M2 → a < N → hget ((N, o) :: hdel (hdel G M1) M2) a = hget G a := fun a h1 h2 h3 => by
      rw [hget_cons, if_neg (by omega), hdel_ne h2, hdel_ne h1]
    obtain ⟨v, w', hrun, hout⟩ := append_core (t := t) (t2 := t2) (ty := ty) (A := A) (n := n1) (c := c) (olds := olds) hH1 hd hi hz (by rw [hzs, hsz]) (by omega) (by omega) (by rw [hsz]; exact k1) (by rw [hsz]; exact m1) k2 (.inl ⟨_, cc2, _, rfl, hd2, m2⟩) (f := .rows N 0 (n1 + n2)) (by simp [Flat.n]) (by rw [hsz]; rfl) (fun a ha b hb => by
      rw [hsz] at hb ⊢
      obtain ⟨u, q1, q2, q3⟩ := k3' a ha b hb
      refine ⟨u, q1, ?_, q3⟩
      simp only [Flat.cell, offs, VR, updR_at, appB] at q2 ⊢
      rw [if_pos ha]
      exact ⟨Nat.lt_succ_self N, q2.2⟩) (fun a ha b hb => by
      rw [hsz] at hb ⊢
      obtain ⟨u, q1, q2, q3⟩ := m4 a ha b hb
      refine ⟨u, q1, ?_, q3⟩
      simp only [Flat.cell, offs, VR, updR_at, appB, Flat.n] at q2 ⊢
      rw [if_neg (by omega), show n1 + a - n1 = a by omega]
      exact ⟨Nat.lt_succ_self N, q2.2⟩) (Gd := (N, o) :: hdel (hdel (hdel (hdel G M1) M2) H1) H2) (fun a x hx => by
        rw [hget_cons] at hx ⊢
        split at hx
        · next he => rw [if_pos he]; exact hx
        · next he => rw [if_neg he]; exact hdel_sub _ H1 a x (hdel_sub _ H2 a x hx)) (fun hle => by
        rcases k4 with q | ⟨id, f0, oo, q1, q2, q3, q4, q5, q6⟩
        · by_cases h0 : n1 + n2 = 0
          · exact .inl ⟨h0, q.2⟩
          · omega
        · by_cases hc0 : c = 0
          · refine .inl ⟨?_, hc0⟩
            omega
          · have hidH : id = H1 := by
              rcases Nat.decEq id H1 with h | h
              · rw [hdel_ne h, q1] at q2; cases q2
              · exact h
            subst hidH
            refine .inr ⟨id, f0, oo, ?_, ?_, ?_, ?_, ?_⟩
            · rw [hget1 id (hflat q1 hM1 hne1) (hflat q1 hM2 hne2) hH1N]; exact q1
            · rw [hget_cons, if_neg (by omega), hdel_ne hHH]; exact hdel_none _ _
            · rw [hρ id hH1N]; exact q3
            · rw [hρ id hH1N, hsz]; exact q4
            · rw [hρ id hH1N]; exact ⟨q5 (by omega), fun _ h => nomatch h⟩) (fun _ h => nomatch h) (by simpa [Flat.n] using c3) hK
    exact ⟨v, w', hrun, Out.ghost (Nat.le_succ N) hρ hO1 hout⟩
  · exact h.elim

theorem eAppendH_sound (hT : TblOK P T) (hH : HeapRep ρ N G w) {t t2 ty : Nat} {s : AV} {H2 M2 n2 R2 : Nat} {ow : Bool} {ys : List (Nat × Nat)} {K : AV → Nat → Heap → Prop} (h : eAppendH T t t2 s H2 M2 n2 R2 ys N G K)
    (hH2 : hget G H2 = some (.flat true (.rows M2 0 n2))) (hM2 : hget G M2 = some (.nestH ow R2 ys)) (ho2 : ow = true) {sv xv : Value} (hs : VR ρ N s sv) (hx : VR ρ N (.sl H2 []) xv) :
    ∃ v w', (Builtin.append_ #[t, t2] ty #[sv, xv]).run P w = .ok v w' ∧ Out ρ N G w K v w' := by
  unfold eAppendH at h
  split at h
  case h_2 => exact h.elim
  rename_i H1 p
  split at h
  · exact h.elim
  obtain ⟨M1, n1, o1, h, hH1g, hM1, ho1, hne1⟩ := rowsOf_spec h
  cases o1 <;> first | exact (show False from h).elim | skip
  rename_i own1 R1 xs
  simp only at h
  cases hq1 : hget G R1 with
  | none => rw [hq1] at h; exact (show False from h).elim
  | some q1 =>
  rw [hq1] at h
  simp only at h
  cases q1 <;> first | exact (show False from h).elim | skip
  rename_i w1 xss
  simp only at h
  cases hq2 : hget G R2 with
  | none => rw [hq2] at h; exact (show False from h).elim
  | some q2 =>
  rw [hq2] at h
  simp only at h
  cases q2 <;> first | exact (show False from h).elim | skip
  rename_i w2 yss
  simp only at h
  cases hb : (w1 && w2 && !Nat.beq R1 R2 && !Nat.beq M1 M2) with
  | false => simp [hb] at h
  | true =>
  simp only [hb, cond_true] at h
  simp only [Bool.and_eq_true, Bool.not_eq_true'] at hb
  obtain ⟨⟨⟨rfl, rfl⟩, hR⟩, hM⟩ := hb
  have hRR : R1 ≠ R2 := fun e => by subst e; simp at hR
  have hMM : M1 ≠ M2 := fun e => by subst e; simp at hM
  obtain ⟨c1, h⟩ := need_spec h
  obtain ⟨c2, h⟩ := need_spec h
  simp only [Cnd.holds] at c1 c2
  have h := hdelK_eq _ _ _ (hdelK_eq _ _ _ (hdelK_eq _ _ _ (hdelK_eq _ _ _ h)))
  have hR1N := hH.keys _ _ hq1
  have hR2N := hH.keys _ _ hq2
  have hM1N := hH.keys _ _ hM1
  have hM2N := hH.keys _ _ hM2
  have hdiff : ∀ {a b : Nat} {x y : AObj}, hget G a = some x → hget G b = some y → x ≠ y → a ≠ b := fun h1 h2 h3 e => by
    subst e; rw [h1] at h2; injection h2 with h2; exact h3 h2
  have d1 : M1 ≠ R1 := hdiff hM1 hq1 (by simp)
  have d2 : M1 ≠ R2 := hdiff hM1 hq2 (by simp)
  have d3 : M2 ≠ R1 := hdiff hM2 hq1 (by simp)
  have d4 : M2 ≠ R2 := hdiff hM2 hq2 (by simp)
  -- the rows
  have hsub1 : ∀ a x, hget (hdel (hdel G R1) R2) a = some x → hget G a = some x := fun a x hx => hdel_sub G R1 a x (hdel_sub _ R2 a x hx)
  obtain ⟨hHa, hOa⟩ := take_app hH hsub1 (M1 := R1) (M2 := R2) (l1 := xss.length) (o1 := some (.nestR2 true xss)) (o2 := .nestR2 true yss) (o := .nestR2 true (xss ++ yss)) rfl rfl (fun o' e => by
    injection e with e; subst e
    exact ⟨hq1, rfl, by rw [hdel_ne hRR]; exact hdel_none G R1, hRR⟩) hq2 rfl (hdel_none _ _) (by simp) (fun id a nd hn => by
    simp only [AObj.node, List.length_append] at hn
    split at hn
    case isFalse => cases hn
    rename_i ha
    by_cases h1 : a < xss.length
    · refine .inl ⟨h1, _, rfl, fun M => ?_⟩
      have e : (xss ++ yss).getD a [] = xss.getD a [] := by rw [List.getD, List.getElem?_append_left h1]; rfl
      rw [e] at hn
      simp only [AObj.node, if_pos h1]
      exact hn
    · refine .inr ⟨by omega, fun M => ?_⟩
      have e : (xss ++ yss).getD a [] = yss.getD (a - xss.length) [] := by rw [List.getD, List.getElem?_append_right (by omega)]; rfl
      rw [e] at hn
      simp only [AObj.node, if_pos (show a - xss.length < yss.length by omega)]
      exact hn)
  have hρ := updR_lt ρ N (appB ρ R1 R2 xss.length 1)
  have hgetA : ∀ a, a < N → a ≠ R1 → a ≠ R2 → hget ((N, .nestR2 true (xss ++ yss)) :: hdel (hdel G R1) R2) a = hget G a := fun a h1 h2 h3 => by
    rw [hget_cons, if_neg (by omega), hdel_ne h3, hdel_ne h2]
  -- the first one's names
  have hsub2 : ∀ a x, hget (hdel ((N, .nestR2 true (xss ++ yss)) :: hdel (hdel G R1) R2) M2) a = some x → hget ((N, .nestR2 true (xss ++ yss)) :: hdel (hdel G R1) R2) a = some x := fun a x hx => hdel_sub _ M2 a x hx
  obtain ⟨hHb, hOb⟩ := hHa.recell (id := M2) (o := .nestH ow R2 ys) (o' := .nestH true N (ys.map fun a => (xss.length + a.1, a.2))) (by rw [hgetA M2 hM2N d3 d4]; exact hM2) (by rw [ho2]; rfl) (fun p nd' hp => by
    match p with
    | [] => simp [AObj.node] at hp
    | _ :: _ :: _ => simp [AObj.node] at hp
    | [y] =>
      simp only [AObj.node, List.length_map] at hp
      split at hp
      case isFalse => cases hp
      rename_i hy
      injection hp with hp
      subst hp
      have e : (ys.map fun a => (xss.length + a.1, a.2)).getD y (0, 0) = (xss.length + (ys.getD y (0, 0)).1, (ys.getD y (0, 0)).2) := by
        simp [List.getD, hy]
      rw [e]
      have hmem : ys.getD y (0, 0) ∈ ys := by
        rw [List.getD, List.getElem?_eq_getElem hy]; exact List.getElem_mem hy
      have hc2 := c2 _ hmem
      refine ⟨_, if_pos hy, rfl, rfl, rfl, rfl, fun i hi j v hv => ?_⟩
      simp only [Flat.node, Flat.n] at hi
      simp only [Flat.node, Flat.cell, offs_eq, VR, updR_at, appB] at hv ⊢
      rw [hρ R2 hR2N] at hv
      rw [if_neg (by omega), show xss.length + (ys.getD y (0, 0)).1 + i - xss.length = (ys.getD y (0, 0)).1 + i by omega]
      exact ⟨Nat.lt_succ_self N, hv.2⟩) hsub2
  -- the second one's names
  have hgB : ∀ a, a < N → a ≠ R1 → a ≠ R2 → a ≠ M2 → hget ((M2, .nestH true N (ys.map fun a => (xss.length + a.1, a.2))) :: hdel ((N, .nestR2 true (xss ++ yss)) :: hdel (hdel G R1) R2) M2) a = hget G a := fun a h1 h2 h3 h4 => by
    rw [hget_cons, if_neg (by omega), hdel_ne h4, hgetA a h1 h2 h3]
  obtain ⟨hHc, hOc⟩ := hHb.recell (id := M1) (o := .nestH own1 R1 xs) (o' := .nestH true N xs) (by rw [hgB M1 hM1N d1 d2 hMM]; exact hM1) (by have : own1 = true := ho1; rw [this]; rfl) (fun p nd' hp => by
    match p with
    | [] => simp [AObj.node] at hp
    | _ :: _ :: _ => simp [AObj.node] at hp
    | [y] =>
      simp only [AObj.node] at hp
      split at hp
      case isFalse => cases hp
      rename_i hy
      injection hp with hp
      subst hp
      have hmem : xs.getD y (0, 0) ∈ xs := by
        rw [List.getD, List.getElem?_eq_getElem hy]; exact List.getElem_mem hy
      have hc1 := c1 _ hmem
      refine ⟨_, if_pos hy, rfl, rfl, rfl, rfl, fun i hi j v hv => ?_⟩
      simp only [Flat.node, Flat.n] at hi
      simp only [Flat.node, Flat.cell, offs_eq, VR, updR_at, appB] at hv ⊢
      rw [hρ R1 hR1N] at hv
      rw [if_pos (by omega)]
      exact ⟨Nat.lt_succ_self N, hv.2⟩) (Gd := (M2, .nestH true N (ys.map fun a => (xss.length + a.1, a.2))) :: (N, .nestR2 true (xss ++ yss)) :: hdel (hdel (hdel (hdel G R1) R2) M1) M2) (fun a x hx => by
    rw [hget_cons] at hx ⊢
    split at hx
    · next he => rw [if_pos he]; exact hx
    · next he =>
      rw [if_neg he, hdel_ne he]
      rw [hget_cons] at hx ⊢
      split at hx
      · next he2 => rw [if_pos he2]; exact hx
      · next he2 => rw [if_neg he2]; exact hdel_sub _ M1 a x (hdel_sub _ M2 a x hx))
  have e1 : H2 ≠ M1 := hdiff hH2 hM1 (by simp)
  have e2 : H2 ≠ M2 := hdiff hH2 hM2 (by simp)
  have e3 : H2 ≠ R1 := hdiff hH2 hq1 (by simp)
  have e4 : H2 ≠ R2 := hdiff hH2 hq2 (by simp)
  have hH2N := hH.keys _ _ hH2
  obtain ⟨v, w', hrun, hout⟩ := eAppendR_sound (ty := ty) hT hHc h (by
    rw [hget_cons, if_neg (by omega), hget_cons, if_neg (by omega), hget_cons, if_neg (by omega), hdel_ne e2, hdel_ne e1, hdel_ne e4, hdel_ne e3]; exact hH2) (by
    rw [hget_cons, if_neg (by omega), hget_cons, if_pos rfl]) rfl rfl (hs.mono (Nat.le_succ N) hρ) (hx.mono (Nat.le_succ N) hρ)
  exact ⟨v, w', hrun, Out.ghost (Nat.le_succ N) hρ (fun b hb => hOa b (hOb b (hOc b hb))) hout⟩

theorem eAppendX_sound (hT : TblOK P T) (hH : HeapRep ρ N G w) {t t2 ty : Nat} {s x : AV} {K : AV → Nat → Heap → Prop} (h : eAppendX T t t2 s x N G K) {sv xv : Value} (hs : VR ρ N s sv) (hx : VR ρ N x xv) :
    ∃ v w', (Builtin.append_ #[t, t2] ty #[sv, xv]).run P w = .ok v w' ∧ Out ρ N G w K v w' := by
  unfold eAppendX at h
  split at h
  · split at h
    · split at h
      · obtain ⟨M, n, o, h, h1, h2, h3, h4⟩ := rowsOf_spec h
        split at h
        · exact eAppendH_sound hT hH h h1 h2 h3 hs hx
        · exact eAppendR_sound hT hH h h1 h2 h3 h4 hs hx
      · exact eAppend_sound hT hH h hs hx
    · exact eAppend_sound hT hH h hs hx
  · simp only [VR] at hx
    subst hx
    exact eAppendS_sound hT hH h hs
  · exact eAppend_sound hT hH h hs hx

end
end Go.Sx

/-
  Maps: made, written, keys taken away, gone through, as effects.
-/
namespace Go.Sx
set_option linter.unusedVariables false
set_option linter.unusedSimpArgs false
open Go
open Go.RowKit

section
variable {P : Program} {T : Tbl} {ρ : Rho} {N : Nat} {G : Heap} {w : World}

/-- A new object without cells, in a block of its own at the heap's end. -/
theorem new_x (hH : HeapRep ρ N G w) {K : AV → Nat → Heap → Prop} {o : AObj} {Q : Nat → Obj → Prop} (hn : o.node N [] = some ⟨0, 1, fun _ _ => .top, some Q, none⟩) (hn' : ∀ a r, o.node N (a :: r) = none) (hown : o.own = true) {ob : Obj} {tot : Nat} (htot : 0 < tot) (hm : Q tot ob) {av : AV} {v : Value}
    (hv : VR (fun id p => if id = N then ⟨w.heap.size, 0, 1, 0, tot⟩ else ρ id p) (N + 1) av v) (hK : K av (N + 1) ((N, o) :: G)) :
    Out ρ N G w K v (w.alloc ob) := by
  have hρ : ∀ id, id < N → (fun (id : Nat) (p : List Nat) => if id = N then (⟨w.heap.size, 0, 1, 0, tot⟩ : Blk) else ρ id p) id = ρ id := fun id h => by
    funext p; simp only; rw [if_neg (by omega)]
  have hw := frame_alloc w ob
  have h1 : HeapRep _ (N + 1) G (w.alloc ob) := ((hH.mono (Nat.le_succ N) hρ).frame hw (fun _ _ _ _ _ _ h => h))
  have hnone : hget G N = none := by
    cases h : hget G N with
    | none => rfl
    | some o => exact absurd (hH.keys N o h) (Nat.lt_irrefl N)
  refine ⟨⟨av, _, _, _, hK, hv, h1.put (Nat.lt_succ_self N) hnone hown ?_, Nat.le_succ N, hρ, ⟨hw.os, hw.tape, hw.output, hw.size, fun k hk _ => hw.block k hk id, hw.drawn⟩, ?_⟩⟩
  · intro p nd hnd
    cases p with
    | cons a r => rw [hn'] at hnd; cases hnd
    | nil =>
    rw [hn, Option.some.injEq] at hnd
    subst hnd
    simp only [if_true]
    refine ⟨trivial, trivial, Nat.one_pos, fun i hi => absurd hi (Nat.not_lt_zero i), .inr ⟨_, heap_alloc_new _ _, hm, htot⟩, fun _ => ⟨fun p' nd' hnd' hne => ?_, fun id' p' nd' own' hn1 hs' => ?_⟩⟩
    · cases p' with
      | nil => exact absurd rfl hne
      | cons a r => rw [hn'] at hnd'; cases hnd'
    · have hlt : id' < N := by
        obtain ⟨o, h1, _⟩ := hn1.ex
        exact hH.keys _ _ h1
      have hne : id' ≠ N := by omega
      simp only [hne, if_false] at hs' ⊢
      have := hH.lt hn1 hs'
      omega
  · intro b hb
    obtain ⟨id, p, nd, hn', ht, rfl⟩ := hb
    obtain ⟨o, h1, h2, h3⟩ := hn'.ex
    rw [hget_cons] at h1
    split at h1
    · next he => subst he; exact .inl (by simp)
    · next he =>
      simp only [he, if_false] at ht ⊢
      exact .inr ⟨id, p, nd, ⟨⟨o, h1, h2, h3⟩⟩, ht, rfl⟩

/-- Another object without cells in the place of one, in the same block. -/
theorem put_x (hH : HeapRep ρ N G w) {id : Nat} {o o' : AObj} {Q Q' : Nat → Obj → Prop} (ho : hget G id = some o) (hn : o.node id [] = some ⟨0, 1, fun _ _ => .top, some Q, none⟩) (hn1 : ∀ a r, o.node id (a :: r) = none) (hown : o.own = true)
    (hn' : o'.node id [] = some ⟨0, 1, fun _ _ => .top, some Q', none⟩) (hn1' : ∀ a r, o'.node id (a :: r) = none) (hown' : o'.own = true) {ob : Obj} (hq : Q' (ρ id []).tot ob) {w' : World} (hw' : FrameW (· = (ρ id []).b) w w') (hb' : w'.heap[(ρ id []).b]? = some ob) :
    HeapRep ρ N (hset G id o') w' ∧ FrameW (Owns ρ G) w w' ∧ ∀ b, Owns ρ (hset G id o') b → Owns ρ G b := by
  have hnode : NodeAt G id [] _ true := ⟨⟨o, ho, hn, hown⟩⟩
  have htot : 0 < (ρ id []).tot := by
    rcases hH.ow id [] _ hnode with ⟨_, _, h⟩ | ⟨_, _, _, h⟩
    · cases h
    · exact h
  have hOwn : Owns ρ G (ρ id []).b := ⟨id, [], _, hnode, htot, rfl⟩
  have hdelne : ∀ {i p nd own}, NodeAt (hdel G id) i p nd own → i ≠ id ∧ NodeAt G i p nd own := fun {i p nd own} hx => by
    obtain ⟨o, h1, h2⟩ := hx.ex
    rw [hget_hdel] at h1
    split at h1
    · cases h1
    · next h => exact ⟨h, ⟨⟨o, h1, h2⟩⟩⟩
  have hD : HeapRep ρ N (hdel G id) w' := (hH.del id).frame hw' fun i p nd own hx hs => by
    obtain ⟨hne, hx'⟩ := hdelne hx
    exact Ne.symm (hH.sep id [] _ i p nd own hnode hx' (fun h => hne h.1.symm) htot hs)
  have hnone : hget (hdel G id) id = none := by rw [hget_hdel]; simp
  obtain ⟨sh1, sh2, sh3⟩ := hH.shape id [] _ true hnode
  have hput := hD.put (o := o') (hH.keys id _ ho) hnone hown' (fun p nd hnd => by
    cases p with
    | cons a r => rw [hn1'] at hnd; cases hnd
    | nil =>
    rw [hn', Option.some.injEq] at hnd
    subst hnd
    refine ⟨sh1, sh2, sh3, fun i hi => absurd hi (Nat.not_lt_zero i), .inr ⟨_, hb', hq, htot⟩, fun _ => ⟨fun p' nd' hnd' hne => ?_, fun i' p' nd' own' hx hs => ?_⟩⟩
    · cases p' with
      | nil => exact absurd rfl hne
      | cons a r => rw [hn1'] at hnd'; cases hnd'
    · obtain ⟨hne, hx'⟩ := hdelne hx
      exact hH.sep id [] _ i' p' nd' own' hnode hx' (fun h => hne h.1.symm) htot hs)
  have hcongr : ∀ i, hget ((id, o') :: hdel G id) i = hget (hset G id o') i := fun i => by
    rw [hget_cons, hget_hset, hget_hdel]
    by_cases h : i = id
    · subst h; simp [ho]
    · simp [h]
  refine ⟨hput.congr hcongr, ⟨hw'.os, hw'.tape, hw'.output, hw'.size, fun k hk hn => hw'.block k hk (fun e => hn (e ▸ hOwn)), hw'.drawn⟩, fun b hb => ?_⟩
  obtain ⟨i, p, nd, hx, ht, rfl⟩ := hb
  obtain ⟨o2, h1, h2, h3⟩ := hx.ex
  rw [hget_hset] at h1
  split at h1
  · next he =>
    subst he
    simp only [ho, Option.map_some, Option.some.injEq] at h1
    subst h1
    cases p with
    | nil => exact hOwn
    | cons a r => rw [hn1'] at h2; cases h2
  · exact ⟨i, p, nd, ⟨⟨o2, h1, h2, h3⟩⟩, ht, rfl⟩
theorem frame_set {b : Nat} {ob : Obj} (h : b < w.heap.size) : FrameW (· = b) w { w with heap := w.heap.setIfInBounds b ob } ∧ ({ w with heap := w.heap.setIfInBounds b ob } : World).heap[b]? = some ob := by
  refine ⟨⟨rfl, rfl, rfl, by simp, fun k _ hn => ?_, Nat.le_refl _⟩, by simp [h]⟩
  simp [Ne.symm hn]
theorem put_mp (hH : HeapRep ρ N G w) {id : Nat} {m m' : MapV} (ho : hget G id = some (.mp m)) {ob : Obj} (hq : mapQ m' ob) :
    HeapRep ρ N (hset G id (.mp m')) { w with heap := w.heap.setIfInBounds (ρ id []).b ob } ∧ FrameW (Owns ρ G) w { w with heap := w.heap.setIfInBounds (ρ id []).b ob } ∧ ∀ b, Owns ρ (hset G id (.mp m')) b → Owns ρ G b := by
  obtain ⟨es0, clock0, hb0, _⟩ := mp_block hH ho
  obtain ⟨f1, f2⟩ := frame_set (w := w) (ob := ob) (Array.getElem?_eq_some_iff.1 hb0).1
  exact put_x hH ho rfl (fun _ _ => rfl) rfl rfl (fun _ _ => rfl) rfl hq f1 f2

/-! ### make -/
def newM (kn : Nat) (bv : Bool) (K : MapV → Prop) : Prop :=
  bif Nat.beq kn 0 && bv then K (.ib []) else bif Nat.beq kn 0 then K (.ii []) else bif Nat.beq kn 3 && !bv then K (.r3 0 []) else False
theorem newM_spec {kn : Nat} {bv : Bool} {K : MapV → Prop} (h : newM kn bv K) : ∃ m, K m ∧ mapQ m (.map #[] 0) := by
  unfold newM at h
  cases h1 : (Nat.beq kn 0 && bv) with
  | true => simp only [h1, cond_true] at h; exact ⟨_, h, #[], 0, rfl, rfl, MapKept.stamped_empty 0, trivial⟩
  | false =>
    simp only [h1, cond_false] at h
    cases h2 : Nat.beq kn 0 with
    | true => simp only [h2, cond_true] at h; exact ⟨_, h, #[], 0, rfl, rfl, MapKept.stamped_empty 0, trivial⟩
    | false =>
      simp only [h2, cond_false] at h
      cases h3 : (Nat.beq kn 3 && !bv) with
      | true => simp only [h3, cond_true] at h; exact ⟨_, h, #[], 0, rfl, rfl, MapKept.stamped_empty 0, rfl, rfl, by simp⟩
      | false => simp [h3] at h
def eMapMake (T : Tbl) (t : Nat) (r : Option AV) (N : Nat) (G : Heap) (K : AV → Nat → Heap → Prop) : Prop :=
  match tget T t with
  | some ti => match ti.d with
    | .map kn bv => match r with
      | none => newM kn bv fun m => K (.map N) (N + 1) ((N, .mp m) :: G)
      | some v => match v with
        | .int _ _ => newM kn bv fun m => K (.map N) (N + 1) ((N, .mp m) :: G)
        | _ => False
    | _ => False
  | none => False
theorem eMapMake_sound (hT : TblOK P T) (hH : HeapRep ρ N G w) {t : Nat} {r : Option AV} {K : AV → Nat → Heap → Prop} (h : eMapMake T t r N G K) {rv : Option Value} (hr : ∀ a, r = some a → ∃ v, rv = some v ∧ VR ρ N a v) (hr0 : r = none → rv = none) :
    ∃ v w', (Instr.makeMap t rv).run P w = .ok v w' ∧ Out ρ N G w K v w' := by
  unfold eMapMake at h
  split at h
  case h_2 => exact h.elim
  rename_i ti ht
  split at h
  case h_2 => exact h.elim
  rename_i kn bv hd1
  have hd0 := (hT _ _ ht).desc
  rw [hd1] at hd0
  obtain ⟨kt, et, ie, hm, hk, he, hz⟩ : DescOK P t (.map kn bv) := hd0
  have hout : (newM kn bv fun m => K (.map N) (N + 1) ((N, .mp m) :: G)) → Out ρ N G w K (.map (some w.heap.size)) (w.alloc (.map #[] 0)) := fun h => by
    obtain ⟨m, hK, hq⟩ := newM_spec h
    refine new_x hH (o := .mp m) rfl (fun _ _ => rfl) rfl Nat.one_pos hq ?_ hK
    simp only [VR, if_true]
    exact ⟨Nat.lt_succ_self N, trivial⟩
  split at h
  · have := hr0 rfl
    subst this
    exact ⟨_, _, by simp [Instr.makeMap, newObj, Sem.run], hout h⟩
  · split at h
    case h_2 => exact h.elim
    rename_i v kk n
    obtain ⟨u, rfl, hu⟩ := hr _ rfl
    simp only [VR] at hu
    subst hu
    exact ⟨_, _, by simp [Instr.makeMap, run_underlying hm, asInt, asIntOf], hout h⟩

/-! ### m[k] = v -/
def i64K (v : AV) (K : Int → Prop) : Prop := keyI v K
def boolK (v : AV) (K : Bool → Prop) : Prop :=
  match v with
  | .bool b => K b
  | _ => False
def put3 (clock : Nat) (kvs : List (R3 × Int × Nat)) (k : R3) (b : Int) : List (R3 × Int × Nat) := mput kvs k (b, ((mlk kvs k).map (·.2)).getD clock)
def clk3 (clock : Nat) (kvs : List (R3 × Int × Nat)) (k : R3) : Nat := if mhas kvs k = true then clock else clock + 1
def eMapPut (T : Tbl) (t : Nat) (x ix v : AV) (N : Nat) (G : Heap) (K : AV → Nat → Heap → Prop) : Prop :=
  match tget T t with
  | some ti => match ti.d with
    | .map kn _ => mapK G x fun id m => match m with
      | .ib kvs => bif Nat.beq kn 0 then keyI ix fun n => boolK v fun b => K .top N (hset G id (.mp (.ib (mput kvs n b)))) else False
      | .ii kvs => bif Nat.beq kn 0 then keyI ix fun n => i64K v fun b => K .top N (hset G id (.mp (.ii (mput kvs n b)))) else False
      | .r3 c kvs => bif Nat.beq kn 3 then key3 ix fun k => i64K v fun b => need (some (ok3 k)) (K .top N (hset G id (.mp (.r3 (clk3 c kvs k) (put3 c kvs k b))))) else False
    | _ => False
  | none => False

theorem mapUpdate_core {t kt et : TypeId} (hm : P.underlying t = some (.map kt et)) {κ α : Type} [DecidableEq κ] {ok : κ → Prop} {enc : κ → Value} (hK : KK P kt ok enc) {encv : α → Value}
    {r : Nat} {es : Array MapEntry} {clock : Nat} {kvs : List (κ × α)} (hes : es.toList.map (fun e => (e.key, e.val)) = kvs.map (fun e => (enc e.1, encv e.2))) (hst : MapKept.Stamped es clock) (hok : ∀ e ∈ kvs, ok e.1) {k : κ} (hk : ok k) (b : α) {w : World} (hb : w.heap[r]? = some (.map es clock)) :
    ∃ es' clock', (Instr.mapUpdate t (.map (some r)) (enc k) (encv b)).run P w = .ok () { w with heap := w.heap.setIfInBounds r (.map es' clock') } ∧
      es'.toList.map (fun e => (e.key, e.val)) = (mput kvs k b).map (fun e => (enc e.1, encv e.2)) ∧ MapKept.Stamped es' clock' ∧
      ((mlk kvs k = none ∧ clock' = clock + 1 ∧ es'.toList.map (·.born) = es.toList.map (·.born) ++ [clock] ∧ mput kvs k b = kvs ++ [(k, b)]) ∨ ∃ j u, mlk kvs k = some u ∧ kvs[j]? = some (k, u) ∧ clock' = clock ∧ es'.toList.map (·.born) = es.toList.map (·.born) ∧ mput kvs k b = kvs.set j (k, b)) := by
  rcases hK.find k hk es.toList (ents_ok hes hok) w with ⟨h1, h2⟩ | ⟨j, e, h1, h2, h3⟩
  · obtain ⟨q1, q2, _⟩ := look_none hes h2
    refine ⟨es.push { key := enc k, val := encv b, born := clock }, clock + 1, ?_, ?_, MapKept.stamped_push hst h2, .inl ⟨q1, rfl, by simp, q2 b⟩⟩
    · simp only [Instr.mapUpdate, Sem.run_bind, run_underlying hm, Result.andThen_ok, MapKept.run_getObj_map hb, hK.check k hk, h1, MapKept.run_setObj_map _ hb]
    · rw [q2, Array.toList_push, List.map_append, List.map_append, hes]; rfl
  · obtain ⟨u, q1, q2, q3, q4, _⟩ := look_some hK.inj hes hst.2.2 h2 h3
    have hj : es[j]? = some e := by simpa using h2
    refine ⟨es.modify j (fun e => { e with key := enc k, val := encv b }), clock, ?_, ?_, MapKept.stamped_modify hst _ _ (fun _ _ => rfl) (fun e' _ he' => by rw [hj] at he'; cases he'; exact h3.symm), .inr ⟨j, u, q1, q3, rfl, ?_, q4 b⟩⟩
    · simp only [Instr.mapUpdate, Sem.run_bind, run_underlying hm, Result.andThen_ok, MapKept.run_getObj_map hb, hK.check k hk, h1]
      simp [hj, h3, hK.stays k hk, MapKept.run_setObj_map _ hb]
    · rw [q4 b]
      apply List.ext_getElem?
      intro i
      have hi := congrArg (·[i]?) hes
      simp only [List.getElem?_map, Array.getElem?_toList] at hi
      simp only [List.getElem?_map, Array.getElem?_toList, Array.getElem?_modify, List.getElem?_set]
      by_cases hij : j = i
      · subst hij
        have hlt : j < kvs.length := (List.getElem?_eq_some_iff.1 q3).1
        simp [hj, hlt]
      · simp only [if_neg hij]; exact hi
    · apply List.ext_getElem?
      intro i
      simp only [List.getElem?_map, Array.getElem?_toList, Array.getElem?_modify]
      by_cases hij : j = i
      · subst hij; simp [hj]
      · simp [hij]

theorem eMapPut_sound (hT : TblOK P T) (hH : HeapRep ρ N G w) {t : Nat} {x ix v : AV} {K : AV → Nat → Heap → Prop} (h : eMapPut T t x ix v N G K) {xv iv vv : Value} (hx : VR ρ N x xv) (hi : VR ρ N ix iv) (hv : VR ρ N v vv) :
    ∃ w', (Instr.mapUpdate t xv iv vv).run P w = .ok () w' ∧ Out ρ N G w K undef w' := by
  unfold eMapPut at h
  split at h
  case h_2 => exact h.elim
  rename_i ti ht
  split at h
  case h_2 => exact h.elim
  rename_i kn bv hd1
  have hd0 := (hT _ _ ht).desc
  rw [hd1] at hd0
  obtain ⟨kt, et, ie, hm, hk, he, hz⟩ : DescOK P t (.map kn bv) := hd0
  have h2 := mapK_spec h
  clear h
  obtain ⟨id, m, rfl, ho, h⟩ := h2
  simp only [VR] at hx
  obtain ⟨_, rfl⟩ := hx
  obtain ⟨es, clock, hb, hes, hst, hmore, htot⟩ := mp_block hH ho
  have hdone : ∀ {es' clock' m'}, (Instr.mapUpdate t (.map (some (ρ id []).b)) iv vv).run P w = .ok () { w with heap := w.heap.setIfInBounds (ρ id []).b (.map es' clock') } → mapQ m' (.map es' clock') → K .top N (hset G id (.mp m')) →
      ∃ w', (Instr.mapUpdate t (.map (some (ρ id []).b)) iv vv).run P w = .ok () w' ∧ Out ρ N G w K undef w' := fun {es' clock' m'} h1 h2 h3 => by
    obtain ⟨q1, q2, q3⟩ := put_mp hH ho (m' := m') h2
    exact ⟨_, h1, ⟨⟨.top, ρ, N, _, h3, by simp only [VR], q1, Nat.le_refl _, fun _ _ => rfl, q2, fun b hb => .inr (q3 b hb)⟩⟩⟩
  cases m with
  | ib kvs =>
    simp only at h
    cases hb1 : Nat.beq kn 0 with
    | false => simp [hb1] at h
    | true =>
      simp only [hb1, cond_true] at h
      obtain rfl := Nat.eq_of_beq_eq_true hb1
      have h2 := keyI_spec h
      clear h
      obtain ⟨n, h, hn⟩ := h2
      have hn := hn _ _ _ hi
      subst hn
      unfold boolK at h
      split at h
      case h_2 => exact h.elim
      rename_i b
      simp only [VR] at hv
      subst hv
      obtain ⟨es', clock', h1, h2, h3, _⟩ := mapUpdate_core hm (kk_int (P := P) hk) (encv := Value.bool) (kvs := kvs) hes hst (fun _ _ => trivial) (k := n) trivial b hb
      exact hdone h1 (m' := .ib (mput kvs n b)) ⟨es', clock', rfl, h2, h3, trivial⟩ h
  | ii kvs =>
    simp only at h
    cases hb1 : Nat.beq kn 0 with
    | false => simp [hb1] at h
    | true =>
      simp only [hb1, cond_true] at h
      obtain rfl := Nat.eq_of_beq_eq_true hb1
      have h2 := keyI_spec h
      clear h
      obtain ⟨n, h, hn⟩ := h2
      have hn := hn _ _ _ hi
      subst hn
      have h2 := keyI_spec h
      clear h
      obtain ⟨b, h, hn⟩ := h2
      have hn := hn _ _ _ hv
      subst hn
      obtain ⟨es', clock', h1, h2, h3, _⟩ := mapUpdate_core hm (kk_int (P := P) hk) (encv := encI) (kvs := kvs) hes hst (fun _ _ => trivial) (k := n) trivial b hb
      exact hdone h1 (m' := .ii (mput kvs n b)) ⟨es', clock', rfl, h2, h3, trivial⟩ h
  | r3 c kvs =>
    simp only at h
    cases hb1 : Nat.beq kn 3 with
    | false => simp [hb1] at h
    | true =>
      simp only [hb1, cond_true] at h
      obtain rfl := Nat.eq_of_beq_eq_true hb1
      have h2 := key3_spec (ρ := ρ) (N := N) h
      clear h
      obtain ⟨n, h, hn⟩ := h2
      have hn := hn _ hi
      subst hn
      have h2 := keyI_spec h
      clear h
      obtain ⟨b, h, hn⟩ := h2
      have hn := hn _ _ _ hv
      subst hn
      obtain ⟨hok, h⟩ := need_spec h
      obtain ⟨rfl, hborn, hall⟩ := hmore
      obtain ⟨es', clock', h1, h2, h3, h4⟩ := mapUpdate_core hm (kk_r3 (P := P) hk) (encv := encN) (kvs := kvs) hes hst hall (k := n) hok (b, ((mlk kvs n).map (·.2)).getD clock) hb
      have h1' : (Instr.mapUpdate t (.map (some (ρ id []).b)) (enc3 n) (encI b)).run P w = .ok () { w with heap := w.heap.setIfInBounds (ρ id []).b (.map es' clock') } := h1
      refine hdone h1' (m' := .r3 (clk3 clock kvs n) (put3 clock kvs n b)) ⟨es', clock', rfl, h2, h3, ?_⟩ h
      rcases h4 with ⟨q1, q2, q3, q4⟩ | ⟨j, u, q1, q2, q3, q4, q5⟩
      · refine ⟨by simp [clk3, mhas, q1, q2], ?_, ?_⟩
        · rw [q3, put3, q4, List.map_append, hborn]; simp [q1]
        · intro e he
          rw [put3, q4] at he
          rcases List.mem_append.1 he with he | he
          · exact hall e he
          · rw [List.mem_singleton.1 he]; exact hok
      · refine ⟨by simp [clk3, mhas, q1, q3], ?_, ?_⟩
        · rw [q4, put3, q5, hborn]
          apply List.ext_getElem?
          intro i
          simp only [List.getElem?_map, List.getElem?_set]
          by_cases hij : j = i
          · subst hij
            obtain ⟨hlt, hj⟩ := List.getElem?_eq_some_iff.1 q2
            simp [q1, hlt, hj]
          · simp [hij]
        · intro e he
          rw [put3, q5] at he
          rcases List.mem_or_eq_of_mem_set he with he | he
          · exact hall e he
          · rw [he]; exact hok

/-! ### delete -/
def eMapDel (T : Tbl) (t : Nat) (x ix : AV) (N : Nat) (G : Heap) (K : AV → Nat → Heap → Prop) : Prop :=
  match tget T t with
  | some ti => match ti.d with
    | .map kn _ => mapK G x fun id m => match m with
      | .ib kvs => bif Nat.beq kn 0 then keyI ix fun n => K (.tuple []) N (hset G id (.mp (.ib (mdel kvs n)))) else False
      | .ii kvs => bif Nat.beq kn 0 then keyI ix fun n => K (.tuple []) N (hset G id (.mp (.ii (mdel kvs n)))) else False
      | .r3 _ _ => False
    | _ => False
  | none => False
theorem mapDelete_core {t t2 ty kt et : TypeId} (hm : P.underlying t = some (.map kt et)) {κ α : Type} [DecidableEq κ] {ok : κ → Prop} {enc : κ → Value} (hK : KK P kt ok enc) {encv : α → Value}
    {r : Nat} {es : Array MapEntry} {clock : Nat} {kvs : List (κ × α)} (hes : es.toList.map (fun e => (e.key, e.val)) = kvs.map (fun e => (enc e.1, encv e.2))) (hst : MapKept.Stamped es clock) (hok : ∀ e ∈ kvs, ok e.1) {k : κ} (hk : ok k) {w : World} (hb : w.heap[r]? = some (.map es clock)) :
    ∃ es', (Builtin.delete_ #[t, t2] ty #[.map (some r), enc k]).run P w = .ok (.tuple #[]) { w with heap := w.heap.setIfInBounds r (.map es' clock) } ∧
      es'.toList.map (fun e => (e.key, e.val)) = (mdel kvs k).map (fun e => (enc e.1, encv e.2)) ∧ MapKept.Stamped es' clock := by
  rcases hK.find k hk es.toList (ents_ok hes hok) w with ⟨h1, h2⟩ | ⟨j, e, h1, h2, h3⟩
  · obtain ⟨_, _, q3⟩ := look_none hes h2
    refine ⟨es, ?_, by rw [q3, hes], hst⟩
    simp [Builtin.delete_, run_underlying hm, MapKept.run_getObj_map hb, hK.check k hk, h1, MapKept.run_setObj_map _ hb]
  · obtain ⟨u, _, _, q3, _, q5⟩ := look_some hK.inj hes hst.2.2 h2 h3
    have hlt : j < es.size := by
      have := (List.getElem?_eq_some_iff.1 h2).1
      simpa using this
    refine ⟨es.eraseIdxIfInBounds j, ?_, ?_, MapKept.stamped_erase hst _⟩
    · simp [Builtin.delete_, run_underlying hm, MapKept.run_getObj_map hb, hK.check k hk, h1, MapKept.run_setObj_map _ hb]
    · rw [q5]
      simp only [Array.eraseIdxIfInBounds, hlt, dif_pos, Array.toList_eraseIdx]
      rw [ChangeMaps.map_eraseIdx, ChangeMaps.map_eraseIdx, hes]
theorem eMapDel_sound (hT : TblOK P T) (hH : HeapRep ρ N G w) {t t2 ty : Nat} {x ix : AV} {K : AV → Nat → Heap → Prop} (h : eMapDel T t x ix N G K) {xv iv : Value} (hx : VR ρ N x xv) (hi : VR ρ N ix iv) :
    ∃ v w', (Builtin.delete_ #[t, t2] ty #[xv, iv]).run P w = .ok v w' ∧ Out ρ N G w K v w' := by
  unfold eMapDel at h
  split at h
  case h_2 => exact h.elim
  rename_i ti ht
  split at h
  case h_2 => exact h.elim
  rename_i kn bv hd1
  have hd0 := (hT _ _ ht).desc
  rw [hd1] at hd0
  obtain ⟨kt, et, ie, hm, hk, he, hz⟩ : DescOK P t (.map kn bv) := hd0
  have h2 := mapK_spec h
  clear h
  obtain ⟨id, m, rfl, ho, h⟩ := h2
  simp only [VR] at hx
  obtain ⟨_, rfl⟩ := hx
  obtain ⟨es, clock, hb, hes, hst, hmore, htot⟩ := mp_block hH ho
  have hdone : ∀ {es' clock' m'}, (Builtin.delete_ #[t, t2] ty #[.map (some (ρ id []).b), iv]).run P w = .ok (.tuple #[]) { w with heap := w.heap.setIfInBounds (ρ id []).b (.map es' clock') } → mapQ m' (.map es' clock') → K (.tuple []) N (hset G id (.mp m')) →
      ∃ v w', (Builtin.delete_ #[t, t2] ty #[.map (some (ρ id []).b), iv]).run P w = .ok v w' ∧ Out ρ N G w K v w' := fun {es' clock' m'} h1 h2 h3 => by
    obtain ⟨q1, q2, q3⟩ := put_mp hH ho (m' := m') h2
    exact ⟨_, _, h1, ⟨⟨.tuple [], ρ, N, _, h3, by simp only [VR]; exact ⟨[], rfl, by simp [VRL]⟩, q1, Nat.le_refl _, fun _ _ => rfl, q2, fun b hb => .inr (q3 b hb)⟩⟩⟩
  cases m with
  | ib kvs =>
    simp only at h
    cases hb1 : Nat.beq kn 0 with
    | false => simp [hb1] at h
    | true =>
      simp only [hb1, cond_true] at h
      obtain rfl := Nat.eq_of_beq_eq_true hb1
      have h2 := keyI_spec h
      clear h
      obtain ⟨n, h, hn⟩ := h2
      have hn := hn _ _ _ hi
      subst hn
      obtain ⟨es', h1, h2, h3⟩ := mapDelete_core (t2 := t2) (ty := ty) hm (kk_int (P := P) hk) (encv := Value.bool) (kvs := kvs) hes hst (fun _ _ => trivial) (k := n) trivial hb
      exact hdone h1 (m' := .ib (mdel kvs n)) ⟨es', clock, rfl, h2, h3, trivial⟩ h
  | ii kvs =>
    simp only at h
    cases hb1 : Nat.beq kn 0 with
    | false => simp [hb1] at h
    | true =>
      simp only [hb1, cond_true] at h
      obtain rfl := Nat.eq_of_beq_eq_true hb1
      have h2 := keyI_spec h
      clear h
      obtain ⟨n, h, hn⟩ := h2
      have hn := hn _ _ _ hi
      subst hn
      obtain ⟨es', h1, h2, h3⟩ := mapDelete_core (t2 := t2) (ty := ty) hm (kk_int (P := P) hk) (encv := encI) (kvs := kvs) hes hst (fun _ _ => trivial) (k := n) trivial hb
      exact hdone h1 (m' := .ii (mdel kvs n)) ⟨es', clock, rfl, h2, h3, trivial⟩ h
  | r3 c kvs => exact h.elim

/-! ### clear -/
def eMapClr (T : Tbl) (t : Nat) (x : AV) (N : Nat) (G : Heap) (K : AV → Nat → Heap → Prop) : Prop :=
  match tget T t with
  | some ti => match ti.d with
    | .map _ _ => mapK G x fun id m => match m with
      | .r3 c _ => K (.tuple []) N (hset G id (.mp (.r3 c [])))
      | _ => False
    | .slice _ _ _ _ => eClear T t x N G K
    | _ => False
  | none => False
theorem eMapClr_sound (hT : TblOK P T) (hH : HeapRep ρ N G w) {t ty : Nat} {x : AV} {K : AV → Nat → Heap → Prop} (h : eMapClr T t x N G K) {xv : Value} (hx : VR ρ N x xv) :
    ∃ v w', (Builtin.clear_ #[t] ty #[xv]).run P w = .ok v w' ∧ Out ρ N G w K v w' := by
  unfold eMapClr at h
  split at h
  case h_2 => exact h.elim
  rename_i ti ht
  split at h
  case h_3 => exact h.elim
  case h_2 => exact eClear_sound hT hH h hx
  rename_i kn bv hd1
  have hd0 := (hT _ _ ht).desc
  rw [hd1] at hd0
  obtain ⟨kt, et, ie, hm, hk, he, hz⟩ : DescOK P t (.map kn bv) := hd0
  have h2 := mapK_spec h
  clear h
  obtain ⟨id, m, rfl, ho, h⟩ := h2
  simp only [VR] at hx
  obtain ⟨_, rfl⟩ := hx
  obtain ⟨es, clock, hb, hes, hst, hmore, htot⟩ := mp_block hH ho
  cases m with
  | ib kvs => exact h.elim
  | ii kvs => exact h.elim
  | r3 c kvs =>
    simp only at h
    obtain ⟨rfl, _⟩ := hmore
    obtain ⟨q1, q2, q3⟩ := put_mp hH ho (m' := .r3 clock []) (ob := .map #[] clock) ⟨#[], clock, rfl, rfl, MapKept.stamped_empty _, rfl, rfl, by simp⟩
    exact ⟨.tuple #[], _, by simp [Builtin.clear_, run_underlying hm, MapKept.run_getObj_map hb, MapKept.run_setObj_map _ hb], ⟨⟨.tuple [], ρ, N, _, h, by simp only [VR]; exact ⟨[], rfl, by simp [VRL]⟩, q1, Nat.le_refl _, fun _ _ => rfl, q2, fun b hb => .inr (q3 b hb)⟩⟩⟩

/-! ### Going through a map -/
def eRange (T : Tbl) (t : Nat) (x : AV) (N : Nat) (G : Heap) (K : AV → Nat → Heap → Prop) : Prop :=
  match tget T t with
  | some ti => match ti.d with
    | .map _ _ => mapK G x fun id m => match m with
      | .r3 c _ => K (.iter N id) (N + 1) ((N, .it c [] none) :: G)
      | _ => False
    | _ => False
  | none => False
theorem eRange_sound (hT : TblOK P T) (hH : HeapRep ρ N G w) {t : Nat} {x : AV} {K : AV → Nat → Heap → Prop} (h : eRange T t x N G K) {xv : Value} (hx : VR ρ N x xv) :
    ∃ v w', (Instr.range t xv).run P w = .ok v w' ∧ Out ρ N G w K v w' := by
  unfold eRange at h
  split at h
  case h_2 => exact h.elim
  rename_i ti ht
  split at h
  case h_2 => exact h.elim
  rename_i kn bv hd1
  have hd0 := (hT _ _ ht).desc
  rw [hd1] at hd0
  obtain ⟨kt, et, ie, hm, hk, he, hz⟩ : DescOK P t (.map kn bv) := hd0
  have h2 := mapK_spec h
  clear h
  obtain ⟨id, m, rfl, ho, h⟩ := h2
  simp only [VR] at hx
  obtain ⟨hid, rfl⟩ := hx
  obtain ⟨es, clock, hb, hes, hst, hmore, htot⟩ := mp_block hH ho
  cases m with
  | ib kvs => exact h.elim
  | ii kvs => exact h.elim
  | r3 c kvs =>
    simp only at h
    obtain ⟨rfl, _⟩ := hmore
    refine ⟨.pointer (some ⟨w.heap.size, 0, none⟩), w.alloc (.mapIter (some (ρ id []).b) clock #[] clock), ?_, new_x hH (o := .it clock [] none) (tot := (ρ id []).b + 1) rfl (fun _ _ => rfl) rfl (Nat.succ_pos _) (by simp [itQ]) ?_ h⟩
    · simp [Instr.range, run_underlying hm, MapKept.run_getObj_map hb]
    · have hne : id ≠ N := by omega
      simp [VR, hne]; omega

/-- The next entry: any that has not been shown. -/
structure NextG (kvs : List (R3 × Int × Nat)) (seen : List Nat) (A : Prop) (B : R3 × Int × Nat → Prop) : Prop where
  over : (kvs.map (·.2.2)).Nodup → (∀ e ∈ kvs, e.2.2 ∈ seen) → A
  more : (kvs.map (·.2.2)).Nodup → ∀ e, e ∈ kvs → e.2.2 ∉ seen → B e
def eNext (x : AV) (N : Nat) (G : Heap) (K : AV → Nat → Heap → Prop) : Prop :=
  match x with
  | .iter id m => match hget G id with
    | some o => match o with
      | .it c seen _ => match hget G m with
        | some o' => match o' with
          | .mp mv => match mv with
            | .r3 c' kvs => need (some (c = c')) (NextG kvs seen (K (.tuple [.bool false]) N G) fun e => K (.tuple [.bool true, .agg [.int .i64 e.1.a, .int .i64 e.1.b, .int .i64 e.1.c], .int .i64 e.2.1]) N (hset G id (.it c (e.2.2 :: seen) (some e))))
            | _ => False
          | _ => False
        | none => False
      | _ => False
    | none => False
  | _ => False
def eEntry (x : AV) (N : Nat) (G : Heap) (K : AV → Nat → Heap → Prop) : Prop :=
  match x with
  | .iter id m => match hget G id with
    | some o => match o with
      | .it c seen last => match last with
        | some e => match hget G m with
          | some o' => match o' with
            | .mp mv => match mv with
              | .r3 c' kvs => need (some (c = c' ∧ e ∈ kvs ∧ ∃ r, seen = e.2.2 :: r)) (K (.tuple [.agg [.int .i64 e.1.a, .int .i64 e.1.b, .int .i64 e.1.c], .int .i64 e.2.1]) N G)
              | _ => False
            | _ => False
          | none => False
        | none => False
      | _ => False
    | none => False
  | _ => False
theorem it_block (hH : HeapRep ρ N G w) {id c : Nat} {seen : List Nat} {last : Option (R3 × Int × Nat)} (ho : hget G id = some (.it c seen last)) :
    w.heap[(ρ id []).b]? = some (.mapIter (some ((ρ id []).tot - 1)) c seen.reverse.toArray c) := by
  rcases hH.ow id [] _ ⟨⟨_, ho, rfl, rfl⟩⟩ with ⟨_, _, h⟩ | ⟨ob, h1, h2, h4⟩
  · cases h
  · rw [h1]
    have : ob = _ := h2
    rw [this]
theorem r3_entry {es : Array MapEntry} {clock c : Nat} {kvs : List (R3 × Int × Nat)} (hes : es.toList.map (fun e => (e.key, e.val)) = (MapV.r3 c kvs).ents) (hmore : (MapV.r3 c kvs).more es clock) {e : MapEntry} (he : e ∈ es.toList) :
    ∃ x ∈ kvs, e.key = enc3 x.1 ∧ e.val = encN x.2 ∧ e.born = x.2.2 := by
  obtain ⟨i, hi, rfl⟩ := List.getElem_of_mem he
  have h1 := congrArg (·[i]?) hes
  have h2 := congrArg (·[i]?) hmore.2.1
  simp only [MapV.ents, List.getElem?_map, List.getElem?_eq_getElem hi, Option.map_some] at h1 h2
  cases hk : kvs[i]? with
  | none => rw [hk] at h1; cases h1
  | some x =>
    rw [hk] at h1 h2
    simp only [Option.map_some, Option.some.injEq, Prod.mk.injEq] at h1 h2
    exact ⟨x, List.mem_of_getElem? hk, h1.1, h1.2, h2⟩
theorem entry_r3 {es : Array MapEntry} {clock c : Nat} {kvs : List (R3 × Int × Nat)} (hes : es.toList.map (fun e => (e.key, e.val)) = (MapV.r3 c kvs).ents) (hmore : (MapV.r3 c kvs).more es clock) {x : R3 × Int × Nat} (hx : x ∈ kvs) :
    ∃ e ∈ es.toList, e.key = enc3 x.1 ∧ e.val = encN x.2 ∧ e.born = x.2.2 := by
  obtain ⟨i, hi, rfl⟩ := List.getElem_of_mem hx
  have h1 := congrArg (·[i]?) hes
  have h2 := congrArg (·[i]?) hmore.2.1
  simp only [MapV.ents, List.getElem?_map, List.getElem?_eq_getElem hi, Option.map_some] at h1 h2
  cases hk : es.toList[i]? with
  | none => rw [hk] at h1; cases h1
  | some e =>
    rw [hk] at h1 h2
    simp only [Option.map_some, Option.some.injEq, Prod.mk.injEq] at h1 h2
    exact ⟨e, List.mem_of_getElem? hk, h1.1, h1.2, h2⟩

theorem eNext_sound (hH : HeapRep ρ N G w) {ty : TypeId} {x : AV} {K : AV → Nat → Heap → Prop} (h : eNext x N G K) {xv : Value} (hx : VR ρ N x xv) :
    ∃ v w', (Instr.next xv false ty).run P w = .ok v w' ∧ Out ρ N G w K v w' := by
  unfold eNext at h
  split at h
  case h_2 => exact h.elim
  rename_i id m
  split at h
  case h_2 => exact h.elim
  rename_i o ho
  split at h
  case h_2 => exact h.elim
  rename_i c seen last
  split at h
  case h_2 => exact h.elim
  rename_i o' ho'
  split at h
  case h_2 => exact h.elim
  rename_i mv
  split at h
  case h_2 => exact h.elim
  rename_i c' kvs
  have h3 := need_spec h
  clear h
  obtain ⟨hcc, h⟩ := h3
  have hcc : c = c' := hcc
  subst hcc
  simp only [VR] at hx
  obtain ⟨hid, hmN, rfl, htot⟩ := hx
  have hit := it_block hH ho
  rw [htot, Nat.add_sub_cancel] at hit
  obtain ⟨es, clock, hb, hes, hst, hmore, htotm⟩ := mp_block hH ho'
  have hcl : clock = c := hmore.1
  subst hcl
  have hseen : ∀ b : Nat, (seen.reverse.toArray.contains b) = decide (b ∈ seen) := fun b => by
    rw [Bool.eq_iff_iff]; simp
  rcases run_next_at (P := P) w ty (ρ id []).b (ρ m []).b clock clock seen.reverse.toArray es clock hit hb (fun x hx => hst.1 x hx) (Nat.le_refl _) with ⟨h1, h2⟩ | ⟨e, he, w1, hw1, hrun⟩
  · refine ⟨_, _, h2, ⟨⟨.tuple [.bool false], ρ, N, G, h.over (hmore.2.1 ▸ hst.2.1) fun x hx => ?_, ?_, hH, Nat.le_refl _, fun _ _ => rfl, FrameW.refl _ _, fun b hb => .inr hb⟩⟩⟩
    · obtain ⟨e, he, _, _, q3⟩ := entry_r3 hes hmore hx
      refine Classical.byContradiction fun hn => ?_
      have : e ∈ leftOf es seen.reverse.toArray := by
        unfold leftOf
        rw [Array.mem_filter]
        refine ⟨by simpa using he, ?_⟩
        rw [hseen, q3]; simpa using hn
      have := Array.size_pos_of_mem this
      omega
    · simp only [VR, VRL]; exact ⟨[.bool false], rfl, _, _, rfl, rfl, rfl⟩
  · have he' : e ∈ leftOf es seen.reverse.toArray := by simpa using he
    unfold leftOf at he'
    rw [Array.mem_filter, hseen] at he'
    obtain ⟨he1, he2⟩ := he'
    obtain ⟨x, hx, q1, q2, q3⟩ := r3_entry hes hmore (by simpa using he1)
    have hK := h.more (hmore.2.1 ▸ hst.2.1) x hx (by simpa [q3] using he2)
    have hlt : (ρ id []).b < w.heap.size := (Array.getElem?_eq_some_iff.1 hit).1
    have hfr : FrameW (· = (ρ id []).b) w (ChangeMaps.setBlock w1 (ρ id []).b (.mapIter (some (ρ m []).b) clock (seen.reverse.toArray.push e.born) clock)) ∧ (ChangeMaps.setBlock w1 (ρ id []).b (.mapIter (some (ρ m []).b) clock (seen.reverse.toArray.push e.born) clock)).heap[(ρ id []).b]? = some (.mapIter (some (ρ m []).b) clock (seen.reverse.toArray.push e.born) clock) := by
      unfold ChangeMaps.setBlock
      rcases hw1 with rfl | rfl
      · exact ⟨⟨rfl, rfl, rfl, by simp, fun k _ hn => by simp [Ne.symm hn], Nat.le_refl _⟩, by simp [hlt]⟩
      · have e1 : (w.drew).heap = w.heap := rfl
        exact ⟨⟨rfl, rfl, rfl, by simp [e1], fun k _ hn => by simp [e1, Ne.symm hn], Nat.le_succ _⟩, by simp [e1, hlt]⟩
    obtain ⟨r1, r2, r3⟩ := put_x hH ho rfl (fun _ _ => rfl) rfl (o' := .it clock (x.2.2 :: seen) (some x)) rfl (fun _ _ => rfl) rfl (ob := .mapIter (some (ρ m []).b) clock (seen.reverse.toArray.push e.born) clock) (by simp [itQ, htot, q3]) hfr.1 hfr.2
    refine ⟨_, _, hrun, ⟨⟨_, ρ, N, _, hK, ?_, r1, Nat.le_refl _, fun _ _ => rfl, r2, fun b hb => .inr (r3 b hb)⟩⟩⟩
    rw [q1, q2]
    simp only [VR, VRL, enc3, encN]
    refine ⟨[.bool true, .agg #[.int .i64 x.1.a, .int .i64 x.1.b, .int .i64 x.1.c], .int .i64 x.2.1], rfl, _, _, rfl, rfl, _, _, rfl, ⟨[.int .i64 x.1.a, .int .i64 x.1.b, .int .i64 x.1.c], rfl, ⟨_, _, rfl, rfl, _, _, rfl, rfl, _, _, rfl, rfl, rfl⟩, by simp [Value.oneCell']⟩, _, _, rfl, rfl, rfl⟩

theorem eEntry_sound (hH : HeapRep ρ N G w) {x : AV} {K : AV → Nat → Heap → Prop} (h : eEntry x N G K) {xv : Value} (hx : VR ρ N x xv) :
    ∃ v w', (Instr.entry xv).run P w = .ok v w' ∧ Out ρ N G w K v w' := by
  unfold eEntry at h
  split at h
  case h_2 => exact h.elim
  rename_i id m
  split at h
  case h_2 => exact h.elim
  rename_i o ho
  split at h
  case h_2 => exact h.elim
  rename_i c seen last
  split at h
  case h_2 => exact h.elim
  rename_i x
  split at h
  case h_2 => exact h.elim
  rename_i o' ho'
  split at h
  case h_2 => exact h.elim
  rename_i mv
  split at h
  case h_2 => exact h.elim
  rename_i c' kvs
  have h3 := need_spec h
  clear h
  obtain ⟨hc, h⟩ := h3
  obtain ⟨rfl, hmem, r, rfl⟩ : c = c' ∧ x ∈ kvs ∧ ∃ r, seen = x.2.2 :: r := hc
  simp only [VR] at hx
  obtain ⟨hid, hmN, rfl, htot⟩ := hx
  have hit := it_block hH ho
  rw [htot, Nat.add_sub_cancel] at hit
  obtain ⟨es, clock, hb, hes, hst, hmore, htotm⟩ := mp_block hH ho'
  have hcl : clock = c := hmore.1
  subst hcl
  obtain ⟨e, he, q1, q2, q3⟩ := entry_r3 hes hmore hmem
  have hit' : w.heap[(ρ id []).b]? = some (.mapIter (some (ρ m []).b) clock (r.reverse.toArray.push e.born) clock) := by
    rw [hit, q3]; simp
  have hrun := run_entry_at (P := P) w (ρ id []).b (ρ m []).b clock r.reverse.toArray es clock e hit' hb he hst.2.1
  refine ⟨_, _, hrun, ⟨⟨_, ρ, N, G, h, ?_, hH, Nat.le_refl _, fun _ _ => rfl, FrameW.refl _ _, fun b hb => .inr hb⟩⟩⟩
  rw [q1, q2]
  simp only [VR, VRL, enc3, encN]
  refine ⟨[.agg #[.int .i64 x.1.a, .int .i64 x.1.b, .int .i64 x.1.c], .int .i64 x.2.1], rfl, _, _, rfl, ⟨[.int .i64 x.1.a, .int .i64 x.1.b, .int .i64 x.1.c], rfl, ⟨_, _, rfl, rfl, _, _, rfl, rfl, _, _, rfl, rfl, rfl⟩, by simp [Value.oneCell']⟩, _, _, rfl, rfl, rfl⟩
end
end Go.Sx

/-
  The state of a function's run, its operations one after another, and its code.
-/
namespace Go.Sx
set_option linter.unusedVariables false
set_option linter.unusedSimpArgs false
open Go
open Go.RowKit

abbrev Slots := List (Nat × AV)
def look : Slots → Nat → AV
  | [], _ => .top
  | (k, v) :: r, t => bif Nat.beq k t then v else look r t

def constAV (v : Value) : AV :=
  match v with
  | .int k n => .int k n
  | .bool b => .bool b
  | .string s => .str s
  | .slice a n c => match a with
    | none => match n with
      | 0 => match c with
        | 0 => .nilsl
        | _ + 1 => .top
      | _ + 1 => .top
    | some _ => .top
  | .pointer a => match a with
    | none => .nilptr
    | some _ => .top
  | .map a => match a with
    | none => .nilmap
    | some _ => .top
  | _ => .top
theorem constAV_ok (ρ : Rho) (N : Nat) (v : Value) : VR ρ N (constAV v) v := by
  unfold constAV
  repeat' split
  all_goals simp only [VR]

def ao (s : Slots) (x : Operand) : AV :=
  match x with
  | .tmp t => look s t
  | .const v => constAV v
  | .func f => .func f []
  | .global _ => .top
/-- A guarded value, seen where its guard is known. -/
def AV.strip (v : AV) : AV :=
  match v with
  | .opt _ _ _ a => a
  | v => v
def aoS (s : Slots) (x : Operand) : AV := (ao s x).strip
/-- The operands of a guarded operation: those of a choice are seen as they are. -/
def opEq (x y : Operand) : Bool :=
  match x with
  | .tmp t => match y with
    | .tmp u => Nat.beq t u
    | _ => false
  | _ => false
theorem opEq_eq {x y : Operand} (h : opEq x y = true) : x = y := by
  unfold opEq at h
  split at h
  · split at h
    · rw [Nat.eq_of_beq_eq_true h]
    · cases h
  · cases h
def lkG (s : Slots) (op : Op) : Operand → AV :=
  match op with
  | .pick c _ _ => fun x => match opEq x c with
    | true => aoS s x
    | false => ao s x
  | _ => aoS s
def optOps (op : Op) : List Operand :=
  match op with
  | .pick c _ _ => [c]
  | op => op.operands.toList
/-- What must be known of the guards of the operands. -/
def optC (s : Slots) : List Operand → (Prop → Prop) → Prop → Prop
  | [], K, c => K c
  | x :: r, K, c => match ao s x with
    | .opt _ w g _ => optC s r K (g = w ∧ c)
    | _ => optC s r K c

/-- A value laid open, for what follows. -/
def forceK (v : AV) (K : AV → Prop) : Prop :=
  match v with
  | .int k n => K (.int k n)
  | .bool b => K (.bool b)
  | .str s => K (.str s)
  | .ptr id p i j => K (.ptr id p i j)
  | .sl id p => K (.sl id p)
  | .sub id p i len cap => K (.sub id p i len cap)
  | .nilsl => K .nilsl
  | .nilptr => K .nilptr
  | .nilmap => K .nilmap
  | .map id => K (.map id)
  | .iter id m => K (.iter id m)
  | .func f caps => K (.func f caps)
  | .agg cs => K (.agg cs)
  | .tuple vs => K (.tuple vs)
  | .opt gt w g a => K (.opt gt w g a)
  | .top => K .top
theorem forceK_eq {v : AV} {K : AV → Prop} (h : forceK v K) : K v := by
  cases v <;> exact h

structure Env where
  P : Program
  T : Tbl
  nt : Nat
  keep : List Nat

/-- Into a slot. -/
def putK (E : Env) (dst : Option Nat) (v : AV) (s : Slots) (K : Slots → Prop) : Prop :=
  match dst with
  | none => K s
  | some d => bif Nat.blt d E.nt then forceK v fun v => K ((d, v) :: s) else False

def eCall (P : Program) (lk : Operand → AV) (f : Operand) (args : List Operand) (N : Nat) (G : Heap) (K : AV → Nat → Heap → Prop) : Prop :=
  match lk f with
  | .func g caps => ACall P g (args.map lk ++ caps) N G K
  | _ => False

/-- The operations that turn the world. -/
def effect (P : Program) (T : Tbl) (lk : Operand → AV) (N : Nat) (G : Heap) (op : Op) (K : AV → Nat → Heap → Prop) : Prop :=
  match op with
  | .alloc t => eAlloc T t N G K
  | .box _ x => cellsK (lk x) fun cs => eBox cs N G K
  | .store t a x => eStoreX T t (lk a) (lk x) N G K
  | .makeSlice t l c => eMakeX T lk t l c N G K
  | .buildSlice t len parts => eBuildY T lk t len parts.toList N G K
  | .makeMap t r => eMapMake T t (r.map lk) N G K
  | .mapUpdate t m k x => eMapPut T t (lk m) (lk k) (lk x) N G K
  | .insert t m k x => eMapPut T t (lk m) (lk k) (lk x) N G K
  | .range t x => eRange T t (lk x) N G K
  | .next x s => match s with
    | false => eNext (lk x) N G K
    | true => False
  | .entry x => eEntry (lk x) N G K
  | .call c => match c.callee with
    | .builtin b => match b with
      | .append => match c.args.toList with
        | [s, x] => match c.argTypes.toList with
          | [t, t2] => eAppendX T t t2 (lk s) (lk x) N G K
          | _ => False
        | _ => False
      | .copy => match c.args.toList with
        | [s, x] => match c.argTypes.toList with
          | [t, _] => eCopy T t (lk s) (lk x) N G K
          | _ => False
        | _ => False
      | .clear => match c.args.toList with
        | [x] => match c.argTypes.toList with
          | [t] => eMapClr T t (lk x) N G K
          | _ => False
        | _ => False
      | .delete => match c.args.toList with
        | [x, ix] => match c.argTypes.toList with
          | [t, _] => eMapDel T t (lk x) (lk ix) N G K
          | _ => False
        | _ => False
      | _ => False
    | .value f => eCall P lk f c.args.toList N G K
    | .invoke _ _ => False
  | _ => False

/-- Which operations turn the world? -/
def isEffect (op : Op) : Bool :=
  match op with
  | .alloc _ => true
  | .box _ _ => true
  | .store _ _ _ => true
  | .makeSlice _ _ _ => true
  | .buildSlice _ _ _ => true
  | .makeMap _ _ => true
  | .mapUpdate _ _ _ _ => true
  | .insert _ _ _ _ => true
  | .range _ _ => true
  | .next _ _ => true
  | .entry _ => true
  | .call c => match c.callee with
    | .builtin b => match b with
      | .append => true
      | .copy => true
      | .clear => true
      | .delete => true
      | _ => false
    | .value _ => true
    | .invoke _ _ => true
  | _ => false

section
variable {P : Program} {T : Tbl} {ρ : Rho} {N : Nat} {G : Heap} {w : World}

theorem run_callFunc {f : Nat} (h : FnOK P f) (args : Array Value) (w : World) : (callFunc f args).run P w = .ok (.enter f args) w := by
  obtain ⟨fn, h1, h2, h3⟩ := h.ex
  have h2' : ¬ fn.name = "runtime.NumGoroutine" := by simpa using h2
  have h3' : ¬ fn.body = none := fun e => by rw [e] at h3; cases h3
  simp [callFunc, h1, h2', h3']

theorem VRL_map {lk : Operand → AV} {ev : Operand → Value} (hlk : ∀ x, VR ρ N (lk x) (ev x)) : ∀ l : List Operand, VRL ρ N (l.map lk) (l.map ev)
  | [] => by simp [VRL]
  | x :: r => by simp only [List.map_cons, VRL]; exact ⟨_, _, rfl, hlk x, VRL_map hlk r⟩

theorem effect_sound {lk : Operand → AV} {a : Act} (hT : TblOK P T) (hgk : GOK ρ G w) (hH : HeapRep ρ N G w) (hlk : ∀ x, VR ρ N (lk x) (a.eval x)) {o : Oper} {K : AV → Nat → Heap → Prop} (h : effect P T lk N G o.op K) (Q : Exit → Act → World → Prop) :
    o.wp P a w (fun a' w' => ∃ v, a' = a.put o.dst v ∧ Out ρ N G w K v w') Q := by
  obtain ⟨dst, op, ty, pos, after, guard⟩ := o
  simp only at h
  have hval : ∀ {s : Sem Next} {v w'}, execOp a.eval ⟨dst, op, ty, pos, after, guard⟩ = s → s.run P w = .ok (.value v) w' → Out ρ N G w K v w' → Oper.wp P ⟨dst, op, ty, pos, after, guard⟩ a w (fun a' w' => ∃ v, a' = a.put dst v ∧ Out ρ N G w K v w') Q := fun {s v w'} he hr ho => by
    unfold Oper.wp; rw [he, hr]; exact ⟨v, rfl, ho⟩
  cases op <;> simp only [effect] at h
  case alloc t =>
    obtain ⟨v, w', h1, h2⟩ := eAlloc_sound hT hH h
    exact hval rfl (by simp [execOp, h1]) h2
  case box t x =>
    obtain ⟨cs, us, h, hc, hu, h1⟩ := cellsK_spec h (hlk x)
    have := eBox_sound hH hu h1 h t
    refine hval rfl (v := .pointer (some ⟨w.heap.size, 0, none⟩)) (w' := w.alloc (.cells us.toArray t)) ?_ this
    simp [execOp, Instr.box, newVar, newRow, hc]
  case store t p x =>
    obtain ⟨w', h1, h2⟩ := eStoreX_sound hT hH h (hlk p) (hlk x)
    unfold Oper.wp
    have : (execOp a.eval ⟨dst, .store t p x, ty, pos, after, guard⟩).run P w = .ok .skip w' := by simp [execOp, h1]
    rw [this]
    exact ⟨undef, rfl, h2⟩
  case makeSlice t l c =>
    obtain ⟨v, w', h1, h2⟩ := eMakeX_sound hT hH hlk (fun x y hs => by
      unfold sameOpd at hs
      split at hs
      · have := Nat.eq_of_beq_eq_true hs; subst this; rfl
      · simp only [Bool.and_eq_true, beq_iff_eq, decide_eq_true_eq] at hs; obtain ⟨e1, e2⟩ := hs; subst e1 e2; rfl
      · cases hs) h
    exact hval rfl (by simp [execOp, h1]) h2
  case buildSlice t len parts =>
    obtain ⟨v, w', h1, h2⟩ := eBuildY_sound hT hH hlk h
    refine hval rfl ?_ h2
    have : (parts.map fun x => (x.1, a.eval x.2)) = (parts.toList.map fun x => (x.1, a.eval x.2)).toArray := Array.ext' (by simp)
    simp only [execOp]
    rw [show (parts.map fun (i, x) => (i, a.eval x)) = (parts.toList.map fun x => (x.1, a.eval x.2)).toArray from this]
    simp [h1]
  case makeMap t r =>
    obtain ⟨v, w', h1, h2⟩ := eMapMake_sound hT hH h (rv := r.map a.eval) (fun x hx => by
      cases r with
      | none => cases hx
      | some y => injection hx with hx; subst hx; exact ⟨_, rfl, hlk y⟩) (fun hn => by cases r with
      | none => rfl
      | some y => cases hn)
    exact hval rfl (by simp [execOp, h1]) h2
  case mapUpdate t m k x =>
    obtain ⟨w', h1, h2⟩ := eMapPut_sound hT hH h (hlk m) (hlk k) (hlk x)
    unfold Oper.wp
    have : (execOp a.eval ⟨dst, .mapUpdate t m k x, ty, pos, after, guard⟩).run P w = .ok .skip w' := by simp [execOp, h1]
    rw [this]
    exact ⟨undef, rfl, h2⟩
  case insert t m k x =>
    obtain ⟨w', h1, h2⟩ := eMapPut_sound hT hH h (hlk m) (hlk k) (hlk x)
    unfold Oper.wp
    have : (execOp a.eval ⟨dst, .insert t m k x, ty, pos, after, guard⟩).run P w = .ok .skip w' := by simp [execOp, h1]
    rw [this]
    exact ⟨undef, rfl, h2⟩
  case range t x =>
    obtain ⟨v, w', h1, h2⟩ := eRange_sound hT hH h (hlk x)
    exact hval rfl (by simp [execOp, h1]) h2
  case next x s =>
    split at h
    case h_2 => exact h.elim
    obtain ⟨v, w', h1, h2⟩ := eNext_sound (P := P) (ty := ty) hH h (hlk x)
    exact hval rfl (by simp [execOp, h1]) h2
  case entry x =>
    obtain ⟨v, w', h1, h2⟩ := eEntry_sound (P := P) hH h (hlk x)
    exact hval rfl (by simp [execOp, h1]) h2
  case call c =>
    split at h
    · rename_i b hcal
      split at h
      case h_5 => exact h.elim
      case h_4 =>
        split at h
        case h_2 => exact h.elim
        rename_i x ix hargs
        split at h
        case h_2 => exact h.elim
        rename_i t t2 hts
        have ha : c.args = #[x, ix] := Array.ext' hargs
        have ht0 : c.argTypes = #[t, t2] := Array.ext' hts
        obtain ⟨v, w', h1, h2⟩ := eMapDel_sound (t2 := t2) (ty := ty) hT hH h (hlk x) (hlk ix)
        exact hval rfl (by simp [execOp, resolve, hcal, ha, ht0, invoke, builtin, h1]) h2
      case h_3 =>
        split at h
        case h_2 => exact h.elim
        rename_i x hargs
        split at h
        case h_2 => exact h.elim
        rename_i t hts
        have ha : c.args = #[x] := Array.ext' hargs
        have ht0 : c.argTypes = #[t] := Array.ext' hts
        obtain ⟨v, w', h1, h2⟩ := eMapClr_sound (ty := ty) hT hH h (hlk x)
        exact hval rfl (by simp [execOp, resolve, hcal, ha, ht0, invoke, builtin, h1]) h2
      case h_1 =>
        split at h
        case h_2 => exact h.elim
        rename_i s x hargs
        split at h
        case h_2 => exact h.elim
        rename_i t t2 hts
        have ha : c.args = #[s, x] := Array.ext' hargs
        have ht0 : c.argTypes = #[t, t2] := Array.ext' hts
        obtain ⟨v, w', h1, h2⟩ := eAppendX_sound (ty := ty) hT hH h (hlk s) (hlk x)
        exact hval rfl (by simp [execOp, resolve, hcal, ha, ht0, invoke, builtin, h1]) h2
      case h_2 =>
        split at h
        case h_2 => exact h.elim
        rename_i s x hargs
        split at h
        case h_2 => exact h.elim
        rename_i t t2 hts
        have ha : c.args = #[s, x] := Array.ext' hargs
        have ht0 : c.argTypes = #[t, t2] := Array.ext' hts
        obtain ⟨v, w', h1, h2⟩ := eCopy_sound (t2 := t2) (ty := ty) hT hH h (hlk s) (hlk x)
        exact hval rfl (by simp [execOp, resolve, hcal, ha, ht0, invoke, builtin, h1]) h2
    · rename_i f hcal
      unfold eCall at h
      split at h
      case h_2 => exact h.elim
      rename_i g caps hf
      have hv := hlk f
      rw [hf] at hv
      simp only [VR] at hv
      obtain ⟨cs, hev, hcs⟩ := hv
      obtain ⟨hok, hcall⟩ := h
      have hargs := (VRL_map hlk c.args.toList).append hcs
      have hc := hcall ρ w _ hgk hH hargs
      unfold Oper.wp
      have : (execOp a.eval ⟨dst, .call c, ty, pos, after, guard⟩).run P w = .ok (.enter g (c.args.toList.map a.eval ++ cs).toArray) w := by
        simp only [execOp, resolve, hcal, Sem.run_bind, hev, Deferred.ofValue, Sem.run_pure, Result.andThen_ok, invoke]
        rw [show (#[] ++ c.args.map a.eval ++ cs.toArray) = (c.args.toList.map a.eval ++ cs).toArray from Array.ext' (by simp)]
        exact run_callFunc hok _ _
      rw [this]
      simp only [Oper.upon]
      refine hc.mono fun e w' ⟨v, he, ho⟩ => ?_
      subst he
      exact ⟨v, rfl, ho⟩
    · exact h.elim

end
end Go.Sx

/-
  The state; regions in the order of the text; code without loops; the function rule.
-/
namespace Go.Sx
set_option linter.unusedVariables false
set_option linter.unusedSimpArgs false
open Go
open Go.RowKit

/-- What stood when the function was entered. -/
structure Entry where
  ρ : Rho
  N : Nat
  G : Heap
  w : World
  ok : GOK ρ G w

structure St (E : Env) (B : Entry) (s : Slots) (N : Nat) (G : Heap) (a : Act) (w : World) : Prop where
  ex : ∃ ρ, (∀ t, VR ρ N (look s t) (a.tmps.getD t undef)) ∧ HeapRep ρ N G w ∧ B.N ≤ N ∧ (∀ id, id < B.N → ρ id = B.ρ id) ∧ FrameW (Owns B.ρ B.G) B.w w ∧ ∀ b, Owns ρ G b → B.w.heap.size ≤ b ∨ Owns B.ρ B.G b
  size : a.tmps.size = E.nt
  defers : a.defers = []

/-! ### The heap written out -/
def rowK : List AV → (List AV → Prop) → Prop
  | [], K => K []
  | v :: r, K => forceK v fun v => rowK r fun r' => K (v :: r')
theorem rowK_eq : ∀ {l : List AV} {K : List AV → Prop}, rowK l K → K l
  | [], _, h => h
  | v :: r, K, h => by
    simp only [rowK] at h
    exact rowK_eq (K := fun r' => K (v :: r')) (forceK_eq h)
def rowsK : List (List AV) → (List (List AV) → Prop) → Prop
  | [], K => K []
  | v :: r, K => rowK v fun v => rowsK r fun r' => K (v :: r')
theorem rowsK_eq : ∀ {l : List (List AV)} {K : List (List AV) → Prop}, rowsK l K → K l
  | [], _, h => h
  | v :: r, K, h => by
    simp only [rowsK] at h
    exact rowsK_eq (K := fun r' => K (v :: r')) (rowK_eq h)
def objK (o : AObj) (K : AObj → Prop) : Prop :=
  match o with
  | .flat own f => match f with
    | .gen sz rows => rowsK rows fun rows => K (.flat own (.gen sz rows))
    | .ints k xs => K (.flat own (.ints k xs))
    | .r2 xs => K (.flat own (.r2 xs))
    | .r3 xs => K (.flat own (.r3 xs))
    | .r4 xs => K (.flat own (.r4 xs))
    | .bools xs => K (.flat own (.bools xs))
    | .strs xs => K (.flat own (.strs xs))
    | .rows M off n => K (.flat own (.rows M off n))
    | .bld t p s => forceK p fun p => forceK s fun s => K (.flat own (.bld t p s))
    | .tby t xs => K (.flat own (.tby t xs))
    | .tops n => K (.flat own (.tops n))
    | .rowl M is => K (.flat own (.rowl M is))
  | .nestI own k xss => K (.nestI own k xss)
  | .nestR2 own xss => K (.nestR2 own xss)
  | .nestH own R segs => K (.nestH own R segs)
  | .mp m => K (.mp m)
  | .it c s l => K (.it c s l)
theorem objK_eq {o : AObj} {K : AObj → Prop} (h : objK o K) : K o := by
  unfold objK at h
  split at h
  · split at h
    · exact rowsK_eq (K := fun rows => K (.flat _ (.gen _ rows))) h
    all_goals first | exact h | exact forceK_eq (K := fun s => K (.flat _ (.bld _ _ s))) (forceK_eq (K := fun p => forceK _ fun s => K (.flat _ (.bld _ p s))) h)
  · exact h
  · exact h
  · exact h
  · exact h
  · exact h

def tidyK : Heap → (Heap → Prop) → Prop
  | [], K => K []
  | (k, o) :: r, K => objK o fun o' => tidyK r fun r' => K ((k, o') :: r')
theorem tidyK_eq : ∀ {G : Heap} {K : Heap → Prop}, tidyK G K → K G
  | [], _, h => h
  | (k, o) :: r, K, h => by
    simp only [tidyK] at h
    exact tidyK_eq (K := fun r' => K ((k, o) :: r')) (objK_eq h)

def sameH : Heap → Heap → Prop
  | [], [] => True
  | (k, o) :: r, (k', o') :: r' => (bif Nat.beq k k' then o = o' else False) ∧ sameH r r'
  | [], _ :: _ => False
  | _ :: _, [] => False
theorem sameH_eq : ∀ {G G' : Heap}, sameH G G' → G = G'
  | [], [], _ => rfl
  | (k, o) :: r, (k', o') :: r', h => by
    simp only [sameH] at h
    obtain ⟨h1, h2⟩ := h
    cases hb : Nat.beq k k' with
    | true =>
      simp only [hb, cond_true] at h1
      rw [Nat.eq_of_beq_eq_true hb, h1, sameH_eq h2]
    | false => simp [hb] at h1
  | [], _ :: _, h => h.elim
  | _ :: _, [], h => h.elim
/-- A guarded call: its value is told ahead. -/
structure Guess (X : AV → Prop) : Prop where
  ex : ∃ v, X v
theorem guess {A B : AV → Prop} (v : AV) (h : A v) (k : B v) : Guess fun v => A v ∧ B v := ⟨v, h, k⟩

def getDst : List Oper → Nat → Option Nat
  | [], _ => none
  | o :: _, 0 => o.dst
  | _ :: r, j + 1 => getDst r j
theorem getDst_eq : ∀ (l : List Oper) (j : Nat), getDst l j = (l[j]?).bind (·.dst)
  | [], _ => by simp [getDst]
  | _ :: _, 0 => by simp [getDst]
  | _ :: r, j + 1 => by simp [getDst, getDst_eq r j]

def optCnd (s : Slots) : List Operand → Cnd → (Cnd → Prop) → Prop
  | [], c, K => K c
  | x :: r, c, K => match ao s x with
    | .opt _ w g _ => optCnd s r (cAnd (some (g = w)) c) K
    | _ => optCnd s r c K
theorem optCnd_spec (s : Slots) : ∀ {l : List Operand} {c : Cnd} {K : Cnd → Prop}, optCnd s l c K → ∃ c', K c' ∧ (c'.holds → c.holds ∧ ∀ x ∈ l, ∀ gt w g v, ao s x = .opt gt w g v → g = w)
  | [], c, K, h => ⟨c, h, fun hc => ⟨hc, by simp⟩⟩
  | x :: r, c, K, h => by
    simp only [optCnd] at h
    split at h
    · rename_i gt w g v hx
      obtain ⟨c', hK, hc⟩ := optCnd_spec s h
      refine ⟨c', hK, fun hh => ?_⟩
      obtain ⟨h1, h2⟩ := hc hh
      obtain ⟨h3, h4⟩ := cAnd_holds h1
      refine ⟨h4, fun y hy gt' w' g' v' he => ?_⟩
      rcases List.mem_cons.1 hy with rfl | hy
      · rw [hx] at he; cases he; exact h3
      · exact h2 y hy gt' w' g' v' he
    · rename_i hx
      obtain ⟨c', hK, hc⟩ := optCnd_spec s h
      refine ⟨c', hK, fun hh => ?_⟩
      obtain ⟨h1, h2⟩ := hc hh
      refine ⟨h1, fun y hy gt' w' g' v' he => ?_⟩
      rcases List.mem_cons.1 hy with rfl | hy
      · exact absurd he (hx _ _ _ _)
      · exact h2 y hy gt' w' g' v' he

def needG (g want : Bool) (C : Cnd) (X : Prop) : Prop :=
  match C with
  | none => X
  | some c => Side (g = want → c) ∧ X
theorem needG_spec {g want : Bool} {C : Cnd} {X : Prop} (h : needG g want C X) : (g = want → C.holds) ∧ X := by
  cases C with
  | none => exact ⟨fun _ => trivial, h⟩
  | some c => exact ⟨h.1.h, h.2⟩

/-- A guard, that may stand behind another one. -/
def guardK (v : AV) (want : Bool) (K : Bool → Bool → Prop) : Prop :=
  match v with
  | .bool g => K g want
  | .opt _ w g u => match u with
    | .bool b => match w with
      | true => match want with
        | true => K (g && b) true
        | false => K (g && !b) true
      | false => match want with
        | true => K (!g && b) true
        | false => K (!g && !b) true
    | _ => False
  | _ => False
theorem guardK_spec {v : AV} {want : Bool} {K : Bool → Bool → Prop} (h : guardK v want K) : ∃ g w, K g w ∧ ∀ (ρ : Rho) (N : Nat) (u : Value), VR ρ N v u → (u = .bool want ↔ g = w) := by
  unfold guardK at h
  split at h
  · exact ⟨_, _, h, fun ρ N u hu => by simp only [VR] at hu; subst hu; simp⟩
  · split at h
    case h_2 => exact h.elim
    rename_i _ _ w g _ b
    cases w <;> cases want <;> simp only at h <;> refine ⟨_, _, h, fun ρ N u hu => ?_⟩ <;> simp only [VR] at hu <;> obtain ⟨h1, h2⟩ := hu <;> cases g <;> simp at h1 h2 <;> subst_vars <;> cases b <;> simp [undef]
  · exact h.elim

/-- A guard that is seen to say no, or is not seen. -/
structure GuardO (g w : Bool) (A B : Prop) : Prop where
  h : (g ≠ w ∧ A) ∨ B
theorem guard_no {g w : Bool} {A B : Prop} (h : ¬ g = w) (a : A) : GuardO g w A B := ⟨.inl ⟨h, a⟩⟩
theorem guard_go {g w : Bool} {A B : Prop} (b : B) : GuardO g w A B := ⟨.inr b⟩
/-- An effect under a guard: one that leaves the heap as it is, or one whose guard is seen to say yes. -/
structure GuardE (g w : Bool) (A B : Prop) : Prop where
  h : A ∨ (g = w ∧ B)
theorem guard_old {g w : Bool} {A B : Prop} (a : A) : GuardE g w A B := ⟨.inl a⟩
theorem guard_yes {g w : Bool} {A B : Prop} (h : g = w) (b : B) : GuardE g w A B := ⟨.inr ⟨h, b⟩⟩

/-- One operation. -/
def stepK (E : Env) (all : List Oper) (o : Oper) (s : Slots) (N : Nat) (G : Heap) (K : Slots → Nat → Heap → Prop) : Prop :=
  match o.guard with
  | none => match isEffect o.op with
    | true => effect E.P E.T (ao s) N G o.op fun v N' G' => putK E o.dst v s fun s' => tidyK G' fun G' => K s' N' G'
    | false => quiet E.T (ao s) G o.op fun C v => need C (putK E o.dst v s fun s' => K s' N G)
  | some jw => match getDst all jw.1 with
    | some gt => guardK (look s gt) jw.2 fun g w => GuardO g w (putK E o.dst (.opt gt w g .top) s fun s' => K s' N G) <| match isEffect o.op with
      | false => optCnd s (optOps o.op) none fun C0 => needG g w C0 (quiet E.T (lkG s o.op) G o.op fun C v => needG g w C (putK E o.dst (.opt gt w g v) s fun s' => K s' N G))
      | true => GuardE g w (Guess fun v => (g = w → optCnd s o.op.operands.toList none fun C' => need C' (effect E.P E.T (aoS s) N G o.op fun v' N' G' => v' = v ∧ N' = N ∧ sameH G' G)) ∧ putK E o.dst (.opt gt w g v) s fun s' => K s' N G) (optCnd s o.op.operands.toList none fun C' => need C' (effect E.P E.T (aoS s) N G o.op fun v N' G' => putK E o.dst v s fun s' => tidyK G' fun G' => K s' N' G'))
    | none => False

def runOps (E : Env) (all : List Oper) : List Oper → Slots → Nat → Heap → (Slots → Nat → Heap → Prop) → Prop
  | [], s, N, G, K => K s N G
  | o :: r, s, N, G, K => stepK E all o s N G fun s' N' G' => runOps E all r s' N' G' K

section
variable {E : Env} {B : Entry} {s : Slots} {N : Nat} {G : Heap} {a : Act} {w : World}

theorem undef_ne_bool (g : Bool) : (undef : Value) ≠ .bool g := by
  intro h; cases h

theorem VR_ao {ρ : Rho} (h : ∀ t, VR ρ N (look s t) (a.tmps.getD t undef)) (x : Operand) : VR ρ N (ao s x) (a.eval x) := by
  cases x with
  | tmp t => exact h t
  | const v => exact constAV_ok ρ N v
  | global g => simp only [ao, VR]
  | func f => simp only [ao, VR, Act.eval]; exact ⟨[], rfl, by simp [VRL]⟩

/-- The state behind a step that put 'v' into 'dst'. -/
theorem St.put {ρ : Rho} (hs : ∀ t, VR ρ N (look s t) (a.tmps.getD t undef)) (hz : a.tmps.size = E.nt) {dst : Option Nat} {av : AV} {v : Value} {K : Slots → Prop} (h : putK E dst av s K) (hv : VR ρ N av v) :
    ∃ s', K s' ∧ (∀ t, VR ρ N (look s' t) ((a.put dst v).tmps.getD t undef)) ∧ (a.put dst v).tmps.size = E.nt ∧ (a.put dst v).defers = a.defers := by
  cases dst with
  | none => exact ⟨s, h, hs, hz, rfl⟩
  | some d =>
    simp only [putK] at h
    cases hb : Nat.blt d E.nt with
    | false => simp [hb] at h
    | true =>
      simp only [hb, cond_true] at h
      have hd : d < E.nt := by simpa [Nat.blt_eq] using hb
      refine ⟨_, forceK_eq h, fun t => ?_, by simpa [Act.put] using hz, rfl⟩
      simp only [look, Act.put]
      cases h2 : Nat.beq d t with
      | true =>
        have := Nat.eq_of_beq_eq_true h2
        subst this
        simp only [cond_true]
        have : ((a.tmps.setIfInBounds d v).getD d undef) = v := by simp [Array.getD, hz, hd]
        rw [this]; exact hv
      | false =>
        have hne : d ≠ t := fun e => by subst e; simp at h2
        simp only [cond_false]
        have : ((a.tmps.setIfInBounds d v).getD t undef) = a.tmps.getD t undef := by
          simp only [Array.getD_eq_getD_getElem?, Array.getElem?_setIfInBounds_ne hne]
        rw [this]; exact hs t

theorem wanted_none {o : Oper} (h : o.guard = none) (ops : Array Oper) (tmps : Array Value) : Region.wanted o (yielded ops tmps) = true := by simp [Region.wanted, h]
theorem wanted_guard {o : Oper} {jw : Nat × Bool} (h : o.guard = some jw) {ops : Array Oper} {gt : Nat} (hd : getDst ops.toList jw.1 = some gt) {g w : Bool} (hg : a.tmps.getD gt undef = .bool jw.2 ↔ g = w) : Region.wanted o (yielded ops a.tmps) = (g == w) := by
  obtain ⟨j, want⟩ := jw
  have h1 : (ops[j]?).bind (·.dst) = some gt := by rw [getDst_eq] at hd; simpa using hd
  have h3 : Region.wanted o (yielded ops a.tmps) = true ↔ a.tmps.getD gt undef = .bool want := by
    simp only [Region.wanted, h, yielded, h1, Option.bind_some]
    rw [Array.getD_eq_getD_getElem?]
    cases a.tmps[gt]? with
    | none => simp [undef]
    | some v => cases v <;> simp
  rw [Bool.eq_iff_iff, h3, hg]
  simp
/-- The operands of a guarded operation, seen where the guard says yes. -/
theorem seen_opsG {ρ : Rho} (hs : ∀ t, VR ρ N (look s t) (a.tmps.getD t undef)) {op : Op} (hall : ∀ x ∈ optOps op, ∀ gt w g v, ao s x = .opt gt w g v → g = w) :
    ∃ lk : Operand → AV, (∀ x ∈ op.operands.toList, lkG s op x = lk x) ∧ ∀ x, VR ρ N (lk x) (a.eval x) := by
  classical
  have strip : ∀ x ∈ optOps op, VR ρ N (aoS s x) (a.eval x) := fun x hx => by
    have h1 := VR_ao hs x
    unfold aoS AV.strip
    split
    · rename_i gt' w' g' v' he
      rw [he] at h1
      simp only [VR] at h1
      exact h1.1 (hall x hx _ _ _ _ he)
    · exact h1
  refine ⟨fun x => if x ∈ op.operands.toList then lkG s op x else .top, fun x hx => by simp [hx], fun x => ?_⟩
  simp only
  split
  · rename_i hx
    by_cases hp : ∃ c p q, op = .pick c p q
    · obtain ⟨c, p, q, rfl⟩ := hp
      simp only [lkG]
      split
      · rename_i he
        rw [opEq_eq he]
        exact strip c (by simp [optOps])
      · exact VR_ao hs x
    · have e1 : lkG s op = aoS s := by
        cases op <;> first | rfl | exact absurd ⟨_, _, _, rfl⟩ hp
      have e2 : optOps op = op.operands.toList := by
        cases op <;> first | rfl | exact absurd ⟨_, _, _, rfl⟩ hp
      rw [e1]
      exact strip x (by rw [e2]; exact hx)
  · simp only [VR]

theorem partsK_congr {lk lk' : Operand → AV} {fs : List (Nat × Nat × Bool)} : ∀ {parts : List (Nat × Operand)}, (∀ x ∈ parts.map (·.2), lk x = lk' x) → ∀ (cs : List AV) (K : List AV → Prop), partsK lk fs parts cs K = partsK lk' fs parts cs K
  | [], _, _, _ => rfl
  | (i, x) :: r, he, cs, K => by
    have hx : lk x = lk' x := he x (by simp)
    have ih := partsK_congr (fs := fs) (parts := r) (fun y hy => he y (by simp only [List.map_cons, List.mem_cons]; exact .inr hy))
    simp only [partsK, hx, ih]
theorem collectK_congr {lk lk' : Operand → AV} {esz : Nat} : ∀ {parts : List (Nat × Operand)}, (∀ x ∈ parts.map (·.2), lk x = lk' x) → ∀ (k : Nat) (K : List (List AV) → Prop), collectK lk esz k parts K = collectK lk' esz k parts K
  | [], _, _, _ => rfl
  | (i, x) :: r, he, k, K => by
    have hx : lk x = lk' x := he x (by simp)
    have ih := collectK_congr (esz := esz) (parts := r) (fun y hy => he y (by simp only [List.map_cons, List.mem_cons]; exact .inr hy))
    simp only [collectK, hx, ih]

theorem partsK_some {lk : Operand → AV} {fs : List (Nat × Nat × Bool)} : ∀ {parts : List (Nat × Operand)} {cs : List AV} {K : List AV → Prop}, partsK lk fs parts cs K → ∃ ds, K ds
  | [], cs, _, h => ⟨cs, h⟩
  | (i, x) :: r, cs, K, h => by
    simp only [partsK] at h
    obtain ⟨⟨off, sz, ag⟩, _, h⟩ := lrowK_spec h
    have hite : ∀ {b : Bool} {X : Prop}, (bif b then X else False) → X := fun {b X} h => by
      cases b with
      | false => exact h.elim
      | true => exact h
    split at h
    · split at h <;> try exact h.elim
      exact partsK_some (hite h)
    · exact partsK_some (hite h)
    · exact h.elim

theorem quiet_some {T : Tbl} {lk : Operand → AV} {op : Op} {G : Heap} {K : Cnd → AV → Prop} (h : quiet T lk G op K) : ∃ C v, K C v := by
  have hite : ∀ {b : Bool} {X : Prop}, (bif b then X else False) → X := fun {b X} h => by
    cases b with
    | false => exact h.elim
    | true => exact h
  have hite' : ∀ {b : Bool} {X : Prop}, (bif b then False else X) → X := fun {b X} h => by
    cases b with
    | false => exact h
    | true => exact h.elim
  cases op <;> simp only [quiet] at h
  case move x => exact ⟨_, _, h⟩
  case assign x => exact ⟨_, _, h⟩
  case pick c x y =>
    unfold qPick at h
    split at h
    · obtain ⟨C1, b1, h, _⟩ := pickB_spec (ρ := fun _ _ => ⟨0, 0, 0, 0, 0⟩) (N := 0) h
      obtain ⟨C2, b2, h, _⟩ := pickB_spec (ρ := fun _ _ => ⟨0, 0, 0, 0, 0⟩) (N := 0) h
      exact ⟨_, _, h⟩
    · exact h.elim
  case nilCheck x =>
    unfold qNil at h
    split at h
    · exact ⟨_, _, h⟩
    · exact h.elim
  case fieldAddr s x f =>
    unfold qField at h
    repeat' (split at h)
    all_goals try exact h.elim
    obtain ⟨o, _, h⟩ := lrowK_spec h
    exact ⟨_, _, h⟩
  case load t x =>
    unfold qLoad at h
    split at h
    case h_2 => exact h.elim
    split at h
    case h_2 => exact h.elim
    split at h
    case h_2 => exact h.elim
    obtain ⟨C, V, h, _⟩ := nodeV_spec h
    split at h
    · obtain ⟨C, v, h, _⟩ := rdA_spec h; exact ⟨_, _, h⟩
    · obtain ⟨C, v, h, _⟩ := rdC_spec h; exact ⟨_, _, h⟩
  case indexAddr t x ix =>
    unfold qIndex at h
    split at h
    case h_2 => exact h.elim
    split at h
    case h_2 => exact h.elim
    split at h
    case h_2 => exact h.elim
    split at h
    case h_3 => exact h.elim
    · split at h
      case h_2 => exact h.elim
      obtain ⟨C, V, h, _⟩ := nodeV_spec h
      have h := hite h
      rw [NV.nK_eq] at h
      exact ⟨_, _, h⟩
    · split at h
      case h_2 => exact h.elim
      obtain ⟨C, V, h, _⟩ := nodeV_spec h
      exact ⟨_, _, hite h⟩
  case binOp op t x y u =>
    have hnil : ∀ {v : AV} {K : Cnd → Bool → Prop}, nilK G v K → ∃ C b, K C b := fun {v} {K} h => by
      unfold nilK at h
      split at h
      · exact ⟨_, _, h⟩
      · split at h
        case h_2 => exact h.elim
        obtain ⟨C, V, h, _⟩ := nodeV_spec h
        rw [NV.nK_eq] at h
        exact ⟨_, false, h _ (fun _ e => by cases e)⟩
      · exact ⟨_, false, h _ (fun e => by cases e)⟩
      · exact h.elim
    have hen : ∀ {op : BinOp} {x y : AV}, eqNilK T G op t x y K → ∃ C v, K C v := fun {op} {x y} h => by
      unfold eqNilK at h
      split at h
      case h_2 => exact h.elim
      split at h
      case h_2 => exact h.elim
      split at h
      case h_2 => exact h.elim
      split at h
      case h_3 => exact h.elim
      all_goals
        obtain ⟨C, b, h⟩ := hnil h
        exact ⟨_, _, h⟩
    have hbit : ∀ {op : BinOp} {x y : AV}, bitsK op x y K → ∃ C v, K C v := fun {op} {x y} h => by
      unfold bitsK at h
      split at h
      case h_2 => exact h.elim
      split at h
      case h_2 => exact h.elim
      split at h
      case h_1 | h_2 | h_3 => exact ⟨_, _, hite h⟩
      case h_4 | h_5 => exact ⟨_, _, h⟩
      case h_6 => exact h.elim
    unfold qBin at h
    split at h
    · split at h
      · split at h
        · split at h
          · split at h
            · exact ⟨_, _, h⟩
            · exact ⟨_, _, h⟩
            · exact h.elim
          · exact h.elim
        · exact h.elim
      · exact h.elim
    · unfold strK at h
      split at h
      case h_2 => exact h.elim
      split at h
      case h_8 => exact h.elim
      all_goals exact ⟨_, _, h⟩
    · exact hen h
    · exact hen h
    · exact hen h
    · unfold aggEqK at h
      split at h
      case h_2 => exact h.elim
      split at h
      case h_2 => exact h.elim
      obtain ⟨xs, h, _⟩ := aggIK_spec (ρ := fun _ _ => ⟨0, 0, 0, 0, 0⟩) (N := 0) h
      obtain ⟨ys, h, _⟩ := aggIK_spec (ρ := fun _ _ => ⟨0, 0, 0, 0, 0⟩) (N := 0) h
      have h := hite h
      split at h
      · exact ⟨_, _, eqLK_spec (bdLK_spec (bdLK_spec h))⟩
      · exact ⟨_, _, eqLK_spec (bdLK_spec (bdLK_spec h))⟩
      · exact h.elim
    split at h
    case h_1 | h_2 | h_3 | h_4 | h_5 => exact hbit h
    unfold binK at h
    split at h
    case h_12 => exact h.elim
    case h_1 | h_2 | h_3 =>
      obtain ⟨C, m, h, _⟩ := arK_spec (hite h)
      exact ⟨_, _, h⟩
    all_goals exact ⟨_, _, hite h⟩
  case unOp op t x =>
    unfold qUn at h
    split at h
    · split at h
      · exact ⟨_, _, h⟩
      · exact h.elim
    · split at h
      · obtain ⟨C, m, h, _⟩ := arK_spec h
        exact ⟨_, _, h⟩
      · exact h.elim
    · exact h.elim
  case extract x i =>
    unfold qExtract at h
    split at h
    · obtain ⟨o, _, h⟩ := lrowK_spec h
      exact ⟨_, _, h⟩
    · exact h.elim
  case makeFunc fn first caps =>
    unfold qFunc at h
    split at h
    · split at h
      · exact ⟨_, _, h⟩
      · exact h.elim
    · exact h.elim
  case build t parts =>
    unfold qBuild at h
    split at h
    case h_2 => exact h.elim
    split at h
    case h_2 => exact h.elim
    obtain ⟨ds, h⟩ := partsK_some (hite' h)
    exact ⟨_, _, h⟩
  case call c =>
    have hlen : ∀ {v : AV} {K : Cnd → Nat → Prop}, lenK G v K → ∃ C n, K C n := fun {v K} h => by
      unfold lenK at h
      split at h
      · split at h
        · obtain ⟨C, V, h, _⟩ := nodeV_spec h; rw [NV.nK_eq] at h; exact ⟨_, _, h⟩
        · exact h.elim
      · exact ⟨_, _, h⟩
      · exact ⟨_, _, h⟩
      · exact h.elim
    unfold qCall at h
    split at h
    case h_2 => exact h.elim
    split at h
    case h_4 => exact h.elim
    · split at h
      case h_2 => exact h.elim
      split at h
      case h_2 => exact h.elim
      unfold qLen at h
      split at h
      case h_2 => exact h.elim
      split at h
      · obtain ⟨C, n, h⟩ := hlen h; exact ⟨_, _, h⟩
      · split at h
        · exact ⟨_, _, h⟩
        · exact h.elim
      · unfold mlenK at h
        repeat' (split at h)
        all_goals first | exact h.elim | exact ⟨_, _, h⟩
      · exact h.elim
    · split at h
      case h_2 => exact h.elim
      unfold qMax at h
      split at h
      case h_2 => exact h.elim
      split at h
      case h_2 => exact h.elim
      exact ⟨_, _, h⟩
    · split at h
      case h_2 => exact h.elim
      unfold qMin at h
      split at h
      case h_2 => exact h.elim
      split at h
      case h_2 => exact h.elim
      exact ⟨_, _, h⟩
  case slice t x lo hi mx =>
    have hhi : ∀ {n : Nat} {K : Cnd → Nat → Prop}, hiK lk hi n K → ∃ C n, K C n := fun {n K} h => by
      unfold hiK at h
      repeat' (split at h)
      all_goals first | exact h.elim | exact ⟨_, _, h⟩
    have hlo : ∀ {n : Nat} {K : Cnd → Nat → Prop}, loK lk lo n K → ∃ C n, K C n := fun {n K} h => by
      unfold loK at h
      repeat' (split at h)
      all_goals first | exact h.elim | exact ⟨_, _, h⟩
    have hsl : ∀ {id : Nat} {p : List Nat} {i len : Nat} {K : Cnd → AV → Prop}, sliceK lk id p i len lo hi mx K → ∃ C v, K C v := fun {id p i len K} h => by
      unfold sliceK at h
      obtain ⟨_, _, h⟩ := hhi h
      obtain ⟨_, _, h⟩ := hlo h
      repeat' (split at h)
      all_goals first | exact h.elim | exact ⟨_, _, h⟩
    unfold qSlice at h
    split at h
    case h_2 => exact h.elim
    split at h
    case h_3 => exact h.elim
    · split at h
      case h_4 => exact h.elim
      · split at h
        case h_2 => exact h.elim
        obtain ⟨C, V, h, _⟩ := nodeV_spec h
        have h := hite h
        rw [NV.nK_eq] at h
        obtain ⟨_, _, h⟩ := hsl h
        exact ⟨_, _, h⟩
      · split at h
        case h_2 => exact h.elim
        obtain ⟨C, V, h, _⟩ := nodeV_spec h
        obtain ⟨_, _, h⟩ := hsl (hite h)
        exact ⟨_, _, h⟩
      · split at h
        case h_2 => exact h.elim
        obtain ⟨_, _, h⟩ := hhi h
        obtain ⟨_, _, h⟩ := hlo h
        exact ⟨_, _, h⟩
    · split at h
      case h_2 => exact h.elim
      split at h
      case h_2 => exact h.elim
      obtain ⟨_, _, h⟩ := hhi h
      obtain ⟨_, _, h⟩ := hlo h
      exact ⟨_, _, h⟩
  case convert s t x =>
    unfold qConv at h
    split at h
    case h_2 => exact h.elim
    split at h
    case h_3 => exact h.elim
    · have h := hite h
      unfold bytesK at h
      repeat' (split at h)
      all_goals first | exact h.elim | exact ⟨_, _, h⟩
    split at h
    case h_2 => exact h.elim
    split at h
    case h_2 => exact h.elim
    exact ⟨_, _, h⟩
  case index t x ix =>
    unfold qIdxS at h
    repeat' (split at h)
    all_goals first | exact h.elim | exact ⟨_, _, h⟩
  case lookup t x ix ok =>
    unfold qLook at h
    split at h
    case h_2 => exact h.elim
    split at h
    case h_2 => exact h.elim
    obtain ⟨id, m, _, _, h2⟩ := mapK_spec h
    clear h
    have key : ∀ {b : Bool} {X : Prop}, (bif b then X else False) → X := fun {b X} h => by
      cases b with
      | true => exact h
      | false => exact h.elim
    cases m with
    | ib kvs =>
      obtain ⟨n, h3, _⟩ := keyI_spec (key h2)
      exact ⟨_, _, h3⟩
    | ii kvs =>
      obtain ⟨n, h3, _⟩ := keyI_spec (key h2)
      exact ⟨_, _, h3⟩
    | r3 c kvs =>
      obtain ⟨n, h3, _⟩ := key3_spec (ρ := fun _ _ => ⟨0, 0, 0, 0, 0⟩) (N := 0) (key h2)
      exact ⟨_, _, h3⟩

theorem quiet_congr {T : Tbl} {lk lk' : Operand → AV} {op : Op} (h : ∀ x ∈ op.operands.toList, lk x = lk' x) (G : Heap) (K : Cnd → AV → Prop) : quiet T lk G op K = quiet T lk' G op K := by
  cases op <;> simp only [quiet]
  case move x => rw [h x (by simp [Op.operands])]
  case assign x => rw [h x (by simp [Op.operands])]
  case pick c x y => simp only [qPick, h c (by simp [Op.operands]), h x (by simp [Op.operands]), h y (by simp [Op.operands])]
  case nilCheck x => rw [h x (by simp [Op.operands])]
  case fieldAddr s x f => rw [h x (by simp [Op.operands])]
  case load t x => rw [h x (by simp [Op.operands])]
  case indexAddr t x ix => rw [h x (by simp [Op.operands]), h ix (by simp [Op.operands])]
  case binOp o t x y u => rw [h x (by simp [Op.operands]), h y (by simp [Op.operands])]
  case unOp o t x => rw [h x (by simp [Op.operands])]
  case extract x i => rw [h x (by simp [Op.operands])]
  case convert s t x => rw [h x (by simp [Op.operands])]
  case index t x ix => rw [h x (by simp [Op.operands]), h ix (by simp [Op.operands])]
  case lookup t x ix ok => rw [h x (by simp [Op.operands]), h ix (by simp [Op.operands])]
  case slice t x lo hi mx =>
    have e1 : ∀ n K, hiK lk hi n K = hiK lk' hi n K := fun n K => by
      cases hi with
      | none => rfl
      | some y => simp only [hiK, h y (by simp [Op.operands])]
    have e2 : ∀ n K, loK lk lo n K = loK lk' lo n K := fun n K => by
      cases lo with
      | none => rfl
      | some y => simp only [loK, h y (by simp [Op.operands])]
    have e3 : ∀ id p i len K, sliceK lk id p i len lo hi mx K = sliceK lk' id p i len lo hi mx K := fun id p i len K => by
      cases mx with
      | none => simp only [sliceK, e1, e2]
      | some y => simp only [sliceK, e1, e2, h y (by simp [Op.operands])]
    simp only [qSlice, e1, e2, e3, h x (by simp [Op.operands])]
  case makeFunc fn first caps =>
    have : caps.toList.map lk = caps.toList.map lk' := List.map_congr_left fun x hx => h x (by simp [Op.operands]; exact .inr (by simpa using hx))
    simp only [qFunc, this]
  case build t parts =>
    have : ∀ fs cs K, partsK lk fs parts.toList cs K = partsK lk' fs parts.toList cs K := fun fs cs K => partsK_congr (fun x hx => h x (by simpa [Op.operands] using hx)) cs K
    simp only [qBuild, this]
  case call c =>
    have hargs : ∀ x ∈ c.args.toList, lk x = lk' x := fun x hx => h x (by simp [Op.operands, Call.operands]; exact .inr (by simpa using hx))
    unfold qCall
    split
    · split
      · split
        · rename_i x hx; simp only [hargs x (by simp [hx])]
        · rfl
      · split
        · rename_i x y hx; simp only [hargs x (by simp [hx]), hargs y (by simp [hx])]
        · rfl
      · split
        · rename_i x y hx; simp only [hargs x (by simp [hx]), hargs y (by simp [hx])]
        · rfl
      · rfl
    · rfl

theorem effect_congr {P : Program} {T : Tbl} {lk lk' : Operand → AV} {op : Op} (h : ∀ x ∈ op.operands.toList, lk x = lk' x) (N : Nat) (G : Heap) (K : AV → Nat → Heap → Prop) : effect P T lk N G op K = effect P T lk' N G op K := by
  cases op <;> simp only [effect]
  case box t x => rw [h x (by simp [Op.operands])]
  case store t x y => rw [h x (by simp [Op.operands]), h y (by simp [Op.operands])]
  case makeSlice t l c => simp only [eMakeX, eMake, h l (by simp [Op.operands])]
  case makeMap t r =>
    cases r with
    | none => rfl
    | some x => simp only [Option.map_some, h x (by simp [Op.operands])]
  case mapUpdate t m k x => rw [h m (by simp [Op.operands]), h k (by simp [Op.operands]), h x (by simp [Op.operands])]
  case insert t m k x => rw [h m (by simp [Op.operands]), h k (by simp [Op.operands]), h x (by simp [Op.operands])]
  case range t x => rw [h x (by simp [Op.operands])]
  case next x s => rw [h x (by simp [Op.operands])]
  case entry x => rw [h x (by simp [Op.operands])]
  case buildSlice t len parts =>
    have : ∀ esz k K, collectK lk esz k parts.toList K = collectK lk' esz k parts.toList K := fun esz k K => collectK_congr (fun x hx => h x (by simpa [Op.operands] using hx)) k K
    have hX : ∀ N G K, eBuildX T lk t len parts.toList N G K = eBuildX T lk' t len parts.toList N G K := fun N G K => by simp only [eBuildX, eBuildSlice, this]
    have h0 : ∀ N G K, eBuildX T lk t len [] N G K = eBuildX T lk' t len [] N G K := fun N G K => by simp only [eBuildX, eBuildSlice, collectK]
    generalize parts.toList = l at hX ⊢
    cases l with
    | nil => simp only [eBuildY, h0]
    | cons x r => simp only [eBuildY, hX]
  case call c =>
    have hargs : ∀ x ∈ c.args.toList, lk x = lk' x := fun x hx => h x (by simp [Op.operands, Call.operands]; exact .inr (by simpa using hx))
    split
    · split
      · split
        · rename_i s x hx; simp only [hargs s (by simp [hx]), hargs x (by simp [hx])]
        · rfl
      · split
        · rename_i s x hx; simp only [hargs s (by simp [hx]), hargs x (by simp [hx])]
        · rfl
      · split
        · rename_i x hx; simp only [hargs x (by simp [hx])]
        · rfl
      · split
        · rename_i s x hx; simp only [hargs s (by simp [hx]), hargs x (by simp [hx])]
        · rfl
      · rfl
    · rename_i f hcal
      have hm : c.args.toList.map lk = c.args.toList.map lk' := List.map_congr_left hargs
      have hf : lk f = lk' f := h f (by simp [Op.operands, Call.operands, hcal])
      simp only [eCall, hm, hf]
    · rfl

/-- One operation is sound: whatever comes next is met in the state behind it. -/
theorem stepK_sound (hT : TblOK E.P E.T) {ops : Array Oper} {o : Oper} {K : Slots → Nat → Heap → Prop} (h : stepK E ops.toList o s N G K) (hS : St E B s N G a w) {next : Act → World → Prop} {Q : Exit → Act → World → Prop}
    (hnext : ∀ s' N' G' a' w', K s' N' G' → St E B s' N' G' a' w' → next a' w') :
    if Region.wanted o (yielded ops a.tmps) = true then o.wp E.P a w next Q else next (a.put o.dst undef) w := by
  obtain ⟨⟨ρ, hs, hH, hN, hag, hfr, hown⟩, hz, hdf⟩ := hS
  have hgk : GOK ρ G w := B.ok.next hfr hown
  have hquiet : ∀ {C : Cnd} {v : AV} {K' : Slots → Prop}, (∃ cv, VR ρ N v cv ∧ (execOp a.eval o).run E.P w = .ok (.value cv) w) → putK E o.dst v s K' → (∀ s', K' s' → K s' N G) → o.wp E.P a w next Q := fun {C v K'} ⟨cv, hv, hr⟩ hp hk => by
    obtain ⟨s', hK', q1, q2, q3⟩ := St.put hs hz hp hv
    unfold Oper.wp
    rw [hr]
    exact hnext s' N G _ w (hk s' hK') ⟨⟨ρ, q1, hH, hN, hag, hfr, hown⟩, q2, q3.trans hdf⟩
  unfold stepK at h
  split at h
  · rename_i hg
    rw [if_pos (wanted_none hg ops a.tmps)]
    split at h
    · have hw := effect_sound hT hgk hH (VR_ao hs) h Q
      unfold Oper.wp at hw ⊢
      revert hw
      generalize (execOp a.eval o).run E.P w = r
      have key : ∀ v w', Out ρ N G w (fun v N' G' => putK E o.dst v s fun s' => tidyK G' fun G' => K s' N' G') v w' → next (a.put o.dst v) w' := fun v w' ho => by
        obtain ⟨av, ρ', N', G', hp, hv, hH', hN', hag', hfr', hown'⟩ := ho.ex
        obtain ⟨s', hK', q1, q2, q3⟩ := St.put (fun t => (hs t).mono hN' hag') hz hp hv
        refine hnext s' N' G' _ w' (tidyK_eq hK') ⟨⟨ρ', q1, hH', Nat.le_trans hN hN', fun id hid => (hag' id (Nat.lt_of_lt_of_le hid hN)).trans (hag id hid), ?_, fun b hb => ?_⟩, q2, q3.trans hdf⟩
        · refine hfr.trans hfr' fun i hi ho => ?_
          rcases hown i ho with h | h
          · omega
          · exact h
        · rcases hown' b hb with h | h
          · exact .inl (Nat.le_trans hfr.size h)
          · exact hown b h
      intro hw
      unfold Oper.upon at hw ⊢
      split at hw
      · obtain ⟨v, e, ho⟩ := hw; rw [e]; exact key v _ ho
      · obtain ⟨v, e, ho⟩ := hw; rw [e]; exact key v _ ho
      · obtain ⟨v, e, ho⟩ := hw; rw [e]; exact key v _ ho
      · refine hw.mono fun e w' he => ?_
        cases e with
        | returned u => obtain ⟨v, e, ho⟩ := he; show next (a.put o.dst u) w'; rw [e]; exact key v _ ho
        | panicked c => exact he
        | outgrown => exact he
      · refine hw.mono fun u w' he => ?_
        obtain ⟨v, e, ho⟩ := he; rw [e]; exact key v _ ho
      · exact hw
      · exact hw.elim
    · obtain ⟨C, v, h, hr⟩ := quiet_sound hT hH (VR_ao hs) h
      obtain ⟨hc, hp⟩ := need_spec h
      exact hquiet (C := C) (hr hc) hp (fun _ h => h)
  · rename_i jw hg
    split at h
    case h_2 => exact h.elim
    rename_i gt hd
    obtain ⟨g, gw, h, hgv⟩ := guardK_spec h
    have hwant := wanted_guard hg hd (hgv ρ N _ (hs gt))
    rw [hwant]
    have hskip : (g == gw) = false → ∀ {v : AV} {K' : Slots → Prop}, putK E o.dst (.opt gt gw g v) s K' → (∀ s', K' s' → K s' N G) → next (a.put o.dst undef) w := fun hf {v K'} hp hk => by
      have hne : ¬ g = gw := by simpa using hf
      obtain ⟨s', hK', q1, q2, q3⟩ := St.put (v := undef) hs hz hp (by simp only [VR]; exact ⟨fun e => absurd e hne, fun _ => by trivial⟩)
      exact hnext s' N G _ w (hk s' hK') ⟨⟨ρ, q1, hH, hN, hag, hfr, hown⟩, q2, q3.trans hdf⟩
    rcases h.h with ⟨hno, hp⟩ | h
    · rw [if_neg (by simpa using hno)]
      exact hskip (by simpa using hno) hp (fun _ h => h)
    -- the operands, seen where the guard says yes
    have hlkS : (∀ x ∈ o.op.operands.toList, ∀ gt w g v, ao s x = .opt gt w g v → g = w) → ∃ lk : Operand → AV, (∀ x ∈ o.op.operands.toList, aoS s x = lk x) ∧ ∀ x, VR ρ N (lk x) (a.eval x) := fun hall => by
      classical
      refine ⟨fun x => if x ∈ o.op.operands.toList then aoS s x else .top, fun x hx => by simp [hx], fun x => ?_⟩
      simp only
      split
      · rename_i hx
        have h1 := VR_ao hs x
        unfold aoS AV.strip
        split
        · rename_i gt' w' g' v' he
          rw [he] at h1
          simp only [VR] at h1
          exact h1.1 (hall x hx _ _ _ _ he)
        · exact h1
      · simp only [VR]
    split at h
    · obtain ⟨C0, h, hc0⟩ := optCnd_spec s h
      obtain ⟨h0, h⟩ := needG_spec h
      cases hgw : (g == gw) with
      | true =>
        rw [if_pos rfl]
        have hge : g = gw := by simpa using hgw
        obtain ⟨lk, e1, e2⟩ := seen_opsG hs (hc0 (h0 hge)).2
        rw [quiet_congr e1] at h
        obtain ⟨C, v, h, hr⟩ := quiet_sound hT hH e2 h
        obtain ⟨hc, hp⟩ := needG_spec h
        obtain ⟨cv, hv, hrun⟩ := hr (hc hge)
        exact hquiet (C := C) ⟨cv, by simp only [VR]; exact ⟨fun _ => hv, fun e => absurd hge e⟩, hrun⟩ hp (fun _ h => h)
      | false =>
        rw [if_neg (by simp)]
        obtain ⟨C, v, h⟩ := quiet_some h
        exact hskip hgw (needG_spec h).2 (fun _ h => h)
    · rcases h.h with h | ⟨hge, h⟩
      case inr =>
        rw [if_pos (by simpa using hge)]
        obtain ⟨C', hv, hc⟩ := optCnd_spec s h
        obtain ⟨h1, hv⟩ := need_spec hv
        obtain ⟨lk, e1, e2⟩ := hlkS (hc h1).2
        rw [effect_congr e1] at hv
        refine Oper.wp_mono (fun a' w' hq => ?_) (effect_sound hT hgk hH e2 hv Q)
        obtain ⟨v, rfl, ho⟩ := hq
        obtain ⟨av, ρ', N', G', hp, hv, hH', hN', hag', hfr', hown'⟩ := ho.ex
        obtain ⟨s', hK', q1, q2, q3⟩ := St.put (fun t => (hs t).mono hN' hag') hz hp hv
        refine hnext s' N' G' _ w' (tidyK_eq hK') ⟨⟨ρ', q1, hH', Nat.le_trans hN hN', fun id hid => (hag' id (Nat.lt_of_lt_of_le hid hN)).trans (hag id hid), ?_, fun b hb => ?_⟩, q2, q3.trans hdf⟩
        · refine hfr.trans hfr' fun i hi ho => ?_
          rcases hown i ho with h | h
          · omega
          · exact h
        · rcases hown' b hb with h | h
          · exact .inl (Nat.le_trans hfr.size h)
          · exact hown b h
      obtain ⟨v, hv, hp⟩ := h.ex
      cases hgw : (g == gw) with
      | false =>
        rw [if_neg (by simp)]
        exact hskip hgw hp (fun _ h => h)
      | true =>
        rw [if_pos rfl]
        have hge : g = gw := by simpa using hgw
        obtain ⟨C', hv, hc⟩ := optCnd_spec s (hv hge)
        obtain ⟨h1, hv⟩ := need_spec hv
        obtain ⟨lk, e1, e2⟩ := hlkS (hc h1).2
        rw [effect_congr e1] at hv
        have hw := effect_sound hT hgk hH e2 hv Q
        unfold Oper.wp at hw ⊢
        revert hw
        generalize (execOp a.eval o).run E.P w = r
        have key : ∀ u w', Out ρ N G w (fun v' N' G' => v' = v ∧ N' = N ∧ sameH G' G) u w' → next (a.put o.dst u) w' := fun u w' ho => by
          have ho := ho.mono (K' := fun v' N' G' => v' = v ∧ N' = N ∧ G' = G) fun _ _ _ ⟨x, y, z⟩ => ⟨x, y, sameH_eq z⟩
          obtain ⟨av, ρ', N', G', ⟨rfl, rfl, rfl⟩, hv', hH', hN', hag', hfr', hown'⟩ := ho.ex
          obtain ⟨s', hK', q1, q2, q3⟩ := St.put (v := u) (fun t => (hs t).mono hN' hag') hz hp (by simp only [VR]; exact ⟨fun _ => hv', fun e => absurd hge e⟩)
          refine hnext s' _ _ _ w' hK' ⟨⟨ρ', q1, hH', hN, fun id hid => (hag' id (Nat.lt_of_lt_of_le hid hN)).trans (hag id hid), ?_, fun b hb => ?_⟩, q2, q3.trans hdf⟩
          · refine hfr.trans hfr' fun i hi ho => ?_
            rcases hown i ho with h | h
            · omega
            · exact h
          · rcases hown' b hb with h | h
            · exact .inl (Nat.le_trans hfr.size h)
            · exact hown b h
        intro hw
        unfold Oper.upon at hw ⊢
        split at hw
        · obtain ⟨v, e, ho⟩ := hw; rw [e]; exact key v _ ho
        · obtain ⟨v, e, ho⟩ := hw; rw [e]; exact key v _ ho
        · obtain ⟨v, e, ho⟩ := hw; rw [e]; exact key v _ ho
        · refine hw.mono fun e w' he => ?_
          cases e with
          | returned u => obtain ⟨v, e, ho⟩ := he; show next (a.put o.dst u) w'; rw [e]; exact key v _ ho
          | panicked c => exact he
          | outgrown => exact he
        · refine hw.mono fun u w' he => ?_
          obtain ⟨v, e, ho⟩ := he; rw [e]; exact key v _ ho
        · exact hw
        · exact hw.elim

theorem runOps_sound (hT : TblOK E.P E.T) {ops : Array Oper} {K : Slots → Nat → Heap → Prop} {Q : Exit → Act → World → Prop} (hQ : ∀ s' N' G' a' w', K s' N' G' → St E B s' N' G' a' w' → Q .normal a' w') :
    ∀ (n i : Nat) (s : Slots) (N : Nat) (G : Heap) (a : Act) (w : World), i + n = ops.size → runOps E ops.toList (ops.toList.drop i) s N G K → St E B s N G a w → wpOps E.P ops Q (List.range' i n) a w
  | 0, i, s, N, G, a, w, hi, h, hS => by
    have : ops.toList.drop i = [] := List.drop_eq_nil_of_le (by simp; omega)
    rw [this] at h
    exact hQ s N G a w h hS
  | n + 1, i, s, N, G, a, w, hi, h, hS => by
    have hlt : i < ops.toList.length := by simp; omega
    rw [List.drop_eq_getElem_cons hlt] at h
    simp only [runOps] at h
    have hget : ops[i]? = some (ops.toList[i]) := by simp [Array.getElem?_eq_getElem (show i < ops.size by omega)]
    have := stepK_sound hT h hS (next := wpOps E.P ops Q (List.range' (i + 1) n)) (Q := Q) (fun s' N' G' a' w' hk hS' => runOps_sound hT hQ n (i + 1) s' N' G' a' w' (by omega) hk hS')
    simp only [List.range'_succ, wpOps, hget]
    split
    · rename_i hw
      rw [if_pos hw] at this
      exact .inl this
    · rename_i hw
      rw [if_neg hw] at this
      exact this

end
end Go.Sx
