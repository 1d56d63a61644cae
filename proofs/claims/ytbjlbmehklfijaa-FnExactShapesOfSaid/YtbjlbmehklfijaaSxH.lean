/-
  New slices (make, a literal, append), calls.
-/
import Derived.Test.YtbjlbmehklfijaaSxG
namespace Go.Sx
set_option linter.unusedVariables false
set_option linter.unusedSimpArgs false
open Go
open Go.RowKit

section
variable {P : Program} {T : Tbl} {ρ : Rho} {N : Nat} {G : Heap} {w : World}

/-! ### make -/
def EK.repK (k : EK) (n : Nat) (K : Flat → Prop) : Prop :=
  match k with
  | .ints k => K (.ints k (List.replicate n 0))
  | .r2 => K (.r2 (List.replicate n ⟨0, 0⟩))
  | .r3 => K (.r3 (List.replicate n ⟨0, 0, 0⟩))
  | .r4 => K (.r4 (List.replicate n ⟨0, 0, 0, 0⟩))
  | .bools => K (.bools (List.replicate n false))
  | .strs => K (.strs (List.replicate n ByteArray.empty))
  | _ => False
theorem getD_rep {α : Type} (n i : Nat) (x d : α) (h : i < n) : (List.replicate n x).getD i d = x := by simp [List.getD, h]
theorem repK_spec {k : EK} {n : Nat} {K : Flat → Prop} (h : k.repK n K) : ∃ f, K f ∧ k ≠ .other ∧ f.n = n ∧ f.sz = k.zero.length ∧ ∀ i j, i < n → j < f.sz → f.cell i j = k.zero.getD j .top := by
  unfold EK.repK at h
  split at h
  case h_7 => exact h.elim
  all_goals
    refine ⟨_, h, by simp, by simp [Flat.n], rfl, fun i j hi hj => ?_⟩
    simp only [Flat.sz] at hj
    simp only [Flat.cell, getD_rep _ _ _ _ hi]
    have hj4 : j = 0 ∨ j = 1 ∨ j = 2 ∨ j = 3 := by omega
    rcases hj4 with rfl | rfl | rfl | rfl <;> first | omega | rfl

def sameOpd (x y : Operand) : Bool :=
  match x, y with
  | .tmp a, .tmp b => Nat.beq a b
  | _, _ => false
def eMake (T : Tbl) (lk : Operand → AV) (t : Nat) (xl xc : Operand) (N : Nat) (G : Heap) (K : AV → Nat → Heap → Prop) : Prop :=
  match tget T t with
  | some ti => match ti.d with
    | .slice _ _ _ k => match sameOpd xl xc with
      | true => match lk xl with
        | .int _ l => k.repK l.toNat fun f => need (some (0 ≤ l ∧ l ≤ 1099511627776)) (K (.sl N []) (N + 1) ((N, .flat true f) :: G))
        | _ => False
      | false => False
    | _ => False
  | none => False

theorem madeCells_get (z : Array Value) (n k : Nat) (h : k < n) : (madeCells z n)[k]? = some (z[k % z.size]!) := by
  simp [madeCells, h]

/-- The run of make, and the object that it makes, whatever stands for the zero cells. -/
theorem make_core (hT : TblOK P T) (hH : HeapRep ρ N G w) {t : Nat} {ti : TI} (ht : tget T t = some ti) {e esz eb : Nat} {k : EK} (hd1 : ti.d = .slice e esz eb k) (hko : k ≠ .other) {kk : IntKind} {l : Int} (h0 : 0 ≤ l) (h1 : l ≤ 1099511627776)
    {f : Flat} (hfn : f.n = l.toNat) (hfs : f.sz = k.zero.length) (hfc : ∀ i j u, i < l.toNat → j < f.sz → VR ρ N (k.zero.getD j .top) u → VR ρ N (f.cell i j) u) {K : AV → Nat → Heap → Prop} (hK : K (.sl N []) (N + 1) ((N, .flat true f) :: G)) :
    ∃ v w', (Instr.makeSlice t (.int kk l) (.int kk l)).run P w = .ok v w' ∧ Out ρ N G w K v w' := by
  have hd0 := (hT _ _ ht).desc
  rw [hd1] at hd0
  obtain ⟨hd, i, z, hi, hsz, hby, hpos, heb, hz, hzs, hzk, hz1⟩ : DescOK P t (.slice e esz eb k) := hd0
  obtain ⟨hzl, hzr⟩ := hzk hko
  have hb : (i.bytes : Int) * l ≤ 281474976710656 := by
    have : (i.bytes : Int) ≤ 64 := by omega
    calc (i.bytes : Int) * l ≤ 64 * l := Int.mul_le_mul_of_nonneg_right this h0
      _ ≤ 281474976710656 := by omega
  have hrun := run_make (P := P) w t e i z hd hi hz kk kk l l h0 (Int.le_refl _) hb (by omega)
  refine ⟨_, _, hrun, ?_⟩
  have hlen : (madeCells z.cells (l.toNat * i.size)).toList.length = l.toNat * esz := by simp [size_madeCells, hsz]
  refine out_new (f := f) (t := e) (cs := (madeCells z.cells (l.toNat * i.size)).toList) hH hK (by rw [hfs, hzl]; exact hpos) (by rw [hlen, hfn, hfs, hzl]; exact Nat.le_refl _) ?_ (frame_alloc _ _) (by simpa using heap_alloc_new w _) ?_
  · intro a ha b hbb
    rw [hfn] at ha
    rw [hfs, hzl] at hbb ⊢
    have hlt : a * esz + b < l.toNat * i.size := by
      have := Nat.mul_le_mul_right esz (show a + 1 ≤ l.toNat by omega)
      rw [Nat.add_mul] at this
      rw [hsz]; omega
    have hg := madeCells_get z.cells _ _ hlt
    have hmod : (a * esz + b) % z.cells.size = b := by
      rw [hzs, Nat.mul_comm, Nat.mul_add_mod, Nat.mod_eq_of_lt hbb]
    rw [hmod] at hg
    obtain ⟨u, hu, hr⟩ := (hzr ρ N).get b (by rw [hzl]; exact hbb)
    have hu' : z.cells[b]? = some u := by simpa using hu
    refine ⟨u, ?_, hfc a b u ha (by rw [hfs, hzl]; exact hbb) hr, hz1 u (Array.mem_of_getElem? hu')⟩
    rw [Array.getElem?_toList, hg]
    simp [Array.getElem!_eq_getD, hu']
  · simp only [VR, if_true]
    refine ⟨Nat.lt_succ_self N, _, _, by rw [hfn], .inl ⟨by simp, by rw [hfn]; exact Nat.le_refl _, ?_⟩⟩
    rw [hlen, hfs, hzl]; simp

theorem eMake_sound {lk : Operand → AV} {ev : Operand → Value} (hT : TblOK P T) (hH : HeapRep ρ N G w) (hlk : ∀ x, VR ρ N (lk x) (ev x)) {t : Nat} {xl xc : Operand} {K : AV → Nat → Heap → Prop} (hev : ∀ a b, sameOpd a b = true → ev a = ev b)
    (h : eMake T lk t xl xc N G K) : ∃ v w', (Instr.makeSlice t (ev xl) (ev xc)).run P w = .ok v w' ∧ Out ρ N G w K v w' := by
  unfold eMake at h
  split at h
  case h_2 => exact h.elim
  rename_i ti ht
  split at h
  case h_2 => exact h.elim
  rename_i e esz eb k hd1
  split at h
  case h_2 => exact h.elim
  rename_i hsame
  split at h
  case h_2 => exact h.elim
  rename_i kk l hx
  have hvl := hlk xl
  rw [hx] at hvl
  simp only [VR] at hvl
  obtain ⟨f, h, hko, hfn, hfs, hfc⟩ := repK_spec h
  obtain ⟨hc, hK⟩ := need_spec h
  obtain ⟨h0, h1⟩ : 0 ≤ l ∧ l ≤ 1099511627776 := hc
  rw [← hev xl xc hsame, hvl]
  exact make_core hT hH ht hd1 hko h0 h1 hfn hfs (fun i j u hi hj hu => by rw [hfc i j hi hj]; exact hu) hK

/-! ### a literal -/
def collectK (lk : Operand → AV) (esz : Nat) : Nat → List (Nat × Operand) → (List (List AV) → Prop) → Prop
  | _, [], K => K []
  | k, (i, x) :: r, K => bif Nat.beq i k then cellsK (lk x) fun cs => bif Nat.beq cs.length esz then collectK lk esz (k + 1) r fun rows => K (cs :: rows) else False else False

def intsK (k : IntKind) : List (List AV) → (List Int → Prop) → Prop
  | [], K => K []
  | c :: r, K => match c with
    | [.int k' n] => bif k == k' then intsK k r fun xs => K (n :: xs) else False
    | _ => False
def r2K : List (List AV) → (List R2 → Prop) → Prop
  | [], K => K []
  | c :: r, K => match c with
    | [.int .i64 a, .int .i64 b] => r2K r fun xs => K (⟨a, b⟩ :: xs)
    | _ => False
def r3K : List (List AV) → (List R3 → Prop) → Prop
  | [], K => K []
  | c :: r, K => match c with
    | [.int .i64 a, .int .i64 b, .int .i64 c] => r3K r fun xs => K (⟨a, b, c⟩ :: xs)
    | _ => False
def r4K : List (List AV) → (List R4 → Prop) → Prop
  | [], K => K []
  | c :: r, K => match c with
    | [.int .i64 a, .int .i64 b, .int .i64 c, .int .i64 d] => r4K r fun xs => K (⟨a, b, c, d⟩ :: xs)
    | _ => False
def boolsK : List (List AV) → (List Bool → Prop) → Prop
  | [], K => K []
  | c :: r, K => match c with
    | [.bool b] => boolsK r fun xs => K (b :: xs)
    | _ => False
def strsK : List (List AV) → (List ByteArray → Prop) → Prop
  | [], K => K []
  | c :: r, K => match c with
    | [.str s] => strsK r fun xs => K (s :: xs)
    | _ => False
def EK.rowsK (k : EK) (rows : List (List AV)) (K : Flat → Prop) : Prop :=
  match k with
  | .ints k => intsK k rows fun xs => K (.ints k xs)
  | .r2 => r2K rows fun xs => K (.r2 xs)
  | .r3 => r3K rows fun xs => K (.r3 xs)
  | .r4 => r4K rows fun xs => K (.r4 xs)
  | .bools => boolsK rows fun xs => K (.bools xs)
  | .strs => strsK rows fun xs => K (.strs xs)
  | _ => False

theorem intsK_spec {k : IntKind} : ∀ {rows : List (List AV)} {K : List Int → Prop}, intsK k rows K → ∃ xs, K xs ∧ rows = xs.map fun n => [AV.int k n]
  | [], _, h => ⟨[], h, rfl⟩
  | c :: r, K, h => by
    simp only [intsK] at h
    split at h
    · rename_i k' n
      cases hb : k == k' with
      | false => simp [hb] at h
      | true =>
        simp only [hb, cond_true] at h
        have : k = k' := by simpa using hb
        subst this
        obtain ⟨xs, h1, h2⟩ := intsK_spec (rows := r) h
        exact ⟨n :: xs, h1, by simp [h2]⟩
    · exact h.elim
theorem r2K_spec : ∀ {rows : List (List AV)} {K : List R2 → Prop}, r2K rows K → ∃ xs, K xs ∧ rows = xs.map fun x => [AV.int .i64 x.a, .int .i64 x.b]
  | [], _, h => ⟨[], h, rfl⟩
  | c :: r, K, h => by
    simp only [r2K] at h
    split at h
    · rename_i a b
      obtain ⟨xs, h1, h2⟩ := r2K_spec (rows := r) h
      exact ⟨⟨a, b⟩ :: xs, h1, by simp [h2]⟩
    · exact h.elim
theorem r3K_spec : ∀ {rows : List (List AV)} {K : List R3 → Prop}, r3K rows K → ∃ xs, K xs ∧ rows = xs.map fun x => [AV.int .i64 x.a, .int .i64 x.b, .int .i64 x.c]
  | [], _, h => ⟨[], h, rfl⟩
  | c :: r, K, h => by
    simp only [r3K] at h
    split at h
    · rename_i a b c
      obtain ⟨xs, h1, h2⟩ := r3K_spec (rows := r) h
      exact ⟨⟨a, b, c⟩ :: xs, h1, by simp [h2]⟩
    · exact h.elim
theorem r4K_spec : ∀ {rows : List (List AV)} {K : List R4 → Prop}, r4K rows K → ∃ xs, K xs ∧ rows = xs.map fun x => [AV.int .i64 x.a, .int .i64 x.b, .int .i64 x.c, .int .i64 x.d]
  | [], _, h => ⟨[], h, rfl⟩
  | c :: r, K, h => by
    simp only [r4K] at h
    split at h
    · rename_i a b c d
      obtain ⟨xs, h1, h2⟩ := r4K_spec (rows := r) h
      exact ⟨⟨a, b, c, d⟩ :: xs, h1, by simp [h2]⟩
    · exact h.elim
theorem boolsK_spec : ∀ {rows : List (List AV)} {K : List Bool → Prop}, boolsK rows K → ∃ xs, K xs ∧ rows = xs.map fun x => [AV.bool x]
  | [], _, h => ⟨[], h, rfl⟩
  | c :: r, K, h => by
    simp only [boolsK] at h
    split at h
    · rename_i b
      obtain ⟨xs, h1, h2⟩ := boolsK_spec (rows := r) h
      exact ⟨b :: xs, h1, by simp [h2]⟩
    · exact h.elim
theorem strsK_spec : ∀ {rows : List (List AV)} {K : List ByteArray → Prop}, strsK rows K → ∃ xs, K xs ∧ rows = xs.map fun x => [AV.str x]
  | [], _, h => ⟨[], h, rfl⟩
  | c :: r, K, h => by
    simp only [strsK] at h
    split at h
    · rename_i s
      obtain ⟨xs, h1, h2⟩ := strsK_spec (rows := r) h
      exact ⟨s :: xs, h1, by simp [h2]⟩
    · exact h.elim

theorem rowsK_spec {k : EK} {rows : List (List AV)} {K : Flat → Prop} (h : k.rowsK rows K) : ∃ f, K f ∧ k ≠ .other ∧ f.n = rows.length ∧ f.sz = k.zero.length ∧ ∀ i j, i < rows.length → j < f.sz → f.cell i j = (rows.getD i []).getD j .top := by
  have key : ∀ {α : Type} (xs : List α) (g : α → List AV) (i j : Nat) (d : α), i < xs.length → ((xs.map g).getD i []).getD j .top = (g (xs.getD i d)).getD j .top := fun xs g i j d hi => by
    simp [List.getD, List.getElem?_map, List.getElem?_eq_getElem hi]
  unfold EK.rowsK at h
  split at h
  case h_7 => exact h.elim
  case h_1 =>
    obtain ⟨xs, hK, rfl⟩ := intsK_spec h
    refine ⟨_, hK, by simp, by simp [Flat.n], rfl, fun i j hi hj => ?_⟩
    rw [key _ _ _ _ 0 (by simpa using hi)]
    simp only [Flat.sz] at hj
    obtain rfl : j = 0 := by omega
    rfl
  case h_2 =>
    obtain ⟨xs, hK, rfl⟩ := r2K_spec h
    refine ⟨_, hK, by simp, by simp [Flat.n], rfl, fun i j hi hj => ?_⟩
    rw [key _ _ _ _ default (by simpa using hi)]
    simp only [Flat.sz] at hj
    have : j = 0 ∨ j = 1 := by omega
    rcases this with rfl | rfl <;> rfl
  case h_3 =>
    obtain ⟨xs, hK, rfl⟩ := r3K_spec h
    refine ⟨_, hK, by simp, by simp [Flat.n], rfl, fun i j hi hj => ?_⟩
    rw [key _ _ _ _ default (by simpa using hi)]
    simp only [Flat.sz] at hj
    have : j = 0 ∨ j = 1 ∨ j = 2 := by omega
    rcases this with rfl | rfl | rfl <;> rfl
  case h_4 =>
    obtain ⟨xs, hK, rfl⟩ := r4K_spec h
    refine ⟨_, hK, by simp, by simp [Flat.n], rfl, fun i j hi hj => ?_⟩
    rw [key _ _ _ _ default (by simpa using hi)]
    simp only [Flat.sz] at hj
    have : j = 0 ∨ j = 1 ∨ j = 2 ∨ j = 3 := by omega
    rcases this with rfl | rfl | rfl | rfl <;> rfl
  case h_5 =>
    obtain ⟨xs, hK, rfl⟩ := boolsK_spec h
    refine ⟨_, hK, by simp, by simp [Flat.n], rfl, fun i j hi hj => ?_⟩
    rw [key _ _ _ _ false (by simpa using hi)]
    simp only [Flat.sz] at hj
    obtain rfl : j = 0 := by omega
    rfl
  case h_6 =>
    obtain ⟨xs, hK, rfl⟩ := strsK_spec h
    refine ⟨_, hK, by simp, by simp [Flat.n], rfl, fun i j hi hj => ?_⟩
    rw [key _ _ _ _ ByteArray.empty (by simpa using hi)]
    simp only [Flat.sz] at hj
    obtain rfl : j = 0 := by omega
    rfl

theorem collectK_spec {lk : Operand → AV} {ev : Operand → Value} (hlk : ∀ x, VR ρ N (lk x) (ev x)) {esz : Nat} : ∀ {k : Nat} {parts : List (Nat × Operand)} {K : List (List AV) → Prop}, collectK lk esz k parts K →
    ∃ (rows : List (List AV)) (vss : List (List Value)), K rows ∧ rows.length = parts.length ∧ vss.length = parts.length ∧ (∀ i, i < rows.length → VRL ρ N (rows.getD i []) (vss.getD i []) ∧ (vss.getD i []).length = esz ∧ ∀ u ∈ vss.getD i [], u.oneCell' = true) ∧
      ∀ (cells : List Value), (k + parts.length) * esz ≤ cells.length → Instr.fill (fun i => some (i * esz, esz)) cells.toArray (parts.map fun x => (x.1, ev x.2)) = some (cells.take (k * esz) ++ vss.flatten ++ cells.drop ((k + parts.length) * esz)).toArray
  | k, [], K, h => ⟨[], [], h, rfl, rfl, by simp, fun cells hc => by simp [Instr.fill]⟩
  | k, (i, x) :: r, K, h => by
    simp only [collectK] at h
    cases hb : Nat.beq i k with
    | false => simp [hb] at h
    | true =>
      simp only [hb, cond_true] at h
      obtain rfl := Nat.eq_of_beq_eq_true hb
      obtain ⟨cs, us, h, hcells, hus, h1⟩ := cellsK_spec h (hlk x)
      cases hb2 : Nat.beq cs.length esz with
      | false => simp [hb2] at h
      | true =>
        simp only [hb2, cond_true] at h
        have hb2 := Nat.eq_of_beq_eq_true hb2
        have hl := hus.length
        obtain ⟨rows, vss, hK, e1, e2, e3, e4⟩ := collectK_spec hlk h
        refine ⟨cs :: rows, us :: vss, hK, by simp [e1], by simp [e2], fun a ha => ?_, fun cells hc => ?_⟩
        · cases a with
          | zero => exact ⟨hus, by simp; omega, h1⟩
          | succ a => exact e3 a (by simpa using ha)
        · simp only [List.length_cons] at hc
          have hmul : (i + (r.length + 1)) * esz = i * esz + esz + r.length * esz := by rw [Nat.add_mul, Nat.add_mul]; omega
          rw [List.map_cons, fill_cons (us := us) hcells (by rw [hl, hb2]) (by show i * esz + us.length ≤ _; omega)]
          rw [e4 _ (by rw [show i + 1 + r.length = i + (r.length + 1) by omega]; simp; omega)]
          have hmul2 : (i + 1) * esz = i * esz + esz := by rw [Nat.add_mul]; omega
          simp only [List.length_cons, List.flatten_cons]
          rw [hmul2, show i + 1 + r.length = i + (r.length + 1) by omega, hl, hb2]
          have hA : (cells.take (i * esz) ++ us).length = i * esz + esz := by simp; omega
          rw [List.take_left' hA, List.drop_append, List.drop_eq_nil_of_le (by omega), List.nil_append, List.drop_drop, hA]
          simp only [List.append_assoc]
          rw [show i * esz + esz + ((i + (r.length + 1)) * esz - (i * esz + esz)) = (i + (r.length + 1)) * esz by omega]

end
end Go.Sx
