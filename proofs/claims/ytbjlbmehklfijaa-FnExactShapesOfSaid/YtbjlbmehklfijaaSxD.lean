/-
  The quiet operations are sound.
-/
import Derived.Test.YtbjlbmehklfijaaSxC
namespace Go.Sx
set_option linter.unusedVariables false
set_option linter.unusedSimpArgs false
open Go

section
variable {P : Program} {T : Tbl} {ρ : Rho} {N : Nat} {G : Heap} {w : World}

theorem NodeAt.of_get {id : Nat} {p : List Nat} {o : AObj} {nd : Node} (h : hget G id = some o) (hn : o.node id p = some nd) : NodeAt G id p nd o.own := ⟨⟨o, h, hn, rfl⟩⟩

theorem run_isAgg_true {t : TypeId} {fs : Array Field} (h : P.underlying t = some (.struct fs)) (w : World) : (isAgg t).run P w = .ok true w := by
  simp [isAgg, run_underlying h]
theorem run_isAgg_false {t : TypeId} {d : TypeDesc} (h : P.underlying t = some d) (h1 : ∀ fs, d ≠ .struct fs) (h2 : ∀ n e, d ≠ .array n e) (w : World) : (isAgg t).run P w = .ok false w := by
  cases d <;> simp_all [isAgg, run_underlying]

theorem DescOK.plain {t : TypeId} {d : TD} (h : DescOK P t d) (hd : d.agg = false) (w : World) : (isAgg t).run P w = .ok false w := by
  cases d with
  | scalar => obtain ⟨d, hd, h1, h2⟩ := h; exact run_isAgg_false hd h1 h2 w
  | bool => exact run_isAgg_false h (by simp) (by simp) w
  | str => exact run_isAgg_false h (by simp) (by simp) w
  | int k => exact run_isAgg_false h (by simp) (by simp) w
  | struct fs => simp [TD.agg] at hd
  | slice e esz eb k => exact run_isAgg_false h.1 (by simp) (by simp) w

theorem run_sizeOf {t : TypeId} {i : TypeInfo} (h : P.info? t = some i) (w : World) : (sizeOf t).run P w = .ok i.size w := by
  simp [sizeOf, typeInfo, h]

/-- One cell out of a node. -/
theorem load_cell (hH : HeapRep ρ N G w) {t : TypeId} {d : TD} (hd : DescOK P t d) (hag : d.agg = false) {id : Nat} {p : List Nat} {nd : Node} {own : Bool} (hn : NodeAt G id p nd own) {i j : Nat} (hi : i < nd.n) (hj : j < nd.sz)
    {pv : Value} (hp : VR ρ N (.ptr id p i j) pv) : ∃ cv, VR ρ N (nd.cell i j) cv ∧ ∀ w' : World, w'.heap[(ρ id p).b]? = w.heap[(ρ id p).b]? → (Instr.loadAt t pv).run P w' = .ok cv w' := by
  simp only [VR] at hp
  obtain ⟨_, rfl⟩ := hp
  obtain ⟨v, hc, hv, _⟩ := hH.rd id p nd own hn i hi j hj
  refine ⟨v, hv, fun w' hw' => ?_⟩
  rw [(hH.shape id p nd own hn).1]
  rw [← World.cell?_of_block (w := w) (w' := w') (a := ⟨(ρ id p).b, (ρ id p).o + (i * nd.sz + j), none⟩) hw'] at hc
  simp [Instr.loadAt, Instr.sureAddr, loadVar, hd.plain hag, hc]

/-- Several cells. -/
theorem load_cells (hH : HeapRep ρ N G w) {t : TypeId} {i0 : TypeInfo} {fs : Array Field} (hd : P.underlying t = some (.struct fs)) (hi0 : P.info? t = some i0) {id : Nat} {p : List Nat} {nd : Node} {own : Bool} (hn : NodeAt G id p nd own) {i j : Nat} {cs : List AV}
    (hi : 0 < i0.size → i < nd.n) (hj : j + i0.size ≤ nd.sz) (hl : cs.length = i0.size) (hcs : ∀ d, d < i0.size → cs[d]? = some (nd.cell i (j + d)))
    {pv : Value} (hp : VR ρ N (.ptr id p i j) pv) : ∃ cv, VR ρ N (.agg cs) cv ∧ ∀ w' : World, (0 < i0.size → w'.heap[(ρ id p).b]? = w.heap[(ρ id p).b]?) → (Instr.loadAt t pv).run P w' = .ok cv w' := by
  simp only [VR] at hp
  obtain ⟨_, rfl⟩ := hp
  have hsz := (hH.shape id p nd own hn).1
  have hall : ∀ d, ∃ v, d < i0.size → w.cell? ⟨(ρ id p).b, (ρ id p).o + (i * nd.sz + (j + d)), none⟩ = some v ∧ VR ρ N (nd.cell i (j + d)) v ∧ v.oneCell' = true := fun d => by
    by_cases hdd : d < i0.size
    · obtain ⟨v, h1⟩ := hH.rd id p nd own hn i (hi (by omega)) (j + d) (by omega)
      exact ⟨v, fun _ => h1⟩
    · exact ⟨undef, fun h => absurd h hdd⟩
  obtain ⟨f, hf⟩ := Classical.axiomOfChoice hall
  refine ⟨.agg ((List.range i0.size).map f).toArray, ?_, ?_⟩
  · simp only [VR]
    refine ⟨_, rfl, ?_, ?_⟩
    · have key : ∀ (as : List AV) (k : Nat), (∀ d, d < as.length → k + d < i0.size ∧ as[d]? = some (nd.cell i (j + (k + d)))) → VRL ρ N as ((List.range as.length).map fun d => f (k + d)) := by
        intro as
        induction as with
        | nil => intro k _; simp [VRL]
        | cons a as ih =>
          intro k h
          simp only [VRL, List.length_cons, List.range_succ_eq_map, List.map_cons, List.map_map]
          refine ⟨_, _, rfl, ?_, ?_⟩
          · obtain ⟨h1, h2⟩ := h 0 (by simp)
            simp at h2
            subst h2
            exact (hf _ h1).2.1
          · have := ih (k + 1) (fun d hd => by
              obtain ⟨h1, h2⟩ := h (d + 1) (by simpa using hd)
              refine ⟨by omega, ?_⟩
              rw [show k + 1 + d = k + (d + 1) by omega]
              simpa using h2)
            refine (congrArg (VRL ρ N as) (List.map_congr_left fun d _ => ?_)).mpr this
            simp [Nat.add_comm 1 d, Nat.add_assoc]
      have := key cs 0 (fun d hd => ⟨by omega, by simpa using hcs d (by omega)⟩)
      simpa [hl] using this
    · intro u hu
      obtain ⟨d, hd, rfl⟩ := List.mem_map.1 hu
      exact (hf d (by simpa using hd)).2.2
  · intro w' hw'
    rw [hsz]
    simp only [Instr.loadAt, Instr.sureAddr, loadVar, Sem.run_bind, Sem.run_pure, Result.andThen_ok, run_isAgg_true hd, if_true, run_sizeOf hi0]
    rw [run_loadCells w' _ i0.size f (fun d hd => by
      have := (hf d hd).1
      rw [← World.cell?_of_block (w := w) (w' := w') (hw' (by omega))] at this
      rw [← this]
      congr 1
      unfold Addr.add
      split
      · next h => subst h; rfl
      · simp [Nat.add_assoc])]
    rfl

theorem lenK_sound (hH : HeapRep ρ N G w) {v : AV} {K : Cnd → Nat → Prop} (h : lenK G v K) {cv : Value} (hv : VR ρ N v cv) : ∃ C n, K C n ∧ (C.holds → ∃ A c, cv = .slice A n c) := by
  unfold lenK at h
  split at h
  · rename_i id p
    split at h
    · rename_i o ho
      obtain ⟨C, V, hK, hn⟩ := nodeV_spec h
      rw [NV.nK_eq] at hK
      refine ⟨C, _, hK, fun hc => ?_⟩
      simp only [VR] at hv
      obtain ⟨_, A, c, rfl, _⟩ := hv
      have := (hH.shape id p _ _ (NodeAt.of_get ho (hn hc))).2.1
      rw [V.n_eq, ← this]
      exact ⟨A, c, rfl⟩
    · exact h.elim
  · refine ⟨_, _, h, fun _ => ?_⟩
    simp only [VR] at hv
    obtain ⟨_, A, c, rfl, _⟩ := hv
    exact ⟨A, c, rfl⟩
  · refine ⟨_, _, h, fun _ => ?_⟩
    simp only [VR] at hv
    exact ⟨_, _, hv⟩
  · exact h.elim

theorem binK_sound {op : BinOp} {x y : AV} {K : Cnd → AV → Prop} (h : binK op x y K) {u v : Value} (hx : VR ρ N x u) (hy : VR ρ N y v) (t : TypeId) : ∃ C r, K C r ∧ (C.holds → ∃ cv, VR ρ N r cv ∧ (∀ w : World, (binOp op t u v).run P w = .ok cv w) ∧ (∀ (x y : Operand), eqGuard op t x y u v = pure ())) := by
  have hite : ∀ {k k' : IntKind} {X : Prop}, (bif k == k' then X else False) → k = k' ∧ X := fun {k k'} {X} h => by
    cases hb : k == k' with
    | false => simp [hb] at h
    | true => simp only [hb, cond_true] at h; exact ⟨by simpa using hb, h⟩
  unfold binK at h
  split at h
  case h_12 => exact h.elim
  all_goals
    obtain ⟨rfl, h1⟩ := hite h
    clear h
    simp only [VR] at hx hy
    subst hx hy
  case h_1 | h_2 | h_3 =>
    obtain ⟨C, m, hK, hm⟩ := arK_spec h1
    refine ⟨C, _, hK, fun hc => ⟨.int _ m, by simp only [VR]; rfl, ?_, fun _ _ => rfl⟩⟩
    have := hm hc
    intro _
    simp [go_sem, Op.intArith, this]
  case h_4 | h_5 =>
    refine ⟨_, _, h1, fun hc => ⟨_, by simp only [VR]; rfl, ?_, fun _ _ => rfl⟩⟩
    simp only [Cnd.holds] at hc
    intro _
    simp [go_sem, Op.intDiv, hc]
  all_goals
    refine ⟨_, _, h1, fun hc => ⟨_, by simp only [VR]; rfl, ?_, fun _ _ => rfl⟩⟩
    intro _
    simp [go_sem]
    try rfl

theorem run_eq_bool {t : TypeId} (h : P.underlying t = some .bool) (a b : Bool) (w : World) : (Op.equal t (.bool a) (.bool b)).run P w = .ok (a == b) w := by
  unfold Op.equal
  rw [show Op.maxDepth = 9999 + 1 from rfl, Op.equalIn]
  simp only [Sem.run_bind, run_underlying h, Result.andThen_ok, Sem.run_pure]
theorem bitvec_toNat {a : Int} (h : inB a) : (BitVec.ofInt 64 a).toNat = a.toNat := by
  obtain ⟨h1, h2⟩ := h
  rw [BitVec.toNat_ofInt]
  have : a % ((2 ^ 64 : Nat) : Int) = a := Int.emod_eq_of_lt h1 (by omega)
  rw [this]
theorem toNat_lt {a : Int} (h : inB a) : a.toNat < 2 ^ 63 := by
  obtain ⟨h1, h2⟩ := h; omega
theorem wrap_nat {k : IntKind} (hk : k = .i64 ∨ k = .u64) {n : Nat} (h : n < 2 ^ 63) : k.wrap (n : Int) = (n : Int) := by
  rcases hk with rfl | rfl <;> (unfold IntKind.wrap; simp [IntKind.bits, IntKind.signed]; omega)
theorem andI_nat {k : IntKind} (hk : k = .i64 ∨ k = .u64) {a b : Int} (ha : inB a) (hb : inB b) : andI k a b = ((a.toNat &&& b.toNat : Nat) : Int) := by
  unfold andI
  rcases hk with rfl | rfl <;> (rw [BitVec.toNat_and]; simp only [IntKind.bits]; rw [bitvec_toNat ha, bitvec_toNat hb]; exact wrap_nat (by simp) (Nat.lt_of_le_of_lt Nat.and_le_left (toNat_lt ha)))
theorem orI_nat {k : IntKind} (hk : k = .i64 ∨ k = .u64) {a b : Int} (ha : inB a) (hb : inB b) : orI k a b = ((a.toNat ||| b.toNat : Nat) : Int) := by
  unfold orI
  rcases hk with rfl | rfl <;> (rw [BitVec.toNat_or]; simp only [IntKind.bits]; rw [bitvec_toNat ha, bitvec_toNat hb]; exact wrap_nat (by simp) (Nat.or_lt_two_pow (toNat_lt ha) (toNat_lt hb)))
theorem xorI_nat {k : IntKind} (hk : k = .i64 ∨ k = .u64) {a b : Int} (ha : inB a) (hb : inB b) : xorI k a b = ((a.toNat ^^^ b.toNat : Nat) : Int) := by
  unfold xorI
  rcases hk with rfl | rfl <;> (rw [BitVec.toNat_xor]; simp only [IntKind.bits]; rw [bitvec_toNat ha, bitvec_toNat hb]; exact wrap_nat (by simp) (Nat.xor_lt_two_pow (toNat_lt ha) (toNat_lt hb)))
theorem shlI_in {a b : Int} (hb : b < 64) (h : inI64 (a * 2 ^ b.toNat)) : shlI .i64 a b = a * 2 ^ b.toNat := by
  unfold shlI
  rw [show min b.toNat (IntKind.i64).bits = b.toNat by simp [IntKind.bits]; omega, wrap_in h]
theorem shlI_u {a b : Int} (hb : b < 64) : shlI .u64 a b = IntKind.u64.wrap (a * 2 ^ b.toNat) := by
  unfold shlI
  rw [show min b.toNat (IntKind.u64).bits = b.toNat by simp [IntKind.bits]; omega]
theorem shrI_in {k : IntKind} (hk : k = .i64 ∨ k = .u64) {a b : Int} (hb : b < 64) : shrI k a b = a / 2 ^ b.toNat := by
  unfold shrI
  rw [show min b.toNat k.bits = b.toNat by rcases hk with rfl | rfl <;> simp [IntKind.bits] <;> omega]
theorem bitsK_sound {op : BinOp} {x y : AV} {K : Cnd → AV → Prop} (h : bitsK op x y K) {u v : Value} (hx : VR ρ N x u) (hy : VR ρ N y v) (t : TypeId) : ∃ C r, K C r ∧ (C.holds → ∃ cv, VR ρ N r cv ∧ (∀ w : World, (binOp op t u v).run P w = .ok cv w) ∧ (∀ (x y : Operand), eqGuard op t x y u v = pure ())) := by
  have hite : ∀ {k k' : IntKind} {X : Prop}, (bif k == k' then X else False) → k = k' ∧ X := fun {k k'} {X} h => by
    cases hb : k == k' with
    | false => simp [hb] at h
    | true => simp only [hb, cond_true] at h; exact ⟨by simpa using hb, h⟩
  have hdiv : ∀ (a : Int) (n : Nat), a.fdiv (2 ^ n) = a / 2 ^ n := fun a n => Int.fdiv_eq_ediv_of_nonneg _ (Int.le_of_lt (Int.pow_pos (by omega)))
  unfold bitsK at h
  split at h
  case h_2 => exact h.elim
  split at h
  case h_2 => exact h.elim
  rename_i k a _ k' b
  simp only [VR] at hx hy
  subst hx hy
  split at h
  case h_1 =>
    obtain ⟨rfl, h2⟩ := hite h
    refine ⟨_, _, h2, fun hc => ⟨_, by simp only [VR]; rfl, fun w => ?_, fun _ _ => rfl⟩⟩
    simp only [binOp, ne_eq, not_true_eq_false, if_false, Op.intBits, andI]
    rfl
  case h_2 =>
    obtain ⟨rfl, h2⟩ := hite h
    refine ⟨_, _, h2, fun hc => ⟨_, by simp only [VR]; rfl, fun w => ?_, fun _ _ => rfl⟩⟩
    simp only [binOp, ne_eq, not_true_eq_false, if_false, Op.intBits, orI]
    rfl
  case h_3 =>
    obtain ⟨rfl, h2⟩ := hite h
    refine ⟨_, _, h2, fun hc => ⟨_, by simp only [VR]; rfl, fun w => ?_, fun _ _ => rfl⟩⟩
    simp only [binOp, ne_eq, not_true_eq_false, if_false, Op.intBits, xorI]
    rfl
  case h_4 =>
    refine ⟨_, _, h, fun hc => ⟨_, by simp only [VR]; rfl, fun w => ?_, fun _ _ => rfl⟩⟩
    simp only [Cnd.holds] at hc
    simp only [binOp, Op.shift, shlI]
    rw [if_neg (by omega)]
    rfl
  case h_5 =>
    refine ⟨_, _, h, fun hc => ⟨_, by simp only [VR]; rfl, fun w => ?_, fun _ _ => rfl⟩⟩
    simp only [Cnd.holds] at hc
    simp only [binOp, Op.shift, shrI]
    rw [if_neg (by omega), hdiv]
    rfl
  case h_6 => exact h.elim
theorem strK_sound {op : BinOp} {a : ByteArray} {y : AV} {K : Cnd → AV → Prop} (h : strK op a y K) {v : Value} (hy : VR ρ N y v) (t : TypeId) : ∃ C r, K C r ∧ (C.holds → ∃ cv, VR ρ N r cv ∧ (∀ w : World, (binOp op t (.string a) v).run P w = .ok cv w) ∧ (∀ (x y : Operand), eqGuard op t x y (.string a) v = pure ())) := by
  unfold strK at h
  split at h
  case h_2 => exact h.elim
  simp only [VR] at hy
  subst hy
  split at h
  case h_5 => exact h.elim
  case h_1 =>
    refine ⟨_, _, h, fun hc => ⟨_, by simp only [VR]; rfl, fun w => ?_, fun _ _ => rfl⟩⟩
    simp only [Cnd.holds] at hc
    simp only [binOp, Op.stringOp]
    rw [if_neg (by simp [IntKind.max, IntKind.bits, IntKind.signed]; omega)]
    rfl
  all_goals
    refine ⟨_, _, h, fun hc => ⟨_, by simp only [VR]; rfl, fun w => ?_, fun _ _ => rfl⟩⟩
    simp [binOp, Op.stringOp]
theorem run_eq_nil {t e : TypeId} (h : P.underlying t = some (.slice e)) (A : Option Addr) (n c : Nat) (w : World) : (Op.equal t (.slice A n c) (.slice none 0 0)).run P w = .ok A.isNone w := by
  unfold Op.equal
  rw [show Op.maxDepth = 9999 + 1 from rfl, Op.equalIn]
  cases A <;> simp [Sem.run_bind, run_underlying h, Result.andThen_ok, Sem.run_pure]
theorem SlRel.nil {B : Blk} {i len c : Nat} {A : Option Addr} (h : SlRel B i len c A) (hA : A.isNone = true) : len = 0 := by
  rcases h with ⟨rfl, _⟩ | ⟨h, _⟩
  · simp at hA
  · exact h
theorem nilK_sound (hH : HeapRep ρ N G w) {v : AV} {K : Cnd → Bool → Prop} (h : nilK G v K) {cv : Value} (hv : VR ρ N v cv) : ∃ C b, K C b ∧ (C.holds → ∃ A n c, cv = .slice A n c ∧ b = A.isNone) := by
  unfold nilK at h
  split at h
  · simp only [VR] at hv
    exact ⟨_, _, h, fun _ => ⟨none, 0, 0, hv, rfl⟩⟩
  · rename_i id p
    simp only [VR] at hv
    obtain ⟨_, A, c, rfl, hsl⟩ := hv
    split at h
    case h_2 => exact h.elim
    rename_i o ho
    obtain ⟨C, V, h, hn⟩ := nodeV_spec h
    rw [NV.nK_eq] at h
    refine ⟨C, A.isNone, h _ (fun hc hA => ?_), fun _ => ⟨_, _, _, rfl, rfl⟩⟩
    obtain ⟨_, s2, _⟩ := hH.shape id p _ _ (NodeAt.of_get ho (hn hc))
    rw [V.n_eq, ← s2]
    exact hsl.nil hA
  · rename_i id p i len cap
    simp only [VR] at hv
    obtain ⟨_, A, c, rfl, hsl, _⟩ := hv
    exact ⟨_, A.isNone, h _ (fun hA => hsl.nil hA), fun _ => ⟨_, _, _, rfl, rfl⟩⟩
  · exact h.elim
theorem eqNilK_sound (hT : TblOK P T) (hH : HeapRep ρ N G w) {op : BinOp} {x y : AV} {K : Cnd → AV → Prop} {t : TypeId} (h : eqNilK T G op t x y K) {u v : Value} (hx : VR ρ N x u) (hy : VR ρ N y v) : ∃ C r, K C r ∧ (C.holds → ∃ cv, VR ρ N r cv ∧ (∀ w : World, (binOp op t u v).run P w = .ok cv w) ∧ (∀ (x y : Operand), eqGuard op t x y u v = pure ())) := by
  unfold eqNilK at h
  split at h
  case h_2 => exact h.elim
  simp only [VR] at hy
  subst hy
  split at h
  case h_2 => exact h.elim
  rename_i ti ht
  split at h
  case h_2 => exact h.elim
  rename_i hd1
  have hd0 := (hT _ _ ht).desc
  rw [hd1] at hd0
  obtain ⟨hd, _⟩ := hd0
  split at h
  case h_3 => exact h.elim
  all_goals
    obtain ⟨C, b, hK, hb⟩ := nilK_sound hH h hx
    refine ⟨C, _, hK, fun hc => ?_⟩
    obtain ⟨A, n, c, rfl, rfl⟩ := hb hc
    refine ⟨_, by simp only [VR]; rfl, fun w => ?_, fun _ _ => rfl⟩
    simp [binOp, run_eq_nil hd]

theorem guard_conv {op : BinOp} {t : TypeId} {K : Cnd → AV → Prop} {u v : Value} (h : ∃ C r, K C r ∧ (C.holds → ∃ cv, VR ρ N r cv ∧ (∀ w : World, (binOp op t u v).run P w = .ok cv w) ∧ (∀ (x y : Operand), eqGuard op t x y u v = pure ()))) :
    ∃ C r, K C r ∧ (C.holds → ∃ cv, VR ρ N r cv ∧ (∀ w : World, (binOp op t u v).run P w = .ok cv w) ∧ (∀ (x y : Operand) (w : World), (eqGuard op t x y u v).run P w = .ok () w)) := by
  obtain ⟨C, r, hK, h⟩ := h
  refine ⟨C, r, hK, fun hc => ?_⟩
  obtain ⟨cv, h1, h2, h3⟩ := h hc
  exact ⟨cv, h1, h2, fun x y w => by rw [h3]; rfl⟩
theorem aggEqK_sound {op : BinOp} {cs : List AV} {y : AV} {K : Cnd → AV → Prop} (hT : TblOK P T) {t : TypeId} (h : aggEqK T op t cs y K) {u v : Value} (hx : VR ρ N (.agg cs) u) (hy : VR ρ N y v) :
    ∃ C r, K C r ∧ (C.holds → ∃ cv, VR ρ N r cv ∧ (∀ w : World, (binOp op t u v).run P w = .ok cv w) ∧ (∀ (x y : Operand) (w : World), (eqGuard op t x y u v).run P w = .ok () w)) := by
  unfold aggEqK at h
  split at h
  case h_2 => exact h.elim
  split at h
  case h_2 => exact h.elim
  rename_i ti ht
  obtain ⟨xs, h, hxs⟩ := aggIK_spec (ρ := ρ) (N := N) h
  obtain ⟨ys, h, hys⟩ := aggIK_spec (ρ := ρ) (N := N) h
  simp only [VR] at hx hy
  obtain ⟨us, rfl, hu, _⟩ := hx
  obtain ⟨vs, rfl, hv, _⟩ := hy
  rw [hxs us hu, hys vs hv]
  cases hb : (Nat.beq xs.length ti.eqn && Nat.beq ys.length ti.eqn && Nat.blt 0 ti.eqn) with
  | false => simp [hb] at h
  | true =>
    simp only [hb, cond_true] at h
    simp only [Bool.and_eq_true, Nat.beq_eq, Nat.blt_eq] at hb
    obtain ⟨⟨e1, e2⟩, e3⟩ := hb
    obtain ⟨hg, he⟩ := (hT _ _ ht).eq (by omega)
    have hgu : ∀ (op : BinOp) (x y : Operand) (w : World), (eqGuard op t x y (.agg (xs.map (Value.int .i64)).toArray) (.agg (ys.map (Value.int .i64)).toArray)).run P w = .ok () w := fun op x y w => by
      cases op <;> simp [eqGuard, hg]
    split at h
    · have h := eqLK_spec (bdLK_spec (bdLK_spec h))
      refine ⟨_, _, h, fun hc => ⟨.bool (eqL xs ys), by simp only [VR], fun w => ?_, hgu _⟩⟩
      obtain ⟨b1, b2⟩ := hc
      have := he xs ys e1 e2 (bdL_all xs b1) (bdL_all ys b2) w
      rw [eqL_iff]
      simp [binOp, this]
    · have h := eqLK_spec (bdLK_spec (bdLK_spec h))
      refine ⟨_, _, h, fun hc => ⟨.bool (!(eqL xs ys)), by simp only [VR], fun w => ?_, hgu _⟩⟩
      obtain ⟨b1, b2⟩ := hc
      have := he xs ys e1 e2 (bdL_all xs b1) (bdL_all ys b2) w
      rw [eqL_iff]
      simp [binOp, this]
    · exact h.elim
theorem qBin_sound {op : BinOp} {x y : AV} {K : Cnd → AV → Prop} (hT : TblOK P T) (hH : HeapRep ρ N G w) {t : TypeId} (h : qBin T G op t x y K) {u v : Value} (hx : VR ρ N x u) (hy : VR ρ N y v) : ∃ C r, K C r ∧ (C.holds → ∃ cv, VR ρ N r cv ∧ (∀ w : World, (binOp op t u v).run P w = .ok cv w) ∧ (∀ (x y : Operand) (w : World), (eqGuard op t x y u v).run P w = .ok () w)) := by
  unfold qBin at h
  split at h
  · split at h
    · split at h
      · rename_i a _ b _ ti ht
        split at h
        · rename_i hd1
          have hd0 := (hT _ _ ht).desc
          rw [hd1] at hd0
          have hd : P.underlying t = some .bool := hd0
          simp only [VR] at hx hy
          subst hx hy
          split at h
          · refine ⟨_, _, h, fun _ => ⟨.bool (a == b), by simp only [VR], fun w => ?_, fun _ _ _ => rfl⟩⟩
            simp [binOp, run_eq_bool hd]
          · refine ⟨_, _, h, fun _ => ⟨.bool (!(a == b)), by simp only [VR], fun w => ?_, fun _ _ _ => rfl⟩⟩
            simp [binOp, run_eq_bool hd]
          · exact h.elim
        · exact h.elim
      · exact h.elim
    · exact h.elim
  · simp only [VR] at hx
    subst hx
    exact guard_conv (strK_sound h hy t)
  · exact guard_conv (eqNilK_sound hT hH h hx hy)
  · exact guard_conv (eqNilK_sound hT hH h hx hy)
  · exact guard_conv (eqNilK_sound hT hH h hx hy)
  · exact aggEqK_sound hT h hx hy
  · split at h
    · exact guard_conv (bitsK_sound h hx hy t)
    · exact guard_conv (bitsK_sound h hx hy t)
    · exact guard_conv (bitsK_sound h hx hy t)
    · exact guard_conv (bitsK_sound h hx hy t)
    · exact guard_conv (bitsK_sound h hx hy t)
    · exact guard_conv (binK_sound h hx hy t)

theorem hiK_spec {lk : Operand → AV} {ev : Operand → Value} (hlk : ∀ x, VR ρ N (lk x) (ev x)) {hi : Option Operand} {len : Nat} {K : Cnd → Nat → Prop} (h : hiK lk hi len K) :
    ∃ C n, K C n ∧ (C.holds → n ≤ len ∧ (hi = none → n = len) ∧ ∀ x, hi = some x → ∃ k, ev x = .int k (n : Int)) := by
  unfold hiK at h
  split at h
  · exact ⟨_, _, h, fun _ => ⟨Nat.le_refl _, fun _ => rfl, fun x hx => by cases hx⟩⟩
  · rename_i x
    split at h
    · rename_i k n hx
      refine ⟨_, _, h, fun hc => ?_⟩
      simp only [Cnd.holds] at hc
      have hv := hlk x
      rw [hx] at hv
      simp only [VR] at hv
      refine ⟨by omega, (fun e => by cases e), fun y hy => ?_⟩
      injection hy with hy
      subst hy
      exact ⟨k, by rw [hv, Int.toNat_of_nonneg hc.1]⟩
    · exact h.elim
theorem loK_spec {lk : Operand → AV} {ev : Operand → Value} (hlk : ∀ x, VR ρ N (lk x) (ev x)) {lo : Option Operand} {len : Nat} {K : Cnd → Nat → Prop} (h : loK lk lo len K) :
    ∃ C n, K C n ∧ (C.holds → n ≤ len ∧ (lo = none → n = 0) ∧ ∀ x, lo = some x → ∃ k, ev x = .int k (n : Int)) := by
  unfold loK at h
  split at h
  · exact ⟨_, _, h, fun _ => ⟨Nat.zero_le _, fun _ => rfl, fun x hx => by cases hx⟩⟩
  · rename_i x
    split at h
    · rename_i k n hx
      refine ⟨_, _, h, fun hc => ?_⟩
      simp only [Cnd.holds] at hc
      have hv := hlk x
      rw [hx] at hv
      simp only [VR] at hv
      refine ⟨by omega, (fun e => by cases e), fun y hy => ?_⟩
      injection hy with hy
      subst hy
      exact ⟨k, by rw [hv, Int.toNat_of_nonneg hc.1]⟩
    · exact h.elim

theorem run_bound {k : IntKind} {n y : Nat} (h : n ≤ y) (c : BoundsCode) (w : World) : (Instr.sliceBound (.int k (n : Int)) y c).run P w = .ok n w := by
  have h1 : ((n : Int) ≤ (y : Int)) := by omega
  simp [Instr.sliceBound, asIntOf, h1]

/-- The bounds, run. -/
theorem run_bounds {b : Bool} {len cap h l m : Nat} {lo hi mx : Option Value} (hh : h ≤ len) (hc : len ≤ cap) (hl : l ≤ h)
    (h1 : hi = none → h = len) (h2 : ∀ v, hi = some v → ∃ k, v = .int k (h : Int)) (l1 : lo = none → l = 0) (l2 : ∀ v, lo = some v → ∃ k, v = .int k (l : Int))
    (m1 : mx = none → m = cap) (m2 : ∀ v, mx = some v → hi ≠ none ∧ h ≤ m ∧ m ≤ len ∧ ∃ k, v = .int k (m : Int)) (w : World) : (Instr.sliceBounds b len cap lo hi mx).run P w = .ok (l, h, m) w := by
  unfold Instr.sliceBounds
  cases mx with
  | none =>
    have e := m1 rfl
    subst e
    cases hi with
    | none =>
      have e := h1 rfl
      subst e
      cases lo with
      | none => have e := l1 rfl; subst e; simp
      | some x =>
        obtain ⟨k, rfl⟩ := l2 x rfl
        simp [run_bound hl]
    | some y =>
      obtain ⟨k', rfl⟩ := h2 y rfl
      cases lo with
      | none => have e := l1 rfl; subst e; simp [run_bound (Nat.le_trans hh hc)]
      | some x =>
        obtain ⟨k, rfl⟩ := l2 x rfl
        simp [run_bound hl, run_bound (Nat.le_trans hh hc)]
  | some z =>
    obtain ⟨n1, n2, n3, k0, rfl⟩ := m2 z rfl
    cases hi with
    | none => exact absurd rfl n1
    | some y =>
      obtain ⟨k', rfl⟩ := h2 y rfl
      cases lo with
      | none => have e := l1 rfl; subst e; simp [run_bound (Nat.le_trans n3 hc), run_bound n2]
      | some x =>
        obtain ⟨k, rfl⟩ := l2 x rfl
        simp [run_bound hl, run_bound (Nat.le_trans n3 hc), run_bound n2]

theorem sliceK_spec {lk : Operand → AV} {ev : Operand → Value} (hlk : ∀ x, VR ρ N (lk x) (ev x)) {id : Nat} {p : List Nat} {i len : Nat} {lo hi mx : Option Operand} {K : Cnd → AV → Prop} (h : sliceK lk id p i len lo hi mx K) :
    ∃ C v, K C v ∧ (C.holds → ∀ {t e : TypeId} {ti : TypeInfo} (A : Option Addr) (c : Nat), P.underlying t = some (.slice e) → P.info? e = some ti → ti.size = (ρ id p).sz → id < N → SlRel (ρ id p) i len c A →
      ∃ cv, VR ρ N v cv ∧ ∀ w : World, (Instr.slice t (.slice A len c) (lo.map ev) (hi.map ev) (mx.map ev)).run P w = .ok cv w) := by
  unfold sliceK at h
  obtain ⟨C1, hh, h, hC1⟩ := hiK_spec hlk h
  obtain ⟨C2, l, h, hC2⟩ := loK_spec hlk h
  have fin : ∀ {t e : TypeId} {ti : TypeInfo} (A : Option Addr) (c m : Nat) (oc : Option Nat), P.underlying t = some (.slice e) → P.info? e = some ti → ti.size = (ρ id p).sz → id < N → SlRel (ρ id p) i len c A →
      C1.holds → C2.holds → (mx = none → m = c) → (∀ x, mx = some x → hi ≠ none ∧ hh ≤ m ∧ m ≤ len ∧ ∃ k, ev x = .int k (m : Int)) → (∀ c', oc = some c' → m - l = c') →
      ∃ cv, VR ρ N (.sub id p (Nat.add i l) (Nat.sub hh l) oc) cv ∧ ∀ w : World, (Instr.slice t (.slice A len c) (lo.map ev) (hi.map ev) (mx.map ev)).run P w = .ok cv w := by
    intro t e ti A c m oc ht he hs hid hA c1 c2 m1 m2 hoc
    obtain ⟨a1, a2, a3⟩ := hC1 c1
    obtain ⟨b1, b2, b3⟩ := hC2 c2
    have hlc : len ≤ c := by rcases hA with ⟨_, h, _⟩ | ⟨h, h'⟩ <;> omega
    have hmc : hh ≤ m ∧ m ≤ c := by
      cases hmx : mx with
      | none => have := m1 hmx; omega
      | some x => obtain ⟨_, q1, q2, _⟩ := m2 x hmx; omega
    refine ⟨.slice (if m = l then A else A.map (·.add (l * ti.size))) (hh - l) (m - l), ?_, fun w => ?_⟩
    · simp only [VR]
      refine ⟨hid, _, _, rfl, ?_, hoc⟩
      rcases hA with ⟨rfl, _, q⟩ | ⟨q1, q2⟩
      · by_cases hml : m = l
        · right; exact ⟨by show hh - l = 0; omega, by omega⟩
        · left
          rw [if_neg hml]
          refine ⟨?_, by show hh - l ≤ m - l; omega, ?_⟩
          · rw [hs]
            simp only [Option.map_some, Option.some.injEq]
            unfold Addr.add
            show (if l * (ρ id p).sz = 0 then _ else _) = (⟨(ρ id p).b, (ρ id p).o + (i + l) * (ρ id p).sz, none⟩ : Addr)
            split
            · next h0 => simp only [Addr.mk.injEq, true_and, and_true]; rw [Nat.add_mul, h0]; omega
            · simp only [Addr.mk.injEq, true_and, and_true]; rw [Nat.add_mul]; omega
          · refine Nat.le_trans (Nat.add_le_add_left (Nat.mul_le_mul_right _ ?_) _) q
            show i + l + (m - l) ≤ i + c
            omega
      · right; exact ⟨by show hh - l = 0; omega, by omega⟩
    · unfold Instr.slice
      have hb := run_bounds (P := P) (b := true) (lo := lo.map ev) (hi := hi.map ev) (mx := mx.map ev) (m := m) a1 hlc b1
        (fun e => a2 (by simpa using e)) (fun v e => by obtain ⟨x, hx, rfl⟩ := Option.map_eq_some_iff.1 e; exact a3 x hx)
        (fun e => b2 (by simpa using e)) (fun v e => by obtain ⟨x, hx, rfl⟩ := Option.map_eq_some_iff.1 e; exact b3 x hx)
        (fun e => m1 (by simpa using e)) (fun v e => by obtain ⟨x, hx, rfl⟩ := Option.map_eq_some_iff.1 e; obtain ⟨q0, q⟩ := m2 x hx; exact ⟨by simpa using q0, q⟩) w
      simp only [Sem.run_bind, run_underlying ht, Result.andThen_ok, hb, run_sizeOf he, Sem.run_pure]
  cases mx with
  | none =>
    refine ⟨_, _, h, fun hc {t e ti} A c ht he hs hid hA => ?_⟩
    obtain ⟨c1, c2⟩ := cAnd_holds hc
    exact fin A c c none ht he hs hid hA c1 c2 (fun _ => rfl) (fun x hx => by cases hx) (fun c' e => by cases e)
  | some mo =>
    cases hi with
    | none => exact h.elim
    | some y =>
      simp only at h
      split at h
      · rename_i k mm hm
        refine ⟨_, _, h, fun hc {t e ti} A c ht he hs hid hA => ?_⟩
        obtain ⟨c1, hc⟩ := cAnd_holds hc
        obtain ⟨c2, hc⟩ := cAnd_holds hc
        simp only [Cnd.holds] at hc
        have hv := hlk mo
        rw [hm] at hv
        simp only [VR] at hv
        refine fin A c mm.toNat _ ht he hs hid hA c1 c2 (fun e => by cases e) (fun x hx => ?_) (fun c' e => by injection e)
        injection hx with hx
        subst hx
        refine ⟨by simp, by omega, by omega, k, ?_⟩
        rw [hv, Int.toNat_of_nonneg (by omega)]
      · exact h.elim

theorem pickB_spec {t pol : Bool} {v : AV} {K : Cnd → Bool → Prop} (h : pickB t pol v K) : ∃ C x, K C x ∧ ∀ (cv : Value), VR ρ N v cv → C.holds → t = pol → cv = .bool x := by
  unfold pickB at h
  split at h
  · exact ⟨_, _, h, fun cv hv _ _ => by simpa only [VR] using hv⟩
  · refine ⟨_, _, h, fun cv hv hc ht => ?_⟩
    simp only [VR, Cnd.holds] at hv hc
    exact hv.1 (hc ht)
  · exact ⟨_, _, h, fun cv _ hc ht => absurd ht hc⟩
  · exact h.elim

theorem VRL.take {as : List AV} {vs : List Value} (h : VRL ρ N as vs) (n : Nat) : VRL ρ N (as.take n) (vs.take n) := by
  induction as generalizing vs n with
  | nil => simp only [VRL] at h; subst h; simp [VRL]
  | cons a as ih =>
    simp only [VRL] at h
    obtain ⟨v, r, rfl, h1, h2⟩ := h
    cases n with
    | zero => simp [VRL]
    | succ n => simp only [List.take_succ_cons, VRL]; exact ⟨v, _, rfl, h1, ih h2 n⟩
theorem VRL.drop {as : List AV} {vs : List Value} (h : VRL ρ N as vs) (n : Nat) : VRL ρ N (as.drop n) (vs.drop n) := by
  induction as generalizing vs n with
  | nil => simp only [VRL] at h; subst h; simp [VRL]
  | cons a as ih =>
    obtain ⟨v, r, rfl, h1, h2⟩ : ∃ v r, vs = v :: r ∧ VR ρ N a v ∧ VRL ρ N as r := by simpa only [VRL] using h
    cases n with
    | zero => exact h
    | succ n => simpa only [List.drop_succ_cons] using ih h2 n
theorem VRL.set {as : List AV} {vs : List Value} (h : VRL ρ N as vs) (n : Nat) {a : AV} {v : Value} (ha : VR ρ N a v) : VRL ρ N (as.set n a) (vs.set n v) := by
  induction as generalizing vs n with
  | nil => simp only [VRL] at h; subst h; simp [VRL]
  | cons b as ih =>
    simp only [VRL] at h
    obtain ⟨u, r, rfl, h1, h2⟩ := h
    cases n with
    | zero => simp only [List.set_cons_zero, VRL]; exact ⟨v, _, rfl, ha, h2⟩
    | succ n => simp only [List.set_cons_succ, VRL]; exact ⟨u, _, rfl, h1, ih h2 n⟩

theorem set_take {α : Type} : ∀ (l : List α) (i : Nat) (u : α), i < l.length → (l.set i u).take (i + 1) = l.take i ++ [u]
  | [], _, _, h => by simp at h
  | _ :: _, 0, _, _ => by simp
  | x :: r, i + 1, u, h => by simp [set_take r i u (by simpa using h)]
theorem set_drop {α : Type} : ∀ (l : List α) (i m : Nat) (u : α), i < m → (l.set i u).drop m = l.drop m
  | [], _, _, _, _ => by simp
  | _ :: _, 0, m + 1, _, _ => by simp
  | x :: r, i + 1, m + 1, u, h => by simp [set_drop r i m u (by omega)]

theorem foldl_set (off : Nat) : ∀ (us : List Value) (k : Nat) (cells : List Value), off + k + us.length ≤ cells.length →
    (us.zipIdx k).foldl (fun (cs : Array Value) x => cs.setIfInBounds (off + x.2) x.1) cells.toArray = (cells.take (off + k) ++ us ++ cells.drop (off + k + us.length)).toArray
  | [], k, cells, _ => by simp
  | u :: us, k, cells, h => by
    simp only [List.zipIdx_cons, List.foldl_cons, List.setIfInBounds_toArray, List.length_cons] at h ⊢
    rw [foldl_set off us (k + 1) (cells.set (off + k) u) (by simp; omega)]
    rw [show off + (k + 1) = (off + k) + 1 by omega, set_take _ _ _ (by omega), set_drop _ _ _ _ (by omega)]
    simp only [List.append_assoc, List.singleton_append]
    rw [show off + k + (us.length + 1) = off + k + 1 + us.length by omega]

theorem fill_cons {place : Nat → Option (Nat × Nat)} {i off : Nat} {v : Value} {us vs : List Value} (hv : v.cells = us.toArray) (hp : place i = some (off, us.length)) (hle : off + us.length ≤ vs.length) (rest : List (Nat × Value)) :
    Instr.fill place vs.toArray ((i, v) :: rest) = Instr.fill place (vs.take off ++ us ++ vs.drop (off + us.length)).toArray rest := by
  simp only [Instr.fill, hp, hv]
  rw [if_neg (by simp; omega)]
  have := foldl_set off us 0 vs (by omega)
  rw [← Array.foldl_toList, Array.toList_zipIdx]
  simp only [Nat.add_zero] at this
  rw [this]

theorem partsK_sound {lk : Operand → AV} {ev : Operand → Value} (hlk : ∀ x, VR ρ N (lk x) (ev x)) {fields : Array Field} {fs : List (Nat × Nat × Bool)}
    (hfs : ∀ (j off sz : Nat) (ag : Bool), fs[j]? = some (off, sz, ag) → ∃ (f : Field) (i : TypeInfo), fields[j]? = some f ∧ f.offset = off ∧ P.info? f.type = some i ∧ i.size = sz) {place : Nat → Option (Nat × Nat)}
    (hpl : ∀ (j : Nat) (f : Field) (i : TypeInfo), fields[j]? = some f → P.info? f.type = some i → place j = some (f.offset, i.size)) :
    ∀ {parts : List (Nat × Operand)} {cs : List AV} {K : List AV → Prop} (_ : partsK lk fs parts cs K) {vs : List Value} (_ : VRL ρ N cs vs) (_ : ∀ u ∈ vs, u.oneCell' = true),
      ∃ ds, K ds ∧ ∃ us, VRL ρ N ds us ∧ (∀ u ∈ us, u.oneCell' = true) ∧ us.length = vs.length ∧ Instr.fill place vs.toArray (parts.map fun x => (x.1, ev x.2)) = some us.toArray
  | [], cs, K, h, vs, hv, h1 => ⟨cs, h, vs, hv, h1, rfl, rfl⟩
  | (i, x) :: r, cs, K, h, vs, hv, h1 => by
    simp only [partsK] at h
    obtain ⟨⟨off, sz, ag⟩, hf, h⟩ := lrowK_spec h
    obtain ⟨f, ti, hf1, hf2, hf3, hf4⟩ := hfs i off sz ag hf
    have hp := hpl i f ti hf1 hf3
    rw [hf2, hf4] at hp
    have hx := hlk x
    have hvl := VRL.length hv
    have key : ∀ (a : AV) (v : Value), VR ρ N a v → v.oneCell' = true → (bif Nat.beq sz 1 && Nat.ble (off + 1) cs.length then partsK lk fs r (cs.set off a) K else False) → ev x = v →
        ∃ ds, K ds ∧ ∃ us, VRL ρ N ds us ∧ (∀ u ∈ us, u.oneCell' = true) ∧ us.length = vs.length ∧ Instr.fill place vs.toArray (((i, x) :: r).map fun x => (x.1, ev x.2)) = some us.toArray := by
      intro a v ha ho hh hev
      cases hb : (Nat.beq sz 1 && Nat.ble (off + 1) cs.length) with
      | false => simp [hb] at hh
      | true =>
        simp only [hb, cond_true] at hh
        simp only [Bool.and_eq_true, Nat.beq_eq, Nat.ble_eq] at hb
        obtain ⟨rfl, hb2⟩ := hb
        have hcells : v.cells = [v].toArray := by cases v <;> simp_all [Value.cells, Value.oneCell']
        obtain ⟨ds, hK, us, k1, k2, kl, k3⟩ := partsK_sound hlk hfs hpl hh (hv.set off ha) (vs := vs.set off v) (fun u hu => by
          rcases List.mem_or_eq_of_mem_set hu with hu | rfl
          · exact h1 u hu
          · exact ho)
        refine ⟨ds, hK, us, k1, k2, by simpa using kl, ?_⟩
        rw [List.map_cons, hev, fill_cons hcells hp (by simp; omega), ← k3]
        congr 2
        rw [List.set_eq_take_append_cons_drop, if_pos (by omega)]
        simp
    split at h
    · rename_i off' sz' heq
      simp only [Prod.mk.injEq] at heq
      obtain ⟨rfl, rfl, rfl⟩ := heq
      split at h
      · exact h.elim
      · exact h.elim
      · exact h.elim
      · exact h.elim
      · rename_i hna hnt hno hnp
        refine key _ _ hx ?_ h rfl
        generalize lk x = a at *
        generalize ev x = v at *
        cases a <;> simp only [VR] at hx
        · subst hx; rfl
        · subst hx; rfl
        · subst hx; rfl
        · obtain ⟨_, rfl⟩ := hx; rfl
        · obtain ⟨_, _, _, rfl, _⟩ := hx; rfl
        · obtain ⟨_, _, _, rfl, _⟩ := hx; rfl
        · subst hx; rfl
        · subst hx; rfl
        · subst hx; rfl
        · obtain ⟨_, rfl⟩ := hx; rfl
        · obtain ⟨_, rfl, _⟩ := hx; rfl
        · exact absurd rfl (hna _)
        · exact absurd rfl (hnt _)
        · exact absurd rfl (hno _ _ _ _)
        · exact absurd rfl hnp
    · rename_i off' sz' us' heq hag
      simp only [Prod.mk.injEq] at heq
      obtain ⟨rfl, rfl, rfl⟩ := heq
      cases hb : (Nat.beq us'.length sz && Nat.ble (off + sz) cs.length) with
      | false => simp [hb] at h
      | true =>
        simp only [hb, cond_true] at h
        simp only [Bool.and_eq_true, Nat.beq_eq, Nat.ble_eq] at hb
        obtain ⟨hl, hb2⟩ := hb
        rw [hag] at hx
        simp only [VR] at hx
        obtain ⟨ws, hev, hw, hw1⟩ := hx
        have hwl := VRL.length hw
        obtain ⟨ds, hK, us, k1, k2, kl, k3⟩ := partsK_sound hlk hfs hpl h (((hv.take off).append hw).append (hv.drop (off + sz))) (fun u hu => by
          simp only [List.mem_append] at hu
          rcases hu with (hu | hu) | hu
          · exact h1 u (List.mem_of_mem_take hu)
          · exact hw1 u hu
          · exact h1 u (List.mem_of_mem_drop hu))
        refine ⟨ds, hK, us, k1, k2, ?_, ?_⟩
        · rw [kl]; simp; omega
        · rw [List.map_cons, hev, fill_cons (us := ws) rfl (by rw [hp, hwl, hl]) (by omega), ← k3, hwl, hl]
    · exact h.elim

theorem places_list : ∀ {fs : List (Nat × Nat × Bool)} {gs : List Field}, fs.length = gs.length → (∀ (j off sz : Nat) (ag : Bool), fs[j]? = some (off, sz, ag) → ∃ (f : Field) (i : TypeInfo), gs[j]? = some f ∧ P.info? f.type = some i) →
    ∃ places, gs.mapM (fun f => (P.info? f.type).map fun i => (f.offset, i.size)) = some places ∧ ∀ (j : Nat) (f : Field) (i : TypeInfo), gs[j]? = some f → P.info? f.type = some i → places[j]? = some (f.offset, i.size)
  | [], [], _, _ => ⟨[], by simp, by simp⟩
  | [], _ :: _, h, _ => by simp at h
  | _ :: _, [], h, _ => by simp at h
  | (off, sz, ag) :: fs, g :: gs, hl, h => by
    obtain ⟨f, i, h1, h2⟩ := h 0 off sz ag rfl
    simp only [List.getElem?_cons_zero, Option.some.injEq] at h1
    subst h1
    obtain ⟨ps, p1, p2⟩ := places_list (fs := fs) (gs := gs) (by simpa using hl) (fun j o s a hj => by
      obtain ⟨f, i, k1, k2⟩ := h (j + 1) o s a (by simpa using hj)
      exact ⟨f, i, by simpa using k1, k2⟩)
    refine ⟨(g.offset, i.size) :: ps, ?_, ?_⟩
    · simp [List.mapM_cons, h2, p1]
    · intro j f i' hj hi'
      cases j with
      | zero =>
        simp only [List.getElem?_cons_zero, Option.some.injEq] at hj
        subst hj
        rw [h2] at hi'
        injection hi' with hi'
        subst hi'
        rfl
      | succ j => simpa using p2 j f i' (by simpa using hj) hi'
theorem places_of {fs : List (Nat × Nat × Bool)} {fields : Array Field} (hl : fs.length = fields.size) (h : ∀ (j off sz : Nat) (ag : Bool), fs[j]? = some (off, sz, ag) → ∃ (f : Field) (i : TypeInfo), fields[j]? = some f ∧ f.offset = off ∧ P.info? f.type = some i ∧ i.size = sz ∧ 0 < sz ∧
      (∃ d, P.underlying f.type = some d ∧ (ag = true → ∃ gs, d = .struct gs) ∧ (ag = false → (∀ gs, d ≠ .struct gs) ∧ ∀ n e, d ≠ .array n e))) :
    ∃ places, fields.toList.mapM (fun f => (P.info? f.type).map fun i => (f.offset, i.size)) = some places ∧ ∀ (j : Nat) (f : Field) (i : TypeInfo), fields[j]? = some f → P.info? f.type = some i → places[j]? = some (f.offset, i.size) := by
  obtain ⟨ps, p1, p2⟩ := places_list (P := P) (fs := fs) (gs := fields.toList) (by simpa using hl) (fun j o s a hj => by
    obtain ⟨f, i, k1, _, k2, _⟩ := h j o s a hj
    exact ⟨f, i, by simpa using k1, k2⟩)
  exact ⟨ps, p1, fun j f i hj hi => p2 j f i (by simpa using hj) hi⟩

/-- The object that a load looks at. -/
def qId (lk : Operand → AV) (op : Op) : Option Nat :=
  match op with
  | .load _ x => match lk x with
    | .ptr id _ _ _ => some id
    | _ => none
  | _ => none
/-- The blocks of an object are as they were. -/
def Same (ρ : Rho) (G : Heap) (x : Option Nat) (w w' : World) : Prop :=
  ∀ id, x = some id → ∀ p nd own, NodeAt G id p nd own → Solid (ρ id p) nd own → w'.heap[(ρ id p).b]? = w.heap[(ρ id p).b]?
theorem Same.refl (ρ : Rho) (G : Heap) (x : Option Nat) (w : World) : Same ρ G x w w := fun _ _ _ _ _ _ _ => rfl

theorem HeapRep.solid (hH : HeapRep ρ N G w) {id : Nat} {p : List Nat} {nd : Node} {own : Bool} (hn : NodeAt G id p nd own) (h : 0 < nd.n * nd.sz) : Solid (ρ id p) nd own := by
  cases own with
  | false => simpa only [Solid, Bool.false_eq_true, if_false] using h
  | true =>
    simp only [Solid, if_true]
    rcases hH.ow id p nd hn with ⟨_, h0⟩ | ⟨_, _, _, _, h0⟩
    · rw [h0] at h; omega
    · exact h0

theorem quiet_keep {lk : Operand → AV} {a : Act} (hT : TblOK P T) (hH : HeapRep ρ N G w) (hlk : ∀ x, VR ρ N (lk x) (a.eval x)) {o : Oper} {K : Cnd → AV → Prop} (h : quiet T lk G o.op K) :
    ∃ C v, K C v ∧ (C.holds → ∃ cv, VR ρ N v cv ∧ ∀ w', Same ρ G (qId lk o.op) w w' → (execOp a.eval o).run P w' = .ok (.value cv) w') := by
  obtain ⟨dst, op, ty, pos, after, guard⟩ := o
  simp only at h
  cases op <;> simp only [quiet] at h
  case move x => exact ⟨_, _, h, fun _ => ⟨_, hlk x, fun _ _ => by simp [execOp]⟩⟩
  case assign x => exact ⟨_, _, h, fun _ => ⟨_, hlk x, fun _ _ => by simp [execOp]⟩⟩
  case pick c x y =>
    unfold qPick at h
    split at h
    · rename_i t hc
      have hcv := hlk c
      rw [hc] at hcv
      simp only [VR] at hcv
      obtain ⟨C1, b1, h, p1⟩ := pickB_spec (ρ := ρ) (N := N) h
      obtain ⟨C2, b2, h, p2⟩ := pickB_spec (ρ := ρ) (N := N) h
      refine ⟨_, _, h, fun hcc => ⟨.bool (cond t b1 b2), by simp only [VR], ?_⟩⟩
      have h1 := p1 _ (hlk x) (cAnd_holds hcc).1
      have h2 := p2 _ (hlk y) (cAnd_holds hcc).2
      intro _ _
      cases t with
      | true => simp [execOp, hcv, asBool, h1 rfl]
      | false => simp [execOp, hcv, asBool, h2 rfl]
    · exact h.elim
  case nilCheck x =>
    have hv := hlk x
    unfold qNil at h
    split at h
    · rename_i id p i j hx
      rw [hx] at hv
      refine ⟨_, _, h, fun _ => ⟨_, hv, ?_⟩⟩
      simp only [VR] at hv
      intro _ _
      simp [execOp, hv.2]
    · exact h.elim
  case fieldAddr s x f =>
    have hv := hlk x
    unfold qField at h
    split at h
    · rename_i ti ht
      split at h
      · rename_i fs hfs0
        split at h
        · rename_i id p i j hx
          obtain ⟨⟨off, sz, ag⟩, hf, h⟩ := lrowK_spec h
          have hd0 := (hT _ _ ht).desc
          rw [hfs0] at hd0
          obtain ⟨fields, hd, _, hfs⟩ : DescOK P s (.struct fs) := hd0
          obtain ⟨fd, ti, hf1, hf2, hf3, hf4, hf5, _⟩ := hfs f off sz ag hf
          rw [hx] at hv
          simp only [VR] at hv
          refine ⟨_, _, h, fun _ => ⟨.pointer (some ⟨(ρ id p).b, (ρ id p).o + (i * (ρ id p).sz + (j + off)), none⟩), by simp only [VR]; exact ⟨hv.1, trivial⟩, ?_⟩⟩
          have hne : ¬ ti.size = 0 := by omega
          intro _ _
          simp only [execOp, Instr.fieldAt, Sem.run_bind, run_underlying hd, Result.andThen_ok, hf1, hv.2, Instr.sureAddr, Sem.run_pure, fieldPlace, run_sizeOf hf3, hne, if_false, hf2]
          congr 4
          unfold Addr.add
          split
          · next h0 => subst h0; simp
          · simp [Nat.add_assoc]
        · exact h.elim
      · exact h.elim
    · exact h.elim
  case load t x =>
    have hv := hlk x
    unfold qLoad at h
    split at h
    · rename_i ti ht
      split at h
      · rename_i id p i j hx
        split at h
        · rename_i o ho
          rw [hx] at hv
          obtain ⟨C1, V, h, hn⟩ := nodeV_spec h
          split at h
          · rename_i hag
            obtain ⟨C2, cs, h, hr⟩ := rdA_spec h
            refine ⟨_, _, h, fun hcc => ?_⟩
            obtain ⟨hc1, hc2⟩ := cAnd_holds hcc
            obtain ⟨k1, k2, k3, k4⟩ := hr hc2
            obtain ⟨i0, z, hi0, hi1, _⟩ := (hT _ _ ht).info
            have hd0 := (hT _ _ ht).desc
            obtain ⟨fs0, hfs0⟩ : ∃ fs0, ti.d = .struct fs0 := by
              cases hdd : ti.d <;> simp [hdd, TD.agg] at hag
              exact ⟨_, rfl⟩
            rw [hfs0] at hd0
            obtain ⟨fields, hd, _, _⟩ : DescOK P t (.struct fs0) := hd0
            rw [← hi1] at k1 k2 k3 k4
            obtain ⟨cv, q1, q2⟩ := load_cells hH hd hi0 (NodeAt.of_get ho (hn hc1)) k1 k2 k3 k4 hv
            refine ⟨cv, q1, fun w' hw' => ?_⟩
            have hn1 := NodeAt.of_get ho (hn hc1)
            have := q2 w' (fun hz => hw' id (by simp only [qId, hx]) p _ _ hn1 (hH.solid hn1 (Nat.mul_pos (by have := k1 hz; omega) (by omega))))
            simp [execOp, this]
          · rename_i hag
            obtain ⟨C2, v, h, hr⟩ := rdC_spec h
            refine ⟨_, _, h, fun hcc => ?_⟩
            obtain ⟨hc1, hc2⟩ := cAnd_holds hcc
            obtain ⟨k1, k2, k3⟩ := hr hc2
            obtain ⟨cv, q1, q2⟩ := load_cell hH (hT _ _ ht).desc hag (NodeAt.of_get ho (hn hc1)) k1 k2 hv
            refine ⟨cv, k3 ▸ q1, fun w' hw' => ?_⟩
            have hn1 := NodeAt.of_get ho (hn hc1)
            have := q2 w' (hw' id (by simp only [qId, hx]) p _ _ hn1 (hH.solid hn1 (Nat.mul_pos (by omega) (by omega))))
            simp [execOp, this]
        · exact h.elim
      · exact h.elim
    · exact h.elim
  case indexAddr t x ix =>
    have hv := hlk x
    have hvi := hlk ix
    unfold qIndex at h
    split at h
    case h_2 => exact h.elim
    rename_i ti ht
    split at h
    case h_2 => exact h.elim
    rename_i e esz eb ek hd1
    have hd0 := (hT _ _ ht).desc
    rw [hd1] at hd0
    obtain ⟨hd, i1, z1, hi1, hsz, _⟩ : DescOK P t (.slice e esz eb ek) := hd0
    split at h
    case h_2 => exact h.elim
    rename_i k n hix
    rw [hix] at hvi
    simp only [VR] at hvi
    have hadd : ∀ (b o i m : Nat) , Addr.add ⟨b, o + i * esz, none⟩ (m * i1.size) = ⟨b, o + ((i + m) * esz + 0), none⟩ := fun b o i m => by
      rw [hsz]
      unfold Addr.add
      split
      · next h0 => simp only [Addr.mk.injEq, true_and, and_true]; rw [Nat.add_mul, h0]; omega
      · simp only [Addr.mk.injEq, true_and, and_true]; rw [Nat.add_mul]; omega
    split at h
    case h_3 => exact h.elim
    case h_1 id p hx =>
      rw [hx] at hv
      simp only [VR] at hv
      obtain ⟨hidN, A, c, hv, hsl⟩ := hv
      split at h
      case h_2 => exact h.elim
      rename_i o ho
      obtain ⟨C1, V, h, hn⟩ := nodeV_spec h
      cases hb : Nat.beq esz V.sz with
      | false => simp [hb] at h
      | true =>
        simp only [hb, cond_true, NV.nK_eq] at h
        have hb := Nat.eq_of_beq_eq_true hb
        refine ⟨_, _, h, fun hcc => ?_⟩
        obtain ⟨hc1, h0, h1⟩ := cAnd_holds hcc
        obtain ⟨s1, s2, s3⟩ := hH.shape id p _ _ (NodeAt.of_get ho (hn hc1))
        rw [V.n_eq, ← s2] at h1
        rw [V.sz_eq, ← s1] at hb
        rcases hsl with ⟨rfl, _, _⟩ | ⟨hl, _⟩
        · refine ⟨.pointer (some ⟨(ρ id p).b, (ρ id p).o + (n.toNat * (ρ id p).sz + 0), none⟩), by simp only [VR]; exact ⟨hidN, trivial⟩, ?_⟩
          have := hadd (ρ id p).b (ρ id p).o 0 n.toNat
          intro _ _
          simp only [execOp, Instr.indexAt, hv, hvi, asIntOf, Sem.run_bind, Sem.run_pure, Result.andThen_ok, run_underlying hd, Sem.run_ite, h0, h1, and_self, if_true, run_sizeOf hi1, ← hb]
          rw [this]
          simp
        · omega
    case h_2 id p i len cap hx =>
      rw [hx] at hv
      simp only [VR] at hv
      obtain ⟨hidN, A, c, hv, hsl, _⟩ := hv
      split at h
      case h_2 => exact h.elim
      rename_i o ho
      obtain ⟨C1, V, h, hn⟩ := nodeV_spec h
      cases hb : Nat.beq esz V.sz with
      | false => simp [hb] at h
      | true =>
        simp only [hb, cond_true] at h
        have hb := Nat.eq_of_beq_eq_true hb
        refine ⟨_, _, h, fun hcc => ?_⟩
        obtain ⟨hc1, h0, h1⟩ := cAnd_holds hcc
        obtain ⟨s1, s2, s3⟩ := hH.shape id p _ _ (NodeAt.of_get ho (hn hc1))
        rw [V.sz_eq, ← s1] at hb
        rcases hsl with ⟨rfl, _, _⟩ | ⟨hl, _⟩
        · refine ⟨.pointer (some ⟨(ρ id p).b, (ρ id p).o + ((i + n.toNat) * (ρ id p).sz + 0), none⟩), by simp only [VR]; exact ⟨hidN, trivial⟩, ?_⟩
          have := hadd (ρ id p).b (ρ id p).o i n.toNat
          intro _ _
          simp only [execOp, Instr.indexAt, hv, hvi, asIntOf, Sem.run_bind, Sem.run_pure, Result.andThen_ok, run_underlying hd, Sem.run_ite, h0, h1, and_self, if_true, run_sizeOf hi1, ← hb]
          rw [this]
        · omega
  case binOp op t x y yt =>
    obtain ⟨C, r, hK, hr⟩ := qBin_sound (P := P) hT hH h (hlk x) (hlk y)
    refine ⟨C, r, hK, fun hc => ?_⟩
    obtain ⟨cv, q1, q2, q3⟩ := hr hc
    exact ⟨cv, q1, fun _ _ => by simp [execOp, q2, q3]⟩
  case unOp op t x =>
    have hv := hlk x
    unfold qUn at h
    split at h
    · split at h
      · rename_i b hx
        rw [hx] at hv
        simp only [VR] at hv
        exact ⟨_, _, h, fun _ => ⟨.bool (!b), by simp only [VR], fun _ _ => by simp [execOp, hv, Op.unary]⟩⟩
      · exact h.elim
    · split at h
      · rename_i k n hx
        rw [hx] at hv
        simp only [VR] at hv
        obtain ⟨C, m, hK, hm⟩ := arK_spec h
        refine ⟨_, _, hK, fun hc => ⟨.int k m, by simp only [VR], ?_⟩⟩
        have := hm hc
        simp only [Int.zero_sub] at this
        intro _ _
        simp [execOp, hv, Op.unary, Op.intArith, this]
      · exact h.elim
    · exact h.elim
  case extract x i =>
    have hv := hlk x
    unfold qExtract at h
    split at h
    · rename_i vs hx
      rw [hx] at hv
      simp only [VR] at hv
      obtain ⟨us, hv, hus⟩ := hv
      obtain ⟨v, hvi, hK⟩ := lrowK_spec h
      refine ⟨_, _, hK, fun _ => ?_⟩
      obtain ⟨hi, _⟩ := List.getElem?_eq_some_iff.1 hvi
      obtain ⟨u, hu, hr⟩ := hus.get i hi
      refine ⟨u, by simpa [List.getD, hvi] using hr, ?_⟩
      intro _ _
      simp [execOp, hv, Instr.extract, hu]
    · exact h.elim
  case makeFunc fn first caps =>
    unfold qFunc at h
    split at h
    · rename_i f0
      split at h
      · rename_i hf
        refine ⟨_, _, h, fun _ => ⟨.func (.func f0) #[] (caps.map a.eval), ?_, ?_⟩⟩
        · simp only [VR]
          refine ⟨caps.toList.map a.eval, by congr 1; exact Array.ext' (by simp), ?_⟩
          generalize caps.toList = l
          induction l with
          | nil => simp [VRL]
          | cons x r ih => simp only [List.map_cons, VRL]; exact ⟨_, _, rfl, hlk x, ih⟩
        · have : first = #[] := Array.ext' hf
          intro _ _
          simp [execOp, Instr.makeFunc, this]
      · exact h.elim
    · exact h.elim
  case build t parts =>
    unfold qBuild at h
    split at h
    case h_2 => exact h.elim
    rename_i ti ht
    split at h
    case h_2 => exact h.elim
    rename_i fs hd1
    cases hb : Nat.beq ti.zero.length 0 with
    | true => simp [hb] at h
    | false =>
      simp only [hb, cond_false] at h
      have hz : ti.zero.length ≠ 0 := fun h0 => by rw [h0] at hb; cases hb
      have hd0 := (hT _ _ ht).desc
      rw [hd1] at hd0
      obtain ⟨fields, hd, hfl, hfs⟩ : DescOK P t (.struct fs) := hd0
      obtain ⟨i0, z, hi0, hi1, hi2, hz0, hzz⟩ := (hT _ _ ht).info
      obtain ⟨z1, z2, z3⟩ := hzz hz
      obtain ⟨places, hp1, hp2⟩ := places_of hfl hfs
      obtain ⟨ds, hK, us, k1, k2, k3, k4⟩ := partsK_sound hlk (fun j off sz ag h => by obtain ⟨f, i, h1, h2, h3, h4, _⟩ := hfs j off sz ag h; exact ⟨f, i, h1, h2, h3, h4⟩) (place := (places.toArray[·]?)) (fun j f i h1 h2 => by simpa using hp2 j f i h1 h2) h (z2 ρ N) (fun u hu => z3 u (by simpa using hu))
      refine ⟨_, _, hK, fun _ => ⟨.agg us.toArray, ?_, ?_⟩⟩
      · simp only [VR]; exact ⟨us, rfl, k1, k2⟩
      · simp only [Array.toArray_toList] at k4
        have k5 : Instr.fill (fun x => places[x]?) z.cells (List.map (fun x => (x.fst, a.eval x.snd)) parts.toList) = some us.toArray := by simpa using k4
        intro w' _
        simp [execOp, Instr.build, run_underlying hd, zeroValue, typeInfo, hi0, hz0, Array.mapM_eq_mapM_toList, run_places w' _ _ hp1, k5]
  case call c =>
    unfold qCall at h
    split at h
    case h_2 => exact h.elim
    rename_i b hcal
    split at h
    case h_4 => exact h.elim
    · split at h
      case h_2 => exact h.elim
      rename_i x hargs
      split at h
      case h_2 => exact h.elim
      rename_i t hts
      have hv := hlk x
      have ha : c.args = #[x] := Array.ext' hargs
      have ht0 : c.argTypes = #[t] := Array.ext' hts
      unfold qLen at h
      split at h
      case h_2 => exact h.elim
      rename_i ti ht
      have hd0 := (hT _ _ ht).desc
      split at h
      · rename_i e esz eb ek hd1
        rw [hd1] at hd0
        obtain ⟨hd, _⟩ : DescOK P t (.slice e esz eb ek) := hd0
        obtain ⟨C, n, hK, hn⟩ := lenK_sound hH h hv
        refine ⟨_, _, hK, fun hc => ⟨.int .i64 n, by simp only [VR], ?_⟩⟩
        obtain ⟨A, cp, hs⟩ := hn hc
        intro _ _
        simp [execOp, resolve, hcal, ha, ht0, invoke, builtin, hs, Builtin.len_, run_underlying hd, goInt]
      · rename_i hd1
        rw [hd1] at hd0
        have hd : P.underlying t = some .string := hd0
        split at h
        · rename_i s hx
          rw [hx] at hv
          simp only [VR] at hv
          refine ⟨_, _, h, fun hc => ⟨.int .i64 s.size, by simp only [VR], ?_⟩⟩
          intro _ _
          simp [execOp, resolve, hcal, ha, ht0, invoke, builtin, hv, Builtin.len_, run_underlying hd, goInt]
        · exact h.elim
      · exact h.elim
    · split at h
      case h_2 => exact h.elim
      rename_i x y hargs
      have ha : c.args = #[x, y] := Array.ext' hargs
      have hvx := hlk x
      have hvy := hlk y
      unfold qMax at h
      split at h
      case h_2 => exact h.elim
      split at h
      case h_2 => exact h.elim
      rename_i _ k m hx _ k' m' hy
      rw [hx] at hvx
      rw [hy] at hvy
      simp only [VR] at hvx hvy
      refine ⟨_, _, h, fun hc => ⟨.int k (max m m'), by simp only [VR], ?_⟩⟩
      intro _ _
      simp [execOp, resolve, hcal, ha, invoke, builtin, hvx, hvy, run_max_int2]
      rw [Int.max_def]; split <;> split <;> omega
    · split at h
      case h_2 => exact h.elim
      rename_i x y hargs
      have ha : c.args = #[x, y] := Array.ext' hargs
      have hvx := hlk x
      have hvy := hlk y
      unfold qMin at h
      split at h
      case h_2 => exact h.elim
      split at h
      case h_2 => exact h.elim
      rename_i _ k m hx _ k' m' hy
      rw [hx] at hvx
      rw [hy] at hvy
      simp only [VR] at hvx hvy
      refine ⟨_, _, h, fun hc => ⟨.int k (min m m'), by simp only [VR], ?_⟩⟩
      intro _ _
      simp [execOp, resolve, hcal, ha, invoke, builtin, hvx, hvy, run_min_int2]
      rw [Int.min_def]; split <;> split <;> omega
  case slice t x lo hi mx =>
    have hv := hlk x
    unfold qSlice at h
    split at h
    case h_2 => exact h.elim
    rename_i ti ht
    have hd0 := (hT _ _ ht).desc
    split at h
    case h_3 => exact h.elim
    · rename_i e esz eb ek hd1
      rw [hd1] at hd0
      obtain ⟨hd, i1, z1, hi1, hsz, _⟩ : DescOK P t (.slice e esz eb ek) := hd0
      split at h
      case h_4 => exact h.elim
      · rename_i id p hx
        rw [hx] at hv
        simp only [VR] at hv
        obtain ⟨hidN, A, c, hv, hsl⟩ := hv
        split at h
        case h_2 => exact h.elim
        rename_i ob ho
        obtain ⟨C1, V, h, hn⟩ := nodeV_spec h
        cases hb : Nat.beq esz V.sz with
        | false => simp [hb] at h
        | true =>
          simp only [hb, cond_true, NV.nK_eq] at h
          have hb := Nat.eq_of_beq_eq_true hb
          obtain ⟨C2, r, h, hr⟩ := sliceK_spec (P := P) (ρ := ρ) (N := N) hlk h
          refine ⟨_, _, h, fun hcc => ?_⟩
          obtain ⟨hc1, hc2⟩ := cAnd_holds hcc
          obtain ⟨s1, s2, s3⟩ := hH.shape id p _ _ (NodeAt.of_get ho (hn hc1))
          have hA : SlRel (ρ id p) 0 V.n c A := by rw [V.n_eq, ← s2]; exact hsl
          obtain ⟨cv, q1, q2⟩ := hr hc2 A c hd hi1 (by rw [hsz, hb, V.sz_eq, ← s1]) hidN hA
          refine ⟨cv, q1, fun w' _ => ?_⟩
          have hv' : a.eval x = .slice A V.n c := by rw [hv, V.n_eq, ← s2]
          simp [execOp, hv', Instr.sliceAt, run_underlying hd, q2]
      · rename_i id p i len cap hx
        rw [hx] at hv
        simp only [VR] at hv
        obtain ⟨hidN, A, c, hv, hsl, _⟩ := hv
        split at h
        case h_2 => exact h.elim
        rename_i ob ho
        obtain ⟨C1, V, h, hn⟩ := nodeV_spec h
        cases hb : Nat.beq esz V.sz with
        | false => simp [hb] at h
        | true =>
          simp only [hb, cond_true] at h
          have hb := Nat.eq_of_beq_eq_true hb
          obtain ⟨C2, r, h, hr⟩ := sliceK_spec (P := P) (ρ := ρ) (N := N) hlk h
          refine ⟨_, _, h, fun hcc => ?_⟩
          obtain ⟨hc1, hc2⟩ := cAnd_holds hcc
          obtain ⟨s1, s2, s3⟩ := hH.shape id p _ _ (NodeAt.of_get ho (hn hc1))
          obtain ⟨cv, q1, q2⟩ := hr hc2 A c hd hi1 (by rw [hsz, hb, V.sz_eq, ← s1]) hidN hsl
          refine ⟨cv, q1, fun w' _ => ?_⟩
          simp [execOp, hv, Instr.sliceAt, run_underlying hd, q2]
      · rename_i hx
        rw [hx] at hv
        simp only [VR] at hv
        split at h
        case h_2 => exact h.elim
        obtain ⟨C1, hh, h, hC1⟩ := hiK_spec hlk h
        obtain ⟨C2, l, h, hC2⟩ := loK_spec hlk h
        refine ⟨_, _, h, fun hcc => ⟨.slice none 0 0, by simp only [VR], fun w' _ => ?_⟩⟩
        obtain ⟨c1, c2⟩ := cAnd_holds hcc
        obtain ⟨a1, a2, a3⟩ := hC1 c1
        obtain ⟨b1, b2, b3⟩ := hC2 c2
        have e1 : hh = 0 := by omega
        have e2 : l = 0 := by omega
        subst e1 e2
        have hb := run_bounds (P := P) (b := true) (len := 0) (cap := 0) (lo := lo.map a.eval) (hi := hi.map a.eval) (mx := none) (m := 0) a1 (Nat.le_refl _) b1
          (fun e => a2 (by simpa using e)) (fun v e => by obtain ⟨x, hx, rfl⟩ := Option.map_eq_some_iff.1 e; exact a3 x hx)
          (fun e => b2 (by simpa using e)) (fun v e => by obtain ⟨x, hx, rfl⟩ := Option.map_eq_some_iff.1 e; exact b3 x hx)
          (fun _ => rfl) (fun v e => by cases e) w'
        simp [execOp, hv, Instr.sliceAt, Instr.slice, run_underlying hd, hb, run_sizeOf hi1]
    · rename_i hd1
      rw [hd1] at hd0
      have hd : P.underlying t = some .string := hd0
      split at h
      case h_2 => exact h.elim
      rename_i s hx
      rw [hx] at hv
      simp only [VR] at hv
      split at h
      case h_2 => exact h.elim
      obtain ⟨C1, hh, h, hC1⟩ := hiK_spec hlk h
      obtain ⟨C2, l, h, hC2⟩ := loK_spec hlk h
      refine ⟨_, _, h, fun hcc => ⟨.string (s.extract l hh), by simp only [VR], fun w' _ => ?_⟩⟩
      obtain ⟨c1, c2⟩ := cAnd_holds hcc
      obtain ⟨a1, a2, a3⟩ := hC1 c1
      obtain ⟨b1, b2, b3⟩ := hC2 c2
      have hb := run_bounds (P := P) (b := false) (len := s.size) (cap := s.size) (lo := lo.map a.eval) (hi := hi.map a.eval) (mx := none) (m := s.size) a1 (Nat.le_refl _) b1
        (fun e => a2 (by simpa using e)) (fun v e => by obtain ⟨x, hx, rfl⟩ := Option.map_eq_some_iff.1 e; exact a3 x hx)
        (fun e => b2 (by simpa using e)) (fun v e => by obtain ⟨x, hx, rfl⟩ := Option.map_eq_some_iff.1 e; exact b3 x hx)
        (fun _ => rfl) (fun v e => by cases e) w'
      simp [execOp, hv, Instr.sliceAt, Instr.slice, run_underlying hd, hb]
  case convert s t x =>
    have hv := hlk x
    unfold qConv at h
    split at h
    case h_2 => exact h.elim
    rename_i ti ht
    split at h
    case h_2 => exact h.elim
    rename_i k hd1
    split at h
    case h_2 => exact h.elim
    rename_i k' n hx
    rw [hx] at hv
    simp only [VR] at hv
    have hd0 := (hT _ _ ht).desc
    rw [hd1] at hd0
    have hd : P.underlying t = some (.int k) := hd0
    split at h
    case h_2 => exact h.elim
    rename_i si hs
    have hsd : ∃ d, P.underlying s = some d := by
      have := (hT _ _ hs).desc
      cases hdd : si.d <;> rw [hdd] at this
      · obtain ⟨d, h1, _⟩ := this; exact ⟨d, h1⟩
      · exact ⟨_, this⟩
      · exact ⟨_, this⟩
      · exact ⟨_, this⟩
      · obtain ⟨d, h1, _⟩ := this; exact ⟨_, h1⟩
      · obtain ⟨h1, _⟩ := this; exact ⟨_, h1⟩
    obtain ⟨d, hsd⟩ := hsd
    refine ⟨_, _, h, fun _ => ⟨.int k (k.wrap n), by simp only [VR], ?_⟩⟩
    intro _ _
    simp [execOp, hv, convert, run_underlying hsd, run_underlying hd, Conv.intToInt]

theorem quiet_sound {lk : Operand → AV} {a : Act} (hT : TblOK P T) (hH : HeapRep ρ N G w) (hlk : ∀ x, VR ρ N (lk x) (a.eval x)) {o : Oper} {K : Cnd → AV → Prop} (h : quiet T lk G o.op K) :
    ∃ C v, K C v ∧ (C.holds → ∃ cv, VR ρ N v cv ∧ (execOp a.eval o).run P w = .ok (.value cv) w) := by
  obtain ⟨C, v, hK, hr⟩ := quiet_keep hT hH hlk h
  refine ⟨C, v, hK, fun hc => ?_⟩
  obtain ⟨cv, h1, h2⟩ := hr hc
  exact ⟨cv, h1, h2 w (Same.refl _ _ _ _)⟩

end
end Go.Sx
