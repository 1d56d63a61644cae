/-
  == on structs of int64 fields.
-/
import Derived.Test.YtbjlbmehklfijaaSxA
import Derived.DeepKeys
namespace Go.Sx
set_option linter.unusedVariables false
set_option linter.unusedSimpArgs false
open Go

def eqFl (P : Program) : List Field → Nat → Bool
  | [], _ => true
  | f :: r, k => (f.offset == k && P.cellsOf f.type == 1 && f.name != "_" && (match P.underlying f.type with | some (.int .i64) => true | _ => false)) && eqFl P r (k + 1)
def eqchk (P : Program) (t : TypeId) (n : Nat) : Bool :=
  (match P.underlying t with | some (.struct fs) => fs.size == n && P.cellsOf t == n && eqFl P fs.toList 0 | _ => false) && (P.keyTypeAt 3 t && !(P.eqGuardType P.depth t))
abbrev bd64 (n : Int) : Prop := -9223372036854775808 ≤ n ∧ n ≤ 9223372036854775807
theorem wf_of_bd {n : Int} (h : bd64 n) : (Lit.int .i64 n).wf = true := by
  obtain ⟨h1, h2⟩ := h
  simp [Lit.wf, show IntKind.i64.min = -9223372036854775808 from rfl]
  omega
theorem eqFl_lits {P : Program} {d : Nat} : ∀ (l : List Field) (k : Nat) (cs : List Int), eqFl P l k = true → l.length + k = cs.length → (∀ x ∈ cs, bd64 x) →
    ∃ parts, l.mapM (fun f => P.keyLits (d + 1) f.type (((cs.map (Value.int .i64)).drop f.offset).take (P.cellsOf f.type))) = some parts ∧ parts.flatten = (cs.drop k).map (Lit.int .i64)
  | [], k, cs, _, hl, _ => ⟨[], by simp, by simp at hl; simp [← hl]⟩
  | f :: r, k, cs, h, hl, hb => by
    simp only [eqFl, Bool.and_eq_true, beq_iff_eq] at h
    obtain ⟨⟨⟨⟨h1, h2⟩, h3⟩, h4⟩, h5⟩ := h
    obtain ⟨parts, p1, p2⟩ := eqFl_lits (d := d) r (k + 1) cs h5 (by simp at hl; omega) hb
    have hk : k < cs.length := by simp at hl; omega
    have hu : P.underlying f.type = some (.int .i64) := by
      split at h4
      · assumption
      · cases h4
    refine ⟨[.int .i64 cs[k]] :: parts, ?_, ?_⟩
    · rw [List.mapM_cons, p1, h1, h2]
      have e : ((cs.map (Value.int .i64)).drop k).take 1 = [.int .i64 cs[k]] := by
        rw [List.drop_eq_getElem_cons (by simpa using hk)]; simp
      rw [e]
      have : P.keyLits (d + 1) f.type [.int .i64 cs[k]] = some [.int .i64 cs[k]] := by
        unfold Program.keyLits
        rw [hu]
        simp only [true_and]
        rw [if_pos (wf_of_bd (hb _ (List.getElem_mem hk)))]
      rw [this]
      rfl
    · rw [List.flatten_cons, p2, List.drop_eq_getElem_cons hk]
      rfl
def EqOK (P : Program) (t : TypeId) (n : Nat) : Prop :=
  P.eqGuardType P.depth t = false ∧ ∀ (xs ys : List Int), xs.length = n → ys.length = n → (∀ k ∈ xs, bd64 k) → (∀ k ∈ ys, bd64 k) → ∀ w : World,
    (Op.equal t (.agg (xs.map (Value.int .i64)).toArray) (.agg (ys.map (Value.int .i64)).toArray)).run P w = .ok (decide (xs = ys)) w
theorem lits_inj {xs ys : List Int} : xs.map (Lit.int .i64) = ys.map (Lit.int .i64) ↔ xs = ys := by
  refine ⟨fun h => ?_, fun h => by rw [h]⟩
  induction xs generalizing ys with
  | nil => cases ys <;> simp at h ⊢
  | cons x xs ih =>
    cases ys with
    | nil => simp at h
    | cons y ys =>
      simp only [List.map_cons, List.cons.injEq, Lit.int.injEq, true_and] at h
      rw [h.1, ih h.2]
theorem eqchk_sound {P : Program} {t : TypeId} {n : Nat} (h : eqchk P t n = true) : EqOK P t n := by
  simp only [eqchk, Bool.and_eq_true, Bool.not_eq_true'] at h
  obtain ⟨h1, h2, h3⟩ := h
  refine ⟨h3, fun xs ys lx ly bx by' w => ?_⟩
  split at h1
  case h_2 => cases h1
  rename_i fs hu
  simp only [Bool.and_eq_true, beq_iff_eq] at h1
  obtain ⟨⟨e1, e2⟩, e3⟩ := h1
  have hnames : ∀ (l : List Field) (k : Nat), eqFl P l k = true → ∀ f ∈ l, (f.name != "_") = true := by
    intro l
    induction l with
    | nil => simp
    | cons f r ih =>
      intro k hk g hg
      simp only [eqFl, Bool.and_eq_true] at hk
      rcases List.mem_cons.1 hg with rfl | hg
      · exact hk.1.1.2
      · exact ih (k + 1) hk.2 g hg
  have hall : fs.all (·.name != "_") = true := by
    rw [Array.all_eq_true']
    intro f hf
    exact hnames _ _ e3 f (by simpa using hf)
  have key : ∀ cs : List Int, cs.length = n → (∀ x ∈ cs, bd64 x) → P.keyLits 2 t (cs.map (Value.int .i64)) = some (cs.map (Lit.int .i64)) := fun cs hl hb => by
    obtain ⟨parts, p1, p2⟩ := eqFl_lits (d := 0) fs.toList 0 cs e3 (by simp; omega) hb
    unfold Program.keyLits
    rw [hu]
    simp only
    rw [if_pos ⟨by simp; omega, hall⟩, p1]
    simp [p2]
  have hf : ∀ cs : List Int, cs.length = n → (Value.agg (cs.map (Value.int .i64)).toArray).formed P t = true := fun cs hl => by
    simp [Value.formed, hu]; omega
  obtain ⟨r, hr, hiff⟩ := run_equalIn_deep 9997 3 t h2 w 2 2 _ _ _ _ (hf xs lx) (hf ys ly) (by simpa [Value.cells] using key xs lx bx) (by simpa [Value.cells] using key ys ly by')
  have : (Op.equal t (.agg (xs.map (Value.int .i64)).toArray) (.agg (ys.map (Value.int .i64)).toArray)).run P w = .ok r w := hr
  rw [this]
  congr 1
  rw [lits_inj] at hiff
  cases r <;> simp_all
end Go.Sx
