/-
  Chapter 11: texts cut at a byte, and the journal that is recovered (plain).
-/
import Derived.Test.YtligakfmabjoeaaDoorT26
set_option linter.unusedSimpArgs false
namespace Go.Sx.U
set_option linter.unusedVariables false
set_option linter.unusedSimpArgs false
set_option maxRecDepth 100000
set_option maxHeartbeats 8000000
open Go Go.Sx Go.Proofs

/-- Bytes, cut at each mark. -/
def splitB (c : UInt8) : List UInt8 → List (List UInt8)
  | [] => [[]]
  | x :: r => bif x == c then [] :: splitB c r else match splitB c r with
    | [] => [[x]]
    | a :: q => (x :: a) :: q
theorem splitB_ne (c : UInt8) : ∀ l, splitB c l ≠ []
  | [] => by simp [splitB]
  | x :: r => by
    unfold splitB
    cases hx : (x == c) with
    | true => simp
    | false =>
      simp only [cond_false]
      split <;> simp
theorem splitB_no {c : UInt8} : ∀ {l : List UInt8}, (l.any fun x => x == c) = false → splitB c l = [l]
  | [], _ => rfl
  | x :: r, h => by
    simp only [List.any_cons, Bool.or_eq_false_iff] at h
    unfold splitB
    rw [h.1, splitB_no h.2]
    rfl
theorem splitB_at {c : UInt8} : ∀ {l r : List UInt8}, (l.any fun x => x == c) = false → splitB c (l ++ c :: r) = l :: splitB c r
  | [], r, _ => by simp [splitB]
  | x :: l, r, h => by
    simp only [List.any_cons, Bool.or_eq_false_iff] at h
    simp only [List.cons_append]
    rw [splitB, h.1, splitB_at h.2]
    rfl
abbrev ofB (l : List UInt8) : ByteArray := ⟨l.toArray⟩
theorem ofB_bl (s : ByteArray) : ofB (bl s) = s := bl_ext (bl_mk _)
def cutB (s : ByteArray) (c : UInt8) : List ByteArray := (splitB c (bl s)).map ofB
theorem ofB_extract (s : ByteArray) (a b : Nat) : s.extract a b = ofB (((bl s).take b).drop a) := bl_ext (by rw [bl_sub, bl_mk])

/-- A line of a journal, taken apart: what stands in it, if its number is the right one. -/
def okLine (c : Int) (l : ByteArray) : Option ByteArray :=
  bif decide (0 ≤ Lib.indexByte (bl l) 32) then
    (bif decide (l.extract 0 (Lib.indexByte (bl l) 32).toNat = decB (chk c (l.extract ((Lib.indexByte (bl l) 32).toNat + 1) l.size))) then some (l.extract ((Lib.indexByte (bl l) 32).toNat + 1) l.size) else none)
  else none
def recL : Int → List ByteArray → List ByteArray × Nat
  | _, [] => ([], 0)
  | c, l :: r => match okLine c l with
    | some s => (s :: (recL (chk c s) r).1, l.size + 1 + (recL (chk c s) r).2)
    | none => ([], 0)
theorem recL_none {c : Int} {l : ByteArray} {r : List ByteArray} (h : okLine c l = none) : recL c (l :: r) = ([], 0) := by
  simp [recL, h]
theorem recL_some {c : Int} {l s : ByteArray} {r : List ByteArray} (h : okLine c l = some s) : recL c (l :: r) = (s :: (recL (chk c s) r).1, l.size + 1 + (recL (chk c s) r).2) := by
  simp [recL, h]
/-- The complete lines of bytes. -/
def linesB (l : List UInt8) : List ByteArray := ((splitB 10 l).dropLast).map ofB
def recT (t : ByteArray) : List ByteArray × Nat := recL 0 (linesB (bl t))
theorem linesB_no {l : List UInt8} (h : (l.any fun x => x == 10) = false) : linesB l = [] := by
  unfold linesB; rw [splitB_no h]; rfl
theorem linesB_at {l r : List UInt8} (h : (l.any fun x => x == 10) = false) : linesB (l ++ 10 :: r) = ofB l :: linesB r := by
  unfold linesB
  rw [splitB_at h, List.dropLast_cons_of_ne_nil (splitB_ne 10 r)]
  rfl
/-- Where a byte stands first: what comes ahead of it, and what behind. -/
theorem idx_none {l : List UInt8} {c : UInt8} (h : Lib.indexByte l c < 0) : (l.any fun x => x == c) = false := by
  have := Lib.indexByte_ge l c
  refine List.any_eq_false.2 fun x hx => ?_
  obtain ⟨k, hk⟩ := List.getElem?_of_mem hx
  have := Lib.indexByte_none (show Lib.indexByte l c = -1 by omega) k
  rw [hk] at this
  simpa using this
theorem idx_some {l : List UInt8} {c : UInt8} {o : Nat} (h : Lib.indexByte l c = o) : o < l.length ∧ l = l.take o ++ c :: l.drop (o + 1) ∧ ((l.take o).any fun x => x == c) = false := by
  obtain ⟨h1, h2⟩ := Lib.indexByte_some h
  have hlt := (List.getElem?_eq_some_iff.1 h1).1
  have he := (List.getElem?_eq_some_iff.1 h1).2
  refine ⟨hlt, ?_, List.any_eq_false.2 fun x hx => ?_⟩
  · rw [← he, ← List.drop_eq_getElem_cons hlt, List.take_append_drop]
  · obtain ⟨k, hk⟩ := List.getElem?_of_mem hx
    have hk' := (List.getElem?_eq_some_iff.1 hk).1
    simp only [List.length_take] at hk'
    rw [List.getElem?_take, if_pos (by omega)] at hk
    have := h2 k (by omega)
    rw [hk] at this
    simpa using this
theorem idx_of {c : UInt8} : ∀ {l r : List UInt8}, (l.any fun x => x == c) = false → Lib.indexByte (l ++ c :: r) c = l.length
  | [], r, _ => by simp [Lib.indexByte]
  | x :: l, r, h => by
    simp only [List.any_cons, Bool.or_eq_false_iff] at h
    have ih := idx_of (r := r) h.2
    simp only [List.cons_append, Lib.indexByte, h.1, Bool.false_eq_true, if_false, ih, List.length_cons]
    rw [if_neg (by simp)]
    omega
theorem splitB_len (c : UInt8) : ∀ l : List UInt8, (splitB c l).length ≤ l.length + 1
  | [] => by simp [splitB]
  | x :: r => by
    have ih := splitB_len c r
    unfold splitB
    cases hx : (x == c) with
    | true => simp only [cond_true, List.length_cons]; omega
    | false =>
      simp only [cond_false]
      split
      · simp
      · rename_i a q e
        rw [e] at ih
        simp only [List.length_cons] at ih ⊢
        omega
theorem splitB_mem (c : UInt8) : ∀ (l : List UInt8), ∀ a ∈ splitB c l, a.length ≤ l.length
  | [], a, h => by simp [splitB] at h; subst h; simp
  | x :: r, a, h => by
    have ih := splitB_mem c r
    unfold splitB at h
    cases hx : (x == c) with
    | true =>
      simp only [hx, cond_true, List.mem_cons] at h
      rcases h with rfl | h
      · simp
      · have := ih a h; simp only [List.length_cons]; omega
    | false =>
      simp only [hx, cond_false] at h
      split at h
      · simp at h; subst h; simp
      · rename_i b q e
        rw [e] at ih
        rcases List.mem_cons.1 h with rfl | h
        · have := ih b (List.mem_cons_self ..); simp only [List.length_cons]; omega
        · have := ih a (List.mem_cons_of_mem _ h); simp only [List.length_cons]; omega
theorem recL_len : ∀ (c : Int) (L : List ByteArray), (recL c L).1.length ≤ L.length
  | _, [] => by simp [recL]
  | c, l :: r => by
    cases h : okLine c l with
    | none => rw [recL_none h]; simp
    | some s => rw [recL_some h]; have := recL_len (chk c s) r; simp only [List.length_cons]; omega
/-- The two ways of asking for a line's number. -/
theorem okLine_eq {c : Int} {l : ByteArray} {o : Nat} (h : Lib.indexByte (bl l) 32 = o) : (decB (chk c (l.extract (o + 1) l.size)) ++ ⟨#[32]⟩ ++ l.extract (o + 1) l.size = l) ↔ l.extract 0 o = decB (chk c (l.extract (o + 1) l.size)) := by
  obtain ⟨h1, h2, h3⟩ := idx_some h
  have e1 : bl (l.extract (o + 1) l.size) = (bl l).drop (o + 1) := by rw [bl_sub, List.take_of_length_le (by rw [bl_len]; exact Nat.le_refl _)]
  have e2 : bl (l.extract 0 o) = (bl l).take o := by rw [bl_sub]; rfl
  generalize hd : decB (chk c (l.extract (o + 1) l.size)) = d
  constructor
  · intro e
    apply bl_ext
    have e3 := congrArg bl e
    rw [bl_app, bl_app, e1] at e3
    rw [e2]
    conv at e3 => rhs; rw [h2]
    have e4 : bl d ++ (32 :: (bl l).drop (o + 1)) = (bl l).take o ++ (32 :: (bl l).drop (o + 1)) := by
      rw [← e3]; simp [bl]
    exact (List.append_cancel_right e4).symm
  · intro e
    apply bl_ext
    rw [bl_app, bl_app, e1, ← e, e2]
    conv => rhs; rw [h2]
    simp [bl]
end Go.Sx.U
