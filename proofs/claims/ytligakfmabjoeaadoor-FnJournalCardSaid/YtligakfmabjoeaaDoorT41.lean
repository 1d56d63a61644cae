/-
  Chapter 11: what is recovered of a journal that breaks off, or of one with a byte changed (plain).
-/
import Derived.Test.YtligakfmabjoeaaDoorT32
set_option linter.unusedSimpArgs false
namespace Go.Sx.U
set_option linter.unusedVariables false
set_option linter.unusedSimpArgs false
set_option maxRecDepth 100000
set_option maxHeartbeats 8000000
open Go Go.Sx Go.Proofs

/-- A journal's bytes from a check number on. -/
def jf : Int → List ByteArray → List UInt8
  | _, [] => []
  | c, s :: r => bl (decB (chk c s)) ++ 32 :: bl s ++ 10 :: jf (chk c s) r
theorem jf_fold : ∀ (ls : List ByteArray) (a : Int × ByteArray), bl (ls.foldl jst a).2 = bl a.2 ++ jf a.1 ls
  | [], a => by simp [jf]
  | s :: r, a => by
    rw [List.foldl_cons, jf_fold r (jst a s)]
    simp only [jst, jf, bl_app, jline_bl, decB_bl]
    simp
theorem jour_jf (ls : List ByteArray) : bl (jour ls).2 = jf 0 ls := by
  rw [jour, jf_fold]; rfl
abbrev no10 (l : List UInt8) : Prop := (l.any fun x => x == 10) = false
theorem no10_app {a b : List UInt8} : no10 (a ++ b) ↔ no10 a ∧ no10 b := by
  unfold no10; rw [List.any_append, Bool.or_eq_false_iff]
theorem no10_dec {n : Int} : no10 (bl (decB n)) := by
  refine List.any_eq_false.2 fun c hc => ?_
  rw [decB_bl, Lib.itoa] at hc
  have key : ∀ u, ∀ c ∈ Lib.decDigits u, ¬ (c == (10 : UInt8)) = true := fun u c hc e => by
    have := decDigits_no _ u (Nat.lt_succ_self _) c hc
    rw [beq_iff_eq.1 e] at this
    simp at this
  split at hc
  · rcases List.mem_cons.1 hc with rfl | hc
    · decide
    · exact key _ c hc
  · exact key _ c hc
/-- Lines with their ends. -/
def raw : List ByteArray → List UInt8
  | [] => []
  | l :: r => bl l ++ 10 :: raw r
theorem okLine_some {c : Int} {l s : ByteArray} (h : okLine c l = some s) : bl l = bl (decB (chk c s)) ++ 32 :: bl s := by
  unfold okLine at h
  cases hi : decide (0 ≤ Lib.indexByte (bl l) 32) with
  | false => rw [hi] at h; cases h
  | true =>
    rw [hi, cond_true] at h
    have h0 := of_decide_eq_true hi
    obtain ⟨o, ho⟩ : ∃ o : Nat, Lib.indexByte (bl l) 32 = o := ⟨_, (Int.toNat_of_nonneg h0).symm⟩
    rw [ho, Int.toNat_natCast] at h
    cases hd : decide (l.extract 0 o = decB (chk c (l.extract (o + 1) l.size))) with
    | false => rw [hd] at h; cases h
    | true =>
      rw [hd, cond_true] at h
      have e := (okLine_eq ho).2 (of_decide_eq_true hd)
      have hs := Option.some.inj h
      rw [hs] at e
      have e2 := congrArg bl e
      rw [bl_app, bl_app] at e2
      rw [← e2]
      simp [bl]
theorem okLine_mk {c : Int} {s : ByteArray} (hc : chkOk c) : okLine c (ofB (bl (decB (chk c s)) ++ 32 :: bl s)) = some s := by
  have hk := chk_ok hc s
  have hn : ((bl (decB (chk c s))).any fun x => x == 32) = false := List.any_eq_false.2 fun x hx e => by
    have := decB_no hk.1 x hx
    rw [beq_iff_eq.1 e] at this
    simp at this
  have hi : Lib.indexByte (bl (ofB (bl (decB (chk c s)) ++ 32 :: bl s))) 32 = ((bl (decB (chk c s))).length : Int) := by
    rw [bl_mk, idx_of hn]
  have e1 : (ofB (bl (decB (chk c s)) ++ 32 :: bl s)).extract ((bl (decB (chk c s))).length + 1) (ofB (bl (decB (chk c s)) ++ 32 :: bl s)).size = s := by
    apply bl_ext
    rw [bl_sub, List.take_of_length_le (by rw [bl_len]; exact Nat.le_refl _), bl_mk, List.drop_append, List.drop_of_length_le (Nat.le_succ _), Nat.add_sub_cancel_left]
    rfl
  have e2 : (ofB (bl (decB (chk c s)) ++ 32 :: bl s)).extract 0 (bl (decB (chk c s))).length = decB (chk c s) := by
    apply bl_ext
    rw [bl_sub, bl_mk, List.drop_zero, List.take_append_of_le_length (Nat.le_refl _), List.take_length]
  rw [okLine_at hi, e1, e2, decide_eq_true rfl]
  rfl
/-- What is recovered is a beginning of the lines' bytes. -/
theorem recL_raw : ∀ (c : Int) (L : List ByteArray), (∀ l ∈ L, no10 (bl l)) → (∃ q, raw L = jf c (recL c L).1 ++ q) ∧ (jf c (recL c L).1).length = (recL c L).2 ∧ ∀ s ∈ (recL c L).1, no10 (bl s)
  | c, [], _ => ⟨⟨[], rfl⟩, rfl, fun s hs => by cases hs⟩
  | c, l :: r, h => by
    cases ho : okLine c l with
    | none => rw [recL_none ho]; exact ⟨⟨_, rfl⟩, rfl, fun s hs => by cases hs⟩
    | some s =>
      rw [recL_some ho]
      obtain ⟨⟨q, h1⟩, h2, h3⟩ := recL_raw (chk c s) r (fun x hx => h x (List.mem_cons_of_mem _ hx))
      have e := okLine_some ho
      refine ⟨⟨q, ?_⟩, ?_, fun x hx => ?_⟩
      · simp only [raw, jf]
        rw [h1, e]
        simp
      · simp only [jf]
        rw [← bl_len, e, ← h2]
        simp only [List.length_append, List.length_cons]
        omega
      · rcases List.mem_cons.1 hx with rfl | hx
        · have := h l (List.mem_cons_self ..)
          rw [e] at this
          exact (no10_app (a := [32]).1 (no10_app.1 this).2).2
        · exact h3 x hx
theorem split_raw : ∀ (l : List UInt8), (∃ q, l = ((splitB 10 l).dropLast.flatMap fun x => x ++ [10]) ++ q) ∧ ∀ x ∈ splitB 10 l, no10 x
  | [] => ⟨⟨[], rfl⟩, fun x hx => by rw [List.mem_singleton.1 hx]; rfl⟩
  | x :: r => by
    obtain ⟨⟨q, h1⟩, h2⟩ := split_raw r
    unfold splitB
    cases hx : (x == (10 : UInt8)) with
    | true =>
      rw [cond_true, List.dropLast_cons_of_ne_nil (splitB_ne 10 r)]
      refine ⟨⟨q, ?_⟩, fun y hy => ?_⟩
      · rw [List.flatMap_cons]
        conv => lhs; rw [h1]
        rw [beq_iff_eq.1 hx]
        simp
      · rcases List.mem_cons.1 hy with rfl | hy
        · rfl
        · exact h2 y hy
    | false =>
      rw [cond_false]
      cases hs : splitB 10 r with
      | nil => exact absurd hs (splitB_ne 10 r)
      | cons a b =>
        rw [hs] at h1 h2
        dsimp only
        refine ⟨?_, fun y hy => ?_⟩
        · cases b with
          | nil => exact ⟨x :: r, rfl⟩
          | cons a2 b2 =>
            rw [List.dropLast_cons_of_ne_nil (by simp)] at h1 ⊢
            rw [List.flatMap_cons] at h1 ⊢
            exact ⟨q, by conv => lhs; rw [h1]
                         simp⟩
        · rcases List.mem_cons.1 hy with rfl | hy
          · have := h2 a (List.mem_cons_self ..)
            unfold no10 at this ⊢
            rw [List.any_cons, hx, this]; rfl
          · exact h2 y (List.mem_cons_of_mem _ hy)
theorem raw_map : ∀ L : List (List UInt8), raw (L.map ofB) = L.flatMap fun x => x ++ [10]
  | [] => rfl
  | l :: r => by
    rw [List.map_cons, raw, raw_map r, List.flatMap_cons, bl_mk]
    simp
theorem linesB_raw (l : List UInt8) : (∃ q, l = raw (linesB l) ++ q) ∧ ∀ x ∈ linesB l, no10 (bl x) := by
  obtain ⟨h1, h2⟩ := split_raw l
  unfold linesB
  rw [raw_map]
  refine ⟨h1, fun x hx => ?_⟩
  obtain ⟨y, hy, rfl⟩ := List.mem_map.1 hx
  rw [bl_mk]
  exact h2 y (List.dropLast_subset _ hy)
/-- (A) What is recovered of a text is the journal of what is recovered, and a beginning of the text. -/
theorem recT_jour (u : ByteArray) : (recT u).2 ≤ u.size ∧ (jour (recT u).1).2 = u.extract 0 (recT u).2 ∧ ∀ s ∈ (recT u).1, nlB s = false := by
  obtain ⟨⟨q, h1⟩, h2⟩ := linesB_raw (bl u)
  obtain ⟨⟨p, h3⟩, h4, h5⟩ := recL_raw 0 (linesB (bl u)) h2
  have e : bl u = jf 0 (recT u).1 ++ (p ++ q) := by
    rw [← List.append_assoc]
    unfold recT
    rw [← h3]; exact h1
  have e4 : (jf 0 (recT u).1).length = (recT u).2 := h4
  refine ⟨?_, ?_, h5⟩
  · rw [← bl_len, e, ← e4, List.length_append]; omega
  · apply bl_ext
    rw [jour_jf, bl_sub, List.drop_zero]
    conv => rhs; rw [e, ← e4]
    simp
theorem recT_ok {u : ByteArray} (h : u.size ≤ 4000) : jokB (recT u).1 = true := by
  obtain ⟨h1, h2, h3⟩ := recT_jour u
  unfold jokB
  rw [List.any_eq_false.2 (fun s hs => by rw [h3 s hs]; exact Bool.false_ne_true), h2, decide_eq_true]
  · rfl
  · rw [size_ext h1]; omega
/-- (B) Of a journal that breaks off, the lines that are whole are recovered. -/
def cnt10 (l : List UInt8) : Nat := (l.filter fun x => x == 10).length
theorem cnt10_app (a b : List UInt8) : cnt10 (a ++ b) = cnt10 a + cnt10 b := by
  unfold cnt10; rw [List.filter_append, List.length_append]
theorem cnt10_no {a : List UInt8} (h : no10 a) : cnt10 a = 0 := by
  unfold cnt10
  rw [List.filter_eq_nil_iff.2 fun x hx e => (List.any_eq_false.1 h) x hx e]; rfl
theorem rec_cut : ∀ (ls : List ByteArray) (c : Int) (k : Nat), chkOk c → (∀ s ∈ ls, nlB s = false) → cnt10 ((jf c ls).take k) ≤ ls.length ∧ (recL c (linesB ((jf c ls).take k))).1 = ls.take (cnt10 ((jf c ls).take k))
  | [], c, k, _, _ => by
    rw [show (jf c []).take k = [] from by simp [jf]]
    exact ⟨Nat.le_refl _, rfl⟩
  | s :: r, c, k, hc, h => by
    have hy : no10 (bl (decB (chk c s)) ++ 32 :: bl s) := no10_app.2 ⟨no10_dec, no10_app (a := [32]).2 ⟨rfl, h s (List.mem_cons_self ..)⟩⟩
    simp only [jf]
    generalize hY : bl (decB (chk c s)) ++ 32 :: bl s = Y at hy
    by_cases hk : k ≤ Y.length
    · have hn : no10 (Y.take k) := List.any_eq_false.2 fun x hx => List.any_eq_false.1 hy x (List.mem_of_mem_take hx)
      rw [List.take_append_of_le_length hk, cnt10_no hn, linesB_no hn]
      exact ⟨Nat.zero_le _, rfl⟩
    · obtain ⟨j, rfl⟩ : ∃ j, k = Y.length + (j + 1) := ⟨k - Y.length - 1, by omega⟩
      rw [List.take_append, List.take_of_length_le (by omega), Nat.add_sub_cancel_left, List.take_succ_cons, linesB_at hy]
      have ho : okLine c (ofB Y) = some s := by rw [← hY]; exact okLine_mk hc
      obtain ⟨i1, i2⟩ := rec_cut r (chk c s) j (chk_ok hc s) (fun x hx => h x (List.mem_cons_of_mem _ hx))
      have ec : cnt10 (Y ++ 10 :: (jf (chk c s) r).take j) = cnt10 ((jf (chk c s) r).take j) + 1 := by
        rw [cnt10_app, cnt10_no hy]; simp [cnt10]
      rw [ec, recL_some ho, i2]
      exact ⟨by rw [List.length_cons]; omega, by rw [List.take_succ_cons]⟩
theorem recT_cut {ls : List ByteArray} (h : ∀ s ∈ ls, nlB s = false) (k : Nat) : cnt10 ((bl (jour ls).2).take k) ≤ ls.length ∧ (recT ((jour ls).2.extract 0 k)).1 = ls.take (cnt10 ((bl (jour ls).2).take k)) := by
  have := rec_cut ls 0 k (by decide) h
  unfold recT
  rw [bl_sub, List.drop_zero, jour_jf]
  exact this
/-- (C) Of a longer text no less is recovered. -/
theorem split_app (c : UInt8) (r : List UInt8) : ∀ l : List UInt8, ∃ a q, splitB c (l ++ r) = (splitB c l).dropLast ++ a :: q
  | [] => by
    cases h : splitB c r with
    | nil => exact absurd h (splitB_ne c r)
    | cons a q => exact ⟨a, q, by simpa [splitB] using h⟩
  | x :: l => by
    obtain ⟨a, q, h⟩ := split_app c r l
    rw [List.cons_append]
    unfold splitB
    cases hx : (x == c) with
    | true =>
      refine ⟨a, q, ?_⟩
      rw [cond_true, cond_true, h, List.dropLast_cons_of_ne_nil (splitB_ne c l)]; rfl
    | false =>
      rw [cond_false, cond_false]
      cases hs : splitB c l with
      | nil => exact absurd hs (splitB_ne c l)
      | cons b w =>
        rw [hs] at h
        cases w with
        | nil => rw [h]; exact ⟨x :: a, q, rfl⟩
        | cons b2 w2 =>
          rw [List.dropLast_cons_of_ne_nil (by simp)] at h
          rw [h]
          exact ⟨a, q, rfl⟩
theorem lines_app (l r : List UInt8) : ∃ Z, linesB (l ++ r) = linesB l ++ Z := by
  obtain ⟨a, q, h⟩ := split_app 10 r l
  unfold linesB
  rw [h, List.dropLast_append_cons, List.map_append]
  exact ⟨_, rfl⟩
theorem recL_app : ∀ (c : Int) (L Z : List ByteArray), (recL c L).2 ≤ (recL c (L ++ Z)).2
  | c, [], Z => Nat.zero_le _
  | c, l :: r, Z => by
    rw [List.cons_append]
    cases ho : okLine c l with
    | none => rw [recL_none ho]; exact Nat.zero_le _
    | some s => rw [recL_some ho, recL_some ho]; have := recL_app (chk c s) r Z; omega
theorem recT_app (u v : ByteArray) : (recT u).2 ≤ (recT (u ++ v)).2 := by
  unfold recT
  rw [bl_app]
  obtain ⟨Z, h⟩ := lines_app (bl u) (bl v)
  rw [h]
  exact recL_app ..
end Go.Sx.U
