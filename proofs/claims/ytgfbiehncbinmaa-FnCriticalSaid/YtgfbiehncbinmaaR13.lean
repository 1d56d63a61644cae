/-
  FnExactCriticalPath, as a contract.
-/
import Derived.Test.YtgfbiehncbinmaaR12
import Derived.Test.YtgfbiehncbinmaaK1
set_option linter.unusedSimpArgs false
namespace Go.Sx.U
set_option linter.unusedVariables false
set_option linter.unusedSimpArgs false
set_option maxRecDepth 100000
set_option maxHeartbeats 8000000
open Go Go.Sx Go.Proofs Go.Sx.M9

theorem exIs {P : Program} {f : Nat} {args : List AV} {N : Nat} {G : Heap} {α : Type} {p : α → Prop} {v : α → AV} {n : Nat} {g : α → Heap} (h : FnEx P f args N G p v n g) (a0 : α) (hu : ∀ a, p a → a = a0) : FnIs P f args N G (v a0) n (g a0) :=
  ⟨h.call.mono fun _ _ _ ⟨a, ha, e1, e2, e3⟩ => by rw [← hu a ha]; exact ⟨e1, e2, e3⟩⟩
theorem critF_len {rs : List R3} {tk : List Int} {S T : Int → Bool} {n : Nat} (hn : ∀ u v, edgeK rs tk u v = true → 0 ≤ v ∧ v < n) (hS : ∀ v, S v = true → 0 ≤ v ∧ v < n) :
    ∀ (f L : Nat) (LS : List (List Int)), Lvl (edgeK rs tk) S L LS → (critF rs tk T n f LS).length ≤ n
  | 0, _, _, _ => by simp [critF]
  | f + 1, L, LS, h => by
    simp only [critF]
    split
    · simp
    · next h0 =>
      split
      · next h1 =>
        have hb := finT_best (T := T) (LS := LS) (fun l hl e => by have := (h.way l hl).1.one; rw [e] at this; simp at this) LS.length (Nat.le_refl _)
        rcases hb.mem with h2 | ⟨j, hj, e, _⟩
        · exact absurd h2 h1
        · rw [← e, (h.way _ (getD_mem hj)).2.1]
          exact h.small hn hS h0
      · exact critF_len hn hS f (L + 1) _ (h.next hn)
theorem critV_len (p : Int) (rs : List R3) : (critV p rs).length ≤ 16 := by
  unfold critV
  cases hl : least? p rs with
  | none => simp
  | some pl =>
    obtain ⟨_, _, _, hP⟩ := press_ok hl
    have := critF_len (T := finB pl) (fun u v he => (edge_rng hP he).2) (fun v hv => src_rng hP hv) (p.toNat + 1) 0 _ (Lvl.start (E := edgeK rs (tkL rs pl)) (S := srcB pl) (n := p.toNat) fun v hv => src_rng hP hv)
    have := hP.par
    show (critL p.toNat rs pl).length ≤ 16
    unfold critL
    omega
theorem k_CritImpl0 (p : Int) (rs : List R3) (h : Side (inI64 p ∧ rs.length ≤ 1048577)) (hx : critV p rs = []) : FnIs Try.prog 18 [.agg [.int .i64 p, .sl 0 []]] 1 [(0, .flat false (.r3 rs))] (.tuple [.nilsl, .bool false]) 2 [] :=
  exIs (k_CritImpl p rs h) none fun a ha => by
    cases a with
    | none => rfl
    | some a => exact absurd hx ha.2
theorem k_CritImpl1 (p : Int) (rs : List R3) (h : Side (inI64 p ∧ rs.length ≤ 1048577)) (hx : critV p rs ≠ []) : FnIs Try.prog 18 [.agg [.int .i64 p, .sl 0 []]] 1 [(0, .flat false (.r3 rs))] (.tuple [.sl 1 [], .bool true]) 2 [(1, .flat true (.ints .i64 (critV p rs)))] :=
  exIs (k_CritImpl p rs h) (some (critV p rs)) fun a ha => by
    cases a with
    | none => exact absurd ha hx
    | some a => exact congrArg some ha.1
end Go.Sx.U
