/-
  FnCritical: for every input the law returns true, and its arguments read as before. No conditions.
-/
import Derived.Test.YtgfbiehncbinmaaRows
import Derived.Test.YtgfbiehncbinmaaF9B
import Derived.Test.YtgfbiehncbinmaaR15
import Derived.Lib.SmallJoins
namespace Go.Proofs.Ytgfbiehncbinmaa.law6
set_option linter.unusedVariables false
set_option linter.unusedSimpArgs false
open Go.ChangeShapes Go.WideShapes Go.ChangeAt Go.RowKit Go.Joins

set_option maxRecDepth 100000 in
theorem lifted (os : Os) (started : os.Started) (H : Type) (enc : TypeId × Value → H) :
    ReturnsInHanded {} Try.checked os 6 .any (Rows.fnCriticalSpec.pre6 enc Try.prog Try.f6 Rows.fnCriticalRow.domain false) (Rows.fnCriticalSpec.post enc Try.prog Try.f6 false true false false) := by
  refine returnsInHanded_of_change (C := Try.checked) F9B.own started (by kernel_rfl) Try.func6
    (ChangeSpec.witness6 (enc := enc) (C := Try.checked) false ⟨#[], #[.slice none 0 0, .slice none 0 0], []⟩ 8 (by kernel_rfl) (by kernel_rfl) (by kernel_rfl) (by kernel_rfl)) ?_
  intro W base args ds gs before hval0 hW hcnd _
  have hval : ∀ (j : Nat) t v, Try.f6.params[j]? = some t → args[j]? = some v → Value.okWide Try.prog W .any base t v := hval0
  refine Sx.law_done (P := Try.prog) (bt := 4) (n := 2) F9B.laidOut hW rfl (by kernel_rfl) rfl Try.underlying4 rfl (fun ds h => by match ds, h with | [d0, d1], _ => rfl) fun p hA => ?_
  rw [Try.params6] at hA hval
  obtain ⟨v0, vs0, d0, ds0, p0, q0, hargs, rfl, rfl, h0, r0⟩ := trodAll_cons hA
  obtain ⟨v1, vs1, d1, ds1, p1, q1, rfl, rfl, rfl, h1, r1⟩ := trodAll_cons r0
  obtain ⟨rfl, rfl, rfl⟩ := trodAll_nil r1
  obtain rfl : args = #[v0, v1] := by cases args; simp_all
  obtain ⟨A0, len0, cap0, rfl⟩ := okWide_slice Try.underlying38 (hval 0 38 v0 rfl rfl)
  obtain ⟨fu0, k0⟩ := h0
  obtain ⟨xs0, hl0, hb0, u0, ρ0, e0, o0, hc0, ag0, hv0⟩ := Sx.open_sl_u8 (Sx.came0 W) Try.underlying38 Try.underlying5 (by kernel_rfl) k0
  obtain rfl : Value.slice A0 len0 cap0 = u0 := by simpa [Value.cells] using e0
  obtain ⟨A1, len1, cap1, rfl⟩ := okWide_slice Try.underlying38 (hval 1 38 v1 rfl rfl)
  obtain ⟨fu1, k1⟩ := h1
  obtain ⟨xs1, hl1, hb1, u1, ρ1, e1, o1, hc1, ag1, hv1⟩ := Sx.open_sl_u8 hc0 Try.underlying38 Try.underlying5 (by kernel_rfl) k1
  obtain rfl : Value.slice A1 len1 cap1 = u1 := by simpa [Value.cells] using e1
  refine Sx.law_call (avs := [.sl 0 [], .sl 1 []]) (vs := [.slice A0 len0 cap0, .slice A1 len1 cap1]) hc1 ?_ (Sx.U.k_FnCritical xs0 xs1 ⟨⟨⟨hl0, hb0⟩, ⟨hl1, hb1⟩⟩⟩)
  try simp only [Sx.VRL]
  refine ⟨_, _, rfl, ?_, ?_⟩
  · exact (Sx.VR.mono (Nat.le_succ _) ag1 _ _ hv0)
  try simp only [Sx.VRL]
  refine ⟨_, _, rfl, ?_, ?_⟩
  · exact hv1
  try simp only [Sx.VRL]

set_option maxHeartbeats 4000000 in
theorem closed : joinedFacts Try.pinned.checked.prog 6 Try.f6 Rows.fnCriticalSpec Rows.fnCriticalRow = true := by
  have h1 : (Rows.fnCriticalRow.lifted == Try.pinned.checked.prog.liftsFinal) = true := F9B.hLift
  have h2 : (Try.pinned.checked.prog.make == some Rows.fnCriticalRow.make) = true := F9B.hMake
  have h3 : Try.pinned.checked.prog.mayEnter = true := F9B.hEnter
  simp only [joinedFacts, Bool.and_eq_true]
  repeat' apply And.intro
  all_goals first | with_reducible exact h1 | with_reducible exact h2 | with_reducible exact h3 | (as_aux_lemma => kernel_rfl)

theorem holds : Rows.FnCriticalSaid :=
  OpenClaim.holds_of_wide 6 Try.f6 rfl rfl rfl rfl rfl rfl rfl ⟨rfl, rfl, rfl, rfl, rfl⟩ rfl rfl rfl rfl rfl (by kernel_rfl) Try.func6 closed
    (of_decide_eq_true (by kernel_rfl)) (by unfold Func.isWrapper; first | (rw [if_pos (by decide +kernel)]; kernel_rfl) | (rw [if_neg (by decide +kernel)]; exact ⟨rfl, rfl⟩))
    (fun os started H enc _ => lifted os started H enc)
#print axioms holds
end Go.Proofs.Ytgfbiehncbinmaa.law6
