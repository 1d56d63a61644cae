/-
  FnExactBestChoice: for every input the law returns true, and its arguments read as before. No conditions.
-/
import Derived.Test.YtpbmikcicibfcaaRows
import Derived.Test.YtpbmikcicibfcaaF8B
import Derived.Test.YtpbmikcicibfcaaG31
import Derived.Lib.SmallJoins
namespace Go.Proofs.Ytpbmikcicibfcaa.law7
set_option linter.unusedVariables false
set_option linter.unusedSimpArgs false
open Go.ChangeShapes Go.WideShapes Go.ChangeAt Go.RowKit Go.Joins

set_option maxRecDepth 100000 in
theorem lifted (os : Os) (started : os.Started) (H : Type) (enc : TypeId × Value → H) :
    ReturnsInHanded {} Try.checked os 7 .any (Rows.fnExactBestChoiceSpec.pre6 enc Try.prog Try.f7 Rows.fnExactBestChoiceRow.domain false) (Rows.fnExactBestChoiceSpec.post enc Try.prog Try.f7 false true false false) := by
  refine returnsInHanded_of_change (C := Try.checked) F8B.own started (by kernel_rfl) Try.func7
    (ChangeSpec.witness6 (enc := enc) (C := Try.checked) false ⟨#[], #[.agg #[.slice none 0 0, .slice none 0 0], .slice none 0 0], []⟩ 8 (by kernel_rfl) (by kernel_rfl) (by kernel_rfl) (by kernel_rfl)) ?_
  intro W base args ds gs before hval0 hW hcnd _
  have hval : ∀ (j : Nat) t v, Try.f7.params[j]? = some t → args[j]? = some v → Value.okWide Try.prog W .any base t v := hval0
  refine Sx.law_done (P := Try.prog) (bt := 4) (n := 2) F8B.laidOut hW rfl (by kernel_rfl) rfl Try.underlying4 rfl (fun ds h => by match ds, h with | [d0, d1], _ => rfl) fun p hA => ?_
  rw [Try.params7] at hA hval
  obtain ⟨v0, vs0, d0, ds0, p0, q0, hargs, rfl, rfl, h0, r0⟩ := trodAll_cons hA
  obtain ⟨v1, vs1, d1, ds1, p1, q1, rfl, rfl, rfl, h1, r1⟩ := trodAll_cons r0
  obtain ⟨rfl, rfl, rfl⟩ := trodAll_nil r1
  obtain rfl : args = #[v0, v1] := by cases args; simp_all
  obtain ⟨f0, g0, y0, z0, n0, rfl, _, _, ka0, kb0⟩ := open_agg2 Try.underlying24 (by kernel_rfl) (by kernel_rfl) (hval 0 24 v0 rfl rfl) h0
  obtain ⟨xs0, hl0, hb0, u0, ρ0, e0, o0, hc0, ag0, hv0⟩ := Sx.open_nest_i64 (Sx.came0 W) Try.underlying22 (by kernel_rfl) Try.underlying26 (by kernel_rfl) (by kernel_rfl) ka0
  injection e0 with e0
  subst e0
  obtain ⟨ys0, hm0, hd0, u0, σ0, e0, r0, hk0, ag2, hw0⟩ := Sx.open_nest_i64 hc0 Try.underlying22 (by kernel_rfl) Try.underlying26 (by kernel_rfl) (by kernel_rfl) kb0
  injection e0 with e0
  subst e0
  obtain ⟨A1, len1, cap1, rfl⟩ := okWide_slice Try.underlying25 (hval 1 25 v1 rfl rfl)
  obtain ⟨fu1, k1⟩ := h1
  obtain ⟨xs1, hl1, hb1, u1, ρ1, e1, o1, hc1, ag4, hv1⟩ := Sx.open_sl_r4 hk0 Try.underlying25 (by kernel_rfl) (by kernel_rfl) k1
  obtain rfl : Value.slice A1 len1 cap1 = u1 := by simpa [Value.cells] using e1
  refine Sx.law_call (avs := [.agg [.sl 1 [], .sl 3 []], .sl 4 []]) (vs := [.agg #[f0, g0], .slice A1 len1 cap1]) hc1 ?_ (Sx.U.k_FnExactBestChoice xs0 ys0 xs1 ⟨⟨⟨⟨hl0, hb0⟩, hm0, hd0⟩, hl1⟩⟩)
  try simp only [Sx.VRL]
  refine ⟨_, _, rfl, ?_, ?_⟩
  · simp only [Sx.VR, Sx.VRL]
    refine ⟨[f0, g0], rfl, ⟨_, _, rfl, (Sx.VR.mono (Nat.le_succ _) ag4 _ _ (Sx.VR.mono (Nat.le_add_right _ 2) ag2 _ _ hv0)), _, _, rfl, (Sx.VR.mono (Nat.le_succ _) ag4 _ _ hw0), rfl⟩, fun u hu => ?_⟩
    rcases List.mem_cons.1 hu with rfl | hu
    · exact o0
    · rcases List.mem_cons.1 hu with rfl | hu
      · exact r0
      · cases hu
  try simp only [Sx.VRL]
  refine ⟨_, _, rfl, ?_, ?_⟩
  · exact hv1
  try simp only [Sx.VRL]

set_option maxHeartbeats 4000000 in
theorem closed : joinedFacts Try.pinned.checked.prog 7 Try.f7 Rows.fnExactBestChoiceSpec Rows.fnExactBestChoiceRow = true := by
  have h1 : (Rows.fnExactBestChoiceRow.lifted == Try.pinned.checked.prog.liftsFinal) = true := F8B.hLift
  have h2 : (Try.pinned.checked.prog.make == some Rows.fnExactBestChoiceRow.make) = true := F8B.hMake
  have h3 : Try.pinned.checked.prog.mayEnter = true := F8B.hEnter
  simp only [joinedFacts, Bool.and_eq_true]
  repeat' apply And.intro
  all_goals first | with_reducible exact h1 | with_reducible exact h2 | with_reducible exact h3 | (as_aux_lemma => kernel_rfl)

theorem holds : Rows.FnExactBestChoiceSaid :=
  OpenClaim.holds_of_wide 7 Try.f7 rfl rfl rfl rfl rfl rfl rfl ⟨rfl, rfl, rfl, rfl, rfl⟩ rfl rfl rfl rfl rfl (by kernel_rfl) Try.func7 closed
    (of_decide_eq_true (by kernel_rfl)) (by unfold Func.isWrapper; first | (rw [if_pos (by decide +kernel)]; kernel_rfl) | (rw [if_neg (by decide +kernel)]; exact ⟨rfl, rfl⟩))
    (fun os started H enc _ => lifted os started H enc)
#print axioms holds
end Go.Proofs.Ytpbmikcicibfcaa.law7
