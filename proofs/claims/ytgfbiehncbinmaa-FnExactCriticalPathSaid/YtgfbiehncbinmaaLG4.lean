/-
  FnExactCriticalPath: for every input the law returns true, and its arguments read as before. No conditions.
-/
import Derived.Test.YtgfbiehncbinmaaRows
import Derived.Test.YtgfbiehncbinmaaF9B
import Derived.Test.YtgfbiehncbinmaaR13
import Derived.Lib.SmallJoins
namespace Go.Proofs.Ytgfbiehncbinmaa.law4
set_option linter.unusedVariables false
set_option linter.unusedSimpArgs false
open Go.ChangeShapes Go.WideShapes Go.ChangeAt Go.RowKit Go.Joins

set_option maxRecDepth 100000 in
theorem lifted (os : Os) (started : os.Started) (H : Type) (enc : TypeId × Value → H) :
    ReturnsInHanded {} Try.checked os 4 .any (Rows.fnExactCriticalPathSpec.pre6 enc Try.prog Try.f4 Rows.fnExactCriticalPathRow.domain false) (Rows.fnExactCriticalPathSpec.post enc Try.prog Try.f4 false true false false) := by
  refine returnsInHanded_of_change (C := Try.checked) F9B.own started (by kernel_rfl) Try.func4
    (ChangeSpec.witness6 (enc := enc) (C := Try.checked) false ⟨#[], #[.agg #[.int .i64 0, .slice none 0 0]], []⟩ 8 (by kernel_rfl) (by kernel_rfl) (by kernel_rfl) (by kernel_rfl)) ?_
  intro W base args ds gs before hval0 hW hcnd _
  have hval : ∀ (j : Nat) t v, Try.f4.params[j]? = some t → args[j]? = some v → Value.okWide Try.prog W .any base t v := hval0
  refine Sx.law_done (P := Try.prog) (bt := 4) (n := 1) F9B.laidOut hW rfl (by kernel_rfl) rfl Try.underlying4 rfl (fun ds h => by match ds, h with | [d0], _ => rfl) fun p hA => ?_
  rw [Try.params4] at hA hval
  obtain ⟨v0, vs0, d0, ds0, p0, q0, hargs, rfl, rfl, h0, r0⟩ := trodAll_cons hA
  obtain ⟨rfl, rfl, rfl⟩ := trodAll_nil r0
  obtain rfl : args = #[v0] := by cases args; simp_all
  obtain ⟨f0, g0, y0, z0, n0, rfl, _, _, ka0, kb0⟩ := open_agg2 Try.underlying24 (by kernel_rfl) (by kernel_rfl) (hval 0 24 v0 rfl rfl) h0
  obtain ⟨m0, ea0, _, w0⟩ := DataW.trod_int Try.underlying2 ka0
  obtain ⟨xs0, hl0, hb0, u0, ρ0, e0, o0, hc0, ag0, hv0⟩ := Sx.open_sl_r3 (Sx.came0 W) Try.underlying22 (by kernel_rfl) (by kernel_rfl) kb0
  injection ea0 with ea0
  injection e0 with e0
  subst ea0 e0
  refine Sx.law_call (avs := [.agg [.int .i64 m0, .sl 0 []]]) (vs := [.agg #[.int .i64 m0, g0]]) hc0 ?_ (Sx.U.k_FnExactCriticalPath m0 xs0 ⟨⟨Sx.wf_i64 w0, hl0⟩⟩)
  try simp only [Sx.VRL]
  refine ⟨_, _, rfl, ?_, ?_⟩
  · simp only [Sx.VR, Sx.VRL]
    refine ⟨[.int .i64 m0, g0], rfl, ⟨_, _, rfl, rfl, _, _, rfl, hv0, rfl⟩, fun u hu => ?_⟩
    rcases List.mem_cons.1 hu with rfl | hu
    · rfl
    · rcases List.mem_cons.1 hu with rfl | hu
      · exact o0
      · cases hu
  try simp only [Sx.VRL]

set_option maxHeartbeats 4000000 in
theorem closed : joinedFacts Try.pinned.checked.prog 4 Try.f4 Rows.fnExactCriticalPathSpec Rows.fnExactCriticalPathRow = true := by
  have h1 : (Rows.fnExactCriticalPathRow.lifted == Try.pinned.checked.prog.liftsFinal) = true := F9B.hLift
  have h2 : (Try.pinned.checked.prog.make == some Rows.fnExactCriticalPathRow.make) = true := F9B.hMake
  have h3 : Try.pinned.checked.prog.mayEnter = true := F9B.hEnter
  simp only [joinedFacts, Bool.and_eq_true]
  repeat' apply And.intro
  all_goals first | with_reducible exact h1 | with_reducible exact h2 | with_reducible exact h3 | (as_aux_lemma => kernel_rfl)

theorem holds : Rows.FnExactCriticalPathSaid :=
  OpenClaim.holds_of_wide 4 Try.f4 rfl rfl rfl rfl rfl rfl rfl ⟨rfl, rfl, rfl, rfl, rfl⟩ rfl rfl rfl rfl rfl (by kernel_rfl) Try.func4 closed
    (of_decide_eq_true (by kernel_rfl)) (by unfold Func.isWrapper; first | (rw [if_pos (by decide +kernel)]; kernel_rfl) | (rw [if_neg (by decide +kernel)]; exact ⟨rfl, rfl⟩))
    (fun os started H enc _ => lifted os started H enc)
#print axioms holds
end Go.Proofs.Ytgfbiehncbinmaa.law4
