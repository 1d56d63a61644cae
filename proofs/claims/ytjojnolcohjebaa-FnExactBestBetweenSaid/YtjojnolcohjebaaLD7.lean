/-
  FnExactBestBetween: for every input the law returns true, and its arguments read as before. No conditions.
-/
import Derived.Test.YtjojnolcohjebaaRows
import Derived.Test.YtjojnolcohjebaaF10B
import Derived.Test.YtjojnolcohjebaaC23
import Derived.Lib.SmallJoins
namespace Go.Proofs.Ytjojnolcohjebaa.law7
set_option linter.unusedVariables false
set_option linter.unusedSimpArgs false
open Go.ChangeShapes Go.WideShapes Go.ChangeAt Go.RowKit Go.Joins

set_option maxRecDepth 100000 in
theorem lifted (os : Os) (started : os.Started) (H : Type) (enc : TypeId × Value → H) :
    ReturnsInHanded {} Try.checked os 7 .any (Rows.fnExactBestBetweenSpec.pre6 enc Try.prog Try.f7 Rows.fnExactBestBetweenRow.domain false) (Rows.fnExactBestBetweenSpec.post enc Try.prog Try.f7 false true false false) := by
  refine returnsInHanded_of_change (C := Try.checked) F10B.own started (by kernel_rfl) Try.func7
    (ChangeSpec.witness6 (enc := enc) (C := Try.checked) false ⟨#[], #[.agg #[.slice none 0 0], .int .i64 0, .int .i64 0], []⟩ 8 (by kernel_rfl) (by kernel_rfl) (by kernel_rfl) (by kernel_rfl)) ?_
  intro W base args ds gs before hval0 hW hcnd _
  have hval : ∀ (j : Nat) t v, Try.f7.params[j]? = some t → args[j]? = some v → Value.okWide Try.prog W .any base t v := hval0
  refine Sx.law_done (P := Try.prog) (bt := 4) (n := 3) F10B.laidOut hW rfl (by kernel_rfl) rfl Try.underlying4 rfl (fun ds h => by match ds, h with | [d0, d1, d2], _ => rfl) fun p hA => ?_
  rw [Try.params7] at hA hval
  obtain ⟨v0, vs0, d0, ds0, p0, q0, hargs, rfl, rfl, h0, r0⟩ := trodAll_cons hA
  obtain ⟨v1, vs1, d1, ds1, p1, q1, rfl, rfl, rfl, h1, r1⟩ := trodAll_cons r0
  obtain ⟨v2, vs2, d2, ds2, p2, q2, rfl, rfl, rfl, h2, r2⟩ := trodAll_cons r1
  obtain ⟨rfl, rfl, rfl⟩ := trodAll_nil r2
  obtain rfl : args = #[v0, v1, v2] := by cases args; simp_all
  obtain ⟨g0, y0, n0, rfl, kb0⟩ := Sx.open_agg1 Try.underlying24 (by kernel_rfl) (by kernel_rfl) (hval 0 24 v0 rfl rfl) h0
  obtain ⟨xs0, hl0, hb0, u0, ρ0, e0, o0, hc0, ag0, hv0⟩ := Sx.open_nest_i64 (Sx.came0 W) Try.underlying22 (by kernel_rfl) Try.underlying34 (by kernel_rfl) (by kernel_rfl) kb0
  injection e0 with e0
  subst e0
  obtain ⟨m1, rfl, _, _, w1⟩ := open_int Try.underlying2 (hval 1 2 v1 rfl rfl) h1
  obtain ⟨m2, rfl, _, _, w2⟩ := open_int Try.underlying2 (hval 2 2 v2 rfl rfl) h2
  refine Sx.law_call (avs := [.agg [.sl 1 []], .int .i64 m1, .int .i64 m2]) (vs := [.agg #[g0], .int .i64 m1, .int .i64 m2]) hc0 ?_ (Sx.U.k_FnExactBestBetween xs0 m1 m2 ⟨⟨⟨hl0, hb0⟩, Sx.wf_i64 w1, Sx.wf_i64 w2⟩⟩)
  try simp only [Sx.VRL]
  refine ⟨_, _, rfl, ?_, ?_⟩
  · simp only [Sx.VR, Sx.VRL]
    refine ⟨[g0], rfl, ⟨_, _, rfl, hv0, rfl⟩, fun u hu => ?_⟩
    rcases List.mem_cons.1 hu with rfl | hu
    · exact o0
    · cases hu
  try simp only [Sx.VRL]
  refine ⟨_, _, rfl, ?_, ?_⟩
  · simp only [Sx.VR]
  try simp only [Sx.VRL]
  refine ⟨_, _, rfl, ?_, ?_⟩
  · simp only [Sx.VR]
  try simp only [Sx.VRL]

set_option maxHeartbeats 4000000 in
theorem closed : joinedFacts Try.pinned.checked.prog 7 Try.f7 Rows.fnExactBestBetweenSpec Rows.fnExactBestBetweenRow = true := by
  have h1 : (Rows.fnExactBestBetweenRow.lifted == Try.pinned.checked.prog.liftsFinal) = true := F10B.hLift
  have h2 : (Try.pinned.checked.prog.make == some Rows.fnExactBestBetweenRow.make) = true := F10B.hMake
  have h3 : Try.pinned.checked.prog.mayEnter = true := F10B.hEnter
  simp only [joinedFacts, Bool.and_eq_true]
  repeat' apply And.intro
  all_goals first | with_reducible exact h1 | with_reducible exact h2 | with_reducible exact h3 | (as_aux_lemma => kernel_rfl)

theorem holds : Rows.FnExactBestBetweenSaid :=
  OpenClaim.holds_of_wide 7 Try.f7 rfl rfl rfl rfl rfl rfl rfl ⟨rfl, rfl, rfl, rfl, rfl⟩ rfl rfl rfl rfl rfl (by kernel_rfl) Try.func7 closed
    (of_decide_eq_true (by kernel_rfl)) (by unfold Func.isWrapper; first | (rw [if_pos (by decide +kernel)]; kernel_rfl) | (rw [if_neg (by decide +kernel)]; exact ⟨rfl, rfl⟩))
    (fun os started H enc _ => lifted os started H enc)
#print axioms holds
end Go.Proofs.Ytjojnolcohjebaa.law7
