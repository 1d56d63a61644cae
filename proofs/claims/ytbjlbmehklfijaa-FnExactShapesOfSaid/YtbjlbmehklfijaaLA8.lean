/-
  FnExactShapesOf: for every input the law returns true, and its arguments read as before. No conditions.
-/
import Derived.Test.YtbjlbmehklfijaaRows
import Derived.Test.YtbjlbmehklfijaaF8
import Derived.Test.YtbjlbmehklfijaaG14
import Derived.Lib.SmallJoins
namespace Go.Proofs.Ytbjlbmehklfijaa.law8
set_option linter.unusedVariables false
set_option linter.unusedSimpArgs false
open Go.ChangeShapes Go.WideShapes Go.ChangeAt Go.RowKit Go.Joins

set_option maxRecDepth 100000 in
theorem lifted (os : Os) (started : os.Started) (H : Type) (enc : TypeId × Value → H) :
    ReturnsInHanded {} Try.checked os 8 .any (Rows.fnExactShapesOfSpec.pre6 enc Try.prog Try.f8 Rows.fnExactShapesOfRow.domain false) (Rows.fnExactShapesOfSpec.post enc Try.prog Try.f8 false true false false) := by
  refine returnsInHanded_of_change (C := Try.checked) F8.own started (by kernel_rfl) Try.func8
    (ChangeSpec.witness6 (enc := enc) (C := Try.checked) false ⟨#[], #[.agg #[.slice none 0 0, .slice none 0 0], .agg #[.int .i64 0, .int .i64 0, .int .i64 0, .int .i64 0]], []⟩ 8 (by kernel_rfl) (by kernel_rfl) (by kernel_rfl) (by kernel_rfl)) ?_
  intro W base args ds gs before hval0 hW hcnd _
  have hval : ∀ (j : Nat) t v, Try.f8.params[j]? = some t → args[j]? = some v → Value.okWide Try.prog W .any base t v := hval0
  refine Sx.law_done (P := Try.prog) (bt := 4) (n := 2) F8.laidOut hW rfl (by kernel_rfl) rfl Try.underlying4 rfl (fun ds h => by match ds, h with | [d0, d1], _ => rfl) fun p hA => ?_
  rw [Try.params8] at hA hval
  obtain ⟨v0, vs0, d0, ds0, p0, q0, hargs, rfl, rfl, h0, r0⟩ := trodAll_cons hA
  obtain ⟨v1, vs1, d1, ds1, p1, q1, rfl, rfl, rfl, h1, r1⟩ := trodAll_cons r0
  obtain ⟨rfl, rfl, rfl⟩ := trodAll_nil r1
  obtain rfl : args = #[v0, v1] := by cases args; simp_all
  obtain ⟨f0, g0, y0, z0, n0, rfl, _, _, ka0, kb0⟩ := open_agg2 Try.underlying24 (by kernel_rfl) (by kernel_rfl) (hval 0 24 v0 rfl rfl) h0
  obtain ⟨xs0, hl0, hb0, u0, ρ0, e0, o0, hc0, ag0, hv0⟩ := Sx.open_nest_i64 (Sx.came0 W) Try.underlying22 (by kernel_rfl) Try.underlying76 (by kernel_rfl) (by kernel_rfl) ka0
  injection e0 with e0
  subst e0
  obtain ⟨ys0, hm0, hd0, u0, σ0, e0, r0, hk0, ag2, hw0⟩ := Sx.open_nest_i64 hc0 Try.underlying22 (by kernel_rfl) Try.underlying76 (by kernel_rfl) (by kernel_rfl) kb0
  injection e0 with e0
  subst e0
  obtain ⟨ns1, rfl, hn1, w1⟩ := Sx.open_aggI Try.underlying34 (by kernel_rfl) (hval 1 34 v1 rfl rfl) h1
  obtain ⟨a1, b1, c1, d1, rfl⟩ := Sx.list4 hn1
  refine Sx.law_call (avs := [.agg [.sl 1 [], .sl 3 []], .agg [.int .i64 a1, .int .i64 b1, .int .i64 c1, .int .i64 d1]]) (vs := [.agg #[f0, g0], .agg #[.int .i64 a1, .int .i64 b1, .int .i64 c1, .int .i64 d1]]) hk0 ?_ (Sx.U.k_FnExactShapesOf xs0 ys0 a1 b1 c1 d1 ⟨⟨⟨⟨hl0, hb0⟩, hm0, hd0⟩, ⟨w1 a1 (by simp), w1 b1 (by simp), w1 c1 (by simp), w1 d1 (by simp)⟩⟩⟩)
  try simp only [Sx.VRL]
  refine ⟨_, _, rfl, ?_, ?_⟩
  · simp only [Sx.VR, Sx.VRL]
    refine ⟨[f0, g0], rfl, ⟨_, _, rfl, (Sx.VR.mono (Nat.le_add_right _ 2) ag2 _ _ hv0), _, _, rfl, hw0, rfl⟩, fun u hu => ?_⟩
    rcases List.mem_cons.1 hu with rfl | hu
    · exact o0
    · rcases List.mem_cons.1 hu with rfl | hu
      · exact r0
      · cases hu
  try simp only [Sx.VRL]
  refine ⟨_, _, rfl, ?_, ?_⟩
  · simp only [Sx.VR, Sx.VRL]
    exact ⟨[.int .i64 a1, .int .i64 b1, .int .i64 c1, .int .i64 d1], rfl, ⟨_, _, rfl, rfl, _, _, rfl, rfl, _, _, rfl, rfl, _, _, rfl, rfl, rfl⟩, by simp [Value.oneCell']⟩
  try simp only [Sx.VRL]

theorem closed : joinedFacts Try.pinned.checked.prog 8 Try.f8 Rows.fnExactShapesOfSpec Rows.fnExactShapesOfRow = true := by
  have h1 : (Rows.fnExactShapesOfRow.lifted == Try.pinned.checked.prog.liftsFinal) = true := F8.hLift
  have h2 : (Try.pinned.checked.prog.make == some Rows.fnExactShapesOfRow.make) = true := F8.hMake
  have h3 : Try.pinned.checked.prog.mayEnter = true := F8.hEnter
  simp only [joinedFacts, Bool.and_eq_true]
  repeat' apply And.intro
  all_goals first | with_reducible exact h1 | with_reducible exact h2 | with_reducible exact h3 | (as_aux_lemma => kernel_rfl)

theorem holds : Rows.FnExactShapesOfSaid :=
  OpenClaim.holds_of_wide 8 Try.f8 rfl rfl rfl rfl rfl rfl rfl ⟨rfl, rfl, rfl, rfl, rfl⟩ rfl rfl rfl rfl rfl (by kernel_rfl) Try.func8 closed
    (of_decide_eq_true (by kernel_rfl)) (by unfold Func.isWrapper; first | (rw [if_pos (by decide +kernel)]; kernel_rfl) | (rw [if_neg (by decide +kernel)]; exact ⟨rfl, rfl⟩))
    (fun os started H enc _ => lifted os started H enc)
#print axioms holds
end Go.Proofs.Ytbjlbmehklfijaa.law8
