/-
  FnExactAddRule: for every input the law returns true, and its arguments read as before. No conditions.
-/
import Derived.Test.YtbdbjeflgbmejaaRows
import Derived.Test.YtbdbjeflgbmejaaF0
import Derived.Test.YtbdbjeflgbmejaaP15
import Derived.Lib.SmallJoins
namespace Go.Proofs.Ytbdbjeflgbmejaa.law12
set_option linter.unusedVariables false
set_option linter.unusedSimpArgs false
open Go.ChangeShapes Go.WideShapes Go.ChangeAt Go.RowKit Go.Joins

set_option maxRecDepth 100000 in
theorem lifted (os : Os) (started : os.Started) (H : Type) (enc : TypeId × Value → H) :
    ReturnsInHanded {} Try.checked os 12 .any (Rows.fnExactAddRuleSpec.pre6 enc Try.prog Try.f12 Rows.fnExactAddRuleRow.domain false) (Rows.fnExactAddRuleSpec.post enc Try.prog Try.f12 false true false false) := by
  refine returnsInHanded_of_change (C := Try.checked) F0.own started (by kernel_rfl) Try.func12
    (ChangeSpec.witness6 (enc := enc) (C := Try.checked) false ⟨#[], #[.agg #[.int .i64 0, .slice none 0 0], .agg #[.int .i64 0, .int .i64 0, .int .i64 0]], []⟩ 8 (by kernel_rfl) (by kernel_rfl) (by kernel_rfl) (by kernel_rfl)) ?_
  intro W base args ds gs before hval0 hW hcnd _
  have hval : ∀ (j : Nat) t v, Try.f12.params[j]? = some t → args[j]? = some v → Value.okWide Try.prog W .any base t v := hval0
  refine Sx.law_done (P := Try.prog) (bt := 4) (n := 2) F0.laidOut hW rfl (by kernel_rfl) rfl Try.underlying4 rfl (fun ds h => by match ds, h with | [d0, d1], _ => rfl) fun p hA => ?_
  rw [Try.params12] at hA hval
  obtain ⟨v0, vs0, d0, ds0, p0, q0, hargs, rfl, rfl, h0, r0⟩ := trodAll_cons hA
  obtain ⟨v1, vs1, d1, ds1, p1, q1, rfl, rfl, rfl, h1, r1⟩ := trodAll_cons r0
  obtain ⟨rfl, rfl, rfl⟩ := trodAll_nil r1
  obtain rfl : args = #[v0, v1] := by cases args; simp_all
  obtain ⟨f0, g0, y0, z0, n0, rfl, _, _, ka0, kb0⟩ := open_agg2 Try.underlying24 (by kernel_rfl) (by kernel_rfl) (hval 0 24 v0 rfl rfl) h0
  obtain ⟨m0, ea0, _, w0⟩ := DataW.trod_int Try.underlying2 ka0
  obtain ⟨xs0, hl0, hb0, u0, ρ0, e0, o0, hc0, ag0, hv0⟩ := Sx.open_sl_r3 (Sx.came0 W) Try.underlying22 (by kernel_rfl) (by kernel_rfl) kb0
  injection ea0 with ea0
  injection e0 with e0
  subst ea0 e0
  obtain ⟨a1, b1, c1, x1, y1, z1, n1, rfl, _, _, ka1, kb1, kc1⟩ := open_agg3 Try.underlying48 (by kernel_rfl) (by kernel_rfl) (hval 1 48 v1 rfl rfl) h1
  obtain ⟨ma1, ea1, _, wa1⟩ := DataW.trod_int Try.underlying2 ka1
  injection ea1 with ea1
  subst ea1
  obtain ⟨mb1, eb1, _, wb1⟩ := DataW.trod_int Try.underlying2 kb1
  injection eb1 with eb1
  subst eb1
  obtain ⟨mc1, ec1, _, wc1⟩ := DataW.trod_int Try.underlying2 kc1
  injection ec1 with ec1
  subst ec1
  refine Sx.law_call (avs := [.agg [.int .i64 m0, .sl 0 []], .agg [.int .i64 ma1, .int .i64 mb1, .int .i64 mc1]]) (vs := [.agg #[.int .i64 m0, g0], .agg #[.int .i64 ma1, .int .i64 mb1, .int .i64 mc1]]) hc0 ?_ (Sx.U.c12 m0 xs0 ma1 mb1 mc1 ⟨⟨Sx.wf_i64 w0, hl0, Sx.wf_i64 wa1, Sx.wf_i64 wb1, Sx.wf_i64 wc1⟩⟩)
  try simp only [Sx.VRL]
  refine ⟨_, _, rfl, ?_, ?_⟩
  · simp only [Sx.VR, Sx.VRL]
    refine ⟨[.int .i64 m0, g0], rfl, ⟨_, _, rfl, rfl, _, _, rfl, hv0, rfl⟩, fun u hu => ?_⟩
    rcases List.mem_cons.1 hu with rfl | hu
    · rfl
    · rcases List.mem_cons.1 hu with rfl | hu
      · exact o0
      · cases hu
  try simp only [Sx.VRL]
  refine ⟨_, _, rfl, ?_, ?_⟩
  · simp only [Sx.VR, Sx.VRL]
    exact ⟨[.int .i64 ma1, .int .i64 mb1, .int .i64 mc1], rfl, ⟨_, _, rfl, rfl, _, _, rfl, rfl, _, _, rfl, rfl, rfl⟩, by simp [Value.oneCell']⟩
  try simp only [Sx.VRL]

theorem closed : joinedFacts Try.pinned.checked.prog 12 Try.f12 Rows.fnExactAddRuleSpec Rows.fnExactAddRuleRow = true := by
  have h1 : (Rows.fnExactAddRuleRow.lifted == Try.pinned.checked.prog.liftsFinal) = true := F0.hLift
  have h2 : (Try.pinned.checked.prog.make == some Rows.fnExactAddRuleRow.make) = true := F0.hMake
  have h3 : Try.pinned.checked.prog.mayEnter = true := F0.hEnter
  simp only [joinedFacts, Bool.and_eq_true]
  repeat' apply And.intro
  all_goals first | with_reducible exact h1 | with_reducible exact h2 | with_reducible exact h3 | (as_aux_lemma => kernel_rfl)

theorem holds : Rows.FnExactAddRuleSaid :=
  OpenClaim.holds_of_wide 12 Try.f12 rfl rfl rfl rfl rfl rfl rfl ⟨rfl, rfl, rfl, rfl, rfl⟩ rfl rfl rfl rfl rfl (by kernel_rfl) Try.func12 closed
    (of_decide_eq_true (by kernel_rfl)) (by unfold Func.isWrapper; first | (rw [if_pos (by decide +kernel)]; kernel_rfl) | (rw [if_neg (by decide +kernel)]; exact ⟨rfl, rfl⟩))
    (fun os started H enc _ => lifted os started H enc)
#print axioms holds
end Go.Proofs.Ytbdbjeflgbmejaa.law12
