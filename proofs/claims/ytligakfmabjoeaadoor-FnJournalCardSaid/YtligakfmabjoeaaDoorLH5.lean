/-
  FnJournal: for every input the law returns true, and its arguments read as before. No conditions.
-/
import Derived.Test.YtligakfmabjoeaaDoorRows
import Derived.Test.YtligakfmabjoeaaDoorFD
import Derived.Test.YtligakfmabjoeaaDoorT42
import Derived.Lib.SmallJoins
import Derived.ChangeMaps5
import Derived.Test.YtligakfmabjoeaaDoorCards
import Derived.Test.YtligakfmabjoeaaDoorTie
import Derived.SevenTiedAt
import Derived.LaidMore
import Derived.OpenShut
import Derived.Stop.Joined
namespace Go.Proofs.YtligakfmabjoeaaDoor.law5
set_option linter.unusedVariables false
set_option linter.unusedSimpArgs false
open Go.ChangeShapes Go.WideShapes Go.ChangeAt Go.RowKit Go.Joins

set_option maxRecDepth 100000 in
theorem lifted (os : Os) (started : os.Started) (H : Type) (enc : TypeId × Value → H) :
    ReturnsInHanded {} Tryd.checked os 5 .any (fun w args => (Rows.fnJournalSpec.pre enc Tryd.prog Tryd.f5 [] false w args ∧ laidMetH Tryd.prog Rows.fnJournalRow.laid w) ∧ sizedMet enc Tryd.prog Tryd.f5 (OpenSpec.ofChange Rows.fnJournalSpec) false w args) (Rows.fnJournalSpec.post enc Tryd.prog Tryd.f5 false true false false) := by
  refine returnsInHanded_of_change_and (C := Tryd.checked) (X := fun w _ => laidMetH Tryd.prog Rows.fnJournalRow.laid w) (fun _ _ _ hh h => h.of_heap hh) FD.own started (by kernel_rfl) Tryd.func5
    (ChangeSpec.witness_shaped (enc := enc) (C := Tryd.checked) (os := os) (X := fun w _ => laidMetH Tryd.prog Rows.fnJournalRow.laid w) false (World.doorLaid Tryd.prog FD.steps os) #[.slice none 0 0, .slice none 0 0] 8 rfl (World.shaped_of_RefB (by kernel_rfl) (by kernel_rfl)) (by kernel_rfl) (by kernel_rfl) (by kernel_rfl) (FD.door_met os _)) ?_
  intro W base args ds gs before hval0 hW _ _ hL _
  have hval : ∀ (j : Nat) t v, Tryd.f5.params[j]? = some t → args[j]? = some v → Value.okWide Tryd.prog W .any base t v := hval0
  refine Sx.law_done (P := Tryd.prog) (bt := 4) (n := 2) FD.laidOut hW rfl (by kernel_rfl) rfl Tryd.underlying4 rfl (fun ds h => by match ds, h with | [d0, d1], _ => rfl) fun p hA => ?_
  rw [Tryd.params5] at hA hval
  obtain ⟨v0, vs0, d0, ds0, p0, q0, hargs, rfl, rfl, h0, r0⟩ := trodAll_cons hA
  obtain ⟨v1, vs1, d1, ds1, p1, q1, rfl, rfl, rfl, h1, r1⟩ := trodAll_cons r0
  obtain ⟨rfl, rfl, rfl⟩ := trodAll_nil r1
  obtain rfl : args = #[v0, v1] := by cases args; simp_all
  obtain ⟨A0, len0, cap0, rfl⟩ := okWide_slice Tryd.underlying32 (hval 0 32 v0 rfl rfl)
  obtain ⟨fu0, k0⟩ := h0
  obtain ⟨xs0, hl0, hb0, u0, ρ0, e0, o0, hc0, ag0, hv0⟩ := Sx.open_sl_u8 (Sx.came0 W) Tryd.underlying32 Tryd.underlying5 (by kernel_rfl) k0
  obtain rfl : Value.slice A0 len0 cap0 = u0 := by simpa [Value.cells] using e0
  obtain ⟨A1, len1, cap1, rfl⟩ := okWide_slice Tryd.underlying32 (hval 1 32 v1 rfl rfl)
  obtain ⟨fu1, k1⟩ := h1
  obtain ⟨xs1, hl1, hb1, u1, ρ1, e1, o1, hc1, ag1, hv1⟩ := Sx.open_sl_u8 hc0 Tryd.underlying32 Tryd.underlying5 (by kernel_rfl) k1
  obtain rfl : Value.slice A1 len1 cap1 = u1 := by simpa [Value.cells] using e1
  refine Sx.law_call (avs := [.sl 0 [], .sl 1 []]) (vs := [.slice A0 len0 cap0, .slice A1 len1 cap1]) hc1 ?_ (Sx.U.k_FnJournal xs0 xs1 ⟨⟨⟨hl0, hb0⟩, ⟨hl1, hb1⟩⟩⟩) (FD.lie hL)
  try simp only [Sx.VRL]
  refine ⟨_, _, rfl, ?_, ?_⟩
  · exact (Sx.VR.mono (Nat.le_succ _) ag1 _ _ hv0)
  try simp only [Sx.VRL]
  refine ⟨_, _, rfl, ?_, ?_⟩
  · exact hv1
  try simp only [Sx.VRL]

set_option maxHeartbeats 4000000 in
theorem closed : joinedFacts Tryd.pinned.checked.prog 5 Tryd.f5 Rows.fnJournalSpec Rows.fnJournalRow = true := by
  have h1 : (Rows.fnJournalRow.lifted == Tryd.pinned.checked.prog.liftsFinal) = true := FD.hLift
  have h2 : (Tryd.pinned.checked.prog.make == some Rows.fnJournalRow.make) = true := FD.hMake
  have h3 : Tryd.pinned.checked.prog.mayEnter = true := FD.hEnter
  simp only [joinedFacts, Bool.and_eq_true]
  repeat' apply And.intro
  all_goals first | with_reducible exact h1 | with_reducible exact h2 | with_reducible exact h3 | (as_aux_lemma => kernel_rfl)

theorem holds : Rows.FnJournalSaid :=
  OpenClaim.holds_of_wide 5 Tryd.f5 rfl rfl rfl rfl rfl rfl rfl ⟨rfl, rfl, rfl, rfl, rfl⟩ rfl rfl rfl rfl rfl (by kernel_rfl) Tryd.func5 closed
    (of_decide_eq_true (by kernel_rfl)) (by unfold Func.isWrapper; first | (rw [if_pos (by decide +kernel)]; kernel_rfl) | (rw [if_neg (by decide +kernel)]; exact ⟨rfl, rfl⟩))
    (fun os started H enc _ => lifted os started H enc)

theorem card_holds : Rows.FnJournalCardSaid :=
  Claim7.holds_tied_plain_at .later [] [.data, .data, .data] true (true, Rows.fnJournalCard.stood.harness.2) false
    holds (fun _ h => by cases h) (by kernel_rfl) (fun _ h => by cases h) fnJournal_row_tie rfl ⟨rfl, rfl⟩ (by kernel_rfl) rfl
    (fun f fn hf hfn => by
      obtain rfl : f = 5 := Option.some.inj ((show Tryd.prog.funcNamed Rows.fnJournalRow.func = some 5 by kernel_rfl).symm.trans hf) |>.symm
      obtain rfl : fn = Tryd.f5 := (Option.some.inj (Tryd.func5.symm.trans hfn)).symm
      exact ⟨by kernel_rfl, fun j t ht => by
        rw [Tryd.params5] at ht
        have hm : t ∈ [32, 32] := by simpa using Array.mem_of_getElem? ht
        have hall : ([32, 32].all fun u => !Tryd.prog.wantsStandIn u) = true := by kernel_rfl
        exact (show Tryd.prog.wantsStandIn t = false by simpa using List.all_eq_true.1 hall t hm)⟩)
    (by kernel_rfl)
#print axioms card_holds
end Go.Proofs.YtligakfmabjoeaaDoor.law5
