/-
  Chapter 9: latest places.
-/
import Derived.Test.YtbdbjeflgbmejaaP5
import Derived.Test.YtbdbjeflgbmejaaM10
namespace Go.Sx.U
set_option linter.unusedVariables false
set_option linter.unusedSimpArgs false
open Go Go.Sx Go.Sx.M9 Go.Proofs
set_option maxHeartbeats 2000000
set_option maxRecDepth 100000

/-! ### The latest places, as rounds -/
theorem comp_bd {w m : Int} {l : List Int} (hb : Bd m l) (hw : 0 ≤ w) (i : Nat) (hi : i < l.length) : w - m ≤ (comp w l).getD i 0 ∧ (comp w l).getD i 0 ≤ w := by
  rw [comp_get hi]
  have := hb i
  omega
theorem comp_rise {w : Int} {rs : List R3} {z : List Int} {j : Nat} (hj : j < rs.length) (ha : (rs.getD j default).a.toNat < z.length) (hb : (rs.getD j default).b.toNat < z.length)
    (hz : (passT (flps rs) z j).1.length = z.length)
    (h : (comp w (passT (flps rs) z j).1).getD (rs.getD j default).b.toNat 0 - (rs.getD j default).c < (comp w (passT (flps rs) z j).1).getD (rs.getD j default).a.toNat 0) :
    (passT (flps rs) z (j + 1)).2 = true ∧ comp w (passT (flps rs) z (j + 1)).1 = (comp w (passT (flps rs) z j).1).set (rs.getD j default).a.toNat ((comp w (passT (flps rs) z j).1).getD (rs.getD j default).b.toNat 0 - (rs.getD j default).c) := by
  rw [comp_get (by omega), comp_get (by omega)] at h
  have hl : (flps rs).length = rs.length := by simp [flps]
  have e := passT_rise (rs := flps rs) (out := z) (j := j) (by omega) (by rw [flps_get rs hj]; show (passT (flps rs) z j).1.getD (rs.getD j default).a.toNat 0 < (passT (flps rs) z j).1.getD (rs.getD j default).b.toNat 0 + (rs.getD j default).c; omega)
  rw [flps_get rs hj] at e
  rw [e]
  refine ⟨rfl, ?_⟩
  rw [comp_set, comp_get (by omega)]
  show (comp w (passT (flps rs) z j).1).set (rs.getD j default).a.toNat (w - ((passT (flps rs) z j).1.getD (rs.getD j default).b.toNat 0 + (rs.getD j default).c)) = _
  congr 1
  omega
theorem comp_keep {w : Int} {rs : List R3} {z : List Int} {j : Nat} (hj : j < rs.length) (ha : (rs.getD j default).a.toNat < z.length) (hb : (rs.getD j default).b.toNat < z.length)
    (hz : (passT (flps rs) z j).1.length = z.length)
    (h : ¬ (comp w (passT (flps rs) z j).1).getD (rs.getD j default).b.toNat 0 - (rs.getD j default).c < (comp w (passT (flps rs) z j).1).getD (rs.getD j default).a.toNat 0) :
    passT (flps rs) z (j + 1) = passT (flps rs) z j := by
  rw [comp_get (by omega), comp_get (by omega)] at h
  have hl : (flps rs).length = rs.length := by simp [flps]
  refine passT_keep (rs := flps rs) (out := z) (j := j) (by omega) ?_
  rw [flps_get rs hj]
  show ¬ (passT (flps rs) z j).1.getD (rs.getD j default).a.toNat 0 < (passT (flps rs) z j).1.getD (rs.getD j default).b.toNat 0 + (rs.getD j default).c
  omega

/-- The latest places: the round's result, and whether it keeps all rules. -/
def late1 (p w : Int) (rs : List R3) : Option (List Int) := (leastR p (flps rs)).map (comp w)
def lateOk (p w : Int) (rs : List R3) : Bool := match late1 p w rs with
  | some L => placed p rs L
  | none => false
theorem c85 (p w : Int) (rs : List R3) (h : Side (okPress p rs = true ∧ 0 ≤ w ∧ w ≤ 16000)) : FnIs Try.prog 85 [.ptr 0 [] 0 0, .int .i64 w] 2 [(0, .flat false (.gen 2 [[.int .i64 p, .sl 1 []]])), (1, .flat false (.r3 rs))] (.tuple [.sl 2 [], .bool (lateOk p w rs)]) 3 [(2, .flat true (.ints .i64 ((late1 p w rs).getD [])))] := by
  obtain ⟨hp, hw1, hw2⟩ := h.h
  have hb := okPress_bd hp
  have hp' := okPress_flps hp
  have hfl : (flps rs).length = rs.length := by simp [flps]
  refine fn_of_ev tok Try.func85 rfl rfl rfl ?_
  repeat' ((conv => whnf); first | done | refine ev_step ?_ | refine ops_step ?_ | refine scan_step ?_ | refine draw_step ?_ | apply cut_auto | with_reducible exact CutS.mk (Or.inl ⟨rfl, rfl, rfl⟩) | refine CutS.mk (Or.inr (sub_auto ?_)) | exact trivial | refine And.intro ?_ ?_ | refine cond_split ?_ ?_ | apply guess | exact Or.inl rfl | exact Or.inr rfl | exact Side.mk trivial | exact Side.mk (fun h => h) | exact Side.mk (fun h => ⟨h, h⟩) | with_reducible exact Side.mk rfl | with_reducible exact Side.mk (by assumption) | with_reducible rfl | intro _)
  all_goals try (conv => whnf)
  all_goals try (refine Side.mk ?_; first | (intros; omega) | (simp_all; done) | (simp_all; omega))
  refine loop_at (fun i : Nat => i ≤ p.toNat) 3 (fun i => [(19, .int .i64 i)]) (fun i => [(2, .flat true (.ints .i64 (List.replicate i w ++ List.replicate (p.toNat - i) 0)))]) (fun i => p.toNat - i) 0 (Nat.zero_le _) ?_ (fun i hi => ?_)
  · repeat' ((conv => whnf); first | done | refine ev_step ?_ | refine ops_step ?_ | refine scan_step ?_ | refine draw_step ?_ | apply cut_auto | with_reducible exact CutS.mk (Or.inl ⟨rfl, rfl, rfl⟩) | refine CutS.mk (Or.inr (sub_auto ?_)) | exact trivial | refine And.intro ?_ ?_ | refine cond_split ?_ ?_ | apply guess | exact Or.inl rfl | exact Or.inr rfl | exact Side.mk trivial | exact Side.mk (fun h => h) | exact Side.mk (fun h => ⟨h, h⟩) | with_reducible exact Side.mk rfl | with_reducible exact Side.mk (by assumption) | with_reducible rfl | intro _)
    all_goals try (conv => whnf)
    all_goals first | rfl | simp
  · have hrl : (List.replicate p.toNat (0 : Int)).length = p.toNat := by simp
    have hil : (List.replicate i w ++ List.replicate (p.toNat - i) (0 : Int)).length = p.toNat := by simp; omega
    by_cases hlt : i < p.toNat
    · repeat' ((conv => whnf); first | done | refine ev_step ?_ | refine ops_step ?_ | refine scan_step ?_ | refine draw_step ?_ | apply cut_auto | with_reducible exact CutS.mk (Or.inl ⟨rfl, rfl, rfl⟩) | refine CutS.mk (Or.inr (sub_auto ?_)) | exact trivial | refine And.intro ?_ ?_ | (refine cond_split ?_ ?_ <;> intro _ <;> first | (exfalso; first | omega | (simp only [decide_eq_true_eq, decide_eq_false_iff_not, Bool.not_eq_true', Bool.not_eq_false', ne_eq] at *; omega)) | skip) | apply guess | exact Or.inl rfl | exact Or.inr rfl | exact Side.mk trivial | exact Side.mk (fun h => h) | exact Side.mk (fun h => ⟨h, h⟩) | with_reducible exact Side.mk rfl | with_reducible exact Side.mk (by assumption) | with_reducible rfl | intro _)
      all_goals try (conv => whnf)
      all_goals try simp only [Int.toNat_natCast] at *
      all_goals first | (refine Side.mk ?_; simp; omega) | skip
      all_goals try (refine Side.mk ?_; first | (intros; omega) | (simp_all; done) | (simp_all; omega))
      refine ⟨i + 1, by omega, by omega, ?_⟩
      repeat' ((conv => whnf); first | done | refine ev_step ?_ | refine ops_step ?_ | refine scan_step ?_ | refine draw_step ?_ | apply cut_auto | with_reducible exact CutS.mk (Or.inl ⟨rfl, rfl, rfl⟩) | refine CutS.mk (Or.inr (sub_auto ?_)) | exact trivial | refine And.intro ?_ ?_ | refine cond_split ?_ ?_ | apply guess | exact Or.inl rfl | exact Or.inr rfl | exact Side.mk trivial | exact Side.mk (fun h => h) | exact Side.mk (fun h => ⟨h, h⟩) | with_reducible exact Side.mk rfl | with_reducible exact Side.mk (by assumption) | with_reducible rfl | intro _)
      all_goals try (conv => whnf)
      all_goals first | rfl | omega | skip
      · rw [List.set_append_right _ _ (by simp)]
        simp only [List.length_replicate, Nat.sub_self]
        rw [show p.toNat - i = (p.toNat - (i + 1)) + 1 by omega, List.replicate_succ (n := p.toNat - (i + 1)), List.set_cons_zero, List.replicate_succ']
        simp
    · obtain rfl : i = p.toNat := by omega
      repeat' ((conv => whnf); first | done | refine ev_step ?_ | refine ops_step ?_ | refine scan_step ?_ | refine draw_step ?_ | apply cut_auto | with_reducible exact CutS.mk (Or.inl ⟨rfl, rfl, rfl⟩) | refine CutS.mk (Or.inr (sub_auto ?_)) | exact trivial | refine And.intro ?_ ?_ | (refine cond_split ?_ ?_ <;> intro _ <;> first | (exfalso; first | omega | (simp only [decide_eq_true_eq, decide_eq_false_iff_not, Bool.not_eq_true', Bool.not_eq_false', ne_eq] at *; omega)) | skip) | apply guess | exact Or.inl rfl | exact Or.inr rfl | exact Side.mk trivial | exact Side.mk (fun h => h) | exact Side.mk (fun h => ⟨h, h⟩) | with_reducible exact Side.mk rfl | with_reducible exact Side.mk (by assumption) | with_reducible rfl | intro _)
      all_goals try (conv => whnf)
      refine loop_at (fun k : Nat => k ≤ p.toNat + 1 ∧ leastR p (flps rs) = leastF (flps rs) (p.toNat + 1 - k) (outK (flps rs) (zeros p) k)) 3 (fun k => [(8, .int .i64 k)]) (fun k => [(2, .flat true (.ints .i64 (comp w (outK (flps rs) (zeros p) k))))]) (fun k => p.toNat + 1 - k) 0 ⟨Nat.zero_le _, rfl⟩ ?_ (fun k hk => ?_)
      · repeat' ((conv => whnf); first | done | refine ev_step ?_ | refine ops_step ?_ | refine scan_step ?_ | refine draw_step ?_ | apply cut_auto | with_reducible exact CutS.mk (Or.inl ⟨rfl, rfl, rfl⟩) | refine CutS.mk (Or.inr (sub_auto ?_)) | exact trivial | refine And.intro ?_ ?_ | refine cond_split ?_ ?_ | apply guess | exact Or.inl rfl | exact Or.inr rfl | exact Side.mk trivial | exact Side.mk (fun h => h) | exact Side.mk (fun h => ⟨h, h⟩) | with_reducible exact Side.mk rfl | with_reducible exact Side.mk (by assumption) | with_reducible rfl | intro _)
        all_goals try (conv => whnf)
        all_goals first | rfl | (show _ = comp w (zeros p); rw [comp_zeros]; simp) | (rw [outK, comp_zeros]; simp) | trace_state
      · by_cases hkp : k ≤ p.toNat
        · have hR := leastF_round hk.2 hkp
          repeat' ((conv => whnf); first | done | refine ev_step ?_ | refine ops_step ?_ | refine scan_step ?_ | refine draw_step ?_ | apply cut_auto | with_reducible exact CutS.mk (Or.inl ⟨rfl, rfl, rfl⟩) | refine CutS.mk (Or.inr (sub_auto ?_)) | exact trivial | refine And.intro ?_ ?_ | (refine cond_split ?_ ?_ <;> intro _ <;> first | (exfalso; first | omega | (simp only [decide_eq_true_eq, decide_eq_false_iff_not, Bool.not_eq_true', Bool.not_eq_false', ne_eq] at *; omega)) | skip) | apply guess | exact Or.inl rfl | exact Or.inr rfl | exact Side.mk trivial | exact Side.mk (fun h => h) | exact Side.mk (fun h => ⟨h, h⟩) | with_reducible exact Side.mk rfl | with_reducible exact Side.mk (by assumption) | with_reducible rfl | intro _)
          all_goals try (conv => whnf)
          refine loop_at (fun j : Nat => j ≤ rs.length) 3 (fun j => [(9, .bool (passT (flps rs) (outK (flps rs) (zeros p) k) j).2), (10, .int .i64 j)]) (fun j => [(2, .flat true (.ints .i64 (comp w (passT (flps rs) (outK (flps rs) (zeros p) k) j).1)))]) (fun j => rs.length - j) 0 (Nat.zero_le _) ?_ (fun j hj => ?_)
          · repeat' ((conv => whnf); first | done | refine ev_step ?_ | refine ops_step ?_ | refine scan_step ?_ | refine draw_step ?_ | apply cut_auto | with_reducible exact CutS.mk (Or.inl ⟨rfl, rfl, rfl⟩) | refine CutS.mk (Or.inr (sub_auto ?_)) | exact trivial | refine And.intro ?_ ?_ | refine cond_split ?_ ?_ | apply guess | exact Or.inl rfl | exact Or.inr rfl | exact Side.mk trivial | exact Side.mk (fun h => h) | exact Side.mk (fun h => ⟨h, h⟩) | with_reducible exact Side.mk rfl | with_reducible exact Side.mk (by assumption) | with_reducible rfl | intro _)
            all_goals try (conv => whnf)
            all_goals first | rfl | simp [passT_zero]
          · have hlz : (outK (flps rs) (zeros p) k).length = p.toNat := by rw [outK_length, zeros_length]
            have hlen : (passT (flps rs) (outK (flps rs) (zeros p) k) j).1.length = p.toNat := by rw [passT_length, hlz]
            have hcl := comp_length w (passT (flps rs) (outK (flps rs) (zeros p) k) j).1
            by_cases hjl : j < rs.length
            · have bj := okPress_get hp hjl
              have hbd := (Bd.outK hp' k).passT (okPress_bd hp').2.2.2 j (by omega)
              have b1 := comp_bd hbd hw1 (rs.getD j default).a.toNat (by omega)
              have b2 := comp_bd hbd hw1 (rs.getD j default).b.toNat (by omega)
              repeat' ((conv => whnf); first | done | refine ev_step ?_ | refine ops_step ?_ | refine scan_step ?_ | refine draw_step ?_ | apply cut_auto | with_reducible exact CutS.mk (Or.inl ⟨rfl, rfl, rfl⟩) | refine CutS.mk (Or.inr (sub_auto ?_)) | exact trivial | refine And.intro ?_ ?_ | (refine cond_split ?_ ?_ <;> intro _ <;> first | (exfalso; first | omega | (simp only [decide_eq_true_eq, decide_eq_false_iff_not, Bool.not_eq_true', Bool.not_eq_false', ne_eq] at *; omega)) | skip) | apply guess | exact Or.inl rfl | exact Or.inr rfl | exact Side.mk trivial | exact Side.mk (fun h => h) | exact Side.mk (fun h => ⟨h, h⟩) | with_reducible exact Side.mk rfl | with_reducible exact Side.mk (by assumption) | with_reducible rfl | intro _)
              all_goals try (conv => whnf)
              all_goals try simp only [Int.toNat_natCast] at *
              all_goals try (refine Side.mk ?_; first | (intros; omega) | (simp_all; done) | (simp_all; omega))
              · rename_i hlt
                obtain ⟨e1, e2⟩ := comp_rise hjl (by omega) (by omega) (by omega) (of_decide_eq_true hlt)
                refine ⟨j + 1, by omega, by omega, ?_⟩
                rw [e1, e2]
                repeat' ((conv => whnf); first | done | refine ev_step ?_ | refine ops_step ?_ | refine scan_step ?_ | refine draw_step ?_ | apply cut_auto | with_reducible exact CutS.mk (Or.inl ⟨rfl, rfl, rfl⟩) | refine CutS.mk (Or.inr (sub_auto ?_)) | exact trivial | refine And.intro ?_ ?_ | refine cond_split ?_ ?_ | apply guess | exact Or.inl rfl | exact Or.inr rfl | exact Side.mk trivial | exact Side.mk (fun h => h) | exact Side.mk (fun h => ⟨h, h⟩) | with_reducible exact Side.mk rfl | with_reducible exact Side.mk (by assumption) | with_reducible rfl | intro _)
                all_goals try (conv => whnf)
                all_goals first | rfl | omega
              · rename_i hlt
                refine ⟨j + 1, by omega, by omega, ?_⟩
                rw [comp_keep (w := w) hjl (by omega) (by omega) (by omega) (of_decide_eq_false hlt)]
                repeat' ((conv => whnf); first | done | refine ev_step ?_ | refine ops_step ?_ | refine scan_step ?_ | refine draw_step ?_ | apply cut_auto | with_reducible exact CutS.mk (Or.inl ⟨rfl, rfl, rfl⟩) | refine CutS.mk (Or.inr (sub_auto ?_)) | exact trivial | refine And.intro ?_ ?_ | refine cond_split ?_ ?_ | apply guess | exact Or.inl rfl | exact Or.inr rfl | exact Side.mk trivial | exact Side.mk (fun h => h) | exact Side.mk (fun h => ⟨h, h⟩) | with_reducible exact Side.mk rfl | with_reducible exact Side.mk (by assumption) | with_reducible rfl | intro _)
                all_goals try (conv => whnf)
                all_goals first | rfl | omega
            · have e : passT (flps rs) (outK (flps rs) (zeros p) k) j = pass (flps rs) (outK (flps rs) (zeros p) k) := passT_all (by omega)
              rw [e] at hcl hlen ⊢
              repeat' ((conv => whnf); first | done | refine ev_step ?_ | refine ops_step ?_ | refine scan_step ?_ | refine draw_step ?_ | apply cut_auto | with_reducible exact CutS.mk (Or.inl ⟨rfl, rfl, rfl⟩) | refine CutS.mk (Or.inr (sub_auto ?_)) | exact trivial | refine And.intro ?_ ?_ | (refine cond_split ?_ ?_ <;> intro _ <;> first | (exfalso; first | omega | (simp only [decide_eq_true_eq, decide_eq_false_iff_not, Bool.not_eq_true', Bool.not_eq_false', ne_eq] at *; omega)) | skip) | apply guess | apply FnIs.use (c72 p rs _ _) | exact Or.inl rfl | exact Or.inr rfl | exact Side.mk trivial | exact Side.mk (fun h => h) | exact Side.mk (fun h => ⟨h, h⟩) | with_reducible exact Side.mk rfl | with_reducible exact Side.mk (by assumption) | with_reducible rfl | intro _)
              all_goals try (conv => whnf)
              all_goals first | (refine Side.mk ⟨hp, ?_⟩; omega) | skip
              all_goals try (refine Side.mk ?_; first | (intros; omega) | (simp_all; done) | (simp_all; omega))
              · rename_i hg
                have hL : leastR p (flps rs) = some (pass (flps rs) (outK (flps rs) (zeros p) k)).1 := hR.2 (by simpa using hg)
                simp only [lateOk, late1, hL, Option.map_some]
              · rename_i hg
                have hL : leastR p (flps rs) = some (pass (flps rs) (outK (flps rs) (zeros p) k)).1 := hR.2 (by simpa using hg)
                simp only [late1, hL, Option.map_some, Option.getD_some]
              · rename_i hg
                refine ⟨k + 1, ⟨by omega, hR.1 (by simpa using hg)⟩, by omega, ?_⟩
                repeat' ((conv => whnf); first | done | refine ev_step ?_ | refine ops_step ?_ | refine scan_step ?_ | refine draw_step ?_ | apply cut_auto | with_reducible exact CutS.mk (Or.inl ⟨rfl, rfl, rfl⟩) | refine CutS.mk (Or.inr (sub_auto ?_)) | exact trivial | refine And.intro ?_ ?_ | refine cond_split ?_ ?_ | apply guess | exact Or.inl rfl | exact Or.inr rfl | exact Side.mk trivial | exact Side.mk (fun h => h) | exact Side.mk (fun h => ⟨h, h⟩) | with_reducible exact Side.mk rfl | with_reducible exact Side.mk (by assumption) | with_reducible rfl | intro _)
                all_goals try (conv => whnf)
                all_goals first | rfl | omega
        · have e : leastR p (flps rs) = none := by rw [hk.2, show p.toNat + 1 - k = 0 by omega]; rfl
          repeat' ((conv => whnf); first | done | refine ev_step ?_ | refine ops_step ?_ | refine scan_step ?_ | refine draw_step ?_ | apply cut_auto | with_reducible exact CutS.mk (Or.inl ⟨rfl, rfl, rfl⟩) | refine CutS.mk (Or.inr (sub_auto ?_)) | exact trivial | refine And.intro ?_ ?_ | (refine cond_split ?_ ?_ <;> intro _ <;> first | (exfalso; first | omega | (simp only [decide_eq_true_eq, decide_eq_false_iff_not, Bool.not_eq_true', Bool.not_eq_false', ne_eq] at *; omega)) | skip) | apply guess | exact Or.inl rfl | exact Or.inr rfl | exact Side.mk trivial | exact Side.mk (fun h => h) | exact Side.mk (fun h => ⟨h, h⟩) | with_reducible exact Side.mk rfl | with_reducible exact Side.mk (by assumption) | with_reducible rfl | intro _)
          all_goals try (conv => whnf)
          all_goals first | rfl | (simp [lateOk, late1, e]) | trace_state
end Go.Sx.U
