/-
  FnOrders, as a contract.
-/
import Derived.Test.YtjojnolcohjebaaM1B
import Derived.Test.YtjojnolcohjebaaC22
import Derived.Test.YtjojnolcohjebaaK7
import Derived.Test.YtjojnolcohjebaaKR2
import Derived.Test.YtjojnolcohjebaaKH
import Derived.Test.YtjojnolcohjebaaC12
import Derived.Test.YtjojnolcohjebaaB3
set_option linter.unusedSimpArgs false
namespace Go.Sx.U
set_option linter.unusedVariables false
set_option linter.unusedSimpArgs false
set_option maxRecDepth 100000
set_option maxHeartbeats 8000000
open Go Go.Sx Go.Proofs Go.Sx.M0

theorem k_r8At (bs : List Int) (i n : Int) (h : Side (bytesOk bs ∧ 0 ≤ i ∧ i ≤ 1000 ∧ 1 ≤ n ∧ n ≤ 60000)) : FnEx Try.prog 40 [.sl 0 [], .int .i64 i, .int .i64 n] 1 [(0, .flat false (.ints .u8 bs))] (fun a : Int => 0 ≤ a ∧ a < n) (fun a => .int .i64 a) 1 (fun _ => []) := by
  obtain ⟨⟨b1, b2⟩, h2, h3, h4, h5⟩ := h.h
  refine ex_of_evk [] tok Try.func40 rfl rfl rfl ?_
  by_cases hn : n ≤ 1
  · repeat' ((conv => whnf); first | done | refine ev_step ?_ | refine ops_step ?_ | refine scan_step ?_ | refine draw_step ?_ | refine each_step ?_ | refine sl_step ?_ | refine hp_step ?_ | refine guard_no (by decide) ?_ | refine guard_go ?_ | refine guard_old ?_ | apply cut_auto | with_reducible exact CutS.mk (Or.inl ⟨rfl, rfl, rfl⟩) | refine CutS.mk (Or.inr (sub_auto ?_)) | exact trivial | refine And.intro ?_ ?_ | (refine cond_split ?_ ?_ <;> intro _ <;> first | (exfalso; first | omega | (simp_all; done) | (simp_all; omega)) | skip) | apply guess | exact Or.inl rfl | exact Or.inr rfl | exact Side.mk trivial | exact Side.mk (fun h => h) | exact Side.mk (fun h => ⟨h, h⟩) | with_reducible exact Side.mk rfl | with_reducible exact Side.mk ⟨rfl, rfl⟩ | with_reducible exact Side.mk (by assumption) | with_reducible rfl | intro _)
    all_goals try (conv => whnf)
    refine ⟨0, ⟨by omega, by omega⟩, ?_⟩
    repeat' ((conv => whnf); first | done | refine ev_step ?_ | refine ops_step ?_ | refine scan_step ?_ | refine draw_step ?_ | refine each_step ?_ | refine sl_step ?_ | refine hp_step ?_ | refine guard_no (by decide) ?_ | refine guard_go ?_ | refine guard_old ?_ | apply cut_auto | with_reducible exact CutS.mk (Or.inl ⟨rfl, rfl, rfl⟩) | refine CutS.mk (Or.inr (sub_auto ?_)) | exact trivial | refine And.intro ?_ ?_ | refine cond_split ?_ ?_ | apply guess | exact Or.inl rfl | exact Or.inr rfl | exact Side.mk trivial | exact Side.mk (fun h => h) | exact Side.mk (fun h => ⟨h, h⟩) | with_reducible exact Side.mk rfl | with_reducible exact Side.mk ⟨rfl, rfl⟩ | with_reducible exact Side.mk (by assumption) | with_reducible rfl | intro _)
    all_goals try (conv => whnf)
    all_goals first | rfl | trace_state
  · by_cases hlt : i < bs.length
    · have hx := b2 _ (mem_of_getD (d := 0) (show i.toNat < bs.length by omega))
      have hv : IntKind.i64.wrap (bs.getD i.toNat 0) = bs.getD i.toNat 0 := wrap_in ⟨by omega, by omega⟩
      have m1 := Int.tmod_nonneg (a := bs.getD i.toNat 0) n (by omega)
      have m2 := Int.tmod_lt_of_pos (bs.getD i.toNat 0) (show 0 < n by omega)
      repeat' ((conv => whnf); first | done | refine ev_step ?_ | refine ops_step ?_ | refine scan_step ?_ | refine draw_step ?_ | refine each_step ?_ | refine sl_step ?_ | refine hp_step ?_ | refine guard_no (by decide) ?_ | refine guard_go ?_ | refine guard_old ?_ | apply cut_auto | with_reducible exact CutS.mk (Or.inl ⟨rfl, rfl, rfl⟩) | refine CutS.mk (Or.inr (sub_auto ?_)) | exact trivial | refine And.intro ?_ ?_ | (refine cond_split ?_ ?_ <;> intro _ <;> first | (exfalso; first | omega | (simp_all; done) | (simp_all; omega)) | skip) | apply guess | exact Or.inl rfl | exact Or.inr rfl | exact Side.mk trivial | exact Side.mk (fun h => h) | exact Side.mk (fun h => ⟨h, h⟩) | with_reducible exact Side.mk rfl | with_reducible exact Side.mk ⟨rfl, rfl⟩ | with_reducible exact Side.mk (by assumption) | with_reducible rfl | intro _)
      all_goals try (conv => whnf)
      all_goals try (refine Side.mk ?_; first | (intros; omega) | (intro h1_ h2_; rw [h1_, h2_]; rfl) | (show List.length (_ ++ _) ≤ _; simp only [List.length_append, List.length_cons, List.length_nil, List.length_replicate, List.length_take]; omega) | (simp_all; done) | (simp_all; omega))
      all_goals try omega
      refine ⟨(IntKind.i64.wrap (bs.getD i.toNat 0)).tmod n, ⟨by rw [hv]; exact m1, by rw [hv]; exact m2⟩, ?_⟩
      repeat' ((conv => whnf); first | done | refine ev_step ?_ | refine ops_step ?_ | refine scan_step ?_ | refine draw_step ?_ | refine each_step ?_ | refine sl_step ?_ | refine hp_step ?_ | refine guard_no (by decide) ?_ | refine guard_go ?_ | refine guard_old ?_ | apply cut_auto | with_reducible exact CutS.mk (Or.inl ⟨rfl, rfl, rfl⟩) | refine CutS.mk (Or.inr (sub_auto ?_)) | exact trivial | refine And.intro ?_ ?_ | refine cond_split ?_ ?_ | apply guess | exact Or.inl rfl | exact Or.inr rfl | exact Side.mk trivial | exact Side.mk (fun h => h) | exact Side.mk (fun h => ⟨h, h⟩) | with_reducible exact Side.mk rfl | with_reducible exact Side.mk ⟨rfl, rfl⟩ | with_reducible exact Side.mk (by assumption) | with_reducible rfl | intro _)
      all_goals try (conv => whnf)
      all_goals first | rfl | trace_state
    · repeat' ((conv => whnf); first | done | refine ev_step ?_ | refine ops_step ?_ | refine scan_step ?_ | refine draw_step ?_ | refine each_step ?_ | refine sl_step ?_ | refine hp_step ?_ | refine guard_no (by decide) ?_ | refine guard_go ?_ | refine guard_old ?_ | apply cut_auto | with_reducible exact CutS.mk (Or.inl ⟨rfl, rfl, rfl⟩) | refine CutS.mk (Or.inr (sub_auto ?_)) | exact trivial | refine And.intro ?_ ?_ | (refine cond_split ?_ ?_ <;> intro _ <;> first | (exfalso; first | omega | (simp_all; done) | (simp_all; omega)) | skip) | apply guess | exact Or.inl rfl | exact Or.inr rfl | exact Side.mk trivial | exact Side.mk (fun h => h) | exact Side.mk (fun h => ⟨h, h⟩) | with_reducible exact Side.mk rfl | with_reducible exact Side.mk ⟨rfl, rfl⟩ | with_reducible exact Side.mk (by assumption) | with_reducible rfl | intro _)
      all_goals try (conv => whnf)
      refine ⟨0, ⟨by omega, by omega⟩, ?_⟩
      repeat' ((conv => whnf); first | done | refine ev_step ?_ | refine ops_step ?_ | refine scan_step ?_ | refine draw_step ?_ | refine each_step ?_ | refine sl_step ?_ | refine hp_step ?_ | refine guard_no (by decide) ?_ | refine guard_go ?_ | refine guard_old ?_ | apply cut_auto | with_reducible exact CutS.mk (Or.inl ⟨rfl, rfl, rfl⟩) | refine CutS.mk (Or.inr (sub_auto ?_)) | exact trivial | refine And.intro ?_ ?_ | refine cond_split ?_ ?_ | apply guess | exact Or.inl rfl | exact Or.inr rfl | exact Side.mk trivial | exact Side.mk (fun h => h) | exact Side.mk (fun h => ⟨h, h⟩) | with_reducible exact Side.mk rfl | with_reducible exact Side.mk ⟨rfl, rfl⟩ | with_reducible exact Side.mk (by assumption) | with_reducible rfl | intro _)
      all_goals try (conv => whnf)
      all_goals first | rfl | trace_state
/-- Where two lists first differ. -/
theorem befL_at : ∀ {i : Nat} {a b : List Int}, (∀ j, j < i → a.getD j 0 = b.getD j 0) → i < a.length → i < b.length → a.getD i 0 ≠ b.getD i 0 → befL a b = decide (a.getD i 0 < b.getD i 0)
  | 0, x :: r, y :: s, _, _, _, h => by
    simp only [List.getD_cons_zero] at h ⊢
    simp only [befL, if_neg h]
  | i + 1, x :: r, y :: s, hj, h1, h2, h => by
    have h0 := hj 0 (by omega)
    simp only [List.getD_cons_zero] at h0
    simp only [befL, if_pos h0, List.getD_cons_succ] at h ⊢
    simp only [List.length_cons] at h1 h2
    exact befL_at (fun j hj2 => by have := hj (j + 1) (by omega); simpa only [List.getD_cons_succ] using this) (by omega) (by omega) h
  | _, [], _, _, h, _, _ => by simp at h
  | _, _ :: _, [], _, _, h, _ => by simp at h
theorem befL_eq : ∀ {a b : List Int}, (∀ j, j < a.length → j < b.length → a.getD j 0 = b.getD j 0) → befL a b = false
  | [], _, _ => by simp [befL]
  | _ :: _, [], _ => by simp [befL]
  | x :: r, y :: s, h => by
    have h0 := h 0 (by simp) (by simp)
    simp only [List.getD_cons_zero] at h0
    simp only [befL, if_pos h0]
    exact befL_eq fun j h1 h2 => by
      have := h (j + 1) (by simpa using h1) (by simpa using h2)
      simpa only [List.getD_cons_succ] using this
theorem k_r8Before (a b : List Int) (h : Side (a.length ≤ 1048577 ∧ b.length ≤ 1048577)) : FnIs Try.prog 43 [.sl 0 [], .sl 1 []] 2 [(0, .flat false (.ints .i64 a)), (1, .flat false (.ints .i64 b))] (.bool (befL a b)) 2 [] := by
  have h := h.h
  refine fn_of_ev tok Try.func43 rfl rfl rfl ?_
  repeat' ((conv => whnf); first | done | refine ev_step ?_ | refine ops_step ?_ | refine scan_step ?_ | refine draw_step ?_ | refine each_step ?_ | refine sl_step ?_ | refine hp_step ?_ | refine guard_no (by decide) ?_ | refine guard_go ?_ | refine guard_old ?_ | apply cut_auto | with_reducible exact CutS.mk (Or.inl ⟨rfl, rfl, rfl⟩) | refine CutS.mk (Or.inr (sub_auto ?_)) | exact trivial | refine And.intro ?_ ?_ | refine cond_split ?_ ?_ | apply guess | exact Or.inl rfl | exact Or.inr rfl | exact Side.mk trivial | exact Side.mk (fun h => h) | exact Side.mk (fun h => ⟨h, h⟩) | with_reducible exact Side.mk rfl | with_reducible exact Side.mk ⟨rfl, rfl⟩ | with_reducible exact Side.mk (by assumption) | with_reducible rfl | intro _)
  all_goals try (conv => whnf)
  refine loop_at (fun i : Nat => (i ≤ a.length ∧ i ≤ b.length) ∧ ∀ j, j < i → a.getD j 0 = b.getD j 0) 4 (fun i => [(5, .int .i64 i)]) (fun i => []) (fun i => a.length - i) 0 ⟨⟨Nat.zero_le _, Nat.zero_le _⟩, fun j h => by omega⟩ ?_ (fun i hi => ?_)
  · repeat' ((conv => whnf); first | done | refine ev_step ?_ | refine ops_step ?_ | refine scan_step ?_ | refine draw_step ?_ | refine each_step ?_ | refine sl_step ?_ | refine hp_step ?_ | refine guard_no (by decide) ?_ | refine guard_go ?_ | refine guard_old ?_ | apply cut_auto | with_reducible exact CutS.mk (Or.inl ⟨rfl, rfl, rfl⟩) | refine CutS.mk (Or.inr (sub_auto ?_)) | exact trivial | refine And.intro ?_ ?_ | refine cond_split ?_ ?_ | apply guess | exact Or.inl rfl | exact Or.inr rfl | exact Side.mk trivial | exact Side.mk (fun h => h) | exact Side.mk (fun h => ⟨h, h⟩) | with_reducible exact Side.mk rfl | with_reducible exact Side.mk ⟨rfl, rfl⟩ | with_reducible exact Side.mk (by assumption) | with_reducible rfl | intro _)
    all_goals try (conv => whnf)
    all_goals first | rfl | trace_state
  · by_cases h1 : i < a.length
    · by_cases h2 : i < b.length
      · by_cases h3 : a.getD i 0 = b.getD i 0
        · repeat' ((conv => whnf); first | done | refine ev_step ?_ | refine ops_step ?_ | refine scan_step ?_ | refine draw_step ?_ | refine each_step ?_ | refine sl_step ?_ | refine hp_step ?_ | refine guard_no (by decide) ?_ | refine guard_go ?_ | refine guard_old ?_ | apply cut_auto | with_reducible exact CutS.mk (Or.inl ⟨rfl, rfl, rfl⟩) | refine CutS.mk (Or.inr (sub_auto ?_)) | exact trivial | refine And.intro ?_ ?_ | (refine cond_split ?_ ?_ <;> intro _ <;> first | (exfalso; first | omega | (simp_all; done) | (simp_all; omega)) | skip) | apply guess | exact Or.inl rfl | exact Or.inr rfl | exact Side.mk trivial | exact Side.mk (fun h => h) | exact Side.mk (fun h => ⟨h, h⟩) | with_reducible exact Side.mk rfl | with_reducible exact Side.mk ⟨rfl, rfl⟩ | with_reducible exact Side.mk (by assumption) | with_reducible rfl | intro _)
          all_goals try (conv => whnf)
          all_goals try (refine Side.mk ?_; first | (intros; omega) | (intro h1_ h2_; rw [h1_, h2_]; rfl) | (show List.length (_ ++ _) ≤ _; simp only [List.length_append, List.length_cons, List.length_nil, List.length_replicate, List.length_take]; omega) | (simp_all; done) | (simp_all; omega))
          all_goals try omega
          refine ⟨i + 1, ⟨⟨by omega, by omega⟩, fun j hj => by
            by_cases e : j = i
            · subst e; exact h3
            · exact hi.2 j (by omega)⟩, by omega, ?_⟩
          repeat' ((conv => whnf); first | done | refine ev_step ?_ | refine ops_step ?_ | refine scan_step ?_ | refine draw_step ?_ | refine each_step ?_ | refine sl_step ?_ | refine hp_step ?_ | refine guard_no (by decide) ?_ | refine guard_go ?_ | refine guard_old ?_ | apply cut_auto | with_reducible exact CutS.mk (Or.inl ⟨rfl, rfl, rfl⟩) | refine CutS.mk (Or.inr (sub_auto ?_)) | exact trivial | refine And.intro ?_ ?_ | refine cond_split ?_ ?_ | apply guess | exact Or.inl rfl | exact Or.inr rfl | exact Side.mk trivial | exact Side.mk (fun h => h) | exact Side.mk (fun h => ⟨h, h⟩) | with_reducible exact Side.mk rfl | with_reducible exact Side.mk ⟨rfl, rfl⟩ | with_reducible exact Side.mk (by assumption) | with_reducible rfl | intro _)
          all_goals try (conv => whnf)
          all_goals first | rfl | omega | trace_state
        · have e := befL_at hi.2 h1 h2 h3
          rw [e]
          repeat' ((conv => whnf); first | done | refine ev_step ?_ | refine ops_step ?_ | refine scan_step ?_ | refine draw_step ?_ | refine each_step ?_ | refine sl_step ?_ | refine hp_step ?_ | refine guard_no (by decide) ?_ | refine guard_go ?_ | refine guard_old ?_ | apply cut_auto | with_reducible exact CutS.mk (Or.inl ⟨rfl, rfl, rfl⟩) | refine CutS.mk (Or.inr (sub_auto ?_)) | exact trivial | refine And.intro ?_ ?_ | (refine cond_split ?_ ?_ <;> intro _ <;> first | (exfalso; first | omega | (simp_all; done) | (simp_all; omega)) | skip) | apply guess | exact Or.inl rfl | exact Or.inr rfl | exact Side.mk trivial | exact Side.mk (fun h => h) | exact Side.mk (fun h => ⟨h, h⟩) | with_reducible exact Side.mk rfl | with_reducible exact Side.mk ⟨rfl, rfl⟩ | with_reducible exact Side.mk (by assumption) | with_reducible rfl | intro _)
          all_goals try (conv => whnf)
          all_goals try (refine Side.mk ?_; first | (intros; omega) | (intro h1_ h2_; rw [h1_, h2_]; rfl) | (show List.length (_ ++ _) ≤ _; simp only [List.length_append, List.length_cons, List.length_nil, List.length_replicate, List.length_take]; omega) | (simp_all; done) | (simp_all; omega))
          all_goals first | rfl | omega | trace_state
      · rw [befL_eq fun j k1 k2 => hi.2 j (by omega)]
        repeat' ((conv => whnf); first | done | refine ev_step ?_ | refine ops_step ?_ | refine scan_step ?_ | refine draw_step ?_ | refine each_step ?_ | refine sl_step ?_ | refine hp_step ?_ | refine guard_no (by decide) ?_ | refine guard_go ?_ | refine guard_old ?_ | apply cut_auto | with_reducible exact CutS.mk (Or.inl ⟨rfl, rfl, rfl⟩) | refine CutS.mk (Or.inr (sub_auto ?_)) | exact trivial | refine And.intro ?_ ?_ | (refine cond_split ?_ ?_ <;> intro _ <;> first | (exfalso; first | omega | (simp_all; done) | (simp_all; omega)) | skip) | apply guess | exact Or.inl rfl | exact Or.inr rfl | exact Side.mk trivial | exact Side.mk (fun h => h) | exact Side.mk (fun h => ⟨h, h⟩) | with_reducible exact Side.mk rfl | with_reducible exact Side.mk ⟨rfl, rfl⟩ | with_reducible exact Side.mk (by assumption) | with_reducible rfl | intro _)
        all_goals try (conv => whnf)
        all_goals try (refine Side.mk ?_; first | (intros; omega) | (intro h1_ h2_; rw [h1_, h2_]; rfl) | (show List.length (_ ++ _) ≤ _; simp only [List.length_append, List.length_cons, List.length_nil, List.length_replicate, List.length_take]; omega) | (simp_all; done) | (simp_all; omega))
        all_goals first | rfl | omega | trace_state
    · rw [befL_eq fun j k1 k2 => hi.2 j (by omega)]
      repeat' ((conv => whnf); first | done | refine ev_step ?_ | refine ops_step ?_ | refine scan_step ?_ | refine draw_step ?_ | refine each_step ?_ | refine sl_step ?_ | refine hp_step ?_ | refine guard_no (by decide) ?_ | refine guard_go ?_ | refine guard_old ?_ | apply cut_auto | with_reducible exact CutS.mk (Or.inl ⟨rfl, rfl, rfl⟩) | refine CutS.mk (Or.inr (sub_auto ?_)) | exact trivial | refine And.intro ?_ ?_ | (refine cond_split ?_ ?_ <;> intro _ <;> first | (exfalso; first | omega | (simp_all; done) | (simp_all; omega)) | skip) | apply guess | exact Or.inl rfl | exact Or.inr rfl | exact Side.mk trivial | exact Side.mk (fun h => h) | exact Side.mk (fun h => ⟨h, h⟩) | with_reducible exact Side.mk rfl | with_reducible exact Side.mk ⟨rfl, rfl⟩ | with_reducible exact Side.mk (by assumption) | with_reducible rfl | intro _)
      all_goals try (conv => whnf)
      all_goals try (refine Side.mk ?_; first | (intros; omega) | (intro h1_ h2_; rw [h1_, h2_]; rfl) | (show List.length (_ ++ _) ≤ _; simp only [List.length_append, List.length_cons, List.length_nil, List.length_replicate, List.length_take]; omega) | (simp_all; done) | (simp_all; omega))
      all_goals first | rfl | omega | trace_state
theorem lf_rises (p : Nat → Bool) : ∀ (m j : Nat), (lf p j m).Pairwise (· < ·) ∧ ∀ x ∈ lf p j m, (j : Int) + 1 ≤ x ∧ x ≤ (j : Int) + m
  | 0, j => ⟨.nil, fun x h => by simp [lf] at h⟩
  | m + 1, j => by
    obtain ⟨h1, h2⟩ := lf_rises p m (j + 1)
    have h3 : ∀ x ∈ lf p (j + 1) m, (j : Int) + 1 < x ∧ x ≤ (j : Int) + (m + 1 : Nat) := fun x hx => by have := h2 x hx; omega
    simp only [lf]
    split
    · refine ⟨List.pairwise_cons.2 ⟨fun x hx => (h3 x hx).1, h1⟩, fun x hx => ?_⟩
      rcases List.mem_cons.1 hx with rfl | hx
      · omega
      · have := h3 x hx; omega
    · exact ⟨h1, fun x hx => by have := h3 x hx; omega⟩
theorem rises_lf (p : Nat → Bool) (m : Nat) : rises (lf p 0 m) 1 (m : Int) := fun i hi => by
  obtain ⟨h1, h2⟩ := lf_rises p m 0
  have hm : (lf p 0 m).getD i 0 ∈ lf p 0 m := getD_mem hi
  have h3 := h2 _ hm
  refine ⟨by omega, fun h0 => ?_⟩
  have := List.pairwise_iff_getElem.1 h1 (i - 1) i (by omega) hi (by omega)
  rw [List.getD, List.getElem?_eq_getElem (show i - 1 < _ by omega), List.getD, List.getElem?_eq_getElem hi]
  exact this
/-- The law's facts. -/
theorem orders_facts {W : List (List Int)} (hW : okW W) {cn : Nat} (hc : cn + 1 ≤ W.length) :
    ∃ q S v, folO W (-1) cn (-1) = q ∧ begL W (-1) cn (-1) = v ∧ isO W.length q ∧ BsRes W q cn = (S, v) ∧ coup W q S = v ∧ S.length = cn ∧ rises S 1 ((q.length : Int) - 1) ∧ (cn = 0 → treeS W ≤ v) ∧ 0 ≤ v ∧ v ≤ 8000 ∧
      ∀ o, isO W.length o → ∃ S2 x, BsRes W o cn = (S2, x) ∧ v ≤ x ∧ (x = v → befL o q = false) ∧ S2.length ≤ 9 := by
  have hn := hW.1
  obtain ⟨h1, h2⟩ := best_own hW hc
  have hl := h1.1
  obtain ⟨p, g1, g2, _⟩ := gre_ok (cst W (folO W (-1) cn (-1))) (N := (folO W (-1) cn (-1)).length - 1) (by omega) cn (by omega)
  have hlp := len_lf p ((folO W (-1) cn (-1)).length - 1) 0
  have hb := coup_bd hW h1 (greT (cst W (folO W (-1) cn (-1))) ((folO W (-1) cn (-1)).length - 1) cn)
  have h3 : coup W (folO W (-1) cn (-1)) (greT (cst W (folO W (-1) cn (-1))) ((folO W (-1) cn (-1)).length - 1) cn) = begL W (-1) cn (-1) := h2
  refine ⟨_, greT (cst W (folO W (-1) cn (-1))) ((folO W (-1) cn (-1)).length - 1) cn, _, rfl, rfl, h1, ?_, h3, ?_, ?_, fun h0 => ?_, by omega, by omega, fun o ho => ?_⟩
  · show bsT _ _ _ _ = _
    rw [bs_eq hW h1 (by omega), h3]
  · rw [g1]; omega
  · rw [g1]
    have := rises_lf p ((folO W (-1) cn (-1)).length - 1)
    rwa [show (((folO W (-1) cn (-1)).length - 1 : Nat) : Int) = ((folO W (-1) cn (-1)).length : Int) - 1 by omega] at this
  · subst h0
    obtain ⟨R, ms, r1, r2⟩ := pr_ex hW W.length (by omega) (Nat.le_refl _)
    rw [treeS_eq hW r1 r2, ← h2, shV_zero]
    exact tree_le hW r1 r2 h1
  · obtain ⟨_, k2, k3⟩ := best_all hW hc ho
    have hol := ho.1
    refine ⟨greT (cst W o) (o.length - 1) cn, shV W o cn, ?_, k2, k3, ?_⟩
    · show bsT _ _ _ _ = _
      rw [bs_eq hW ho (by omega)]
    · have := greT_len (cst W o) (o.length - 1) cn
      omega
theorem k_FnOrders (bs cs : List Int) (hp : Side ((bs.length ≤ 9223372036854775807 ∧ ∀ k ∈ bs, 0 ≤ k ∧ k ≤ 255) ∧ cs.length ≤ 9223372036854775807 ∧ ∀ k ∈ cs, 0 ≤ k ∧ k ≤ 255)) : FnIs Try.prog 12 [.sl 0 [], .sl 1 []] 2 [(1, .flat false (.ints .u8 cs)), (0, .flat false (.ints .u8 bs))] (.bool true) 2 [] := by
  obtain ⟨⟨b1, b2⟩, c1, c2⟩ := hp.h
  have k0 := k_r8Long bs cs ⟨⟨b1, c1⟩⟩
  refine fn_of_evk [0, 1, 4, 5, 6, 7, 8, 9, 10, 11, 12, 13, 14, 15, 16, 17, 18, 19, 20, 21, 24, 121, 129] tok Try.func12 rfl rfl rfl ?_
  by_cases hl : bs.length ≤ 48 ∧ cs.length ≤ 48
  · rw [show (decide (48 < (bs.length : Int)) || decide (48 < (cs.length : Int))) = false by rw [Bool.or_eq_false_iff, decide_eq_false_iff_not, decide_eq_false_iff_not]; omega] at k0
    have hb : bytesOk bs := ⟨Nat.le_trans hl.1 (by decide), b2⟩
    have hc : bytesOk cs := ⟨Nat.le_trans hl.2 (by decide), c2⟩
    repeat' ((conv => whnf); first | done | refine ev_step ?_ | refine ops_step ?_ | refine scan_step ?_ | refine draw_step ?_ | refine each_step ?_ | refine sl_step ?_ | refine hp_step ?_ | refine guard_no (by decide) ?_ | refine guard_go ?_ | refine guard_old ?_ | apply cut_auto | with_reducible exact CutS.mk (Or.inl ⟨rfl, rfl, rfl⟩) | refine CutS.mk (Or.inr (sub_auto ?_)) | exact trivial | refine And.intro ?_ ?_ | (refine cond_split ?_ ?_ <;> intro _ <;> first | (exfalso; first | omega | (simp only [decide_eq_true_eq, decide_eq_false_iff_not, Bool.not_eq_true', Bool.not_eq_false', ne_eq, Bool.not_true, Bool.not_false, cond_true, cond_false, Bool.true_eq_false, Bool.false_eq_true, Bool.and_eq_true, Bool.and_eq_false_iff] at *; omega)) | skip) | apply guess | apply FnIs.useF (k0) | apply FnEx.useF (k_R8Bundle bs ⟨hb⟩) | exact Or.inl rfl | exact Or.inr rfl | exact Side.mk trivial | exact Side.mk (fun h => h) | exact Side.mk (fun h => ⟨h, h⟩) | with_reducible exact Side.mk rfl | with_reducible exact Side.mk ⟨rfl, rfl⟩ | with_reducible exact Side.mk (by assumption) | with_reducible rfl | intro _)
    all_goals try (conv => whnf)
    rename_i W hW
    have hOk := okB_iff.1 hW.1
    apply FnEx.useF (k_r8At cs 40 W.length ⟨hc, by omega, by omega, by omega, by omega⟩)
    repeat' ((conv => whnf); first | done | refine ev_step ?_ | refine ops_step ?_ | refine scan_step ?_ | refine draw_step ?_ | refine each_step ?_ | refine sl_step ?_ | refine hp_step ?_ | refine guard_no (by decide) ?_ | refine guard_go ?_ | refine guard_old ?_ | apply cut_auto | with_reducible exact CutS.mk (Or.inl ⟨rfl, rfl, rfl⟩) | refine CutS.mk (Or.inr (sub_auto ?_)) | exact trivial | refine And.intro ?_ ?_ | (refine cond_split ?_ ?_ <;> intro _ <;> first | (exfalso; first | omega | (simp only [decide_eq_true_eq, decide_eq_false_iff_not, Bool.not_eq_true', Bool.not_eq_false', ne_eq, Bool.not_true, Bool.not_false, cond_true, cond_false, Bool.true_eq_false, Bool.false_eq_true, Bool.and_eq_true, Bool.and_eq_false_iff] at *; omega)) | skip) | apply guess | exact Or.inl rfl | exact Or.inr rfl | exact Side.mk trivial | exact Side.mk (fun h => h) | exact Side.mk (fun h => ⟨h, h⟩) | with_reducible exact Side.mk rfl | with_reducible exact Side.mk ⟨rfl, rfl⟩ | with_reducible exact Side.mk (by assumption) | with_reducible rfl | intro _)
    all_goals try (conv => whnf)
    rename_i c hcn
    obtain ⟨cn, rfl⟩ : ∃ cn : Nat, c = (cn : Int) := ⟨c.toNat, by omega⟩
    obtain ⟨q, S, v, e1, e2, hq, e3, e4, e5, e6, e7, e8, e9, hall⟩ := orders_facts hOk (cn := cn) (by omega)
    have hql := hq.1
    have kb := k_BestOrder W cn ⟨by omega⟩ ⟨hOk, by omega, by omega⟩
    rw [Int.toNat_natCast, e1, e2] at kb
    have ks := k_BestShields W q cn ⟨⟨hW.1, isOB_iff.2 hq, by omega⟩⟩
    rw [e3] at ks
    have kc := k_CouplingOf W q S ⟨⟨by omega, by omega, by omega⟩⟩
    have hlay : layOk W q S = true := by simp only [layOk, hW.1, isOB_iff.2 hq, risesB_iff.2 e6, Bool.and_self]
    rw [hlay, if_pos rfl, e4] at kc
    have kl := k_IsLayout W q S ⟨⟨by omega, by omega, by omega⟩⟩
    rw [hW.1, isOB_iff.2 hq, risesB_iff.2 e6] at kl
    have kv := k_ValidBundle W ⟨by omega⟩
    rw [hW.1] at kv
    have kt := k_TreeBound W ⟨by omega⟩
    rw [hW.1, if_pos rfl] at kt
    generalize treeS W = tr at kt e7
    dsimp only at ks
    repeat' ((conv => whnf); first | done | refine ev_step ?_ | refine ops_step ?_ | refine scan_step ?_ | refine draw_step ?_ | refine each_step ?_ | refine sl_step ?_ | refine hp_step ?_ | refine guard_no (by decide) ?_ | refine guard_go ?_ | refine guard_old ?_ | apply cut_auto | with_reducible exact CutS.mk (Or.inl ⟨rfl, rfl, rfl⟩) | refine CutS.mk (Or.inr (sub_auto ?_)) | exact trivial | refine And.intro ?_ ?_ | (refine cond_split ?_ ?_ <;> intro _ <;> first | (exfalso; first | omega | (simp only [decide_eq_true_eq, decide_eq_false_iff_not, Bool.not_eq_true', Bool.not_eq_false', ne_eq, Bool.not_true, Bool.not_false, cond_true, cond_false, Bool.true_eq_false, Bool.false_eq_true, Bool.and_eq_true, Bool.and_eq_false_iff] at *; omega)) | skip) | apply guess | apply FnIs.useF (kb) | apply FnIs.useF (ks) | apply FnIs.useF (kc) | exact Or.inl rfl | exact Or.inr rfl | exact Side.mk trivial | exact Side.mk (fun h => h) | exact Side.mk (fun h => ⟨h, h⟩) | with_reducible exact Side.mk rfl | with_reducible exact Side.mk ⟨rfl, rfl⟩ | with_reducible exact Side.mk (by assumption) | with_reducible rfl | intro _)
    all_goals try (conv => whnf)
    apply FnEx.useF (k_R8Order cs W.length ⟨hc, by omega, by omega⟩)
    repeat' ((conv => whnf); first | done | refine ev_step ?_ | refine ops_step ?_ | refine scan_step ?_ | refine draw_step ?_ | refine each_step ?_ | refine sl_step ?_ | refine hp_step ?_ | refine guard_no (by decide) ?_ | refine guard_go ?_ | refine guard_old ?_ | apply cut_auto | with_reducible exact CutS.mk (Or.inl ⟨rfl, rfl, rfl⟩) | refine CutS.mk (Or.inr (sub_auto ?_)) | exact trivial | refine And.intro ?_ ?_ | (refine cond_split ?_ ?_ <;> intro _ <;> first | (exfalso; first | omega | (simp only [decide_eq_true_eq, decide_eq_false_iff_not, Bool.not_eq_true', Bool.not_eq_false', ne_eq, Bool.not_true, Bool.not_false, cond_true, cond_false, Bool.true_eq_false, Bool.false_eq_true, Bool.and_eq_true, Bool.and_eq_false_iff] at *; omega)) | skip) | apply guess | exact Or.inl rfl | exact Or.inr rfl | exact Side.mk trivial | exact Side.mk (fun h => h) | exact Side.mk (fun h => ⟨h, h⟩) | with_reducible exact Side.mk rfl | with_reducible exact Side.mk ⟨rfl, rfl⟩ | with_reducible exact Side.mk (by assumption) | with_reducible rfl | intro _)
    all_goals try (conv => whnf)
    rename_i o ho
    have hO := isOB_iff.1 ho
    have hol := hO.1
    obtain ⟨S2, x, g1, g2, g3, g4⟩ := hall o hO
    have ks2 := k_BestShields W o cn ⟨⟨hW.1, ho, by omega⟩⟩
    rw [g1] at ks2
    dsimp only at ks2
    have kf := k_r8Before o q ⟨⟨by omega, by omega⟩⟩
    have d1 : decide (v ≠ v) = false := decide_eq_false (by simp)
    have d2 : decide (x < v) = false := decide_eq_false (by omega)
    have d3 : decide ((S.length : Int) ≠ (cn : Int)) = false := decide_eq_false (by omega)
    have d4 : (bif decide (x = v) then befL o q else false) = false := by
      by_cases h : x = v
      · rw [decide_eq_true h, g3 h]; rfl
      · rw [decide_eq_false h]; rfl
    have d5 : (bif decide (0 < (cn : Int)) then true else decide (tr ≤ v)) = true := by
      by_cases h : 0 < (cn : Int)
      · rw [decide_eq_true h]; rfl
      · rw [decide_eq_false h, decide_eq_true (e7 (by omega))]; rfl
    repeat' ((conv => whnf); first | done | refine ev_step ?_ | refine ops_step ?_ | refine scan_step ?_ | refine draw_step ?_ | refine each_step ?_ | refine sl_step ?_ | refine hp_step ?_ | refine guard_no (by decide) ?_ | refine guard_go ?_ | refine guard_old ?_ | apply cut_auto | with_reducible exact CutS.mk (Or.inl ⟨rfl, rfl, rfl⟩) | refine CutS.mk (Or.inr (sub_auto ?_)) | exact trivial | refine And.intro ?_ ?_ | (refine cond_split ?_ ?_ <;> intro hq_ <;> first | (exfalso; first | omega | (simp only [d1, d2, d3, d4, cond_true, cond_false, Bool.not_true, Bool.not_false, Bool.and_true, Bool.true_and, Bool.and_false, Bool.false_and, Bool.or_true, Bool.true_or, Bool.or_false, Bool.false_or, Bool.true_eq_false, Bool.false_eq_true, decide_true, decide_false, reduceCtorEq] at hq_; done) | (rw [decide_eq_false_iff_not] at hq_; omega) | (rw [decide_eq_true_eq] at hq_; omega) | (simp only [d1, d2, d3, d4, reduceCtorEq] at hq_; done) | exact Bool.noConfusion (Eq.trans (Eq.symm d1) hq_) | exact Bool.noConfusion (Eq.trans (Eq.symm d2) hq_) | exact Bool.noConfusion (Eq.trans (Eq.symm d3) hq_) | exact Bool.noConfusion (Eq.trans (Eq.symm d4) hq_)) | skip) | apply guess | apply FnIs.useF (ks2) | apply FnIs.useF (kt) | apply FnIs.useS (kv) | apply FnIs.useS (kl) | apply FnIs.useS (kf) | exact Or.inl rfl | exact Or.inr rfl | exact Side.mk trivial | exact Side.mk (fun h => h) | exact Side.mk (fun h => ⟨h, h⟩) | with_reducible exact Side.mk rfl | with_reducible exact Side.mk ⟨rfl, rfl⟩ | with_reducible exact Side.mk (by assumption) | with_reducible rfl | intro _)
    all_goals try (conv => whnf)
    all_goals try (refine Side.mk ?_; first | (intros; omega) | (intro h1_ h2_; rw [h1_, h2_]; rfl) | (show List.length (_ ++ _) ≤ _; simp only [List.length_append, List.length_cons, List.length_nil, List.length_replicate, List.length_take]; omega) | (simp_all; done) | (simp_all; omega))
    all_goals first | rfl | exact d5 | exact d5.symm | trace_state
  · rw [show (decide (48 < (bs.length : Int)) || decide (48 < (cs.length : Int))) = true by rw [Bool.or_eq_true, decide_eq_true_eq, decide_eq_true_eq]; omega] at k0
    repeat' ((conv => whnf); first | done | refine ev_step ?_ | refine ops_step ?_ | refine scan_step ?_ | refine draw_step ?_ | refine each_step ?_ | refine sl_step ?_ | refine hp_step ?_ | refine guard_no (by decide) ?_ | refine guard_go ?_ | refine guard_old ?_ | apply cut_auto | with_reducible exact CutS.mk (Or.inl ⟨rfl, rfl, rfl⟩) | refine CutS.mk (Or.inr (sub_auto ?_)) | exact trivial | refine And.intro ?_ ?_ | (refine cond_split ?_ ?_ <;> intro _ <;> first | (exfalso; first | omega | (simp only [decide_eq_true_eq, decide_eq_false_iff_not, Bool.not_eq_true', Bool.not_eq_false', ne_eq, Bool.not_true, Bool.not_false, cond_true, cond_false, Bool.true_eq_false, Bool.false_eq_true, Bool.and_eq_true, Bool.and_eq_false_iff] at *; omega)) | skip) | apply guess | apply FnIs.useF (k0) | exact Or.inl rfl | exact Or.inr rfl | exact Side.mk trivial | exact Side.mk (fun h => h) | exact Side.mk (fun h => ⟨h, h⟩) | with_reducible exact Side.mk rfl | with_reducible exact Side.mk ⟨rfl, rfl⟩ | with_reducible exact Side.mk (by assumption) | with_reducible rfl | intro _)
    all_goals try (conv => whnf)
    all_goals first | rfl | trace_state
end Go.Sx.U
