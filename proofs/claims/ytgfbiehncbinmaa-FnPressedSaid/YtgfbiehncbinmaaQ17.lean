/-
  FnPressed, as a contract.
-/
import Derived.Test.YtgfbiehncbinmaaQ16
import Derived.Test.YtgfbiehncbinmaaKH
set_option linter.unusedSimpArgs false
namespace Go.Sx
set_option linter.unusedVariables false
set_option linter.unusedSimpArgs false
set_option maxRecDepth 100000
set_option maxHeartbeats 8000000
open Go
variable {P : Program} {N : Nat} {G : Heap}
/-- A drawn list of records, told as an object of its own. -/
theorem FnEx.cutB {f : Nat} {args : List AV} {id n : Nat} {p : Bool × List R4 × List R4 → Prop} (h : FnEx P f args N G p (fun a => cond a.1 (.sl id []) (.sub id [] 0 a.2.1.length none)) n (fun a => [(id, .flat true (.r4 (cond a.1 a.2.1 a.2.2)))]))
    (hp : ∀ a, p a → a.1 = false → a.2.1.length ≤ a.2.2.length ∧ a.2.2.take a.2.1.length = a.2.1) {q : List R4 → Prop} (hq : ∀ a, p a → q a.2.1) :
    FnEx P f args N G q (fun _ => .sl n []) (n + 1) (fun xs => [(n, .flat true (.r4 xs))]) := by
  refine ⟨⟨h.call.ok, fun ρ w cargs hH hv => (h.call.run ρ w cargs hH hv).mono fun e w' ⟨v, he, hout⟩ => ⟨v, he, ?_⟩⟩⟩
  obtain ⟨av, ρ', N', G', ⟨⟨b, xs, ys⟩, ha, rfl, rfl, rfl⟩, h2, h3, h4, h5, h6, h7⟩ := hout.ex
  simp only at h2 h3 h7
  have ho : hget [(id, AObj.flat true (.r4 (cond b xs ys)))] id = some (.flat true (.r4 (cond b xs ys))) := by simp [hget]
  have hdl : hdel [(id, AObj.flat true (.r4 (cond b xs ys)))] id = [] := by simp [hdel]
  have hf : (Flat.r4 xs).n ≤ (Flat.r4 (cond b xs ys)).n ∧ ∀ i, i < (Flat.r4 xs).n → ∀ j, j < (Flat.r4 (cond b xs ys)).sz → (Flat.r4 xs).cell i j = (Flat.r4 (cond b xs ys)).cell i j := by
    cases b with
    | true => exact ⟨Nat.le_refl _, fun _ _ _ _ => rfl⟩
    | false =>
      obtain ⟨q1, q2⟩ := hp _ ha rfl
      simp only at q1 q2
      refine ⟨q1, fun i hi j _ => ?_⟩
      simp only [Flat.n] at hi
      have : xs.getD i default = ys.getD i default := by
        conv => lhs; rw [← q2]
        simp only [List.getD, List.getElem?_take, hi, if_true]
      simp only [Flat.cell, cond_false, this]
  obtain ⟨k1, k2⟩ := h3.cut (f' := .r4 xs) ho hf.1 rfl hf.2
  rw [hdl] at k1 k2
  have hρ := updR_lt ρ' N' (fun _ => (⟨(ρ' id []).b, (ρ' id []).o, (ρ' id []).sz, (Flat.r4 xs).n, (ρ' id []).tot⟩ : Blk))
  refine ⟨⟨_, _, _, _, ⟨xs, hq _ ha, rfl, rfl, rfl⟩, ?_, k1, Nat.le_succ_of_le h4, fun i hi => (hρ i (Nat.lt_of_lt_of_le hi h4)).trans (h5 i hi), h6, fun b hb => h7 b (k2 b hb)⟩⟩
  cases b with
  | true =>
    simp only [VR, updR_at, cond_true] at h2 ⊢
    obtain ⟨_, A, c, rfl, hsl⟩ := h2
    have hs := (h3.shape id [] _ _ (NodeAt.of_get ho rfl)).2.1
    have hs : (ρ' id []).n = (Flat.r4 xs).n := hs
    exact ⟨Nat.lt_succ_self _, A, c, by rw [hs], by rw [← hs]; exact hsl⟩
  | false =>
    simp only [VR, updR_at, cond_false] at h2 ⊢
    obtain ⟨_, A, c, rfl, hsl, _⟩ := h2
    exact ⟨Nat.lt_succ_self _, A, c, rfl, hsl⟩
end Go.Sx
namespace Go.Sx.U
open Go Go.Sx Go.Sx.M9 Go.Proofs

theorem k_Shapes (bs : List Int) (h : Side (bytesOk bs)) : FnEx Try.prog 34 [.sl 0 []] 1 [(0, .flat false (.ints .u8 bs))] (fun xs : List R4 => Drawn xs) (fun _ => .sl 2 []) 3 (fun xs => [(2, .flat true (.r4 xs))]) :=
  (k_B10Shapes bs h).cutB (fun _ ha => ha.2) fun _ ha => ha.1
theorem asP {p : Prop} [Decidable p] (h : decide p = true) : p := of_decide_eq_true h
theorem k_AreB (zs : List R4) (h : Side (zs.length ≤ 1048577 ∧ okShapes zs = true)) : FnIs Try.prog 37 [.sl 0 []] 1 [(0, .flat false (.r4 zs))] (.bool true) 1 [] := by
  have k := c52 zs ⟨h.h.1⟩
  rw [h.h.2] at k
  exact k
theorem k_PressEx (zs : List R4) (ap : Int) (h : Side (zs.length ≤ 1048577 ∧ (press? ap zs).isSome = true)) : FnEx Try.prog 36 [.sl 0 [], .int .i64 ap] 1 [(0, .flat false (.r4 zs))] (fun ys : List R4 => press? ap zs = some ys) (fun _ => .tuple [.sl 1 [], .bool true]) 2 (fun ys => [(1, .flat true (.r4 ys))]) := by
  have k := c58 zs ap ⟨h.h.1⟩
  obtain ⟨ys, hy⟩ := Option.isSome_iff_exists.1 h.h.2
  rw [hy] at k
  exact k.ex ys hy
set_option maxHeartbeats 4000000 in
set_option maxRecDepth 100000 in
theorem k_FnPressed (bs cs : List Int) (hp : Side ((bs.length ≤ 9223372036854775807 ∧ ∀ k ∈ bs, 0 ≤ k ∧ k ≤ 255) ∧ cs.length ≤ 9223372036854775807 ∧ ∀ k ∈ cs, 0 ≤ k ∧ k ≤ 255)) : FnIs Try.prog 7 [.sl 0 [], .sl 1 []] 2 [(1, .flat false (.ints .u8 cs)), (0, .flat false (.ints .u8 bs))] (.bool true) 2 [] := by
  obtain ⟨⟨b1, b2⟩, c1, c2⟩ := hp.h
  have k0 := k_b10Long bs cs ⟨⟨b1, c1⟩⟩
  refine fn_of_evk [0, 1, 4, 5, 6, 7, 8, 9, 10, 11, 12, 13, 14, 15, 16, 17, 18, 21, 86, 90, 141, 145, 194] tok Try.func7 rfl rfl rfl ?_
  by_cases hl : bs.length ≤ 1048576 ∧ cs.length ≤ 1048576
  · rw [show (decide (1048576 < (bs.length : Int)) || decide (1048576 < (cs.length : Int))) = false by rw [Bool.or_eq_false_iff, decide_eq_false_iff_not, decide_eq_false_iff_not]; omega] at k0
    have hb : bytesOk bs := ⟨by omega, b2⟩
    have hc : bytesOk cs := ⟨by omega, c2⟩
    repeat' ((conv => whnf); first | done | refine ev_step ?_ | refine ops_step ?_ | refine scan_step ?_ | refine draw_step ?_ | refine each_step ?_ | refine sl_step ?_ | refine hp_step ?_ | refine guard_no (by decide) ?_ | refine guard_go ?_ | apply cut_auto | with_reducible exact CutS.mk (Or.inl ⟨rfl, rfl, rfl⟩) | refine CutS.mk (Or.inr (sub_auto ?_)) | exact trivial | refine And.intro ?_ ?_ | (refine cond_split ?_ ?_ <;> intro _ <;> first | (exfalso; first | omega | (simp only [decide_eq_true_eq, decide_eq_false_iff_not, Bool.not_eq_true', Bool.not_eq_false', ne_eq, Bool.not_true, Bool.not_false, cond_true, cond_false, Bool.true_eq_false, Bool.false_eq_true, Bool.and_eq_true, Bool.and_eq_false_iff] at *; omega)) | skip) | apply guess | apply FnIs.useF (k0) | apply FnEx.useF (k_Shapes bs ⟨hb⟩) | apply FnEx.useF (k_b10At cs _ _ _) | exact Or.inl rfl | exact Or.inr rfl | exact Side.mk trivial | exact Side.mk (fun h => h) | exact Side.mk (fun h => ⟨h, h⟩) | with_reducible exact Side.mk rfl | with_reducible exact Side.mk ⟨rfl, rfl⟩ | with_reducible exact Side.mk (by assumption) | with_reducible rfl | intro _)
    all_goals try (conv => whnf)
    all_goals try exact Side.mk ⟨hc, by omega, by omega, by omega, by omega⟩
    rename_i xs hx ap hap
    obtain ⟨L, hP⟩ := pressed hx hap.1 (by omega)
    have hlen := hx.len
    have hml := moved_len xs L
    have k1 := c55 xs ap ⟨by omega⟩
    rw [hP.sh, if_pos rfl, if_pos rfl] at k1
    have hrl := rulesR_len ap xs xs.length
    have hr2 : xs.length * xs.length ≤ 7 * 7 := Nat.mul_le_mul hlen hlen
    have k3 := c28 xs.length (rulesR ap xs xs.length) ⟨by unfold inI64; omega, by omega⟩
    rw [hP.lp] at k3
    have hA : ∀ ys, press? ap xs = some ys → ys = moved xs L := fun ys h => by rw [hP.pr] at h; injection h with h; exact h.symm
    have hB : ∀ ys, press? ap (moved xs L) = some ys → ys = moved xs L := fun ys h => by rw [hP.ag] at h; injection h with h; exact h.symm
    have hA2 : ∀ ys, press? ap xs = some ys → ys.length ≤ 1048577 ∧ okShapes ys = true := fun ys h => by rw [hA ys h]; exact ⟨by omega, hP.ok2⟩
    have hA3 : ∀ ys, press? ap xs = some ys → ys.length ≤ 1048577 ∧ (press? ap ys).isSome = true := fun ys h => by rw [hA ys h]; exact ⟨by omega, by rw [hP.ag]; rfl⟩
    repeat' ((conv => whnf); first | done | refine ev_step ?_ | refine ops_step ?_ | refine scan_step ?_ | refine draw_step ?_ | refine each_step ?_ | refine sl_step ?_ | refine hp_step ?_ | refine guard_no (by decide) ?_ | refine guard_go ?_ | apply cut_auto | with_reducible exact CutS.mk (Or.inl ⟨rfl, rfl, rfl⟩) | refine CutS.mk (Or.inr (sub_auto ?_)) | exact trivial | refine And.intro ?_ ?_ | (refine cond_split ?_ ?_ <;> intro _ <;> first | (exfalso; first | omega | (simp only [decide_eq_true_eq, decide_eq_false_iff_not, Bool.not_eq_true', Bool.not_eq_false', ne_eq, Bool.not_true, Bool.not_false, cond_true, cond_false, Bool.true_eq_false, Bool.false_eq_true, Bool.and_eq_true, Bool.and_eq_false_iff] at *; omega)) | skip) | apply guess | apply FnIs.useF (k1) | apply FnEx.useF (k_PressEx _ _ _) | apply FnIs.useF (k3) | apply FnIs.useS (k_AreB _ _) | exact Or.inl rfl | exact Or.inr rfl | exact Side.mk trivial | exact Side.mk (fun h => h) | exact Side.mk (fun h => ⟨h, h⟩) | with_reducible exact Side.mk rfl | with_reducible exact Side.mk ⟨rfl, rfl⟩ | with_reducible exact Side.mk (by assumption) | with_reducible rfl | intro _)
    all_goals try (conv => whnf)
    all_goals try exact Side.mk ⟨by omega, hP.ok1⟩
    all_goals try exact Side.mk ⟨by omega, by rw [hP.pr]; rfl⟩
    all_goals try exact Side.mk (hA2 _ (by assumption))
    all_goals try exact Side.mk (hA3 _ (by assumption))
    · rename_i y1 h1 y2 h2 hq
      obtain rfl := hA y1 h1
      obtain rfl := hB y2 h2
      simp [hml] at hq
    rename_i y1 h1 y2 h2 hq
    obtain rfl := hA y1 h1
    obtain rfl := hB y2 h2
    refine loop_at (fun i : Nat => i ≤ xs.length) 9 (fun i => [(15, .int .i64 i)]) (fun _ => []) (fun i => xs.length - i) 0 (Nat.zero_le _) ?_ (fun i hi => ?_)
    · repeat' ((conv => whnf); first | done | refine ev_step ?_ | refine ops_step ?_ | refine scan_step ?_ | refine draw_step ?_ | refine each_step ?_ | refine sl_step ?_ | refine hp_step ?_ | refine guard_no (by decide) ?_ | refine guard_go ?_ | apply cut_auto | with_reducible exact CutS.mk (Or.inl ⟨rfl, rfl, rfl⟩) | refine CutS.mk (Or.inr (sub_auto ?_)) | exact trivial | refine And.intro ?_ ?_ | refine cond_split ?_ ?_ | apply guess | exact Or.inl rfl | exact Or.inr rfl | exact Side.mk trivial | exact Side.mk (fun h => h) | exact Side.mk (fun h => ⟨h, h⟩) | with_reducible exact Side.mk rfl | with_reducible exact Side.mk ⟨rfl, rfl⟩ | with_reducible exact Side.mk (by assumption) | with_reducible rfl | intro _)
      all_goals try (conv => whnf)
      all_goals first | rfl | trace_state
    · by_cases hlt : i < xs.length
      · have em : (moved xs L).getD (i : Int).toNat default = movedAt xs L i := by rw [Int.toNat_natCast]; exact moved_get hlt
        have ei : xs.getD (i : Int).toNat default = xs.getD i default := by rw [Int.toNat_natCast]
        have eL : ((some L).getD []).getD (i : Int).toNat 0 = L.getD i 0 := by rw [Int.toNat_natCast]; rfl
        have hLl : ((some L).getD []).length = xs.length := hP.ll
        have si := hx.small i hlt
        have bi := hP.bd i
        repeat' ((conv => whnf); first | done | refine ev_step ?_ | refine ops_step ?_ | refine scan_step ?_ | refine draw_step ?_ | refine each_step ?_ | refine sl_step ?_ | refine hp_step ?_ | refine guard_no (by decide) ?_ | refine guard_go ?_ | apply cut_auto | with_reducible exact CutS.mk (Or.inl ⟨rfl, rfl, rfl⟩) | refine CutS.mk (Or.inr (sub_auto ?_)) | exact trivial | refine And.intro ?_ ?_ | (refine cond_split ?_ ?_ <;> intro _ <;> first | (exfalso; first | omega | (simp only [decide_eq_true_eq, decide_eq_false_iff_not, Bool.not_eq_true', Bool.not_eq_false', ne_eq, Bool.not_true, Bool.not_false, cond_true, cond_false, Bool.true_eq_false, Bool.false_eq_true, Bool.and_eq_true, Bool.and_eq_false_iff] at *; omega)) | skip) | apply guess | exact Or.inl rfl | exact Or.inr rfl | exact Side.mk trivial | exact Side.mk (fun h => h) | exact Side.mk (fun h => ⟨h, h⟩) | with_reducible exact Side.mk rfl | with_reducible exact Side.mk ⟨rfl, rfl⟩ | with_reducible exact Side.mk (by assumption) | with_reducible rfl | intro _)
        all_goals try (conv => whnf)
        all_goals try (refine Side.mk ?_; first | (intros; omega) | (show List.length (_ ++ _) ≤ _; simp only [List.length_append, List.length_cons, List.length_nil, List.length_replicate, List.length_take]; omega) | (simp_all; done) | (simp_all; omega))
        all_goals try (refine Side.mk fun _ => ?_; rw [em]; simp only [movedAt]; unfold inI64; omega)
        · rename_i hq
          exfalso
          rw [em, ei, eL] at hq
          simp [movedAt] at hq
        refine loop_at (fun k : Nat => k ≤ xs.length) 10 (fun k => [(17, .int .i64 k)]) (fun _ => []) (fun k => xs.length - k) 0 (Nat.zero_le _) ?_ (fun k hk => ?_)
        · repeat' ((conv => whnf); first | done | refine ev_step ?_ | refine ops_step ?_ | refine scan_step ?_ | refine draw_step ?_ | refine each_step ?_ | refine sl_step ?_ | refine hp_step ?_ | refine guard_no (by decide) ?_ | refine guard_go ?_ | apply cut_auto | with_reducible exact CutS.mk (Or.inl ⟨rfl, rfl, rfl⟩) | refine CutS.mk (Or.inr (sub_auto ?_)) | exact trivial | refine And.intro ?_ ?_ | refine cond_split ?_ ?_ | apply guess | exact Or.inl rfl | exact Or.inr rfl | exact Side.mk trivial | exact Side.mk (fun h => h) | exact Side.mk (fun h => ⟨h, h⟩) | with_reducible exact Side.mk rfl | with_reducible exact Side.mk ⟨rfl, rfl⟩ | with_reducible exact Side.mk (by assumption) | with_reducible rfl | intro _)
          all_goals try (conv => whnf)
          all_goals first | rfl | trace_state
        · by_cases hkt : k < xs.length
          · have em2 : (moved xs L).getD (k : Int).toNat default = movedAt xs L k := by rw [Int.toNat_natCast]; exact moved_get hkt
            have ei2 : xs.getD (k : Int).toNat default = xs.getD k default := by rw [Int.toNat_natCast]
            have sk := hx.small k hkt
            have bk := hP.bd k
            repeat' ((conv => whnf); first | done | refine ev_step ?_ | refine ops_step ?_ | refine scan_step ?_ | refine draw_step ?_ | refine each_step ?_ | refine sl_step ?_ | refine hp_step ?_ | refine guard_no (by decide) ?_ | refine guard_go ?_ | apply cut_auto | with_reducible exact CutS.mk (Or.inl ⟨rfl, rfl, rfl⟩) | refine CutS.mk (Or.inr (sub_auto ?_)) | exact trivial | refine And.intro ?_ ?_ | (refine cond_split ?_ ?_ <;> intro _ <;> first | (exfalso; first | omega | (simp only [decide_eq_true_eq, decide_eq_false_iff_not, Bool.not_eq_true', Bool.not_eq_false', ne_eq, Bool.not_true, Bool.not_false, cond_true, cond_false, Bool.true_eq_false, Bool.false_eq_true, Bool.and_eq_true, Bool.and_eq_false_iff] at *; omega)) | skip) | apply guess | exact Or.inl rfl | exact Or.inr rfl | exact Side.mk trivial | exact Side.mk (fun h => h) | exact Side.mk (fun h => ⟨h, h⟩) | with_reducible exact Side.mk rfl | with_reducible exact Side.mk ⟨rfl, rfl⟩ | with_reducible exact Side.mk (by assumption) | with_reducible rfl | intro _)
            all_goals try (conv => whnf)
            all_goals try (refine Side.mk ?_; first | (intros; omega) | (show List.length (_ ++ _) ≤ _; simp only [List.length_append, List.length_cons, List.length_nil, List.length_replicate, List.length_take]; omega) | (simp_all; done) | (simp_all; omega))
            all_goals try (refine Side.mk fun _ => ?_; rw [em2]; simp only [movedAt]; unfold inI64; omega)
            all_goals try (refine Side.mk fun _ => ?_; rw [em]; simp only [movedAt]; unfold inI64; omega)
            · rename_i hq
              exfalso
              rw [em, em2, ei, ei2] at hq
              simp only [movedAt, Bool.cond_false_right, Bool.and_eq_true, decide_eq_true_eq] at hq
              obtain ⟨⟨⟨q1, q2⟩, q3⟩, q4⟩ := hq
              replace q2 := asP q2
              replace q3 := asP q3
              replace q4 := asP q4
              have := hP.far i k hlt hkt q1 (by
                unfold meet1
                rw [decide_eq_true q2, decide_eq_true q3]
                rfl)
              omega
            refine ⟨k + 1, by omega, by omega, ?_⟩
            repeat' ((conv => whnf); first | done | refine ev_step ?_ | refine ops_step ?_ | refine scan_step ?_ | refine draw_step ?_ | refine each_step ?_ | refine sl_step ?_ | refine hp_step ?_ | refine guard_no (by decide) ?_ | refine guard_go ?_ | apply cut_auto | with_reducible exact CutS.mk (Or.inl ⟨rfl, rfl, rfl⟩) | refine CutS.mk (Or.inr (sub_auto ?_)) | exact trivial | refine And.intro ?_ ?_ | refine cond_split ?_ ?_ | apply guess | exact Or.inl rfl | exact Or.inr rfl | exact Side.mk trivial | exact Side.mk (fun h => h) | exact Side.mk (fun h => ⟨h, h⟩) | with_reducible exact Side.mk rfl | with_reducible exact Side.mk ⟨rfl, rfl⟩ | with_reducible exact Side.mk (by assumption) | with_reducible rfl | intro _)
            all_goals try (conv => whnf)
            all_goals first | rfl | omega | trace_state
          · repeat' ((conv => whnf); first | done | refine ev_step ?_ | refine ops_step ?_ | refine scan_step ?_ | refine draw_step ?_ | refine each_step ?_ | refine sl_step ?_ | refine hp_step ?_ | refine guard_no (by decide) ?_ | refine guard_go ?_ | apply cut_auto | with_reducible exact CutS.mk (Or.inl ⟨rfl, rfl, rfl⟩) | refine CutS.mk (Or.inr (sub_auto ?_)) | exact trivial | refine And.intro ?_ ?_ | (refine cond_split ?_ ?_ <;> intro _ <;> first | (exfalso; first | omega | (simp only [decide_eq_true_eq, decide_eq_false_iff_not, Bool.not_eq_true', Bool.not_eq_false', ne_eq, Bool.not_true, Bool.not_false, cond_true, cond_false, Bool.true_eq_false, Bool.false_eq_true, Bool.and_eq_true, Bool.and_eq_false_iff] at *; omega)) | skip) | apply guess | exact Or.inl rfl | exact Or.inr rfl | exact Side.mk trivial | exact Side.mk (fun h => h) | exact Side.mk (fun h => ⟨h, h⟩) | with_reducible exact Side.mk rfl | with_reducible exact Side.mk ⟨rfl, rfl⟩ | with_reducible exact Side.mk (by assumption) | with_reducible rfl | intro _)
            all_goals try (conv => whnf)
            all_goals try (refine Side.mk ?_; first | (intros; omega) | (show List.length (_ ++ _) ≤ _; simp only [List.length_append, List.length_cons, List.length_nil, List.length_replicate, List.length_take]; omega) | (simp_all; done) | (simp_all; omega))
            all_goals try omega
            refine ⟨i + 1, by omega, by omega, ?_⟩
            repeat' ((conv => whnf); first | done | refine ev_step ?_ | refine ops_step ?_ | refine scan_step ?_ | refine draw_step ?_ | refine each_step ?_ | refine sl_step ?_ | refine hp_step ?_ | refine guard_no (by decide) ?_ | refine guard_go ?_ | apply cut_auto | with_reducible exact CutS.mk (Or.inl ⟨rfl, rfl, rfl⟩) | refine CutS.mk (Or.inr (sub_auto ?_)) | exact trivial | refine And.intro ?_ ?_ | refine cond_split ?_ ?_ | apply guess | exact Or.inl rfl | exact Or.inr rfl | exact Side.mk trivial | exact Side.mk (fun h => h) | exact Side.mk (fun h => ⟨h, h⟩) | with_reducible exact Side.mk rfl | with_reducible exact Side.mk ⟨rfl, rfl⟩ | with_reducible exact Side.mk (by assumption) | with_reducible rfl | intro _)
            all_goals try (conv => whnf)
            all_goals first | rfl | omega | trace_state
      · repeat' ((conv => whnf); first | done | refine ev_step ?_ | refine ops_step ?_ | refine scan_step ?_ | refine draw_step ?_ | refine each_step ?_ | refine sl_step ?_ | refine hp_step ?_ | refine guard_no (by decide) ?_ | refine guard_go ?_ | apply cut_auto | with_reducible exact CutS.mk (Or.inl ⟨rfl, rfl, rfl⟩) | refine CutS.mk (Or.inr (sub_auto ?_)) | exact trivial | refine And.intro ?_ ?_ | (refine cond_split ?_ ?_ <;> intro _ <;> first | (exfalso; first | omega | (simp only [decide_eq_true_eq, decide_eq_false_iff_not, Bool.not_eq_true', Bool.not_eq_false', ne_eq, Bool.not_true, Bool.not_false, cond_true, cond_false, Bool.true_eq_false, Bool.false_eq_true, Bool.and_eq_true, Bool.and_eq_false_iff] at *; omega)) | skip) | apply guess | exact Or.inl rfl | exact Or.inr rfl | exact Side.mk trivial | exact Side.mk (fun h => h) | exact Side.mk (fun h => ⟨h, h⟩) | with_reducible exact Side.mk rfl | with_reducible exact Side.mk ⟨rfl, rfl⟩ | with_reducible exact Side.mk (by assumption) | with_reducible rfl | intro _)
        all_goals try (conv => whnf)
        all_goals first | rfl | omega | trace_state
  · rw [show (decide (1048576 < (bs.length : Int)) || decide (1048576 < (cs.length : Int))) = true by rw [Bool.or_eq_true, decide_eq_true_eq, decide_eq_true_eq]; omega] at k0
    repeat' ((conv => whnf); first | done | refine ev_step ?_ | refine ops_step ?_ | refine scan_step ?_ | refine draw_step ?_ | refine each_step ?_ | refine sl_step ?_ | refine hp_step ?_ | refine guard_no (by decide) ?_ | refine guard_go ?_ | apply cut_auto | with_reducible exact CutS.mk (Or.inl ⟨rfl, rfl, rfl⟩) | refine CutS.mk (Or.inr (sub_auto ?_)) | exact trivial | refine And.intro ?_ ?_ | (refine cond_split ?_ ?_ <;> intro _ <;> first | (exfalso; first | omega | (simp only [decide_eq_true_eq, decide_eq_false_iff_not, Bool.not_eq_true', Bool.not_eq_false', ne_eq, Bool.not_true, Bool.not_false, cond_true, cond_false, Bool.true_eq_false, Bool.false_eq_true, Bool.and_eq_true, Bool.and_eq_false_iff] at *; omega)) | skip) | apply guess | apply FnIs.useF (k0) | exact Or.inl rfl | exact Or.inr rfl | exact Side.mk trivial | exact Side.mk (fun h => h) | exact Side.mk (fun h => ⟨h, h⟩) | with_reducible exact Side.mk rfl | with_reducible exact Side.mk ⟨rfl, rfl⟩ | with_reducible exact Side.mk (by assumption) | with_reducible rfl | intro _)
    all_goals try (conv => whnf)
    all_goals first | rfl | trace_state
end Go.Sx.U
