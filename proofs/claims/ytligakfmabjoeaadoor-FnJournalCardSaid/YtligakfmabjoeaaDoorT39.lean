/-
  Chapter 11: drawn lines for a desk (contract).
-/
import Derived.Test.YtligakfmabjoeaaDoorT38
import Derived.Test.YtligakfmabjoeaaDoorT34
import Derived.Test.YtligakfmabjoeaaDoorT36
set_option linter.unusedSimpArgs false
namespace Go.Sx.U
set_option linter.unusedVariables false
set_option linter.unusedSimpArgs false
set_option maxRecDepth 100000
set_option maxHeartbeats 8000000
open Go Go.Sx Go.Proofs

theorem dec12 {n : Int} (h1 : 0 ≤ n) (h2 : n ≤ 12) : (decB n).size ≤ 2 := by
  rw [← bl_len, decB_bl, Lib.itoa, if_neg (by omega), Lib.decDigits]
  split
  · simp
  · rw [Lib.decDigits, dif_pos (by omega)]; simp
theorem numText12 {xs : List Int} (h : rngI 12 xs) : (numText xs).size ≤ xs.length * 3 + 4 := by
  unfold numText
  cases xs.isEmpty with
  | true => have : noneT.size = 4 := rfl
            simp only [cond_true]; omega
  | false =>
    have h1 := joinB_le (sep := cma) (m := 2) (by decide) (xs.map decB) (fun x hx => by obtain ⟨p, hp, rfl⟩ := List.mem_map.1 hx; exact dec12 (h p hp).1 (h p hp).2)
    rw [List.length_map] at h1
    simp only [cond_false]; omega
theorem okS_app {a b : Nat} {s t : ByteArray} (h1 : okS a s) (h2 : okS b t) : okS (a + b) (s ++ t) := by
  refine ⟨?_, ?_⟩
  · have := h1.1; have := h2.1
    rw [bl_size_app]; omega
  · rw [nlB_app, h1.2, h2.2]; rfl
theorem okS_mono {a b : Nat} {s : ByteArray} (h : okS a s) (hm : a ≤ b) : okS b s := ⟨Nat.le_trans h.1 hm, h.2⟩
theorem okS_pt {m : Nat} {xs : List R2} (h1 : xs.length ≤ m) (h2 : ∀ r ∈ xs, inI64 r.a ∧ inI64 r.b) : okS (m * 44 + 4) (ptText xs) := ⟨by have := ptText_le h2; omega, ptText_ok xs⟩
theorem okS_num {m : Nat} {xs : List Int} (h1 : xs.length ≤ m) (h2 : rngI 12 xs) : okS (m * 3 + 4) (numText xs) := ⟨by have := numText12 h2; omega, numText_ok xs⟩
theorem okS_dec {n : Int} (h : inI64 n) : okS 22 (decB n) := ⟨by have := decB_le n h.1 h.2; omega, nlB_dec n⟩
theorem pts64 {xs : List R2} (h : inPts xs) : ∀ r ∈ xs, inI64 r.a ∧ inI64 r.b := fun r hr => by
  have := h r hr
  refine ⟨⟨?_, ?_⟩, ?_, ?_⟩ <;> omega
theorem near64 {xs : List R2} (h : nearPts xs) : ∀ r ∈ xs, inI64 r.a ∧ inI64 r.b := fun r hr => by
  have := h r hr
  unfold nearI at this
  refine ⟨⟨?_, ?_⟩, ?_, ?_⟩ <;> omega
theorem rng64 {xs : List Int} (h : rngI 12 xs) : ∀ r ∈ xs, inI64 r := fun r hr => by
  have := h r hr
  refine ⟨?_, ?_⟩ <;> omega
theorem lit_sp : okS 1 ⟨#[32]⟩ := ⟨by decide, by decide⟩
theorem lit_set : okS 4 ⟨#[115, 101, 116, 32]⟩ := ⟨by decide, by decide⟩
theorem lit_path : okS 5 ⟨#[112, 97, 116, 104, 32]⟩ := ⟨by decide, by decide⟩
theorem lit_more : okS 5 ⟨#[109, 111, 114, 101, 32]⟩ := ⟨by decide, by decide⟩
theorem lit_draw : okS 5 ⟨#[100, 114, 97, 119, 32]⟩ := ⟨by decide, by decide⟩
theorem lit_sl : okS 1 ⟨#[47]⟩ := ⟨by decide, by decide⟩
set_option maxHeartbeats 8000000 in
theorem k_DrawLine (bs : List Int) (st : Int × Int) (N : List ByteArray) (h : Side (bytesOk bs ∧ stOk st ∧ st.1 ≤ 998000 ∧ okN N)) : FnEx Tryd.prog 34 [.ptr 0 [] 0 0, .ptr 2 [] 0 0] 5 [(0, srcO 1 st), (1, .flat false (.ints .u8 bs)), (2, dBox false 3 4), (3, .flat false (.strs N)), (4, .flat false (.tops N.length))]
    (fun a : ByteArray × Int × Int => okS 640 a.1 ∧ stGe st 400 a.2) (fun a => .str a.1) 5 (fun a => [(0, srcO 1 a.2)]) := by
  obtain ⟨h1, h2, h3, h4⟩ := h.h
  refine ex_of_evk [] tok Tryd.func34 rfl rfl rfl ?_
  by_cases hN : decide ((0 : Int) < (N.length : Int)) = true
  · have hN1 : 1 ≤ N.length := by have := of_decide_eq_true hN; omega
    repeat' ((conv => whnf); first | done | refine ev_step ?_ | refine ops_step ?_ | refine scan_step ?_ | refine draw_step ?_ | refine each_step ?_ | refine sl_step ?_ | refine hp_step ?_ | refine guard_yes hN ?_ | refine guard_no (by decide) ?_ | refine guard_go ?_ | refine guard_old ?_ | apply cut_auto | with_reducible exact CutS.mk (Or.inl ⟨rfl, rfl, rfl⟩) | refine CutS.mk (Or.inr (Or.inl (sub_auto ?_))) | exact trivial | refine And.intro ?_ ?_ | (refine cond_split ?_ ?_ <;> intro _ <;> first | (exfalso; first | omega | (simp only [decide_eq_true_eq, decide_eq_false_iff_not, Bool.not_eq_true', Bool.not_eq_false', ne_eq, Bool.not_true, Bool.not_false, cond_true, cond_false, Bool.true_eq_false, Bool.false_eq_true, Bool.and_eq_true, Bool.and_eq_false_iff] at *; omega)) | skip) | apply guess | apply FnEx.useF (k_text bs _ _ _) | apply FnEx.useF (k_oneJ bs _ _ _) | exact Or.inl rfl | exact Or.inr rfl | exact Side.mk trivial | exact Side.mk (fun h => h) | exact Side.mk (fun h => ⟨h, h⟩) | with_reducible exact Side.mk rfl | with_reducible exact Side.mk ⟨rfl, rfl⟩ | with_reducible exact Side.mk (by assumption) | with_reducible rfl | intro _)
    all_goals try (conv => whnf)
    all_goals try (refine Side.mk ⟨h1, ?_⟩; simp only [stOk, stGe, List.length_cons, List.length_nil] at *; omega)
    · rename_i n0 hn0 o ho hq nm hnm fr hfr
      obtain ⟨n1, n2⟩ := hnm
      have n3 : okS 8 nm.1 := h4.2 _ n1
      clear hq n1
      obtain ⟨f1, f2⟩ := hfr
      have f3 : okS 8 fr.1 := okS_mem (by decide) f1
      clear f1
      repeat' ((conv => whnf); first | done | refine ev_step ?_ | refine ops_step ?_ | refine scan_step ?_ | refine draw_step ?_ | refine each_step ?_ | refine sl_step ?_ | refine hp_step ?_ | refine guard_no (by decide) ?_ | refine guard_go ?_ | refine guard_old ?_ | apply cut_auto | with_reducible exact CutS.mk (Or.inl ⟨rfl, rfl, rfl⟩) | refine CutS.mk (Or.inr (Or.inl (sub_auto ?_))) | exact trivial | refine And.intro ?_ ?_ | (refine cond_split ?_ ?_ <;> intro _ <;> first | (exfalso; first | omega | (simp only [decide_eq_true_eq, decide_eq_false_iff_not, Bool.not_eq_true', Bool.not_eq_false', ne_eq, Bool.not_true, Bool.not_false, cond_true, cond_false, Bool.true_eq_false, Bool.false_eq_true, Bool.and_eq_true, Bool.and_eq_false_iff] at *; omega)) | skip) | apply guess | apply FnEx.useF (k_text bs _ _ _) | apply FnEx.useF (k_pick bs _ _ _) | apply FnIs.useF (k_l01Dec _ _) | apply FnEx.useF (k_DrawPins bs _ _) | apply FnIs.useF (k_PText _ _) | apply FnEx.useF (k_DrawPath bs _ _) | apply FnEx.useF (k_DrawChan bs _ _) | apply FnIs.useF (k_CText _ _ _) | exact Or.inl rfl | exact Or.inr rfl | exact Side.mk trivial | exact Side.mk (fun h => h) | exact Side.mk (fun h => ⟨h, h⟩) | with_reducible exact Side.mk rfl | with_reducible exact Side.mk ⟨rfl, rfl⟩ | with_reducible exact Side.mk (by assumption) | with_reducible rfl | intro _)
      all_goals try (conv => whnf)
      all_goals try (refine Side.mk ⟨h1, ?_⟩; simp only [stOk, stGe, List.length_cons, List.length_nil] at *; omega)
      all_goals try (refine Side.mk ?_; first | (intros; omega) | (intro h1_ h2_; rw [h1_, h2_]; rfl) | (show List.length (_ ++ _) ≤ _; simp only [List.length_append, List.length_cons, List.length_nil, List.length_replicate, List.length_take]; omega) | (simp_all; done) | (simp_all; omega))
      all_goals try exact Side.mk ⟨by omega, by omega⟩
      all_goals try (rename_i z hz; exact Side.mk ⟨by omega, pts64 hz.2.1⟩)
      all_goals try (rename_i z hz; exact Side.mk ⟨by omega, near64 hz.2.1⟩)
      all_goals try (rename_i z hz w hw; obtain ⟨⟨c1, c2, c3, c4, c5⟩, hz2⟩ := hz; dsimp only at c1 c2 c3 c4 c5; exact Side.mk ⟨⟨by omega, rng64 c4⟩, by omega, rng64 c5⟩)
      all_goals try (refine Side.mk ?_; (try simp only [bl_size_app]); simp only [okS, ByteArray.size, List.size_toArray, List.length_cons, List.length_nil, stOk, stGe] at *; omega)
      all_goals try (rename_i z hz; have p1 := okS_pt hz.1 (pts64 hz.2.1); refine Side.mk ?_; (try simp only [bl_size_app]); simp only [okS, ByteArray.size, List.size_toArray, List.length_cons, List.length_nil, stOk, stGe] at *; omega)
      all_goals try (rename_i z hz; have p1 := okS_pt hz.1 (near64 hz.2.1); refine Side.mk ?_; (try simp only [bl_size_app]); simp only [okS, ByteArray.size, List.size_toArray, List.length_cons, List.length_nil, stOk, stGe] at *; omega)
      all_goals try (rename_i z hz; have p1 := okS_dec (n := 1 + z.1) ⟨by omega, by omega⟩; refine Side.mk ?_; (try simp only [bl_size_app]); simp only [okS, ByteArray.size, List.size_toArray, List.length_cons, List.length_nil, stOk, stGe] at *; omega)
      all_goals try (rename_i z hz w hw; have p1 := okS_dec (n := 1 + z.1) ⟨by omega, by omega⟩; have p2 := okS_dec (n := 1 + w.1) ⟨by omega, by omega⟩; refine Side.mk ?_; (try simp only [bl_size_app]); simp only [okS, ByteArray.size, List.size_toArray, List.length_cons, List.length_nil, stOk, stGe] at *; omega)
      all_goals try (rename_i z hz w hw; have p0 := okS_mem (m := 8) (by decide) hw.1; obtain ⟨⟨c1, c2, c3, c4, c5⟩, hz2⟩ := hz; dsimp only at c1 c2 c3 c4 c5; have p1 := okS_num c2 c4; have p2 := okS_num (m := 24) (by omega) c5; refine Side.mk ?_; (try simp only [bl_size_app]); simp only [okS, ByteArray.size, List.size_toArray, List.length_cons, List.length_nil, stOk, stGe] at *; omega)
      all_goals try (rename_i z hz; have p0 := okS_mem (m := 8) (by decide) hz.1; refine Side.mk ?_; (try simp only [bl_size_app]); simp only [okS, ByteArray.size, List.size_toArray, List.length_cons, List.length_nil, stOk, stGe] at *; omega)
      · rename_i z hz
        refine ⟨z, ⟨okS_mem (by decide) hz.1, by simp only [stGe] at *; omega⟩, ?_⟩
        repeat' ((conv => whnf); first | done | refine ev_step ?_ | refine ops_step ?_ | refine scan_step ?_ | refine draw_step ?_ | refine each_step ?_ | refine sl_step ?_ | refine hp_step ?_ | refine guard_no (by decide) ?_ | refine guard_go ?_ | refine guard_old ?_ | apply cut_auto | with_reducible exact CutS.mk (Or.inl ⟨rfl, rfl, rfl⟩) | refine CutS.mk (Or.inr (Or.inl (sub_auto ?_))) | exact trivial | refine And.intro ?_ ?_ | refine cond_split ?_ ?_ | apply guess | exact Or.inl rfl | exact Or.inr rfl | exact Side.mk trivial | exact Side.mk (fun h => h) | exact Side.mk (fun h => ⟨h, h⟩) | with_reducible exact Side.mk rfl | with_reducible exact Side.mk ⟨rfl, rfl⟩ | with_reducible exact Side.mk (by assumption) | with_reducible rfl | intro _)
        all_goals try (conv => whnf)
        all_goals first | rfl | trace_state
      · rename_i z hz
        refine ⟨(_, z.2), ⟨okS_mono (okS_app (okS_app (okS_app lit_set f3) lit_sp) (okS_pt hz.1 (pts64 hz.2.1))) (by decide), by simp only [stGe] at *; omega⟩, ?_⟩
        repeat' ((conv => whnf); first | done | refine ev_step ?_ | refine ops_step ?_ | refine scan_step ?_ | refine draw_step ?_ | refine each_step ?_ | refine sl_step ?_ | refine hp_step ?_ | refine guard_no (by decide) ?_ | refine guard_go ?_ | refine guard_old ?_ | apply cut_auto | with_reducible exact CutS.mk (Or.inl ⟨rfl, rfl, rfl⟩) | refine CutS.mk (Or.inr (Or.inl (sub_auto ?_))) | exact trivial | refine And.intro ?_ ?_ | refine cond_split ?_ ?_ | apply guess | exact Or.inl rfl | exact Or.inr rfl | exact Side.mk trivial | exact Side.mk (fun h => h) | exact Side.mk (fun h => ⟨h, h⟩) | with_reducible exact Side.mk rfl | with_reducible exact Side.mk ⟨rfl, rfl⟩ | with_reducible exact Side.mk (by assumption) | with_reducible rfl | intro _)
        all_goals try (conv => whnf)
        all_goals first | rfl | trace_state
      · rename_i z hz
        refine ⟨(_, z.2), ⟨okS_mono (okS_app (okS_mem (m := 8) (by decide) hz.1) n3) (by decide), by simp only [stGe] at *; omega⟩, ?_⟩
        repeat' ((conv => whnf); first | done | refine ev_step ?_ | refine ops_step ?_ | refine scan_step ?_ | refine draw_step ?_ | refine each_step ?_ | refine sl_step ?_ | refine hp_step ?_ | refine guard_no (by decide) ?_ | refine guard_go ?_ | refine guard_old ?_ | apply cut_auto | with_reducible exact CutS.mk (Or.inl ⟨rfl, rfl, rfl⟩) | refine CutS.mk (Or.inr (Or.inl (sub_auto ?_))) | exact trivial | refine And.intro ?_ ?_ | refine cond_split ?_ ?_ | apply guess | exact Or.inl rfl | exact Or.inr rfl | exact Side.mk trivial | exact Side.mk (fun h => h) | exact Side.mk (fun h => ⟨h, h⟩) | with_reducible exact Side.mk rfl | with_reducible exact Side.mk ⟨rfl, rfl⟩ | with_reducible exact Side.mk (by assumption) | with_reducible rfl | intro _)
        all_goals try (conv => whnf)
        all_goals first | rfl | trace_state
      · rename_i pc hpc q0 q1 q2 q3
        refine ⟨(_, pc.2), ⟨okS_mono (okS_app (okS_app (okS_app lit_path f3) lit_sp) n3) (by decide), by simp only [stGe] at *; omega⟩, ?_⟩
        repeat' ((conv => whnf); first | done | refine ev_step ?_ | refine ops_step ?_ | refine scan_step ?_ | refine draw_step ?_ | refine each_step ?_ | refine sl_step ?_ | refine hp_step ?_ | refine guard_no (by decide) ?_ | refine guard_go ?_ | refine guard_old ?_ | apply cut_auto | with_reducible exact CutS.mk (Or.inl ⟨rfl, rfl, rfl⟩) | refine CutS.mk (Or.inr (Or.inl (sub_auto ?_))) | exact trivial | refine And.intro ?_ ?_ | refine cond_split ?_ ?_ | apply guess | exact Or.inl rfl | exact Or.inr rfl | exact Side.mk trivial | exact Side.mk (fun h => h) | exact Side.mk (fun h => ⟨h, h⟩) | with_reducible exact Side.mk rfl | with_reducible exact Side.mk ⟨rfl, rfl⟩ | with_reducible exact Side.mk (by assumption) | with_reducible rfl | intro _)
        all_goals try (conv => whnf)
        all_goals first | rfl | trace_state
      · rename_i pc hpc q0 q1 q2 q3 q4
        refine ⟨(_, pc.2), ⟨okS_mono (okS_app (okS_app (okS_app lit_more f3) lit_sp) n3) (by decide), by simp only [stGe] at *; omega⟩, ?_⟩
        repeat' ((conv => whnf); first | done | refine ev_step ?_ | refine ops_step ?_ | refine scan_step ?_ | refine draw_step ?_ | refine each_step ?_ | refine sl_step ?_ | refine hp_step ?_ | refine guard_no (by decide) ?_ | refine guard_go ?_ | refine guard_old ?_ | apply cut_auto | with_reducible exact CutS.mk (Or.inl ⟨rfl, rfl, rfl⟩) | refine CutS.mk (Or.inr (Or.inl (sub_auto ?_))) | exact trivial | refine And.intro ?_ ?_ | refine cond_split ?_ ?_ | apply guess | exact Or.inl rfl | exact Or.inr rfl | exact Side.mk trivial | exact Side.mk (fun h => h) | exact Side.mk (fun h => ⟨h, h⟩) | with_reducible exact Side.mk rfl | with_reducible exact Side.mk ⟨rfl, rfl⟩ | with_reducible exact Side.mk (by assumption) | with_reducible rfl | intro _)
        all_goals try (conv => whnf)
        all_goals first | rfl | trace_state
      · rename_i z hz w hw
        refine ⟨(_, w.2), ⟨okS_mono (okS_app (okS_app (okS_app (okS_app (okS_app lit_draw n3) lit_sp) (okS_dec (n := 1 + z.1) ⟨by omega, by omega⟩)) lit_sp) (okS_dec (n := 1 + w.1) ⟨by omega, by omega⟩)) (by decide), by simp only [stGe] at *; omega⟩, ?_⟩
        repeat' ((conv => whnf); first | done | refine ev_step ?_ | refine ops_step ?_ | refine scan_step ?_ | refine draw_step ?_ | refine each_step ?_ | refine sl_step ?_ | refine hp_step ?_ | refine guard_no (by decide) ?_ | refine guard_go ?_ | refine guard_old ?_ | apply cut_auto | with_reducible exact CutS.mk (Or.inl ⟨rfl, rfl, rfl⟩) | refine CutS.mk (Or.inr (Or.inl (sub_auto ?_))) | exact trivial | refine And.intro ?_ ?_ | refine cond_split ?_ ?_ | apply guess | exact Or.inl rfl | exact Or.inr rfl | exact Side.mk trivial | exact Side.mk (fun h => h) | exact Side.mk (fun h => ⟨h, h⟩) | with_reducible exact Side.mk rfl | with_reducible exact Side.mk ⟨rfl, rfl⟩ | with_reducible exact Side.mk (by assumption) | with_reducible rfl | intro _)
        all_goals try (conv => whnf)
        all_goals first | rfl | trace_state
      · rename_i z hz
        refine ⟨(_, z.2), ⟨okS_mono (okS_app (okS_app (okS_app lit_set f3) lit_sp) (okS_pt hz.1 (near64 hz.2.1))) (by decide), by simp only [stGe] at *; omega⟩, ?_⟩
        repeat' ((conv => whnf); first | done | refine ev_step ?_ | refine ops_step ?_ | refine scan_step ?_ | refine draw_step ?_ | refine each_step ?_ | refine sl_step ?_ | refine hp_step ?_ | refine guard_no (by decide) ?_ | refine guard_go ?_ | refine guard_old ?_ | apply cut_auto | with_reducible exact CutS.mk (Or.inl ⟨rfl, rfl, rfl⟩) | refine CutS.mk (Or.inr (Or.inl (sub_auto ?_))) | exact trivial | refine And.intro ?_ ?_ | refine cond_split ?_ ?_ | apply guess | exact Or.inl rfl | exact Or.inr rfl | exact Side.mk trivial | exact Side.mk (fun h => h) | exact Side.mk (fun h => ⟨h, h⟩) | with_reducible exact Side.mk rfl | with_reducible exact Side.mk ⟨rfl, rfl⟩ | with_reducible exact Side.mk (by assumption) | with_reducible rfl | intro _)
        all_goals try (conv => whnf)
        all_goals first | rfl | trace_state
      · rename_i z hz w hw
        obtain ⟨⟨c1, c2, c3, c4, c5⟩, hz2⟩ := hz
        dsimp only at c1 c2 c3 c4 c5
        refine ⟨(_, w.2), ⟨okS_mono (okS_app (okS_mem (m := 8) (by decide) hw.1) (okS_app (okS_app (okS_num c2 c4) lit_sl) (okS_num (m := 24) (by omega) c5))) (by decide), by simp only [stGe] at *; omega⟩, ?_⟩
        repeat' ((conv => whnf); first | done | refine ev_step ?_ | refine ops_step ?_ | refine scan_step ?_ | refine draw_step ?_ | refine each_step ?_ | refine sl_step ?_ | refine hp_step ?_ | refine guard_no (by decide) ?_ | refine guard_go ?_ | refine guard_old ?_ | apply cut_auto | with_reducible exact CutS.mk (Or.inl ⟨rfl, rfl, rfl⟩) | refine CutS.mk (Or.inr (Or.inl (sub_auto ?_))) | exact trivial | refine And.intro ?_ ?_ | refine cond_split ?_ ?_ | apply guess | exact Or.inl rfl | exact Or.inr rfl | exact Side.mk trivial | exact Side.mk (fun h => h) | exact Side.mk (fun h => ⟨h, h⟩) | with_reducible exact Side.mk rfl | with_reducible exact Side.mk ⟨rfl, rfl⟩ | with_reducible exact Side.mk (by assumption) | with_reducible rfl | intro _)
        all_goals try (conv => whnf)
        all_goals first | rfl | trace_state
    · rename_i nm hnm o ho hq fr hfr
      obtain ⟨n1, n2⟩ := hnm
      have n3 : okS 8 nm.1 := okS_mem (by decide) n1
      clear hq n1
      obtain ⟨f1, f2⟩ := hfr
      have f3 : okS 8 fr.1 := okS_mem (by decide) f1
      clear f1
      repeat' ((conv => whnf); first | done | refine ev_step ?_ | refine ops_step ?_ | refine scan_step ?_ | refine draw_step ?_ | refine each_step ?_ | refine sl_step ?_ | refine hp_step ?_ | refine guard_no (by decide) ?_ | refine guard_go ?_ | refine guard_old ?_ | apply cut_auto | with_reducible exact CutS.mk (Or.inl ⟨rfl, rfl, rfl⟩) | refine CutS.mk (Or.inr (Or.inl (sub_auto ?_))) | exact trivial | refine And.intro ?_ ?_ | (refine cond_split ?_ ?_ <;> intro _ <;> first | (exfalso; first | omega | (simp only [decide_eq_true_eq, decide_eq_false_iff_not, Bool.not_eq_true', Bool.not_eq_false', ne_eq, Bool.not_true, Bool.not_false, cond_true, cond_false, Bool.true_eq_false, Bool.false_eq_true, Bool.and_eq_true, Bool.and_eq_false_iff] at *; omega)) | skip) | apply guess | apply FnEx.useF (k_text bs _ _ _) | apply FnEx.useF (k_pick bs _ _ _) | apply FnIs.useF (k_l01Dec _ _) | apply FnEx.useF (k_DrawPins bs _ _) | apply FnIs.useF (k_PText _ _) | apply FnEx.useF (k_DrawPath bs _ _) | apply FnEx.useF (k_DrawChan bs _ _) | apply FnIs.useF (k_CText _ _ _) | exact Or.inl rfl | exact Or.inr rfl | exact Side.mk trivial | exact Side.mk (fun h => h) | exact Side.mk (fun h => ⟨h, h⟩) | with_reducible exact Side.mk rfl | with_reducible exact Side.mk ⟨rfl, rfl⟩ | with_reducible exact Side.mk (by assumption) | with_reducible rfl | intro _)
      all_goals try (conv => whnf)
      all_goals try (refine Side.mk ⟨h1, ?_⟩; simp only [stOk, stGe, List.length_cons, List.length_nil] at *; omega)
      all_goals try (refine Side.mk ?_; first | (intros; omega) | (intro h1_ h2_; rw [h1_, h2_]; rfl) | (show List.length (_ ++ _) ≤ _; simp only [List.length_append, List.length_cons, List.length_nil, List.length_replicate, List.length_take]; omega) | (simp_all; done) | (simp_all; omega))
      all_goals try exact Side.mk ⟨by omega, by omega⟩
      all_goals try (rename_i z hz; exact Side.mk ⟨by omega, pts64 hz.2.1⟩)
      all_goals try (rename_i z hz; exact Side.mk ⟨by omega, near64 hz.2.1⟩)
      all_goals try (rename_i z hz w hw; obtain ⟨⟨c1, c2, c3, c4, c5⟩, hz2⟩ := hz; dsimp only at c1 c2 c3 c4 c5; exact Side.mk ⟨⟨by omega, rng64 c4⟩, by omega, rng64 c5⟩)
      all_goals try (refine Side.mk ?_; (try simp only [bl_size_app]); simp only [okS, ByteArray.size, List.size_toArray, List.length_cons, List.length_nil, stOk, stGe] at *; omega)
      all_goals try (rename_i z hz; have p1 := okS_pt hz.1 (pts64 hz.2.1); refine Side.mk ?_; (try simp only [bl_size_app]); simp only [okS, ByteArray.size, List.size_toArray, List.length_cons, List.length_nil, stOk, stGe] at *; omega)
      all_goals try (rename_i z hz; have p1 := okS_pt hz.1 (near64 hz.2.1); refine Side.mk ?_; (try simp only [bl_size_app]); simp only [okS, ByteArray.size, List.size_toArray, List.length_cons, List.length_nil, stOk, stGe] at *; omega)
      all_goals try (rename_i z hz; have p1 := okS_dec (n := 1 + z.1) ⟨by omega, by omega⟩; refine Side.mk ?_; (try simp only [bl_size_app]); simp only [okS, ByteArray.size, List.size_toArray, List.length_cons, List.length_nil, stOk, stGe] at *; omega)
      all_goals try (rename_i z hz w hw; have p1 := okS_dec (n := 1 + z.1) ⟨by omega, by omega⟩; have p2 := okS_dec (n := 1 + w.1) ⟨by omega, by omega⟩; refine Side.mk ?_; (try simp only [bl_size_app]); simp only [okS, ByteArray.size, List.size_toArray, List.length_cons, List.length_nil, stOk, stGe] at *; omega)
      all_goals try (rename_i z hz w hw; have p0 := okS_mem (m := 8) (by decide) hw.1; obtain ⟨⟨c1, c2, c3, c4, c5⟩, hz2⟩ := hz; dsimp only at c1 c2 c3 c4 c5; have p1 := okS_num c2 c4; have p2 := okS_num (m := 24) (by omega) c5; refine Side.mk ?_; (try simp only [bl_size_app]); simp only [okS, ByteArray.size, List.size_toArray, List.length_cons, List.length_nil, stOk, stGe] at *; omega)
      all_goals try (rename_i z hz; have p0 := okS_mem (m := 8) (by decide) hz.1; refine Side.mk ?_; (try simp only [bl_size_app]); simp only [okS, ByteArray.size, List.size_toArray, List.length_cons, List.length_nil, stOk, stGe] at *; omega)
      · rename_i z hz
        refine ⟨z, ⟨okS_mem (by decide) hz.1, by simp only [stGe] at *; omega⟩, ?_⟩
        repeat' ((conv => whnf); first | done | refine ev_step ?_ | refine ops_step ?_ | refine scan_step ?_ | refine draw_step ?_ | refine each_step ?_ | refine sl_step ?_ | refine hp_step ?_ | refine guard_no (by decide) ?_ | refine guard_go ?_ | refine guard_old ?_ | apply cut_auto | with_reducible exact CutS.mk (Or.inl ⟨rfl, rfl, rfl⟩) | refine CutS.mk (Or.inr (Or.inl (sub_auto ?_))) | exact trivial | refine And.intro ?_ ?_ | refine cond_split ?_ ?_ | apply guess | exact Or.inl rfl | exact Or.inr rfl | exact Side.mk trivial | exact Side.mk (fun h => h) | exact Side.mk (fun h => ⟨h, h⟩) | with_reducible exact Side.mk rfl | with_reducible exact Side.mk ⟨rfl, rfl⟩ | with_reducible exact Side.mk (by assumption) | with_reducible rfl | intro _)
        all_goals try (conv => whnf)
        all_goals first | rfl | trace_state
      · rename_i z hz
        refine ⟨(_, z.2), ⟨okS_mono (okS_app (okS_app (okS_app lit_set f3) lit_sp) (okS_pt hz.1 (pts64 hz.2.1))) (by decide), by simp only [stGe] at *; omega⟩, ?_⟩
        repeat' ((conv => whnf); first | done | refine ev_step ?_ | refine ops_step ?_ | refine scan_step ?_ | refine draw_step ?_ | refine each_step ?_ | refine sl_step ?_ | refine hp_step ?_ | refine guard_no (by decide) ?_ | refine guard_go ?_ | refine guard_old ?_ | apply cut_auto | with_reducible exact CutS.mk (Or.inl ⟨rfl, rfl, rfl⟩) | refine CutS.mk (Or.inr (Or.inl (sub_auto ?_))) | exact trivial | refine And.intro ?_ ?_ | refine cond_split ?_ ?_ | apply guess | exact Or.inl rfl | exact Or.inr rfl | exact Side.mk trivial | exact Side.mk (fun h => h) | exact Side.mk (fun h => ⟨h, h⟩) | with_reducible exact Side.mk rfl | with_reducible exact Side.mk ⟨rfl, rfl⟩ | with_reducible exact Side.mk (by assumption) | with_reducible rfl | intro _)
        all_goals try (conv => whnf)
        all_goals first | rfl | trace_state
      · rename_i z hz
        refine ⟨(_, z.2), ⟨okS_mono (okS_app (okS_mem (m := 8) (by decide) hz.1) n3) (by decide), by simp only [stGe] at *; omega⟩, ?_⟩
        repeat' ((conv => whnf); first | done | refine ev_step ?_ | refine ops_step ?_ | refine scan_step ?_ | refine draw_step ?_ | refine each_step ?_ | refine sl_step ?_ | refine hp_step ?_ | refine guard_no (by decide) ?_ | refine guard_go ?_ | refine guard_old ?_ | apply cut_auto | with_reducible exact CutS.mk (Or.inl ⟨rfl, rfl, rfl⟩) | refine CutS.mk (Or.inr (Or.inl (sub_auto ?_))) | exact trivial | refine And.intro ?_ ?_ | refine cond_split ?_ ?_ | apply guess | exact Or.inl rfl | exact Or.inr rfl | exact Side.mk trivial | exact Side.mk (fun h => h) | exact Side.mk (fun h => ⟨h, h⟩) | with_reducible exact Side.mk rfl | with_reducible exact Side.mk ⟨rfl, rfl⟩ | with_reducible exact Side.mk (by assumption) | with_reducible rfl | intro _)
        all_goals try (conv => whnf)
        all_goals first | rfl | trace_state
      · rename_i pc hpc q0 q1 q2 q3
        refine ⟨(_, pc.2), ⟨okS_mono (okS_app (okS_app (okS_app lit_path f3) lit_sp) n3) (by decide), by simp only [stGe] at *; omega⟩, ?_⟩
        repeat' ((conv => whnf); first | done | refine ev_step ?_ | refine ops_step ?_ | refine scan_step ?_ | refine draw_step ?_ | refine each_step ?_ | refine sl_step ?_ | refine hp_step ?_ | refine guard_no (by decide) ?_ | refine guard_go ?_ | refine guard_old ?_ | apply cut_auto | with_reducible exact CutS.mk (Or.inl ⟨rfl, rfl, rfl⟩) | refine CutS.mk (Or.inr (Or.inl (sub_auto ?_))) | exact trivial | refine And.intro ?_ ?_ | refine cond_split ?_ ?_ | apply guess | exact Or.inl rfl | exact Or.inr rfl | exact Side.mk trivial | exact Side.mk (fun h => h) | exact Side.mk (fun h => ⟨h, h⟩) | with_reducible exact Side.mk rfl | with_reducible exact Side.mk ⟨rfl, rfl⟩ | with_reducible exact Side.mk (by assumption) | with_reducible rfl | intro _)
        all_goals try (conv => whnf)
        all_goals first | rfl | trace_state
      · rename_i pc hpc q0 q1 q2 q3 q4
        refine ⟨(_, pc.2), ⟨okS_mono (okS_app (okS_app (okS_app lit_more f3) lit_sp) n3) (by decide), by simp only [stGe] at *; omega⟩, ?_⟩
        repeat' ((conv => whnf); first | done | refine ev_step ?_ | refine ops_step ?_ | refine scan_step ?_ | refine draw_step ?_ | refine each_step ?_ | refine sl_step ?_ | refine hp_step ?_ | refine guard_no (by decide) ?_ | refine guard_go ?_ | refine guard_old ?_ | apply cut_auto | with_reducible exact CutS.mk (Or.inl ⟨rfl, rfl, rfl⟩) | refine CutS.mk (Or.inr (Or.inl (sub_auto ?_))) | exact trivial | refine And.intro ?_ ?_ | refine cond_split ?_ ?_ | apply guess | exact Or.inl rfl | exact Or.inr rfl | exact Side.mk trivial | exact Side.mk (fun h => h) | exact Side.mk (fun h => ⟨h, h⟩) | with_reducible exact Side.mk rfl | with_reducible exact Side.mk ⟨rfl, rfl⟩ | with_reducible exact Side.mk (by assumption) | with_reducible rfl | intro _)
        all_goals try (conv => whnf)
        all_goals first | rfl | trace_state
      · rename_i z hz w hw
        refine ⟨(_, w.2), ⟨okS_mono (okS_app (okS_app (okS_app (okS_app (okS_app lit_draw n3) lit_sp) (okS_dec (n := 1 + z.1) ⟨by omega, by omega⟩)) lit_sp) (okS_dec (n := 1 + w.1) ⟨by omega, by omega⟩)) (by decide), by simp only [stGe] at *; omega⟩, ?_⟩
        repeat' ((conv => whnf); first | done | refine ev_step ?_ | refine ops_step ?_ | refine scan_step ?_ | refine draw_step ?_ | refine each_step ?_ | refine sl_step ?_ | refine hp_step ?_ | refine guard_no (by decide) ?_ | refine guard_go ?_ | refine guard_old ?_ | apply cut_auto | with_reducible exact CutS.mk (Or.inl ⟨rfl, rfl, rfl⟩) | refine CutS.mk (Or.inr (Or.inl (sub_auto ?_))) | exact trivial | refine And.intro ?_ ?_ | refine cond_split ?_ ?_ | apply guess | exact Or.inl rfl | exact Or.inr rfl | exact Side.mk trivial | exact Side.mk (fun h => h) | exact Side.mk (fun h => ⟨h, h⟩) | with_reducible exact Side.mk rfl | with_reducible exact Side.mk ⟨rfl, rfl⟩ | with_reducible exact Side.mk (by assumption) | with_reducible rfl | intro _)
        all_goals try (conv => whnf)
        all_goals first | rfl | trace_state
      · rename_i z hz
        refine ⟨(_, z.2), ⟨okS_mono (okS_app (okS_app (okS_app lit_set f3) lit_sp) (okS_pt hz.1 (near64 hz.2.1))) (by decide), by simp only [stGe] at *; omega⟩, ?_⟩
        repeat' ((conv => whnf); first | done | refine ev_step ?_ | refine ops_step ?_ | refine scan_step ?_ | refine draw_step ?_ | refine each_step ?_ | refine sl_step ?_ | refine hp_step ?_ | refine guard_no (by decide) ?_ | refine guard_go ?_ | refine guard_old ?_ | apply cut_auto | with_reducible exact CutS.mk (Or.inl ⟨rfl, rfl, rfl⟩) | refine CutS.mk (Or.inr (Or.inl (sub_auto ?_))) | exact trivial | refine And.intro ?_ ?_ | refine cond_split ?_ ?_ | apply guess | exact Or.inl rfl | exact Or.inr rfl | exact Side.mk trivial | exact Side.mk (fun h => h) | exact Side.mk (fun h => ⟨h, h⟩) | with_reducible exact Side.mk rfl | with_reducible exact Side.mk ⟨rfl, rfl⟩ | with_reducible exact Side.mk (by assumption) | with_reducible rfl | intro _)
        all_goals try (conv => whnf)
        all_goals first | rfl | trace_state
      · rename_i z hz w hw
        obtain ⟨⟨c1, c2, c3, c4, c5⟩, hz2⟩ := hz
        dsimp only at c1 c2 c3 c4 c5
        refine ⟨(_, w.2), ⟨okS_mono (okS_app (okS_mem (m := 8) (by decide) hw.1) (okS_app (okS_app (okS_num c2 c4) lit_sl) (okS_num (m := 24) (by omega) c5))) (by decide), by simp only [stGe] at *; omega⟩, ?_⟩
        repeat' ((conv => whnf); first | done | refine ev_step ?_ | refine ops_step ?_ | refine scan_step ?_ | refine draw_step ?_ | refine each_step ?_ | refine sl_step ?_ | refine hp_step ?_ | refine guard_no (by decide) ?_ | refine guard_go ?_ | refine guard_old ?_ | apply cut_auto | with_reducible exact CutS.mk (Or.inl ⟨rfl, rfl, rfl⟩) | refine CutS.mk (Or.inr (Or.inl (sub_auto ?_))) | exact trivial | refine And.intro ?_ ?_ | refine cond_split ?_ ?_ | apply guess | exact Or.inl rfl | exact Or.inr rfl | exact Side.mk trivial | exact Side.mk (fun h => h) | exact Side.mk (fun h => ⟨h, h⟩) | with_reducible exact Side.mk rfl | with_reducible exact Side.mk ⟨rfl, rfl⟩ | with_reducible exact Side.mk (by assumption) | with_reducible rfl | intro _)
        all_goals try (conv => whnf)
        all_goals first | rfl | trace_state
  · have hN2 : decide ((0 : Int) < (N.length : Int)) = false := by simpa using hN
    repeat' ((conv => whnf); first | done | refine ev_step ?_ | refine ops_step ?_ | refine scan_step ?_ | refine draw_step ?_ | refine each_step ?_ | refine sl_step ?_ | refine hp_step ?_ | refine guard_no hN ?_ | refine guard_no (by decide) ?_ | refine guard_go ?_ | refine guard_old ?_ | apply cut_auto | with_reducible exact CutS.mk (Or.inl ⟨rfl, rfl, rfl⟩) | refine CutS.mk (Or.inr (Or.inl (sub_auto ?_))) | exact trivial | refine And.intro ?_ ?_ | (refine cond_split ?_ ?_ <;> intro hq_ <;> first | (exfalso; first | omega | (simp only [hN2, cond_true, cond_false, Bool.not_true, Bool.not_false, Bool.and_true, Bool.true_and, Bool.and_false, Bool.false_and, Bool.or_true, Bool.true_or, Bool.or_false, Bool.false_or, Bool.true_eq_false, Bool.false_eq_true, decide_true, decide_false, reduceCtorEq] at hq_; done) | (rw [decide_eq_false_iff_not] at hq_; omega) | (rw [decide_eq_true_eq] at hq_; omega) | (simp only [hN2, reduceCtorEq] at hq_; done) | exact Bool.noConfusion (Eq.trans (Eq.symm hN2) hq_)) | skip) | apply guess | apply FnEx.useF (k_text bs _ _ _) | exact Or.inl rfl | exact Or.inr rfl | exact Side.mk trivial | exact Side.mk (fun h => h) | exact Side.mk (fun h => ⟨h, h⟩) | with_reducible exact Side.mk rfl | with_reducible exact Side.mk ⟨rfl, rfl⟩ | with_reducible exact Side.mk (by assumption) | with_reducible rfl | intro _)
    all_goals try (conv => whnf)
    all_goals try (refine Side.mk ⟨h1, ?_⟩; simp only [stOk, stGe, List.length_cons, List.length_nil] at *; omega)
    rename_i nm hnm fr hfr
    obtain ⟨n1, n2⟩ := hnm
    have n3 : okS 8 nm.1 := okS_mem (by decide) n1
    clear n1
    obtain ⟨f1, f2⟩ := hfr
    have f3 : okS 8 fr.1 := okS_mem (by decide) f1
    clear f1
    repeat' ((conv => whnf); first | done | refine ev_step ?_ | refine ops_step ?_ | refine scan_step ?_ | refine draw_step ?_ | refine each_step ?_ | refine sl_step ?_ | refine hp_step ?_ | refine guard_no (by decide) ?_ | refine guard_go ?_ | refine guard_old ?_ | apply cut_auto | with_reducible exact CutS.mk (Or.inl ⟨rfl, rfl, rfl⟩) | refine CutS.mk (Or.inr (Or.inl (sub_auto ?_))) | exact trivial | refine And.intro ?_ ?_ | (refine cond_split ?_ ?_ <;> intro _ <;> first | (exfalso; first | omega | (simp only [decide_eq_true_eq, decide_eq_false_iff_not, Bool.not_eq_true', Bool.not_eq_false', ne_eq, Bool.not_true, Bool.not_false, cond_true, cond_false, Bool.true_eq_false, Bool.false_eq_true, Bool.and_eq_true, Bool.and_eq_false_iff] at *; omega)) | skip) | apply guess | apply FnEx.useF (k_text bs _ _ _) | apply FnEx.useF (k_pick bs _ _ _) | apply FnIs.useF (k_l01Dec _ _) | apply FnEx.useF (k_DrawPins bs _ _) | apply FnIs.useF (k_PText _ _) | apply FnEx.useF (k_DrawPath bs _ _) | apply FnEx.useF (k_DrawChan bs _ _) | apply FnIs.useF (k_CText _ _ _) | exact Or.inl rfl | exact Or.inr rfl | exact Side.mk trivial | exact Side.mk (fun h => h) | exact Side.mk (fun h => ⟨h, h⟩) | with_reducible exact Side.mk rfl | with_reducible exact Side.mk ⟨rfl, rfl⟩ | with_reducible exact Side.mk (by assumption) | with_reducible rfl | intro _)
    all_goals try (conv => whnf)
    all_goals try (refine Side.mk ⟨h1, ?_⟩; simp only [stOk, stGe, List.length_cons, List.length_nil] at *; omega)
    all_goals try (refine Side.mk ?_; first | (intros; omega) | (intro h1_ h2_; rw [h1_, h2_]; rfl) | (show List.length (_ ++ _) ≤ _; simp only [List.length_append, List.length_cons, List.length_nil, List.length_replicate, List.length_take]; omega) | (simp_all; done) | (simp_all; omega))
    all_goals try exact Side.mk ⟨by omega, by omega⟩
    all_goals try (rename_i z hz; exact Side.mk ⟨by omega, pts64 hz.2.1⟩)
    all_goals try (rename_i z hz; exact Side.mk ⟨by omega, near64 hz.2.1⟩)
    all_goals try (rename_i z hz w hw; obtain ⟨⟨c1, c2, c3, c4, c5⟩, hz2⟩ := hz; dsimp only at c1 c2 c3 c4 c5; exact Side.mk ⟨⟨by omega, rng64 c4⟩, by omega, rng64 c5⟩)
    all_goals try (refine Side.mk ?_; (try simp only [bl_size_app]); simp only [okS, ByteArray.size, List.size_toArray, List.length_cons, List.length_nil, stOk, stGe] at *; omega)
    all_goals try (rename_i z hz; have p1 := okS_pt hz.1 (pts64 hz.2.1); refine Side.mk ?_; (try simp only [bl_size_app]); simp only [okS, ByteArray.size, List.size_toArray, List.length_cons, List.length_nil, stOk, stGe] at *; omega)
    all_goals try (rename_i z hz; have p1 := okS_pt hz.1 (near64 hz.2.1); refine Side.mk ?_; (try simp only [bl_size_app]); simp only [okS, ByteArray.size, List.size_toArray, List.length_cons, List.length_nil, stOk, stGe] at *; omega)
    all_goals try (rename_i z hz; have p1 := okS_dec (n := 1 + z.1) ⟨by omega, by omega⟩; refine Side.mk ?_; (try simp only [bl_size_app]); simp only [okS, ByteArray.size, List.size_toArray, List.length_cons, List.length_nil, stOk, stGe] at *; omega)
    all_goals try (rename_i z hz w hw; have p1 := okS_dec (n := 1 + z.1) ⟨by omega, by omega⟩; have p2 := okS_dec (n := 1 + w.1) ⟨by omega, by omega⟩; refine Side.mk ?_; (try simp only [bl_size_app]); simp only [okS, ByteArray.size, List.size_toArray, List.length_cons, List.length_nil, stOk, stGe] at *; omega)
    all_goals try (rename_i z hz w hw; have p0 := okS_mem (m := 8) (by decide) hw.1; obtain ⟨⟨c1, c2, c3, c4, c5⟩, hz2⟩ := hz; dsimp only at c1 c2 c3 c4 c5; have p1 := okS_num c2 c4; have p2 := okS_num (m := 24) (by omega) c5; refine Side.mk ?_; (try simp only [bl_size_app]); simp only [okS, ByteArray.size, List.size_toArray, List.length_cons, List.length_nil, stOk, stGe] at *; omega)
    all_goals try (rename_i z hz; have p0 := okS_mem (m := 8) (by decide) hz.1; refine Side.mk ?_; (try simp only [bl_size_app]); simp only [okS, ByteArray.size, List.size_toArray, List.length_cons, List.length_nil, stOk, stGe] at *; omega)
    · rename_i z hz
      refine ⟨z, ⟨okS_mem (by decide) hz.1, by simp only [stGe] at *; omega⟩, ?_⟩
      repeat' ((conv => whnf); first | done | refine ev_step ?_ | refine ops_step ?_ | refine scan_step ?_ | refine draw_step ?_ | refine each_step ?_ | refine sl_step ?_ | refine hp_step ?_ | refine guard_no (by decide) ?_ | refine guard_go ?_ | refine guard_old ?_ | apply cut_auto | with_reducible exact CutS.mk (Or.inl ⟨rfl, rfl, rfl⟩) | refine CutS.mk (Or.inr (Or.inl (sub_auto ?_))) | exact trivial | refine And.intro ?_ ?_ | refine cond_split ?_ ?_ | apply guess | exact Or.inl rfl | exact Or.inr rfl | exact Side.mk trivial | exact Side.mk (fun h => h) | exact Side.mk (fun h => ⟨h, h⟩) | with_reducible exact Side.mk rfl | with_reducible exact Side.mk ⟨rfl, rfl⟩ | with_reducible exact Side.mk (by assumption) | with_reducible rfl | intro _)
      all_goals try (conv => whnf)
      all_goals first | rfl | trace_state
    · rename_i z hz
      refine ⟨(_, z.2), ⟨okS_mono (okS_app (okS_app (okS_app lit_set f3) lit_sp) (okS_pt hz.1 (pts64 hz.2.1))) (by decide), by simp only [stGe] at *; omega⟩, ?_⟩
      repeat' ((conv => whnf); first | done | refine ev_step ?_ | refine ops_step ?_ | refine scan_step ?_ | refine draw_step ?_ | refine each_step ?_ | refine sl_step ?_ | refine hp_step ?_ | refine guard_no (by decide) ?_ | refine guard_go ?_ | refine guard_old ?_ | apply cut_auto | with_reducible exact CutS.mk (Or.inl ⟨rfl, rfl, rfl⟩) | refine CutS.mk (Or.inr (Or.inl (sub_auto ?_))) | exact trivial | refine And.intro ?_ ?_ | refine cond_split ?_ ?_ | apply guess | exact Or.inl rfl | exact Or.inr rfl | exact Side.mk trivial | exact Side.mk (fun h => h) | exact Side.mk (fun h => ⟨h, h⟩) | with_reducible exact Side.mk rfl | with_reducible exact Side.mk ⟨rfl, rfl⟩ | with_reducible exact Side.mk (by assumption) | with_reducible rfl | intro _)
      all_goals try (conv => whnf)
      all_goals first | rfl | trace_state
    · rename_i z hz
      refine ⟨(_, z.2), ⟨okS_mono (okS_app (okS_mem (m := 8) (by decide) hz.1) n3) (by decide), by simp only [stGe] at *; omega⟩, ?_⟩
      repeat' ((conv => whnf); first | done | refine ev_step ?_ | refine ops_step ?_ | refine scan_step ?_ | refine draw_step ?_ | refine each_step ?_ | refine sl_step ?_ | refine hp_step ?_ | refine guard_no (by decide) ?_ | refine guard_go ?_ | refine guard_old ?_ | apply cut_auto | with_reducible exact CutS.mk (Or.inl ⟨rfl, rfl, rfl⟩) | refine CutS.mk (Or.inr (Or.inl (sub_auto ?_))) | exact trivial | refine And.intro ?_ ?_ | refine cond_split ?_ ?_ | apply guess | exact Or.inl rfl | exact Or.inr rfl | exact Side.mk trivial | exact Side.mk (fun h => h) | exact Side.mk (fun h => ⟨h, h⟩) | with_reducible exact Side.mk rfl | with_reducible exact Side.mk ⟨rfl, rfl⟩ | with_reducible exact Side.mk (by assumption) | with_reducible rfl | intro _)
      all_goals try (conv => whnf)
      all_goals first | rfl | trace_state
    · rename_i pc hpc q0 q1 q2 q3
      refine ⟨(_, pc.2), ⟨okS_mono (okS_app (okS_app (okS_app lit_path f3) lit_sp) n3) (by decide), by simp only [stGe] at *; omega⟩, ?_⟩
      repeat' ((conv => whnf); first | done | refine ev_step ?_ | refine ops_step ?_ | refine scan_step ?_ | refine draw_step ?_ | refine each_step ?_ | refine sl_step ?_ | refine hp_step ?_ | refine guard_no (by decide) ?_ | refine guard_go ?_ | refine guard_old ?_ | apply cut_auto | with_reducible exact CutS.mk (Or.inl ⟨rfl, rfl, rfl⟩) | refine CutS.mk (Or.inr (Or.inl (sub_auto ?_))) | exact trivial | refine And.intro ?_ ?_ | refine cond_split ?_ ?_ | apply guess | exact Or.inl rfl | exact Or.inr rfl | exact Side.mk trivial | exact Side.mk (fun h => h) | exact Side.mk (fun h => ⟨h, h⟩) | with_reducible exact Side.mk rfl | with_reducible exact Side.mk ⟨rfl, rfl⟩ | with_reducible exact Side.mk (by assumption) | with_reducible rfl | intro _)
      all_goals try (conv => whnf)
      all_goals first | rfl | trace_state
    · rename_i pc hpc q0 q1 q2 q3 q4
      refine ⟨(_, pc.2), ⟨okS_mono (okS_app (okS_app (okS_app lit_more f3) lit_sp) n3) (by decide), by simp only [stGe] at *; omega⟩, ?_⟩
      repeat' ((conv => whnf); first | done | refine ev_step ?_ | refine ops_step ?_ | refine scan_step ?_ | refine draw_step ?_ | refine each_step ?_ | refine sl_step ?_ | refine hp_step ?_ | refine guard_no (by decide) ?_ | refine guard_go ?_ | refine guard_old ?_ | apply cut_auto | with_reducible exact CutS.mk (Or.inl ⟨rfl, rfl, rfl⟩) | refine CutS.mk (Or.inr (Or.inl (sub_auto ?_))) | exact trivial | refine And.intro ?_ ?_ | refine cond_split ?_ ?_ | apply guess | exact Or.inl rfl | exact Or.inr rfl | exact Side.mk trivial | exact Side.mk (fun h => h) | exact Side.mk (fun h => ⟨h, h⟩) | with_reducible exact Side.mk rfl | with_reducible exact Side.mk ⟨rfl, rfl⟩ | with_reducible exact Side.mk (by assumption) | with_reducible rfl | intro _)
      all_goals try (conv => whnf)
      all_goals first | rfl | trace_state
    · rename_i z hz w hw
      refine ⟨(_, w.2), ⟨okS_mono (okS_app (okS_app (okS_app (okS_app (okS_app lit_draw n3) lit_sp) (okS_dec (n := 1 + z.1) ⟨by omega, by omega⟩)) lit_sp) (okS_dec (n := 1 + w.1) ⟨by omega, by omega⟩)) (by decide), by simp only [stGe] at *; omega⟩, ?_⟩
      repeat' ((conv => whnf); first | done | refine ev_step ?_ | refine ops_step ?_ | refine scan_step ?_ | refine draw_step ?_ | refine each_step ?_ | refine sl_step ?_ | refine hp_step ?_ | refine guard_no (by decide) ?_ | refine guard_go ?_ | refine guard_old ?_ | apply cut_auto | with_reducible exact CutS.mk (Or.inl ⟨rfl, rfl, rfl⟩) | refine CutS.mk (Or.inr (Or.inl (sub_auto ?_))) | exact trivial | refine And.intro ?_ ?_ | refine cond_split ?_ ?_ | apply guess | exact Or.inl rfl | exact Or.inr rfl | exact Side.mk trivial | exact Side.mk (fun h => h) | exact Side.mk (fun h => ⟨h, h⟩) | with_reducible exact Side.mk rfl | with_reducible exact Side.mk ⟨rfl, rfl⟩ | with_reducible exact Side.mk (by assumption) | with_reducible rfl | intro _)
      all_goals try (conv => whnf)
      all_goals first | rfl | trace_state
    · rename_i z hz
      refine ⟨(_, z.2), ⟨okS_mono (okS_app (okS_app (okS_app lit_set f3) lit_sp) (okS_pt hz.1 (near64 hz.2.1))) (by decide), by simp only [stGe] at *; omega⟩, ?_⟩
      repeat' ((conv => whnf); first | done | refine ev_step ?_ | refine ops_step ?_ | refine scan_step ?_ | refine draw_step ?_ | refine each_step ?_ | refine sl_step ?_ | refine hp_step ?_ | refine guard_no (by decide) ?_ | refine guard_go ?_ | refine guard_old ?_ | apply cut_auto | with_reducible exact CutS.mk (Or.inl ⟨rfl, rfl, rfl⟩) | refine CutS.mk (Or.inr (Or.inl (sub_auto ?_))) | exact trivial | refine And.intro ?_ ?_ | refine cond_split ?_ ?_ | apply guess | exact Or.inl rfl | exact Or.inr rfl | exact Side.mk trivial | exact Side.mk (fun h => h) | exact Side.mk (fun h => ⟨h, h⟩) | with_reducible exact Side.mk rfl | with_reducible exact Side.mk ⟨rfl, rfl⟩ | with_reducible exact Side.mk (by assumption) | with_reducible rfl | intro _)
      all_goals try (conv => whnf)
      all_goals first | rfl | trace_state
    · rename_i z hz w hw
      obtain ⟨⟨c1, c2, c3, c4, c5⟩, hz2⟩ := hz
      dsimp only at c1 c2 c3 c4 c5
      refine ⟨(_, w.2), ⟨okS_mono (okS_app (okS_mem (m := 8) (by decide) hw.1) (okS_app (okS_app (okS_num c2 c4) lit_sl) (okS_num (m := 24) (by omega) c5))) (by decide), by simp only [stGe] at *; omega⟩, ?_⟩
      repeat' ((conv => whnf); first | done | refine ev_step ?_ | refine ops_step ?_ | refine scan_step ?_ | refine draw_step ?_ | refine each_step ?_ | refine sl_step ?_ | refine hp_step ?_ | refine guard_no (by decide) ?_ | refine guard_go ?_ | refine guard_old ?_ | apply cut_auto | with_reducible exact CutS.mk (Or.inl ⟨rfl, rfl, rfl⟩) | refine CutS.mk (Or.inr (Or.inl (sub_auto ?_))) | exact trivial | refine And.intro ?_ ?_ | refine cond_split ?_ ?_ | apply guess | exact Or.inl rfl | exact Or.inr rfl | exact Side.mk trivial | exact Side.mk (fun h => h) | exact Side.mk (fun h => ⟨h, h⟩) | with_reducible exact Side.mk rfl | with_reducible exact Side.mk ⟨rfl, rfl⟩ | with_reducible exact Side.mk (by assumption) | with_reducible rfl | intro _)
      all_goals try (conv => whnf)
      all_goals first | rfl | trace_state
end Go.Sx.U
