/-
  Chapter 11, journals: decimals, check numbers, and the search for a byte (contracts).
-/
import Derived.Test.YtligakfmabjoeaaDoorT20
import Derived.Test.YtligakfmabjoeaaDoorKFI
import Derived.Shelf.Strconv.Itoa4
import Derived.Shelf.Strings.Search2
set_option linter.unusedSimpArgs false
namespace Go.Sx.U
set_option linter.unusedVariables false
set_option linter.unusedSimpArgs false
set_option maxRecDepth 100000
set_option maxHeartbeats 8000000
open Go Go.Sx Go.Proofs Go.Sort

theorem rep_nil0 (ρ : Rho) (w : World) : HeapRep ρ 0 [] w := by
  have no : ∀ {id p nd own}, ¬ NodeAt ([] : Heap) id p nd own := fun {id p nd own} h => by
    obtain ⟨o, h, _⟩ := h.ex
    cases h
  exact ⟨fun _ _ h => by (cases h), fun _ _ _ _ h => absurd h no, fun _ _ _ _ h => absurd h no, fun _ _ _ h => absurd h no, fun _ _ _ _ _ _ _ h => absurd h no⟩
theorem owns_nil {ρ : Rho} {b : Nat} : ¬ Owns ρ [] b := by
  rintro ⟨id, p, nd, h, _⟩
  obtain ⟨o, h, _⟩ := h.ex
  cases h
/-- A call of the library that leaves the memory as it was, but for new blocks and draws. -/
theorem fn_of_lib {f : Nat} {args : List AV} {v : AV} (hok : FnOK Tryd.prog f)
    (h : ∀ (ρ : Rho) (w : World) (cargs : List Value), GOK ρ [] w → VRL ρ 0 args cargs → ∃ u, VR ρ 0 v u ∧ Calls Tryd.prog f cargs.toArray w fun e w' => e = .returned u ∧ FrameW (fun _ => False) w w') : FnIs Tryd.prog f args 0 [] v 0 [] :=
  ⟨⟨hok, fun ρ w cargs hgk _ hv => by
    obtain ⟨u, hu, hc⟩ := h ρ w cargs hgk hv
    refine hc.mono fun e w' ⟨he, hf⟩ => ⟨u, he, ⟨⟨v, ρ, 0, [], ⟨rfl, rfl, rfl⟩, hu, rep_nil0 _ _, Nat.le_refl _, fun _ _ => rfl, ⟨hf.os, hf.tape, hf.output, hf.size, fun k hk _ => hf.block k hk id, hf.drawn⟩, fun b hb => absurd hb owns_nil⟩⟩⟩⟩⟩
theorem frame_grow (w : World) (k : Nat) (os : Array Obj) : FrameW (fun _ => False) w (grow (w.drewN k) os) :=
  ⟨rfl, rfl, rfl, by simp [grow, World.drewN], fun i hi _ => by
    have := heap_grow_old (w.drewN k) os (show i < (w.drewN k).heap.size from hi)
    rw [this]; rfl, by simp [grow, World.drewN]⟩
theorem tab_pow {name : String} (hg : Tryd.prog.globalNamed name = some 1) {ρ : Rho} {G : Heap} {w : World} (h : GOK ρ G w) : Lib.TabIs Tryd.prog w name .u64 Lib.pow10Tab := by
  obtain ⟨arr, t, f, h1, h2⟩ := h.lie _ (List.mem_cons_self ..)
  have h2 : arr = (Lib.pow10Tab.map fun z => Value.int .u64 z).toArray := h2
  subst h2
  simp only [Lib.TabIs, World.var?, hg, Option.bind_some]
  rw [h1]
theorem lie_of {name : String} (hg : Tryd.prog.globalNamed name = some 1) {W : World} (ht : Lib.TabIs Tryd.prog W name .u64 Lib.pow10Tab) : ∀ x ∈ glT, ∃ arr t f, W.heap[x.1]? = some (.cells arr t f) ∧ x.2 arr := by
  intro x hx
  simp only [glT, List.mem_singleton] at hx
  subst hx
  simp only [Lib.TabIs, World.var?, hg, Option.bind_some] at ht
  split at ht
  · rename_i cs t f e
    exact ⟨cs, t, f, e, Option.some.inj ht⟩
  · cases ht
/-- The library's decimals. -/
theorem k_FormatInt (n : Int) (h : Side (-9223372036854775808 ≤ n ∧ n ≤ 9223372036854775807)) : FnIs Tryd.prog 39 [.int .i64 n, .int .i64 10] 0 [] (.str (decB n)) 0 [] := by
  refine fn_of_lib ⟨_, Tryd.func39, rfl, rfl⟩ fun ρ w cargs hgk hv => ⟨.string (decB n), by simp only [VR], ?_⟩
  simp only [VRL, VR] at hv
  obtain ⟨_, _, rfl, rfl, _, _, rfl, rfl, rfl⟩ := hv
  have hc := Any.strconv_FormatInt_10 Tryd.fmtI n h.h.1 h.h.2 w (tab_pow (by kernel_rfl) hgk)
  change Calls Tryd.prog 39 _ _ _ at hc
  exact hc.mono fun e w' ⟨he, k, os, hw⟩ => ⟨he, hw ▸ frame_grow _ _ _⟩
theorem k_Decimal (n : Int) (h : Side (-9223372036854775808 ≤ n ∧ n ≤ 9223372036854775807)) : FnIs Tryd.prog 24 [.int .i64 n] 0 [] (.str (decB n)) 0 [] := by
  refine fn_of_ev tok Tryd.func24 rfl rfl rfl ?_
  repeat' ((conv => whnf); first | done | refine ev_step ?_ | refine ops_step ?_ | refine scan_step ?_ | refine draw_step ?_ | refine each_step ?_ | refine sl_step ?_ | refine hp_step ?_ | refine guard_no (by decide) ?_ | refine guard_go ?_ | refine guard_old ?_ | apply cut_auto | with_reducible exact CutS.mk (Or.inl ⟨rfl, rfl, rfl⟩) | refine CutS.mk (Or.inr (Or.inl (sub_auto ?_))) | exact trivial | refine And.intro ?_ ?_ | refine cond_split ?_ ?_ | apply guess | apply FnIs.useF (k_FormatInt n h) | exact Or.inl rfl | exact Or.inr rfl | exact Side.mk trivial | exact Side.mk (fun h => h) | exact Side.mk (fun h => ⟨h, h⟩) | with_reducible exact Side.mk rfl | with_reducible exact Side.mk ⟨rfl, rfl⟩ | with_reducible exact Side.mk (by assumption) | with_reducible rfl | intro _)
  all_goals try (conv => whnf)
  all_goals first | rfl | trace_state
/-- Where a byte stands first. -/
theorem k_SIndex1 (s : ByteArray) (c : UInt8) : FnIs Tryd.prog 52 [.str s, .str ⟨#[c]⟩] 0 [] (.int .i64 (Lib.indexByte (bl s) c)) 0 [] := by
  refine fn_of_lib ⟨_, Tryd.func52, rfl, rfl⟩ fun ρ w cargs hgk hv => ⟨.int .i64 (Lib.indexByte (bl s) c), by simp only [VR], ?_⟩
  simp only [VRL, VR] at hv
  obtain ⟨_, _, rfl, rfl, _, _, rfl, rfl, rfl⟩ := hv
  have hc := Any.stringslite_Index_one Tryd.sIdx s c w
  change Calls Tryd.prog 52 _ _ _ at hc
  exact hc.mono fun e w' ⟨he, hw⟩ => ⟨he, hw ▸ FrameW.refl _ _⟩
theorem k_SIndexByte (s : ByteArray) (c : UInt8) : FnIs Tryd.prog 41 [.str s, .int .u8 c.toNat] 0 [] (.int .i64 (Lib.indexByte (bl s) c)) 0 [] := by
  refine fn_of_lib ⟨_, Tryd.func41, rfl, rfl⟩ fun ρ w cargs hgk hv => ⟨.int .i64 (Lib.indexByte (bl s) c), by simp only [VR], ?_⟩
  simp only [VRL, VR] at hv
  obtain ⟨_, _, rfl, rfl, _, _, rfl, rfl, rfl⟩ := hv
  have hc := Any.stringslite_IndexByte Tryd.sIdxB s c.toNat w
  change Calls Tryd.prog 41 _ _ _ at hc
  have e : (c.toNat : Int).toNat.toUInt8 = c := by
    simp
  rw [e] at hc
  exact hc.mono fun e w' ⟨he, hw⟩ => ⟨he, hw ▸ FrameW.refl _ _⟩
theorem k_IndexByte (s : ByteArray) (c : UInt8) : FnIs Tryd.prog 29 [.str s, .int .u8 c.toNat] 0 [] (.int .i64 (Lib.indexByte (bl s) c)) 0 [] := by
  refine fn_of_ev tok Tryd.func29 rfl rfl rfl ?_
  repeat' ((conv => whnf); first | done | refine ev_step ?_ | refine ops_step ?_ | refine scan_step ?_ | refine draw_step ?_ | refine each_step ?_ | refine sl_step ?_ | refine hp_step ?_ | refine guard_no (by decide) ?_ | refine guard_go ?_ | refine guard_old ?_ | apply cut_auto | with_reducible exact CutS.mk (Or.inl ⟨rfl, rfl, rfl⟩) | refine CutS.mk (Or.inr (Or.inl (sub_auto ?_))) | exact trivial | refine And.intro ?_ ?_ | refine cond_split ?_ ?_ | apply guess | apply FnIs.useF (k_SIndexByte s c) | exact Or.inl rfl | exact Or.inr rfl | exact Side.mk trivial | exact Side.mk (fun h => h) | exact Side.mk (fun h => ⟨h, h⟩) | with_reducible exact Side.mk rfl | with_reducible exact Side.mk ⟨rfl, rfl⟩ | with_reducible exact Side.mk (by assumption) | with_reducible rfl | intro _)
  all_goals try (conv => whnf)
  all_goals first | rfl | trace_state
theorem k_Index1 (s : ByteArray) (c : UInt8) : FnIs Tryd.prog 36 [.str s, .str ⟨#[c]⟩] 0 [] (.int .i64 (Lib.indexByte (bl s) c)) 0 [] := by
  refine fn_of_ev tok Tryd.func36 rfl rfl rfl ?_
  repeat' ((conv => whnf); first | done | refine ev_step ?_ | refine ops_step ?_ | refine scan_step ?_ | refine draw_step ?_ | refine each_step ?_ | refine sl_step ?_ | refine hp_step ?_ | refine guard_no (by decide) ?_ | refine guard_go ?_ | refine guard_old ?_ | apply cut_auto | with_reducible exact CutS.mk (Or.inl ⟨rfl, rfl, rfl⟩) | refine CutS.mk (Or.inr (Or.inl (sub_auto ?_))) | exact trivial | refine And.intro ?_ ?_ | refine cond_split ?_ ?_ | apply guess | apply FnIs.useF (k_SIndex1 s c) | exact Or.inl rfl | exact Or.inr rfl | exact Side.mk trivial | exact Side.mk (fun h => h) | exact Side.mk (fun h => ⟨h, h⟩) | with_reducible exact Side.mk rfl | with_reducible exact Side.mk ⟨rfl, rfl⟩ | with_reducible exact Side.mk (by assumption) | with_reducible rfl | intro _)
  all_goals try (conv => whnf)
  all_goals first | rfl | trace_state
theorem k_Contains1 (s : ByteArray) (c : UInt8) : FnIs Tryd.prog 20 [.str s, .str ⟨#[c]⟩] 0 [] (.bool (decide (0 ≤ Lib.indexByte (bl s) c))) 0 [] := by
  refine fn_of_ev tok Tryd.func20 rfl rfl rfl ?_
  repeat' ((conv => whnf); first | done | refine ev_step ?_ | refine ops_step ?_ | refine scan_step ?_ | refine draw_step ?_ | refine each_step ?_ | refine sl_step ?_ | refine hp_step ?_ | refine guard_no (by decide) ?_ | refine guard_go ?_ | refine guard_old ?_ | apply cut_auto | with_reducible exact CutS.mk (Or.inl ⟨rfl, rfl, rfl⟩) | refine CutS.mk (Or.inr (Or.inl (sub_auto ?_))) | exact trivial | refine And.intro ?_ ?_ | refine cond_split ?_ ?_ | apply guess | apply FnIs.useF (k_Index1 s c) | exact Or.inl rfl | exact Or.inr rfl | exact Side.mk trivial | exact Side.mk (fun h => h) | exact Side.mk (fun h => ⟨h, h⟩) | with_reducible exact Side.mk rfl | with_reducible exact Side.mk ⟨rfl, rfl⟩ | with_reducible exact Side.mk (by assumption) | with_reducible rfl | intro _)
  all_goals try (conv => whnf)
  all_goals first | rfl | trace_state
end Go.Sx.U
