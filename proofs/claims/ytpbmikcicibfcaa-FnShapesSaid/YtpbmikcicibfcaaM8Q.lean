/-
  Chapter 8, plain: the shapes of nets are good.
-/
import Derived.Test.YtpbmikcicibfcaaM8P
namespace Go.Sx.M8
set_option linter.unusedVariables false
set_option linter.unusedSimpArgs false
open Go Go.Sx Go.Sx.U

theorem map_range_add {α : Type} (P : Nat → α) (m n : Nat) : (List.range (m + n)).map P = (List.range m).map P ++ (List.range n).map fun i => P (m + i) := by
  rw [List.range_add, List.map_append, List.map_map]; rfl
theorem stair_split (a b c d : Int) (X Y : Nat → Nat) (n1 n2 n3 : Nat) : stair a b c d X Y (n1 + n2 + n3) =
    [⟨wk a c (X 0), wk b d (Y 0)⟩] ++ ((List.range n1).map fun i => ⟨wk a c (X (i + 1)), wk b d (Y (i + 1))⟩) ++ ((List.range n2).map fun i => ⟨wk a c (X (n1 + (i + 1))), wk b d (Y (n1 + (i + 1)))⟩) ++ ((List.range n3).map fun i => ⟨wk a c (X (n1 + n2 + (i + 1))), wk b d (Y (n1 + n2 + (i + 1)))⟩) := by
  unfold stair
  rw [show n1 + n2 + n3 + 1 = 1 + n1 + n2 + n3 by omega, map_range_add, map_range_add, map_range_add]
  congr 1
  · congr 1
    · congr 1
      refine List.map_congr_left fun i _ => ?_
      rw [show 1 + i = i + 1 by omega]
    · refine List.map_congr_left fun i _ => ?_
      rw [show 1 + n1 + i = n1 + (i + 1) by omega]
  · refine List.map_congr_left fun i _ => ?_
    rw [show 1 + n1 + n2 + i = n1 + n2 + (i + 1) by omega]
theorem line_X (a b c : Int) : lineL a b c b = (List.range (c - a).natAbs).map fun i => (⟨wk a c (i + 1), b⟩ : R2) := by
  unfold lineL lineT lineN
  rw [show (b - b).natAbs = 0 by simp, Nat.add_zero]
  refine List.map_congr_left fun i _ => ?_
  simp only [ptAt, wk, show sgn (b - b) = 0 by simp [sgn], Int.zero_mul, Int.add_zero]
theorem line_Y (a b d : Int) : lineL a b a d = (List.range (d - b).natAbs).map fun i => (⟨a, wk b d (i + 1)⟩ : R2) := by
  unfold lineL lineT lineN
  rw [show (a - a).natAbs = 0 by simp, Nat.zero_add]
  refine List.map_congr_left fun i _ => ?_
  simp only [ptAt, wk, show sgn (a - a) = 0 by simp [sgn], Int.zero_mul, Int.add_zero]
theorem line_self (a b : Int) : lineL a b a b = [] := by rw [line_X]; simp
theorem path_cut4 (p q r s : R2) : pathL (cut4 p q r s) = [p] ++ lineL p.a p.b q.a q.b ++ lineL q.a q.b r.a r.b ++ lineL r.a r.b s.a s.b := by
  unfold cut4
  split
  · rename_i h
    subst h
    rw [line_self, List.append_nil]
    rfl
  · rfl
abbrev cl (n : Int) : Prop := 0 ≤ n ∧ n ≤ 7
theorem good_of {a b c d : Int} {X Y : Nat → Nat} {N : Nat} {s : List R2} (hs : Steps a b c d X Y N) (ha : cl a) (hb : cl b) (hc : cl c) (hd : cl d) (hN : N ≤ 14) (h1 : 1 ≤ s.length) (h2 : s.length ≤ 8) (h3 : ∀ p ∈ s, cl p.a ∧ cl p.b)
    (h4 : ∀ i, i + 1 < s.length → aligned (s.getD i default) (s.getD (i + 1) default)) (hm1 : (⟨a, b⟩ : R2) ∈ s) (hm2 : (⟨c, d⟩ : R2) ∈ s) (hp : pathL s = stair a b c d X Y N) (hk : cornL (stair a b c d X Y N) = s) : GoodShape s :=
  ⟨h1, h2, fun i hi => h3 _ (mem_of_getD hi), h4, by rw [hp]; exact stair_ok hs ha hb hc hd hN, by rw [hp]; exact hk, fun w h hb => by
    rw [hp]
    have q1 := mem_box hb hm1
    have q2 := mem_box hb hm2
    exact stair_box hs q1.1 q1.2 q2.1 q2.2⟩
theorem cut4_first (p q r s : R2) : p ∈ cut4 p q r s := by unfold cut4; split <;> simp
theorem cut4_last (p q r s : R2) : s ∈ cut4 p q r s := by unfold cut4; split <;> simp_all
theorem ali4 {p q r s : R2} (h1 : aligned p q) (h2 : aligned q r) (h3 : aligned r s) : ∀ i, i + 1 < (cut4 p q r s).length → aligned ((cut4 p q r s).getD i default) ((cut4 p q r s).getD (i + 1) default) := by
  intro i hi
  unfold cut4 at hi ⊢
  split at hi
  · rename_i h
    rw [if_pos h]
    simp only [List.length_cons, List.length_nil] at hi
    rcases (by omega : i = 0 ∨ i = 1) with rfl | rfl
    · exact h1
    · exact h2
  · rename_i h
    rw [if_neg h]
    simp only [List.length_cons, List.length_nil] at hi
    rcases (by omega : i = 0 ∨ i = 1 ∨ i = 2) with rfl | rfl | rfl
    · exact h1
    · exact h2
    · exact h3
theorem cut4_mem {p q r s x : R2} (h : x ∈ cut4 p q r s) : x = p ∨ x = q ∨ x = r ∨ x = s := by
  unfold cut4 at h
  split at h <;> simp only [List.mem_cons, List.not_mem_nil, or_false] at h <;> rcases h with h | h | h <;> simp_all
theorem cut4_len2 (p q r s : R2) : 1 ≤ (cut4 p q r s).length ∧ (cut4 p q r s).length ≤ 8 := by unfold cut4; split <;> simp
theorem good_shX {a b c d : Int} (ha : cl a) (hb : cl b) (hc : cl c) (hd : cl d) (hbd : b ≠ d) {i : Nat} (hi : i < (c - a).natAbs) : GoodShape (shX a b c d i) := by
  have hn1 : i + 1 ≤ (c - a).natAbs := hi
  have hn2 : 0 < (d - b).natAbs := by omega
  have hwx : cl (wk a c (i + 1)) := wk_bd ha hc hn1
  obtain ⟨m1, m2⟩ := wk_mid hn1
  have hs : Steps a b c d (fun k => min k (i + 1) + (k - (i + 1 + (d - b).natAbs))) (fun k => min (k - (i + 1)) (d - b).natAbs) ((i + 1) + (d - b).natAbs + ((c - a).natAbs - (i + 1))) :=
    ⟨fun k hk => by omega, fun k hk => by omega, fun k hk => by omega, fun k hk => by omega⟩
  refine good_of hs ha hb hc hd (by omega) (cut4_len2 _ _ _ _).1 (cut4_len2 _ _ _ _).2 (fun p hp => ?_) (ali4 (.inr rfl) (.inl rfl) (.inr rfl)) (cut4_first _ _ _ _) (cut4_last _ _ _ _) ?_ ?_
  · rcases cut4_mem hp with rfl | rfl | rfl | rfl <;> exact ⟨by assumption, by assumption⟩
  · unfold shX
    rw [path_cut4, stair_split, line_X, line_Y, line_X, m1, m2]
    congr 1
    · congr 1
      · congr 1
        · simp [wk_zero]
        · refine List.map_congr_left fun k hk => ?_
          have hk := List.mem_range.1 hk
          rw [wk_front hn1 (by omega)]
          simp only [show min (k + 1) (i + 1) + (k + 1 - (i + 1 + (d - b).natAbs)) = k + 1 by omega, show min (k + 1 - (i + 1)) (d - b).natAbs = 0 by omega, wk_zero]
      · refine List.map_congr_left fun k hk => ?_
        have hk := List.mem_range.1 hk
        simp only at hk
        simp only [show min (i + 1 + (k + 1)) (i + 1) + (i + 1 + (k + 1) - (i + 1 + (d - b).natAbs)) = i + 1 by omega, show min (i + 1 + (k + 1) - (i + 1)) (d - b).natAbs = k + 1 by omega]
    · refine List.map_congr_left fun k hk => ?_
      have hk := List.mem_range.1 hk
      rw [wk_back hn1 (by omega)]
      simp only [show min (i + 1 + (d - b).natAbs + (k + 1)) (i + 1) + (i + 1 + (d - b).natAbs + (k + 1) - (i + 1 + (d - b).natAbs)) = i + 1 + (k + 1) by omega, show min (i + 1 + (d - b).natAbs + (k + 1) - (i + 1)) (d - b).natAbs = (d - b).natAbs by omega, wk_end]
  · by_cases h3 : (c - a).natAbs = i + 1
    · have hxc : wk a c (i + 1) = c := by rw [← h3]; exact wk_end a c
      rw [corn_three (m := i + 1) hs (by omega) (by omega) (by omega) (fun k k1 k2 k3 => by omega)]
      unfold shX
      rw [cut4, if_pos (by rw [hxc])]
      simp only [show min 0 (i + 1) + (0 - (i + 1 + (d - b).natAbs)) = 0 by omega, show min (0 - (i + 1)) (d - b).natAbs = 0 by omega, show min (i + 1) (i + 1) + (i + 1 - (i + 1 + (d - b).natAbs)) = i + 1 by omega, show min (i + 1 - (i + 1)) (d - b).natAbs = 0 by omega,
        show min (i + 1 + (d - b).natAbs + ((c - a).natAbs - (i + 1))) (i + 1) + (i + 1 + (d - b).natAbs + ((c - a).natAbs - (i + 1)) - (i + 1 + (d - b).natAbs)) = i + 1 by omega, show min (i + 1 + (d - b).natAbs + ((c - a).natAbs - (i + 1)) - (i + 1)) (d - b).natAbs = (d - b).natAbs by omega, wk_zero, wk_end]
    · have hxc : wk a c (i + 1) ≠ c := fun e => h3 ((wk_iff hi).1 e).symm
      rw [corn_four (m := i + 1) (n := i + 1 + (d - b).natAbs) hs (by omega) (by omega) (by omega) (by omega) (by omega) (fun k k1 k2 k3 k4 => by omega)]
      unfold shX
      rw [cut4, if_neg (fun e => hxc (by injection e))]
      simp only [show min 0 (i + 1) + (0 - (i + 1 + (d - b).natAbs)) = 0 by omega, show min (0 - (i + 1)) (d - b).natAbs = 0 by omega, show min (i + 1) (i + 1) + (i + 1 - (i + 1 + (d - b).natAbs)) = i + 1 by omega, show min (i + 1 - (i + 1)) (d - b).natAbs = 0 by omega,
        show min (i + 1 + (d - b).natAbs) (i + 1) + (i + 1 + (d - b).natAbs - (i + 1 + (d - b).natAbs)) = i + 1 by omega, show min (i + 1 + (d - b).natAbs - (i + 1)) (d - b).natAbs = (d - b).natAbs by omega,
        show min (i + 1 + (d - b).natAbs + ((c - a).natAbs - (i + 1))) (i + 1) + (i + 1 + (d - b).natAbs + ((c - a).natAbs - (i + 1)) - (i + 1 + (d - b).natAbs)) = (c - a).natAbs by omega, show min (i + 1 + (d - b).natAbs + ((c - a).natAbs - (i + 1)) - (i + 1)) (d - b).natAbs = (d - b).natAbs by omega, wk_zero, wk_end]
theorem good_shY {a b c d : Int} (ha : cl a) (hb : cl b) (hc : cl c) (hd : cl d) (hac : a ≠ c) {i : Nat} (hi : i < (d - b).natAbs) : GoodShape (shY a b c d i) := by
  have hn1 : i + 1 ≤ (d - b).natAbs := hi
  have hn2 : 0 < (c - a).natAbs := by omega
  have hwy : cl (wk b d (i + 1)) := wk_bd hb hd hn1
  obtain ⟨m1, m2⟩ := wk_mid hn1
  have hs : Steps a b c d (fun k => min (k - (i + 1)) (c - a).natAbs) (fun k => min k (i + 1) + (k - (i + 1 + (c - a).natAbs))) ((i + 1) + (c - a).natAbs + ((d - b).natAbs - (i + 1))) :=
    ⟨fun k hk => by omega, fun k hk => by omega, fun k hk => by omega, fun k hk => by omega⟩
  refine good_of hs ha hb hc hd (by omega) (cut4_len2 _ _ _ _).1 (cut4_len2 _ _ _ _).2 (fun p hp => ?_) (ali4 (.inl rfl) (.inr rfl) (.inl rfl)) (cut4_first _ _ _ _) (cut4_last _ _ _ _) ?_ ?_
  · rcases cut4_mem hp with rfl | rfl | rfl | rfl <;> exact ⟨by assumption, by assumption⟩
  · unfold shY
    rw [path_cut4, stair_split, line_Y, line_X, line_Y, m1, m2]
    congr 1
    · congr 1
      · congr 1
        · simp [wk_zero]
        · refine List.map_congr_left fun k hk => ?_
          have hk := List.mem_range.1 hk
          rw [wk_front hn1 (by omega)]
          simp only [show min (k + 1) (i + 1) + (k + 1 - (i + 1 + (c - a).natAbs)) = k + 1 by omega, show min (k + 1 - (i + 1)) (c - a).natAbs = 0 by omega, wk_zero]
      · refine List.map_congr_left fun k hk => ?_
        have hk := List.mem_range.1 hk
        simp only at hk
        simp only [show min (i + 1 + (k + 1)) (i + 1) + (i + 1 + (k + 1) - (i + 1 + (c - a).natAbs)) = i + 1 by omega, show min (i + 1 + (k + 1) - (i + 1)) (c - a).natAbs = k + 1 by omega]
    · refine List.map_congr_left fun k hk => ?_
      have hk := List.mem_range.1 hk
      rw [wk_back hn1 (by omega)]
      simp only [show min (i + 1 + (c - a).natAbs + (k + 1)) (i + 1) + (i + 1 + (c - a).natAbs + (k + 1) - (i + 1 + (c - a).natAbs)) = i + 1 + (k + 1) by omega, show min (i + 1 + (c - a).natAbs + (k + 1) - (i + 1)) (c - a).natAbs = (c - a).natAbs by omega, wk_end]
  · by_cases h3 : (d - b).natAbs = i + 1
    · have hxc : wk b d (i + 1) = d := by rw [← h3]; exact wk_end b d
      rw [corn_three (m := i + 1) hs (by omega) (by omega) (by omega) (fun k k1 k2 k3 => by omega)]
      unfold shY
      rw [cut4, if_pos (by rw [hxc])]
      simp only [show min 0 (i + 1) + (0 - (i + 1 + (c - a).natAbs)) = 0 by omega, show min (0 - (i + 1)) (c - a).natAbs = 0 by omega, show min (i + 1) (i + 1) + (i + 1 - (i + 1 + (c - a).natAbs)) = i + 1 by omega, show min (i + 1 - (i + 1)) (c - a).natAbs = 0 by omega,
        show min (i + 1 + (c - a).natAbs + ((d - b).natAbs - (i + 1))) (i + 1) + (i + 1 + (c - a).natAbs + ((d - b).natAbs - (i + 1)) - (i + 1 + (c - a).natAbs)) = i + 1 by omega, show min (i + 1 + (c - a).natAbs + ((d - b).natAbs - (i + 1)) - (i + 1)) (c - a).natAbs = (c - a).natAbs by omega, wk_zero, wk_end]
    · have hxc : wk b d (i + 1) ≠ d := fun e => h3 ((wk_iff hi).1 e).symm
      rw [corn_four (m := i + 1) (n := i + 1 + (c - a).natAbs) hs (by omega) (by omega) (by omega) (by omega) (by omega) (fun k k1 k2 k3 k4 => by omega)]
      unfold shY
      rw [cut4, if_neg (fun e => hxc (by injection e))]
      simp only [show min 0 (i + 1) + (0 - (i + 1 + (c - a).natAbs)) = 0 by omega, show min (0 - (i + 1)) (c - a).natAbs = 0 by omega, show min (i + 1) (i + 1) + (i + 1 - (i + 1 + (c - a).natAbs)) = i + 1 by omega, show min (i + 1 - (i + 1)) (c - a).natAbs = 0 by omega,
        show min (i + 1 + (c - a).natAbs) (i + 1) + (i + 1 + (c - a).natAbs - (i + 1 + (c - a).natAbs)) = i + 1 by omega, show min (i + 1 + (c - a).natAbs - (i + 1)) (c - a).natAbs = (c - a).natAbs by omega,
        show min (i + 1 + (c - a).natAbs + ((d - b).natAbs - (i + 1))) (i + 1) + (i + 1 + (c - a).natAbs + ((d - b).natAbs - (i + 1)) - (i + 1 + (c - a).natAbs)) = (d - b).natAbs by omega, show min (i + 1 + (c - a).natAbs + ((d - b).natAbs - (i + 1)) - (i + 1)) (c - a).natAbs = (c - a).natAbs by omega, wk_zero, wk_end]
theorem good_one {a b : Int} (ha : cl a) (hb : cl b) : GoodShape [⟨a, b⟩] := by
  refine ⟨by simp, by simp, fun i hi => ?_, fun i hi => ?_, ?_, rfl, fun w h hb k hk => ?_⟩
  · obtain rfl : i = 0 := by simpa using hi
    exact ⟨ha, hb⟩
  · simp at hi
  · refine ⟨by simp [pathL, linesT], by simp [pathL, linesT], fun i hi => ?_, fun i hi j hj => ?_, fun i hi => ?_⟩
    · obtain rfl : i = 0 := by simpa [pathL, linesT] using hi
      refine ⟨?_, ?_⟩ <;> simp [pathL, linesT] <;> omega
    · simp [pathL, linesT] at hi; omega
    · simp [pathL, linesT] at hi
  · obtain rfl : k = 0 := by simpa [pathL, linesT] using hk
    simpa [pathL, linesT] using hb 0 (by simp)
theorem good_two {a b c d : Int} (ha : cl a) (hb : cl b) (hc : cl c) (hd : cl d) (h : a = c ∨ b = d) (hne : ¬ (a = c ∧ b = d)) : GoodShape [⟨a, b⟩, ⟨c, d⟩] := by
  have hs : Steps a b c d (fun k => min k (c - a).natAbs) (fun k => min k (d - b).natAbs) ((c - a).natAbs + (d - b).natAbs) :=
    ⟨fun k hk => by omega, fun k hk => by omega, fun k hk => by omega, fun k hk => by omega⟩
  refine good_of hs ha hb hc hd (by omega) (by simp) (by simp) (fun p hp => ?_) (fun i hi => ?_) (by simp) (by simp) ?_ ?_
  · simp only [List.mem_cons, List.not_mem_nil, or_false] at hp
    rcases hp with rfl | rfl <;> exact ⟨by assumption, by assumption⟩
  · simp only [List.length_cons, List.length_nil] at hi
    obtain rfl : i = 0 := by omega
    exact h
  · have e := stair_split a b c d (fun k => min k (c - a).natAbs) (fun k => min k (d - b).natAbs) ((c - a).natAbs + (d - b).natAbs) 0 0
    simp only [Nat.add_zero] at e
    rw [e]
    simp only [List.range_zero, List.map_nil, List.append_nil]
    show [⟨a, b⟩] ++ lineL a b c d = _
    congr 1
    · simp [wk_zero]
    · rcases h with rfl | rfl
      · rw [line_Y, show (a - a).natAbs = 0 by simp, Nat.zero_add]
        refine List.map_congr_left fun k hk => ?_
        have hk := List.mem_range.1 hk
        simp only [show min (k + 1) 0 = 0 by omega, wk_zero, show min (k + 1) (d - b).natAbs = k + 1 by omega]
      · rw [line_X, show (b - b).natAbs = 0 by simp, Nat.add_zero]
        refine List.map_congr_left fun k hk => ?_
        have hk := List.mem_range.1 hk
        simp only [show min (k + 1) 0 = 0 by omega, wk_zero, show min (k + 1) (c - a).natAbs = k + 1 by omega]
  · rw [corn_two hs (by omega) (fun k k1 k2 => by omega)]
    simp only [show min 0 (c - a).natAbs = 0 by omega, show min 0 (d - b).natAbs = 0 by omega, show min ((c - a).natAbs + (d - b).natAbs) (c - a).natAbs = (c - a).natAbs by omega, show min ((c - a).natAbs + (d - b).natAbs) (d - b).natAbs = (d - b).natAbs by omega, wk_zero, wk_end]
theorem good_shapes {a b c d : Int} (ha : cl a) (hb : cl b) (hc : cl c) (hd : cl d) : ∀ s ∈ shapesV a b c d, GoodShape s := by
  intro s hs
  unfold shapesV at hs
  split at hs
  · rename_i h
    rw [List.mem_singleton.1 hs]
    split
    · exact good_one ha hb
    · exact good_two ha hb hc hd h (by assumption)
  · rename_i h
    rcases List.mem_append.1 hs with hs | hs
    · simp only [shapesX, List.mem_map, List.mem_range] at hs
      obtain ⟨i, hi, rfl⟩ := hs
      exact good_shX ha hb hc hd (fun e => h (.inr e)) hi
    · simp only [shapesY, List.mem_map, List.mem_range] at hs
      obtain ⟨i, hi, rfl⟩ := hs
      exact good_shY ha hb hc hd (fun e => h (.inl e)) hi
end Go.Sx.M8
