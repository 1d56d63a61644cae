/-
  append, whole; all effects in one.
-/
import Derived.Test.YtbjlbmehklfijaaSxJ
namespace Go.Sx
set_option linter.unusedVariables false
set_option linter.unusedSimpArgs false
open Go
open Go.RowKit

section
variable {P : Program} {T : Tbl} {ρ : Rho} {N : Nat} {G : Heap} {w : World}

def dstK (G : Heap) (v : AV) (K : Cnd → Option Flat → Heap → Option (Nat × Nat) → Prop) : Prop :=
  match v with
  | .nilsl => K none none G none
  | .sl id p => match p with
    | [] => match hget G id with
      | some o => match o with
        | .flat own f => match own with
          | true => hdelK G id fun Gd => K none (some f) Gd none
          | false => False
        | _ => False
      | none => False
    | _ :: _ => False
  | .sub id p i len cap => match cap with
    | some c => match hget G id with
      | some o => nodeV o id p fun C V => match V with
        | .fl f => K (cAnd C (some (i + len ≤ f.n))) (some (f.part i len)) G (some (len, c))
      | none => False
    | none => match p with
      | [] => match hget G id with
        | some o => match o with
          | .flat own f => match own with
            | true => hdelK G id fun Gd => K (some (i + len ≤ f.n)) (some (f.part i len)) Gd none
            | false => False
          | _ => False
        | none => False
      | _ :: _ => False
  | _ => False

structure DstOK (ρ : Rho) (N : Nat) (G Gd : Heap) (w : World) (cv : Value) (f : Option Flat) (fix : Option (Nat × Nat)) (sz : Nat) : Prop where
  sub : ∀ i o, hget Gd i = some o → hget G i = some o
  ex : ∃ (A : Option Addr) (n c : Nat) (olds : List Value), cv = .slice A n c ∧ olds.length = n * sz ∧ (0 < n → ∃ b o, A = some ⟨b, o, none⟩ ∧ ∀ (j : Nat) v, olds[j]? = some v → w.cell? ⟨b, o + j, none⟩ = some v) ∧
    (match f with
    | none => n = 0 ∧ c = 0 ∧ A = none
    | some f => n = f.n ∧ (f.sz = sz → ∀ a, a < n → ∀ b, b < sz → ∃ u, olds[a * sz + b]? = some u ∧ VR ρ N (f.cell a b) u ∧ u.oneCell' = true)) ∧
    (match fix with
    | some (len, c') => n = len ∧ c = c'
    | none => (n = 0 ∧ c = 0) ∨ ∃ id f0 o, hget G id = some (.flat true f0) ∧ hget Gd id = none ∧ A = some ⟨(ρ id []).b, o, none⟩ ∧ o + c * sz ≤ (ρ id []).tot ∧ (0 < c * sz → 0 < (ρ id []).tot) ∧ n ≤ c)

theorem dstK_spec (hH : HeapRep ρ N G w) {v : AV} {K : Cnd → Option Flat → Heap → Option (Nat × Nat) → Prop} (h : dstK G v K) {cv : Value} (hv : VR ρ N v cv) :
    ∃ C f Gd fix, K C f Gd fix ∧ (C.holds → ∀ sz, (∀ f', f = some f' → f'.sz = sz) → DstOK ρ N G Gd w cv f fix sz) := by
  have hdsub : ∀ id, (∀ i o, hget (hdel G id) i = some o → hget G i = some o) := fun id i o h => by
    rw [hget_hdel] at h
    split at h
    · cases h
    · exact h
  have hdnone : ∀ id, hget (hdel G id) id = none := fun id => by rw [hget_hdel]; simp
  unfold dstK at h
  split at h
  · simp only [VR] at hv
    exact ⟨_, _, _, _, h, fun _ sz _ => ⟨fun _ _ h => h, none, 0, 0, [], hv, by simp, by simp, ⟨rfl, rfl, rfl⟩, .inl ⟨rfl, rfl⟩⟩⟩
  · rename_i id p
    simp only [VR] at hv
    obtain ⟨_, A, c, rfl, hsl⟩ := hv
    split at h
    case h_2 => exact h.elim
    split at h
    case h_2 => exact h.elim
    rename_i o ho
    split at h
    case h_2 => exact h.elim
    rename_i own f
    split at h
    case h_2 => exact h.elim
    refine ⟨_, _, _, _, hdelK_eq _ _ _ h, fun hc sz hsz => ?_⟩
    obtain rfl := hsz f rfl
    have hnode : NodeAt G id [] f.node true := NodeAt.of_get ho rfl
    obtain ⟨s1, s2, s3⟩ := hH.shape id [] _ _ hnode
    simp only [Flat.node] at s1 s2 s3
    obtain ⟨news, n1, n2, n3⟩ := node_cells hH hnode (i := 0) (len := f.n) (by simp [Flat.node])
    simp only [Flat.node, Nat.zero_mul, Nat.add_zero, Nat.zero_add] at n1 n2 n3
    refine ⟨hdsub id, A, _, c, news, rfl, by rw [s2]; exact n1, fun hm => ?_, ⟨s2, fun _ => by rw [s2]; exact n3⟩, ?_⟩
    · have := hsl.addr hm
      exact ⟨_, _, by simpa using this, n2⟩
    · rcases hsl with ⟨rfl, h1, h2⟩ | h1
      · simp only [Nat.zero_mul, Nat.add_zero, Nat.zero_add, s1] at h2 ⊢
        exact .inr ⟨id, f, _, ho, hdnone id, rfl, h2, fun h => by omega, h1⟩
      · exact .inl h1
  · rename_i id p i len cap
    simp only [VR] at hv
    obtain ⟨_, A, c, rfl, hsl, hcap⟩ := hv
    split at h
    · rename_i c'
      obtain rfl := hcap c' rfl
      split at h
      case h_2 => exact h.elim
      rename_i o ho
      obtain ⟨C, V, h, hn⟩ := nodeV_spec h
      obtain ⟨f⟩ := V
      simp only at h
      refine ⟨_, _, _, _, h, fun hcc sz hsz => ?_⟩
      obtain ⟨hc, hc2⟩ := cAnd_holds hcc
      simp only [Cnd.holds] at hc2
      obtain ⟨p1, p2, p3⟩ := part_spec hc2
      obtain rfl := hsz _ rfl
      have hnode := NodeAt.of_get ho (hn hc)
      simp only [NV.node] at hnode
      obtain ⟨s1, s2, s3⟩ := hH.shape id p _ _ hnode
      simp only [Flat.node] at s1 s2 s3
      obtain ⟨news, n1, n2, n3⟩ := node_cells hH hnode (i := i) (len := len) (by simpa [Flat.node] using hc2)
      simp only [Flat.node] at n1 n2 n3
      rw [p2]
      refine ⟨fun _ _ h => h, A, _, c, news, rfl, n1, fun hm => ?_, ⟨p1.symm, fun _ a ha b hb => ?_⟩, rfl, rfl⟩
      · have := hsl.addr hm
        rw [s1] at this
        exact ⟨_, _, this, n2⟩
      · obtain ⟨u, q1, q2, q3⟩ := n3 a ha b hb
        exact ⟨u, q1, by rw [p3 a b ha]; exact q2, q3⟩
    · split at h
      case h_2 => exact h.elim
      split at h
      case h_2 => exact h.elim
      rename_i o ho
      split at h
      case h_2 => exact h.elim
      rename_i own f
      split at h
      case h_2 => exact h.elim
      refine ⟨_, _, _, _, hdelK_eq _ _ _ h, fun hc2 sz hsz => ?_⟩
      simp only [Cnd.holds] at hc2
      obtain ⟨p1, p2, p3⟩ := part_spec hc2
      obtain rfl := hsz _ rfl
      have hnode : NodeAt G id [] f.node true := NodeAt.of_get ho rfl
      obtain ⟨s1, s2, s3⟩ := hH.shape id [] _ _ hnode
      simp only [Flat.node] at s1 s2 s3
      obtain ⟨news, n1, n2, n3⟩ := node_cells hH hnode (i := i) (len := len) (by simpa [Flat.node] using hc2)
      simp only [Flat.node] at n1 n2 n3
      rw [p2]
      refine ⟨hdsub id, A, _, c, news, rfl, n1, fun hm => ?_, ⟨p1.symm, fun _ a ha b hb => ?_⟩, ?_⟩
      · have := hsl.addr hm
        rw [s1] at this
        exact ⟨_, _, this, n2⟩
      · obtain ⟨u, q1, q2, q3⟩ := n3 a ha b hb
        exact ⟨u, q1, by rw [p3 a b ha]; exact q2, q3⟩
      · rcases hsl with ⟨rfl, h1, h2⟩ | h1
        · rw [s1, Nat.add_mul, ← Nat.add_assoc] at h2
          rw [s1]
          exact .inr ⟨id, f, _, ho, hdnone id, rfl, h2, fun h => by omega, h1⟩
        · exact .inl h1
  · exact h.elim

def appFlat (f g : Option Flat) (K : Option Flat → Prop) : Prop :=
  match f with
  | none => match g with
    | none => K none
    | some g => K (some g)
  | some f => match g with
    | none => K (some f)
    | some g => f.appK g fun r => K (some r)
def fixC (fix : Option (Nat × Nat)) (g : Option Flat) : Cnd :=
  match fix with
  | none => none
  | some (len, c) => match g with
    | none => some (len ≤ c → len = 0 ∧ c = 0)
    | some g => some (len + g.n ≤ c → len + g.n = 0 ∧ c = 0)
def TD.sl : TD → Bool
  | .slice _ _ _ _ => true
  | _ => false
def eAppend (T : Tbl) (t t2 : Nat) (s x : AV) (N : Nat) (G : Heap) (K : AV → Nat → Heap → Prop) : Prop :=
  match tget T t with
  | some ti => match ti.d with
    | .slice _ esz _ _ => match tget T t2 with
      | some ti2 => match ti2.d.sl with
        | true => srcK G x fun C2 g => dstK G s fun C1 f Gd fix => appFlat f g fun r => match r with
          | none => need C1 (need C2 (K .nilsl N G))
          | some r => bif Nat.beq r.sz esz then need C1 (need C2 (need (fixC fix g) (need (some (r.n ≤ 1099511627776)) (K (.sl N []) (N + 1) ((N, .flat true r) :: Gd))))) else False
        | false => False
      | none => False
    | _ => False
  | none => False

theorem eAppend_sound (hT : TblOK P T) (hH : HeapRep ρ N G w) {t t2 ty : Nat} {s x : AV} {K : AV → Nat → Heap → Prop} (h : eAppend T t t2 s x N G K) {sv xv : Value} (hs : VR ρ N s sv) (hx : VR ρ N x xv) :
    ∃ v w', (Builtin.append_ #[t, t2] ty #[sv, xv]).run P w = .ok v w' ∧ Out ρ N G w K v w' := by
  unfold eAppend at h
  split at h
  case h_2 => exact h.elim
  rename_i ti ht
  split at h
  case h_2 => exact h.elim
  rename_i e esz eb k hd1
  split at h
  case h_2 => exact h.elim
  rename_i ti2 ht2
  split at h
  case h_2 => exact h.elim
  rename_i hsl2
  have hd0 := (hT _ _ ht).desc
  rw [hd1] at hd0
  obtain ⟨hd, i, z, hi, hsz, hby, hpos, heb, hz, hzs, hzk, hz1⟩ : DescOK P t (.slice e esz eb k) := hd0
  have hd2 : ∃ e2, P.underlying t2 = some (.slice e2) := by
    have := (hT _ _ ht2).desc
    cases hdd : ti2.d <;> rw [hdd] at this hsl2 <;> simp only [TD.sl, Bool.false_eq_true] at hsl2
    exact ⟨_, this.1⟩
  obtain ⟨e2, hd2⟩ := hd2
  obtain ⟨C2, g, h, hg⟩ := srcK_spec hH h hx
  obtain ⟨C1, f, Gd, fix, h, hf⟩ := dstK_spec hH h hs
  cases f with
  | none =>
    cases g with
    | none =>
      simp only [appFlat] at h
      obtain ⟨c1, h⟩ := need_spec h
      obtain ⟨c2, hK⟩ := need_spec h
      obtain ⟨A2, m, cc2, news, rfl, n1, n2, n3, n4, n5⟩ := (hg c2 esz (by simp)).ex
      obtain ⟨A, n, c, olds, rfl, o1, o2, ⟨o3, o3', o3''⟩, o4⟩ := (hf c1 esz (by simp)).ex
      subst n3 o3 o3' o3'' n4 n5
      refine ⟨.slice none 0 0, w, ?_, ⟨⟨.nilsl, ρ, N, G, hK, by simp only [VR], hH, Nat.le_refl _, fun _ _ => rfl, FrameW.refl _ _, fun _ h => .inr h⟩⟩⟩
      simp [Builtin.append_, run_underlying hd, run_underlying hd2, sizeOf, typeInfo, hi, Builtin.lenOf, Builtin.firstCells]
    | some g =>
      simp only [appFlat] at h
      cases hb : Nat.beq g.sz esz with
      | false => simp [hb] at h
      | true =>
        simp only [hb, cond_true] at h
        have hgs := Nat.eq_of_beq_eq_true hb
        obtain ⟨c1, h⟩ := need_spec h
        obtain ⟨c2, h⟩ := need_spec h
        obtain ⟨c3, h⟩ := need_spec h
        obtain ⟨c4, hK⟩ := need_spec h
        obtain ⟨A2, m, cc2, news, rfl, n1, n2, n3, n4⟩ := (hg c2 esz (by simpa using hgs)).ex
        obtain ⟨A, n, c, olds, rfl, o1, o2, ⟨o3, o3', o3''⟩, o4⟩ := (hf c1 esz (by simp)).ex
        subst n3 o3 o3' o3''
        simp only [Cnd.holds] at c4
        refine append_core hH hd hi hz (by rw [hzs, hsz]) hd2 (by omega) (by omega) (by rw [hsz]; exact o1) (by rw [hsz]; exact n1) o2 n2 (f := g) (by simp) (by rw [hgs, hsz]) (fun a ha => absurd ha (Nat.not_lt_zero a)) (fun a ha b hb => ?_) (hf c1 esz (by simp)).sub (fun hle => .inl ⟨by omega, rfl⟩) (by simpa using c4) hK
        rw [hsz] at hb ⊢
        simpa using n4 hgs a ha b hb
  | some f =>
    cases g with
    | none =>
      simp only [appFlat] at h
      cases hb : Nat.beq f.sz esz with
      | false => simp [hb] at h
      | true =>
        simp only [hb, cond_true] at h
        have hfs := Nat.eq_of_beq_eq_true hb
        obtain ⟨c1, h⟩ := need_spec h
        obtain ⟨c2, h⟩ := need_spec h
        obtain ⟨c3, h⟩ := need_spec h
        obtain ⟨c4, hK⟩ := need_spec h
        obtain ⟨A2, m, cc2, news, rfl, n1, n2, n3, n4, n5⟩ := (hg c2 esz (by simp)).ex
        obtain ⟨A, n, c, olds, rfl, o1, o2, ⟨o3, o3'⟩, o4⟩ := (hf c1 esz (by simpa using hfs)).ex
        subst n3 o3
        simp only [Cnd.holds] at c4
        refine append_core hH hd hi hz (by rw [hzs, hsz]) hd2 (by omega) (by omega) (by rw [hsz]; exact o1) (by rw [hsz]; exact n1) o2 n2 (f := f) (by simp) (by rw [hfs, hsz]) (fun a ha b hb => ?_) (fun a ha => absurd ha (Nat.not_lt_zero a)) (hf c1 esz (by simpa using hfs)).sub (fun hle => ?_) (by simpa using c4) hK
        · rw [hsz] at hb ⊢
          exact o3' hfs a ha b hb
        · cases fix with
          | some fx =>
            obtain ⟨q1, q2⟩ := o4
            simp only [fixC, Cnd.holds] at c3
            left
            have := c3 (by rw [← q1, ← q2]; omega)
            exact ⟨by omega, by omega⟩
          | none =>
            rcases o4 with q | ⟨id, f0, o, q1, q2, q3, q4, q5, q6⟩
            · exact .inl ⟨by omega, q.2⟩
            · by_cases hc0 : c = 0
              · exact .inl ⟨by omega, hc0⟩
              · exact .inr ⟨id, f0, o, q1, q2, q3, by rw [hsz]; exact q4, q5 (Nat.mul_pos (by omega) hpos)⟩
    | some g =>
      simp only [appFlat] at h
      obtain ⟨r, h, r1, r2, r3, r4⟩ := appK_spec h
      cases hb : Nat.beq r.sz esz with
      | false => simp [hb] at h
      | true =>
        simp only [hb, cond_true] at h
        have hrs := Nat.eq_of_beq_eq_true hb
        have hfs : f.sz = esz := by rw [← r2]; exact hrs
        have hgs : g.sz = esz := by rw [r3]; exact hfs
        obtain ⟨c1, h⟩ := need_spec h
        obtain ⟨c2, h⟩ := need_spec h
        obtain ⟨c3, h⟩ := need_spec h
        obtain ⟨c4, hK⟩ := need_spec h
        obtain ⟨A2, m, cc2, news, rfl, n1, n2, n3, n4⟩ := (hg c2 esz (by simpa using hgs)).ex
        obtain ⟨A, n, c, olds, rfl, o1, o2, ⟨o3, o3'⟩, o4⟩ := (hf c1 esz (by simpa using hfs)).ex
        subst n3 o3
        simp only [Cnd.holds] at c4
        refine append_core hH hd hi hz (by rw [hzs, hsz]) hd2 (by omega) (by omega) (by rw [hsz]; exact o1) (by rw [hsz]; exact n1) o2 n2 (f := r) r1 (by rw [hrs, hsz]) (fun a ha b hb => ?_) (fun a ha b hb => ?_) (hf c1 esz (by simpa using hfs)).sub (fun hle => ?_) (by rw [← r1]; exact c4) hK
        · rw [hsz] at hb ⊢
          rw [r4, if_pos ha]
          exact o3' hfs a ha b hb
        · rw [hsz] at hb ⊢
          rw [r4, if_neg (by omega), show f.n + a - f.n = a by omega]
          exact n4 hgs a ha b hb
        · cases fix with
          | some fx =>
            obtain ⟨q1, q2⟩ := o4
            simp only [fixC, Cnd.holds] at c3
            left
            have := c3 (by rw [← q1, ← q2]; omega)
            exact ⟨by omega, by omega⟩
          | none =>
            rcases o4 with q | ⟨id, f0, o, q1, q2, q3, q4, q5, q6⟩
            · exact .inl ⟨by omega, q.2⟩
            · by_cases hc0 : c = 0
              · exact .inl ⟨by omega, hc0⟩
              · exact .inr ⟨id, f0, o, q1, q2, q3, by rw [hsz]; exact q4, q5 (Nat.mul_pos (by omega) hpos)⟩

end
end Go.Sx
