/-
  append as an effect.
-/
import Derived.Test.YtbjlbmehklfijaaSxI
namespace Go.Sx
set_option linter.unusedVariables false
set_option linter.unusedSimpArgs false
open Go
open Go.RowKit

section
variable {P : Program} {T : Tbl} {ρ : Rho} {N : Nat} {G : Heap} {w : World}

theorem Out.widen {G Gd : Heap} (h : ∀ i o, hget Gd i = some o → hget G i = some o) {K : AV → Nat → Heap → Prop} {v : Value} {w' : World} (ho : Out ρ N Gd w K v w') : Out ρ N G w K v w' := by
  obtain ⟨av, ρ', N', G', h1, h2, h3, h4, h5, h6, h7⟩ := ho.ex
  refine ⟨⟨av, ρ', N', G', h1, h2, h3, h4, h5, ⟨h6.os, h6.tape, h6.output, h6.size, fun k hk hn => h6.block k hk (fun e => hn (e.sub h))⟩, fun b hb => ?_⟩⟩
  rcases h7 b hb with h | h'
  · exact .inl h
  · exact .inr (h'.sub h)

theorem append_core (hH : HeapRep ρ N G w) {t t2 ty e e2 : TypeId} {i : TypeInfo} {z : Value} (ht : P.underlying t = some (.slice e)) (hi : P.info? e = some i) (hz : i.zero = some z) (hzs : z.cells.size = i.size) (ht2 : P.underlying t2 = some (.slice e2)) (hby : i.bytes ≤ 64) (hsz : 0 < i.size)
    {A A2 : Option Addr} {n c m c2 : Nat} {olds news : List Value} (ho : olds.length = n * i.size) (hn : news.length = m * i.size)
    (hA : 0 < n → ∃ b o, A = some ⟨b, o, none⟩ ∧ ∀ (j : Nat) v, olds[j]? = some v → w.cell? ⟨b, o + j, none⟩ = some v)
    (hA2 : 0 < m → ∃ b o, A2 = some ⟨b, o, none⟩ ∧ ∀ (j : Nat) v, news[j]? = some v → w.cell? ⟨b, o + j, none⟩ = some v)
    {f : Flat} (hfn : f.n = n + m) (hfs : f.sz = i.size)
    (hol : ∀ a, a < n → ∀ b, b < i.size → ∃ u, olds[a * i.size + b]? = some u ∧ VR ρ N (f.cell a b) u ∧ u.oneCell' = true)
    (hne : ∀ a, a < m → ∀ b, b < i.size → ∃ u, news[a * i.size + b]? = some u ∧ VR ρ N (f.cell (n + a) b) u ∧ u.oneCell' = true)
    {Gd : Heap} (hsub : ∀ i o, hget Gd i = some o → hget G i = some o)
    (hin : n + m ≤ c → (n + m = 0 ∧ c = 0) ∨ ∃ id f0 o, hget G id = some (.flat true f0) ∧ hget Gd id = none ∧ A = some ⟨(ρ id []).b, o, none⟩ ∧ o + c * i.size ≤ (ρ id []).tot ∧ 0 < (ρ id []).tot)
    (hlen : n + m ≤ 1099511627776) {K : AV → Nat → Heap → Prop} (hK : K (.sl N []) (N + 1) ((N, .flat true f) :: Gd)) :
    ∃ v w', (Builtin.append_ #[t, t2] ty #[.slice A n c, .slice A2 m c2]).run P w = .ok v w' ∧ Out ρ N G w K v w' := by
  have h1 : ∀ u ∈ news, u.oneCell' = true := fun u hu => by
    obtain ⟨k, hk, rfl⟩ := List.getElem_of_mem hu
    have hkm : k / i.size < m := by rw [hn] at hk; exact Nat.div_lt_of_lt_mul (by rw [Nat.mul_comm]; exact hk)
    obtain ⟨u, q1, _, q3⟩ := hne (k / i.size) hkm (k % i.size) (Nat.mod_lt _ hsz)
    rw [Nat.div_add_mod' k i.size, List.getElem?_eq_getElem hk] at q1
    injection q1 with q1
    rw [q1]; exact q3
  have hblk : ∀ {id f0}, hget G id = some (.flat true f0) → 0 < (ρ id []).tot → ∃ c0 t0, w.heap[(ρ id []).b]? = some (.cells c0 t0 (0, 0)) ∧ c0.size = (ρ id []).tot := fun {id f0} h ht => by
    rcases hH.ow id [] f0.node (NodeAt.of_get h rfl) with ⟨h0, _⟩ | ⟨c0, t0, q1, q2, _⟩
    · omega
    · exact ⟨c0, t0, q1, q2⟩
  obtain ⟨v', w', hrun, hres⟩ := run_append_gen (w := w) (ty := ty) (c2 := c2) ht hi hz hzs ht2 hby ho hn hA hA2 h1 hsz (fun hle hm => by
    rcases hin hle with ⟨h0, _⟩ | ⟨id, f0, o, g1, g2, rfl, g3, g4⟩
    · omega
    · obtain ⟨c0, t0, q1, q2⟩ := hblk g1 g4
      refine ⟨_, o, rfl, fun j hj => ⟨?_, frozen_of_row w _ _ c0 t0 q1⟩⟩
      have hmul : (n + m) * i.size ≤ c * i.size := Nat.mul_le_mul_right _ hle
      rw [Nat.add_mul] at hmul
      rw [cell_of_row w _ _ c0 t0 (0, 0) q1, Array.getElem?_eq_getElem (by omega)]; rfl) hlen
  refine ⟨v', w', hrun, ?_⟩
  have hHd : HeapRep ρ N Gd w := hH.sub hsub
  rcases hres with ⟨hle, rfl, hw⟩ | ⟨hgt, cap, rest, rfl, hcap, hcl, rfl⟩
  · have hρ : ∀ (B : Blk) (id : Nat), id < N → (fun (id : Nat) (p : List Nat) => if id = N then B else ρ id p) id = ρ id := fun B id h => by
      funext p; simp only; rw [if_neg (by omega)]
    have hnone : hget Gd N = none := by
      cases h : hget Gd N with
      | none => rfl
      | some o => exact absurd (hHd.keys N o h) (Nat.lt_irrefl N)
    have hnode : ∀ {p nd}, (AObj.flat true f).node N p = some nd → p = [] ∧ nd = f.node := fun {p nd} hnd => by
      cases p with
      | nil => simp [AObj.node] at hnd; exact ⟨rfl, hnd.symm⟩
      | cons _ _ => simp [AObj.node] at hnd
    have hdlt : ∀ {id p nd own}, NodeAt Gd id p nd own → id ≠ N := fun hx => by
      obtain ⟨o, q1, _⟩ := hx.ex
      have := hHd.keys _ _ q1
      omega
    rcases hin hle with ⟨h0, rfl⟩ | ⟨id, f0, o, g1, g2, rfl, g3, g4⟩
    · have hwe : w' = w := by
        rcases hw with ⟨_, h⟩ | ⟨_, _, hm, _⟩
        · exact h
        · omega
      subst hwe
      have hput := (hHd.mono (Nat.le_succ N) (hρ ⟨0, 0, i.size, 0, 0⟩)).put (o := .flat true f) (Nat.lt_succ_self N) hnone rfl (fun p nd hnd => by
        obtain ⟨rfl, rfl⟩ := hnode hnd
        simp only [if_true, Flat.node, hfn, hfs]
        refine ⟨trivial, h0.symm, hsz, fun a ha => by omega, .inl ⟨trivial, h0⟩, fun h => absurd h (Nat.lt_irrefl 0)⟩)
      refine ⟨⟨.sl N [], _, N + 1, _, hK, ?_, hput, Nat.le_succ N, hρ _, FrameW.refl _ _, fun b hb => ?_⟩⟩
      · simp only [VR, if_true]
        exact ⟨Nat.lt_succ_self N, A, 0, by rw [h0], .inr ⟨rfl, rfl⟩⟩
      · obtain ⟨i', p, nd, hx, htot, rfl⟩ := hb
        obtain ⟨x, q1, q2, q3⟩ := hx.ex
        rw [hget_cons] at q1
        split at q1
        · next he => subst he; simp only [if_true] at htot; omega
        · next he =>
          simp only [he, if_false] at htot ⊢
          exact .inr ⟨i', p, nd, ⟨⟨x, hsub _ _ q1, q2, q3⟩⟩, htot, rfl⟩
    · obtain ⟨c0, t0, q1, q2⟩ := hblk g1 g4
      have hwe : w' = w.setCells (ρ id []).b (o + n * i.size) news := by
        rcases hw with ⟨h0, h⟩ | ⟨b, o2, _, hA', h⟩
        · have : news = [] := List.eq_nil_of_length_eq_zero (by rw [hn, h0]; simp)
          rw [this, h]; rfl
        · simp only [Option.some.injEq, Addr.mk.injEq, and_true] at hA'
          obtain ⟨rfl, rfl⟩ := hA'
          exact h
      subst hwe
      have hOwn : Owns ρ G (ρ id []).b := ⟨id, [], f0.node, NodeAt.of_get g1 rfl, g4, rfl⟩
      have hfr := setCells_frame (ρ id []).b news (o + n * i.size) w
      obtain ⟨c', r1, r2, r3⟩ := setCells_block (ρ id []).b t0 (0, 0) news (o + n * i.size) w c0 q1
      have hsepd : ∀ i' p nd own, NodeAt Gd i' p nd own → Solid (ρ i' p) nd own → (ρ id []).b ≠ (ρ i' p).b := fun i' p nd own hx hs => by
        obtain ⟨x, x1, x2, x3⟩ := hx.ex
        refine hH.sep id [] f0.node i' p nd own (NodeAt.of_get g1 rfl) ⟨⟨x, hsub _ _ x1, x2, x3⟩⟩ (fun h => ?_) g4 hs
        rw [← h.1, g2] at x1
        cases x1
      have hHd' : HeapRep ρ N Gd (w.setCells (ρ id []).b (o + n * i.size) news) := hHd.frame hfr fun i' p nd own hx hs h => hsepd i' p nd own hx hs h.symm
      have hmulc : (n + m) * i.size ≤ c * i.size := Nat.mul_le_mul_right _ hle
      rw [Nat.add_mul] at hmulc
      have hput := (hHd'.mono (Nat.le_succ N) (hρ ⟨(ρ id []).b, o, i.size, n + m, (ρ id []).tot⟩)).put (o := .flat true f) (Nat.lt_succ_self N) hnone rfl (fun p nd hnd => by
        obtain ⟨rfl, rfl⟩ := hnode hnd
        simp only [if_true, Flat.node, hfn, hfs]
        refine ⟨trivial, trivial, hsz, fun a ha b hb => ?_, .inr ⟨c', t0, r1, r2.trans q2, g4⟩, fun _ => ⟨fun p' nd' hnd' hne => ?_, fun i' p' nd' own' hx hs => ?_⟩⟩
        · rw [cell_of_row _ _ _ c' t0 (0, 0) r1, r3]
          by_cases han : a < n
          · have hmul : (a + 1) * i.size ≤ n * i.size := Nat.mul_le_mul_right _ han
            rw [Nat.add_mul] at hmul
            rw [if_neg (by omega)]
            obtain ⟨u, s1, s2, s3⟩ := hol a han b hb
            obtain ⟨b1, o1, hA', hc⟩ := hA (by omega)
            simp only [Option.some.injEq, Addr.mk.injEq, and_true] at hA'
            obtain ⟨rfl, rfl⟩ := hA'
            have := hc _ _ s1
            rw [cell_of_row w _ _ c0 t0 (0, 0) q1] at this
            exact ⟨u, this, s2.mono (Nat.le_succ N) (hρ _), s3⟩
          · have hmul : (a + 1) * i.size ≤ (n + m) * i.size := Nat.mul_le_mul_right _ ha
            rw [Nat.add_mul, Nat.add_mul] at hmul
            obtain ⟨u, s1, s2, s3⟩ := hne (a - n) (by omega) b hb
            have hsplit : a * i.size = n * i.size + (a - n) * i.size := by rw [← Nat.add_mul]; congr 1; omega
            rw [if_pos ⟨by omega, by omega, by omega⟩]
            refine ⟨u, ?_, ?_, s3⟩
            · rw [← s1]; congr 1; omega
            · rw [show n + (a - n) = a by omega] at s2
              exact s2.mono (Nat.le_succ N) (hρ _)
        · cases p' with
          | nil => exact absurd rfl hne
          | cons _ _ => simp [AObj.node] at hnd'
        · have hne := hdlt hx
          simp only [hne, if_false] at hs ⊢
          exact hsepd i' p' nd' own' hx hs)
      refine ⟨⟨.sl N [], _, N + 1, _, hK, ?_, hput, Nat.le_succ N, hρ _, ⟨hfr.os, hfr.tape, hfr.output, hfr.size, fun k hk hnn => hfr.block k hk (fun e => hnn (e ▸ hOwn))⟩, fun b hb => ?_⟩⟩
      · simp only [VR, if_true]
        exact ⟨Nat.lt_succ_self N, _, c, rfl, .inl ⟨by simp, hle, by simpa using g3⟩⟩
      · obtain ⟨i', p, nd, hx, htot, rfl⟩ := hb
        obtain ⟨x, x1, x2, x3⟩ := hx.ex
        rw [hget_cons] at x1
        split at x1
        · next he => subst he; simp only [if_true]; exact .inr hOwn
        · next he =>
          simp only [he, if_false] at htot ⊢
          exact .inr ⟨i', p, nd, ⟨⟨x, hsub _ _ x1, x2, x3⟩⟩, htot, rfl⟩
  · refine Out.widen hsub ?_
    have hfr : FrameW (fun _ => False) w (w.drew.alloc (.cells (olds ++ news ++ rest).toArray e)) := (frame_drew w).trans (frame_alloc _ _) (fun _ _ h => h)
    refine out_new (f := f) (t := e) (cs := olds ++ news ++ rest) hHd hK (by rw [hfs]; exact hsz) (by rw [hcl, hfn, hfs]; exact Nat.mul_le_mul_right _ hcap) ?_ hfr (heap_alloc_new w.drew _) ?_
    · intro a ha b hb
      rw [hfn] at ha
      rw [hfs] at hb ⊢
      by_cases han : a < n
      · have hmul : (a + 1) * i.size ≤ n * i.size := Nat.mul_le_mul_right _ han
        rw [Nat.add_mul] at hmul
        obtain ⟨u, s1, s2, s3⟩ := hol a han b hb
        refine ⟨u, ?_, s2, s3⟩
        rw [List.append_assoc, List.getElem?_append_left (by omega), s1]
      · have hmul : (a + 1) * i.size ≤ (n + m) * i.size := Nat.mul_le_mul_right _ ha
        rw [Nat.add_mul, Nat.add_mul] at hmul
        have hsplit : a * i.size = n * i.size + (a - n) * i.size := by rw [← Nat.add_mul]; congr 1; omega
        obtain ⟨u, s1, s2, s3⟩ := hne (a - n) (by omega) b hb
        refine ⟨u, ?_, by rw [show n + (a - n) = a by omega] at s2; exact s2, s3⟩
        rw [List.append_assoc, List.getElem?_append_right (by omega), List.getElem?_append_left (by omega), ← s1]
        congr 1; omega
    · simp only [VR, if_true]
      refine ⟨Nat.lt_succ_self N, _, cap, by rw [hfn], .inl ⟨by simp, by rw [hfn]; exact hcap, ?_⟩⟩
      rw [hcl, hfs]; simp

def hdelK : Heap → Nat → (Heap → Prop) → Prop
  | [], _, K => K []
  | (k, o) :: r, id, K => bif Nat.beq k id then hdelK r id K else hdelK r id fun r' => K ((k, o) :: r')
theorem hdelK_eq : ∀ (G : Heap) (id : Nat) (K : Heap → Prop), hdelK G id K → K (hdel G id)
  | [], _, _, h => h
  | (k, o) :: r, id, K, h => by
    simp only [hdelK, hdel] at h ⊢
    cases hb : Nat.beq k id with
    | true => simp only [hb, cond_true] at h ⊢; exact hdelK_eq r id K h
    | false => simp only [hb, cond_false] at h ⊢; exact hdelK_eq r id _ h

def srcK (G : Heap) (v : AV) (K : Cnd → Option Flat → Prop) : Prop :=
  match v with
  | .nilsl => K none none
  | .sl id p => match hget G id with
    | some o => nodeV o id p fun C V => match V with
      | .fl f => K C (some f)
    | none => False
  | .sub id p i len _ => match hget G id with
    | some o => nodeV o id p fun C V => match V with
      | .fl f => K (cAnd C (some (i + len ≤ f.n))) (some (f.part i len))
    | none => False
  | _ => False

/-- A source: its cells. -/
structure SrcOK (ρ : Rho) (N : Nat) (w : World) (cv : Value) (g : Option Flat) (sz : Nat) : Prop where
  ex : ∃ (A : Option Addr) (m c : Nat) (news : List Value), cv = .slice A m c ∧ news.length = m * sz ∧ (0 < m → ∃ b o, A = some ⟨b, o, none⟩ ∧ ∀ (j : Nat) v, news[j]? = some v → w.cell? ⟨b, o + j, none⟩ = some v) ∧
    match g with
    | none => m = 0 ∧ A = none ∧ c = 0
    | some f => m = f.n ∧ (f.sz = sz → ∀ a, a < m → ∀ b, b < sz → ∃ u, news[a * sz + b]? = some u ∧ VR ρ N (f.cell a b) u ∧ u.oneCell' = true)

/-- n elements of a node from the i-th on, as cells. -/
theorem node_cells (hH : HeapRep ρ N G w) {id : Nat} {p : List Nat} {nd : Node} {own : Bool} (hn : NodeAt G id p nd own) {i len : Nat} (hi : i + len ≤ nd.n) :
    ∃ news : List Value, news.length = len * nd.sz ∧ (∀ (j : Nat) v, news[j]? = some v → w.cell? ⟨(ρ id p).b, (ρ id p).o + i * nd.sz + j, none⟩ = some v) ∧
      ∀ a, a < len → ∀ b, b < nd.sz → ∃ u, news[a * nd.sz + b]? = some u ∧ VR ρ N (nd.cell (i + a) b) u ∧ u.oneCell' = true := by
  have hsz := (hH.shape id p nd own hn).2.2
  have hall : ∀ d, ∃ v, d < len * nd.sz → w.cell? ⟨(ρ id p).b, (ρ id p).o + i * nd.sz + d, none⟩ = some v ∧ VR ρ N (nd.cell (i + d / nd.sz) (d % nd.sz)) v ∧ v.oneCell' = true := fun d => by
    by_cases hd : d < len * nd.sz
    · have h1 : d / nd.sz < len := Nat.div_lt_of_lt_mul (by rw [Nat.mul_comm]; exact hd)
      obtain ⟨v, q1, q2⟩ := hH.rd id p nd own hn (i + d / nd.sz) (by omega) (d % nd.sz) (Nat.mod_lt _ hsz)
      refine ⟨v, fun _ => ⟨?_, q2⟩⟩
      rw [← q1]
      congr 2
      rw [Nat.add_mul, Nat.add_assoc (i * nd.sz), Nat.div_add_mod' d nd.sz]
      omega
    · exact ⟨undef, fun h => absurd h hd⟩
  obtain ⟨g, hg⟩ := Classical.axiomOfChoice hall
  refine ⟨(List.range (len * nd.sz)).map g, by simp, fun j v hj => ?_, fun a ha b hb => ?_⟩
  · have hlt : j < len * nd.sz := by
      have := (List.getElem?_eq_some_iff.1 hj).1
      simpa using this
    rw [(hg j hlt).1]
    simpa [hlt] using hj
  · have hmul : (a + 1) * nd.sz ≤ len * nd.sz := Nat.mul_le_mul_right _ ha
    rw [Nat.add_mul] at hmul
    have hlt : a * nd.sz + b < len * nd.sz := by omega
    obtain ⟨_, q2, q3⟩ := hg _ hlt
    refine ⟨g (a * nd.sz + b), by simp [hlt], ?_, q3⟩
    have hd : (a * nd.sz + b) / nd.sz = a := by rw [Nat.mul_comm a, Nat.mul_add_div hsz, Nat.div_eq_of_lt hb, Nat.add_zero]
    have hm : (a * nd.sz + b) % nd.sz = b := by rw [Nat.mul_comm a, Nat.mul_add_mod, Nat.mod_eq_of_lt hb]
    rw [hd, hm] at q2
    exact q2

theorem SlRel.addr {B : Blk} {i len c : Nat} {A : Option Addr} (h : SlRel B i len c A) (hl : 0 < len) : A = some ⟨B.b, B.o + i * B.sz, none⟩ := by
  rcases h with h | h
  · exact h.1
  · omega

theorem srcK_spec (hH : HeapRep ρ N G w) {v : AV} {K : Cnd → Option Flat → Prop} (h : srcK G v K) {cv : Value} (hv : VR ρ N v cv) : ∃ C g, K C g ∧ (C.holds → ∀ sz, (∀ f, g = some f → f.sz = sz) → SrcOK ρ N w cv g sz) := by
  unfold srcK at h
  split at h
  · simp only [VR] at hv
    exact ⟨_, _, h, fun _ sz _ => ⟨⟨none, 0, 0, [], hv, by simp, by simp, rfl, rfl, rfl⟩⟩⟩
  · rename_i id p
    simp only [VR] at hv
    obtain ⟨_, A, c, rfl, hsl⟩ := hv
    split at h
    case h_2 => exact h.elim
    rename_i o ho
    obtain ⟨C, V, h, hn⟩ := nodeV_spec h
    obtain ⟨f⟩ := V
    simp only at h
    refine ⟨_, _, h, fun hc sz hsz => ?_⟩
    obtain rfl := hsz f rfl
    have hnode := NodeAt.of_get ho (hn hc)
    simp only [NV.node] at hnode
    obtain ⟨s1, s2, s3⟩ := hH.shape id p _ _ hnode
    simp only [Flat.node] at s1 s2 s3
    obtain ⟨news, n1, n2, n3⟩ := node_cells hH hnode (i := 0) (len := f.n) (by simp [Flat.node])
    simp only [Flat.node, Nat.zero_mul, Nat.add_zero, Nat.zero_add] at n1 n2 n3
    refine ⟨⟨A, _, c, news, rfl, by rw [s2]; exact n1, fun hm => ?_, s2, fun _ => by rw [s2]; exact n3⟩⟩
    have := hsl.addr hm
    exact ⟨_, _, by simpa using this, n2⟩
  · rename_i id p i len cap
    simp only [VR] at hv
    obtain ⟨_, A, c, rfl, hsl, _⟩ := hv
    split at h
    case h_2 => exact h.elim
    rename_i o ho
    obtain ⟨C, V, h, hn⟩ := nodeV_spec h
    obtain ⟨f⟩ := V
    simp only at h
    refine ⟨_, _, h, fun hcc sz hsz => ?_⟩
    obtain ⟨hc, hc2⟩ := cAnd_holds hcc
    simp only [Cnd.holds] at hc2
    obtain ⟨p1, p2, p3⟩ := part_spec hc2
    obtain rfl := hsz _ rfl
    have hnode := NodeAt.of_get ho (hn hc)
    simp only [NV.node] at hnode
    obtain ⟨s1, s2, s3⟩ := hH.shape id p _ _ hnode
    simp only [Flat.node] at s1 s2 s3
    obtain ⟨news, n1, n2, n3⟩ := node_cells hH hnode (i := i) (len := len) (by simpa [Flat.node] using hc2)
    simp only [Flat.node] at n1 n2 n3
    rw [p2]
    refine ⟨⟨A, _, c, news, rfl, n1, fun hm => ?_, p1.symm, fun _ a ha b hb => ?_⟩⟩
    · have := hsl.addr hm
      rw [s1] at this
      exact ⟨_, _, this, n2⟩
    · obtain ⟨u, q1, q2, q3⟩ := n3 a ha b hb
      exact ⟨u, q1, by rw [p3 a b ha]; exact q2, q3⟩
  · exact h.elim

end
end Go.Sx
