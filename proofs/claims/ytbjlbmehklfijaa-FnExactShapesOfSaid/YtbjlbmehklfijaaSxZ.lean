/-
  Slices of slices: the effects (a row stored, a cell of a row stored, make, a literal, append).
-/
import Derived.Test.YtbjlbmehklfijaaSxY
namespace Go.Sx
set_option linter.unusedVariables false
set_option linter.unusedSimpArgs false
open Go
open Go.RowKit

section
variable {P : Program} {T : Tbl} {ρ : Rho} {N : Nat} {G : Heap} {w : World}

theorem hdel_sub (G : Heap) (id : Nat) : ∀ i o, hget (hdel G id) i = some o → hget G i = some o := fun i o h => by
  rw [hget_hdel] at h
  split at h
  · cases h
  · exact h
theorem hdel_none (G : Heap) (id : Nat) : hget (hdel G id) id = none := by rw [hget_hdel, if_pos rfl]
theorem hdel_ne {G : Heap} {id i : Nat} (h : i ≠ id) : hget (hdel G id) i = hget G i := by rw [hget_hdel, if_neg h]

/-! ### A row that is stored -/
def rowSrc (G : Heap) (v : AV) (K : Option Nat → Option Flat → Prop) : Prop :=
  match v with
  | .nilsl => K none none
  | .sl r p => match p with
    | [] => match hget G r with
      | some o => match o with
        | .flat own f => match own with
          | true => K (some r) (some f)
          | false => False
        | _ => False
      | none => False
    | _ :: _ => False
  | _ => False
def hdelO (G : Heap) (r : Option Nat) (K : Heap → Prop) : Prop :=
  match r with
  | none => K G
  | some r => hdelK G r K
theorem rowSrc_spec {v : AV} {K : Option Nat → Option Flat → Prop} (h : rowSrc G v K) : (v = .nilsl ∧ K none none) ∨ ∃ r f, v = .sl r [] ∧ hget G r = some (.flat true f) ∧ K (some r) (some f) := by
  unfold rowSrc at h
  split at h
  · exact .inl ⟨rfl, h⟩
  · split at h
    · split at h
      · split at h
        · split at h
          · rename_i r _ o ho own f
            exact .inr ⟨_, _, rfl, ‹_›, h⟩
          · exact h.elim
        · exact h.elim
      · exact h.elim
    · exact h.elim
  · exact h.elim

/-- The blocks of an object of rows in which one row is another one. -/
def rowB (ρ : Rho) (M i : Nat) (r : Option Nat) (sz : Nat) : List Nat → Blk
  | [a] => if a = i then (match r with
    | some r => ρ r []
    | none => ⟨0, 0, sz, 0, 0⟩) else ρ M [a]
  | _ => ⟨0, 0, sz, 0, 0⟩
def rowS (M i : Nat) (r : Option Nat) : List Nat → Option (Nat × List Nat)
  | [a] => if a = i then r.map (fun r => (r, [])) else some (M, [a])
  | _ => none

theorem rowIn_rows {o : AObj} {y M off n : Nat} {K : AObj → Prop} (h : rowIn o y (some (.rows M off n)) K) : False := by
  cases o <;> exact h

def eStoreX (T : Tbl) (t : Nat) (p v : AV) (N : Nat) (G : Heap) (K : AV → Nat → Heap → Prop) : Prop :=
  match p with
  | .ptr id pth i j => match hget G id with
    | some o => match pth with
      | [] => match o with
        | .flat own f => match f with
          | .rows M off n => match tget T t with
            | some ti => bif own && Nat.beq ti.size 1 && Nat.beq off 0 && Nat.beq j 0 then match hget G M with
              | some o => bif o.own && o.nest then rowSrc G v fun r f => rowIn o i f fun o' => hdelK G M fun G1 => hdelO G1 r fun G2 => need (some (i < n)) (K .top (N + 1) (hset ((N, o') :: G2) id (.flat true (.rows N 0 n)))) else False
              | none => False
              else False
            | none => False
          | _ => eStore T t p v N G K
        | _ => False
      | y :: q => match q with
        | [] => match tget T t with
          | some ti => bif o.own then nodeV o id [y] fun C V => match V with
            | .fl f => cellsK v fun cs => bif Nat.beq cs.length ti.size then f.setK i j cs fun C2 f' => rowIn o y (some f') fun o' => need C (need C2 (K .top N (hset G id o'))) else False
            else False
          | none => False
        | _ :: _ => False
    | none => False
  | _ => False

theorem eStoreX_sound (hT : TblOK P T) (hH : HeapRep ρ N G w) {t : Nat} {p v : AV} {K : AV → Nat → Heap → Prop} (h : eStoreX T t p v N G K) {pv vv : Value} (hp : VR ρ N p pv) (hv : VR ρ N v vv) :
    ∃ w', (Instr.storeAt t pv vv).run P w = .ok () w' ∧ Out ρ N G w K undef w' := by
  unfold eStoreX at h
  split at h
  case h_2 => exact h.elim
  rename_i id pth i j
  split at h
  case h_2 => exact h.elim
  rename_i o ho
  split at h
  · split at h
    case h_2 => exact h.elim
    rename_i own f
    split at h
    case h_2 => exact eStore_sound hT hH h hp hv
    rename_i M off n
    split at h
    case h_2 => exact h.elim
    rename_i ti ht
    cases hb : (own && Nat.beq ti.size 1 && Nat.beq off 0 && Nat.beq j 0) with
    | false => simp [hb] at h
    | true =>
      simp only [hb, cond_true] at h
      simp only [Bool.and_eq_true, Nat.beq_eq] at hb
      obtain ⟨⟨⟨rfl, hts⟩, rfl⟩, rfl⟩ := hb
      split at h
      case h_2 => exact h.elim
      rename_i o hM
      cases hb : (o.own && o.nest) with
      | false => simp [hb] at h
      | true =>
        simp only [hb, cond_true] at h
        simp only [Bool.and_eq_true] at hb
        obtain ⟨hown, hnest⟩ := hb
        have hidM : id ≠ M := fun e => by subst e; rw [ho] at hM; injection hM with hM; subst hM; cases hnest
        have hidN := hH.keys _ _ ho
        have hMN := hH.keys _ _ hM
        simp only [VR] at hp
        obtain ⟨_, hp⟩ := hp
        -- the two kinds of rows alike
        have main : ∀ (r : Option Nat) (f : Option Flat), (∀ rr, r = some rr → ∃ ff, f = some ff ∧ hget G rr = some (.flat true ff) ∧ rr ≠ id) → (r = none → f = none) →
            (∀ ρ' : Rho, (∀ x, x < N → ρ' x = ρ x) → (∀ sz, ρ' N [i] = rowB ρ M i r sz [i] → VR ρ' (N + 1) (.sl N [i]) vv)) → vv.cells = #[vv] → vv.oneCell' = true →
            (rowIn o i f fun o' => hdelK G M fun G1 => hdelO G1 r fun G2 => need (some (i < n)) (K .top (N + 1) (hset ((N, o') :: G2) id (.flat true (.rows N 0 n))))) →
            ∃ w', (Instr.storeAt t pv vv).run P w = .ok () w' ∧ Out ρ N G w K undef w' := fun r f hr hrn hval hcl hone hh => by
          obtain ⟨o', ⟨hk, hnest'⟩, hown', hoth, hat, _⟩ := rowIn_spec (rowIn_nest hh)
          have hk := hdelK_eq _ _ _ hk
          obtain ⟨G2, hG2, hsub, hM0, hr0, hid0⟩ : ∃ G2, (need (some (i < n)) (K .top (N + 1) (hset ((N, o') :: G2) id (.flat true (.rows N 0 n))))) ∧ (∀ a x, hget G2 a = some x → hget G a = some x) ∧ hget G2 M = none ∧ (∀ rr, r = some rr → hget G2 rr = none) ∧ hget G2 id = hget G id := by
            cases r with
            | none => exact ⟨_, hk, hdel_sub G M, hdel_none G M, (by simp), hdel_ne hidM⟩
            | some rr =>
              refine ⟨_, hdelK_eq _ _ _ hk, fun a x hx => hdel_sub G M a x (hdel_sub _ rr a x hx), ?_, ?_, ?_⟩
              · rw [hget_hdel]; split
                · rfl
                · exact hdel_none G M
              · intro r' e; injection e with e; subst e; exact hdel_none _ _
              · obtain ⟨_, _, _, hne⟩ := hr rr rfl
                rw [hdel_ne (Ne.symm hne), hdel_ne hidM]
          obtain ⟨hc, hK⟩ := need_spec hG2
          simp only [Cnd.holds] at hc
          have htake := hH.take hsub (o := o') (hown'.trans hown) (rowB ρ M i r (((o'.node N [i]).map (·.sz)).getD 1)) (rowS M i r) (fun q nd hq => by
            obtain ⟨a, rfl⟩ := nest_nodes hnest' N q nd hq
            by_cases ha : a = i
            · subst ha
              have h4 := hat N nd hq
              simp only [rowS, rowB, if_true]
              cases r with
              | none =>
                have hfn := hrn rfl
                subst hfn
                simp only at h4
                refine .inl ⟨rfl, h4.1, h4.2, ?_⟩
                simp [hq]
              | some rr =>
                obtain ⟨ff, rfl, hrr, _⟩ := hr rr rfl
                simp only at h4
                subst h4
                exact .inr ⟨rr, [], rfl, NodeAt.of_get hrr rfl, hr0 rr rfl, rfl⟩
            · simp only [rowS, rowB, if_neg ha]
              refine .inr ⟨M, [a], rfl, ⟨⟨o, hM, ?_, hown⟩⟩, hM0, rfl⟩
              rw [← hoth N M [a] (by simpa using ha)]
              exact hq) (fun q q' x h1 h2 => by
            match q, q' with
            | [a], [b] =>
              simp only [rowS] at h1 h2
              split at h1 <;> split at h2
              · subst_vars; rfl
              · cases r with
                | none => cases h1
                | some rr =>
                  simp only [Option.map_some, Option.some.injEq] at h1 h2
                  rw [← h1] at h2
                  simp at h2
              · cases r with
                | none => cases h2
                | some rr =>
                  simp only [Option.map_some, Option.some.injEq] at h1 h2
                  rw [← h1] at h2
                  simp at h2
              · simp only [Option.some.injEq] at h1 h2
                rw [← h1] at h2
                simp only [Prod.mk.injEq, List.cons.injEq, and_true, true_and] at h2
                rw [h2]
            | [], _ => simp [rowS] at h1
            | _ :: _ :: _, _ => simp [rowS] at h1
            | [_], [] => simp [rowS] at h2
            | [_], _ :: _ :: _ => simp [rowS] at h2)
          obtain ⟨hH1, hO1⟩ := htake
          have hρ := updR_lt ρ N (rowB ρ M i r (((o'.node N [i]).map (·.sz)).getD 1))
          have hid1 : hget ((N, o') :: G2) id = some (.flat true (.rows M 0 n)) := by
            rw [hget_cons, if_neg (by omega), hid0, ho]
          obtain ⟨s1, s2, s3⟩ := hH.shape id [] (Flat.node (.rows M 0 n)) true (NodeAt.of_get ho rfl)
          obtain ⟨w', hrun, q1, q2, q3⟩ := store_node hT hH1 ht hid1 rfl (o' := .flat true (.rows N 0 n)) rfl (p := []) (nd := Flat.node (.rows M 0 n)) rfl (nd' := Flat.node (.rows N 0 n)) rfl (fun q hq => by
              cases q with
              | nil => exact absurd rfl hq
              | cons _ _ => rfl) rfl rfl (i := i) (j := 0) (us := [vv]) (vv := vv) hcl (by rw [hts]; rfl) (by simpa [Flat.node, Flat.n] using hc) (by simp [Flat.node, Flat.sz]) (by simpa using hone) (fun a b ha hbb => by
              simp only [Flat.node, Flat.sz, Flat.n, Flat.cell, offs] at ha hbb ⊢
              by_cases hai : a = i
              · subst hai
                obtain rfl : b = 0 := by omega
                rw [if_pos ⟨rfl, by omega, by simp⟩]
                exact ⟨vv, rfl, hval _ hρ _ (updR_at _ _ _ _)⟩
              · rw [if_neg (by omega)]
                intro u hu
                simp only [VR] at hu ⊢
                rw [hρ M hMN] at hu
                refine ⟨Nat.lt_succ_self N, ?_⟩
                rw [updR_at]
                simp only [rowB, if_neg hai]
                exact hu.2)
          refine ⟨w', ?_, Out.ghost (Nat.le_succ N) hρ hO1 ⟨⟨.top, _, N + 1, _, hK, by simp only [VR], q1, Nat.le_refl _, fun _ _ => rfl, q2, fun b hb => .inr (q3 b hb)⟩⟩⟩
          rw [hp]
          rw [hρ id hidN] at hrun
          simp only [Flat.node, Flat.sz] at hrun s1
          rw [s1]
          exact hrun
        rcases rowSrc_spec h with ⟨rfl, h⟩ | ⟨r, f, rfl, hr, h⟩
        · simp only [VR] at hv
          subst hv
          exact main none none (by simp) (fun _ => rfl) (fun ρ' _ sz e => by
            simp only [VR]
            refine ⟨Nat.lt_succ_self N, none, 0, ?_, ?_⟩
            · rw [e]; simp [rowB]
            · rw [e]; simp only [rowB, if_true]; exact .inr ⟨rfl, rfl⟩) rfl rfl h
        · simp only [VR] at hv
          obtain ⟨hrN, A, c, rfl, hsl⟩ := hv
          refine main (some r) (some f) (fun rr e => ?_) (by simp) (fun ρ' _ sz e => ?_) rfl rfl h
          · injection e with e
            subst e
            refine ⟨f, rfl, hr, fun e => ?_⟩
            subst e
            rw [ho] at hr
            injection hr with hr
            injection hr with _ hr
            subst hr
            exact rowIn_rows h
          · simp only [VR]
            refine ⟨Nat.lt_succ_self N, A, c, ?_, ?_⟩
            · rw [e]; simp [rowB]
            · rw [e]; simp only [rowB, if_true]; exact hsl
  · rename_i y q
    split at h
    case h_2 => exact h.elim
    split at h
    case h_2 => exact h.elim
    rename_i ti ht
    cases hown : o.own with
    | false => simp [hown] at h
    | true =>
      simp only [hown, cond_true] at h
      obtain ⟨C, V, h, hn⟩ := nodeV_spec h
      obtain ⟨f⟩ := V
      simp only at h
      obtain ⟨cs, us, h, hcells, hus, h1⟩ := cellsK_spec h hv
      cases hb : Nat.beq cs.length ti.size with
      | false => simp [hb] at h
      | true =>
        simp only [hb, cond_true] at h
        have hb := Nat.eq_of_beq_eq_true hb
        obtain ⟨C2, f', h, hset⟩ := setK_spec h
        obtain ⟨o', h, hown', hoth, hat, hex⟩ := rowIn_spec h
        obtain ⟨hC, h⟩ := need_spec h
        obtain ⟨hC2, hK⟩ := need_spec h
        have hs := hset hC2
        have hnd := hn hC
        simp only [NV.node] at hnd
        have hl := hus.length
        obtain ⟨nd', hnd'⟩ := hex id _ hnd
        have he := hat id nd' hnd'
        simp only at he
        subst he
        obtain ⟨sh1, sh2, sh3⟩ := hH.shape id [y] _ true ⟨⟨o, ho, hnd, hown⟩⟩
        simp only [VR] at hp
        obtain ⟨hidN, hp⟩ := hp
        obtain ⟨w', hrun, q1, q2, q3⟩ := store_node hT hH ht ho hown (hown'.trans hown) hnd hnd' (fun q hq => hoth id id q hq) hs.n hs.sz hcells (by omega) hs.hi (by rw [hl]; exact hs.hj) h1 (fun a b ha hbb => by
          have hc := hs.cell a b ha hbb
          simp only [Flat.node]
          rw [hl]
          by_cases hin : a = i ∧ j ≤ b ∧ b < j + cs.length
          · rw [if_pos hin] at hc ⊢
            rw [hc]
            exact hus.get (b - j) (by omega)
          · rw [if_neg hin] at hc ⊢
            rw [hc]
            exact fun u hu => hu)
        refine ⟨w', ?_, ⟨⟨.top, ρ, N, _, hK, by simp only [VR], q1, Nat.le_refl _, fun _ _ => rfl, q2, fun b hb => .inr (q3 b hb)⟩⟩⟩
        rw [hp, sh1]
        exact hrun

/-! ### make -/
def EK.isNest : EK → Bool
  | .nestI _ => true
  | .nestR2 => true
  | _ => false
def EK.nest0 (k : EK) (n : Nat) (K : AObj → Prop) : Prop :=
  match k with
  | .nestI k => K (.nestI true k (List.replicate n []))
  | .nestR2 => K (.nestR2 true (List.replicate n []))
  | _ => False
theorem nest0_spec {k : EK} {n : Nat} {K : AObj → Prop} (h : k.nest0 n K) : ∃ o, K o ∧ o.own = true ∧ k ≠ .other ∧ k.zero = [.nilsl] ∧ ∀ id p nd, o.node id p = some nd → nd.n = 0 ∧ 0 < nd.sz := by
  have key : ∀ {α : Type} (y : Nat), (List.replicate n ([] : List α)).getD y [] = [] := fun y => by
    simp only [List.getD, List.getElem?_replicate]; split <;> rfl
  unfold EK.nest0 at h
  split at h
  · refine ⟨_, h, rfl, by simp, rfl, fun id p nd hn => ?_⟩
    obtain ⟨a, rfl⟩ := nest_nodes (o := .nestI true _ _) rfl id p nd hn
    simp only [AObj.node, key] at hn
    split at hn
    · injection hn with hn; subst hn; exact ⟨rfl, Nat.zero_lt_one⟩
    · cases hn
  · refine ⟨_, h, rfl, by simp, rfl, fun id p nd hn => ?_⟩
    obtain ⟨a, rfl⟩ := nest_nodes (o := .nestR2 true _) rfl id p nd hn
    simp only [AObj.node, key] at hn
    split at hn
    · injection hn with hn; subst hn; exact ⟨rfl, Nat.zero_lt_two⟩
    · cases hn
  · exact h.elim
def eMakeX (T : Tbl) (lk : Operand → AV) (t : Nat) (xl xc : Operand) (N : Nat) (G : Heap) (K : AV → Nat → Heap → Prop) : Prop :=
  match tget T t with
  | some ti => match ti.d with
    | .slice _ _ _ k => match k.isNest with
      | false => eMake T lk t xl xc N G K
      | true => match sameOpd xl xc with
        | true => match lk xl with
          | .int _ l => k.nest0 l.toNat fun o => need (some (0 ≤ l ∧ l ≤ 1099511627776)) (K (.sl (N + 1) []) (N + 1 + 1) ((N + 1, .flat true (.rows N 0 l.toNat)) :: (N, o) :: G))
          | _ => False
        | false => False
    | _ => False
  | none => False
theorem eMakeX_sound {lk : Operand → AV} {ev : Operand → Value} (hT : TblOK P T) (hH : HeapRep ρ N G w) (hlk : ∀ x, VR ρ N (lk x) (ev x)) {t : Nat} {xl xc : Operand} {K : AV → Nat → Heap → Prop} (hev : ∀ a b, sameOpd a b = true → ev a = ev b)
    (h : eMakeX T lk t xl xc N G K) : ∃ v w', (Instr.makeSlice t (ev xl) (ev xc)).run P w = .ok v w' ∧ Out ρ N G w K v w' := by
  unfold eMakeX at h
  split at h
  case h_2 => exact h.elim
  rename_i ti ht
  split at h
  case h_2 => exact h.elim
  rename_i e esz eb k hd1
  split at h
  case h_1 => exact eMake_sound hT hH hlk hev h
  split at h
  case h_2 => exact h.elim
  rename_i hsame
  split at h
  case h_2 => exact h.elim
  rename_i kk l hx
  have hvl := hlk xl
  rw [hx] at hvl
  simp only [VR] at hvl
  obtain ⟨o, h, hown, hko, hkz, hnd⟩ := nest0_spec h
  obtain ⟨hc, hK⟩ := need_spec h
  obtain ⟨h0, h1⟩ : 0 ≤ l ∧ l ≤ 1099511627776 := hc
  obtain ⟨hH1, hO1⟩ := hH.take (fun _ _ h => h) (o := o) hown (fun p => ⟨0, 0, ((o.node N p).map (·.sz)).getD 1, 0, 0⟩) (fun _ => none) (fun p nd hp => .inl ⟨rfl, (hnd N p nd hp).1, (hnd N p nd hp).2, by simp [hp]⟩) (fun _ _ _ h => by cases h)
  have hρ := updR_lt ρ N (fun p => ⟨0, 0, ((o.node N p).map (·.sz)).getD 1, 0, 0⟩)
  rw [← hev xl xc hsame, hvl]
  obtain ⟨v, w', hrun, hout⟩ := make_core hT hH1 ht hd1 hko (kk := kk) h0 h1 (f := .rows N 0 l.toNat) rfl (by rw [hkz]; rfl) (fun i j u hi hj hu => by
    simp only [Flat.sz] at hj
    obtain rfl : j = 0 := by omega
    rw [hkz] at hu
    simp only [List.getD_cons_zero, VR] at hu
    subst hu
    simp only [Flat.cell, VR, updR_at]
    exact ⟨Nat.lt_succ_self N, none, 0, rfl, .inr ⟨rfl, rfl⟩⟩) hK
  exact ⟨v, w', hrun, Out.ghost (Nat.le_succ N) hρ hO1 hout⟩

end
end Go.Sx
