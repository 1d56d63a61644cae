/-
  Contracts in their plain form (one value, one heap), and renamings found by program.
-/
import Derived.Test.YtbjlbmehklfijaaSxP
namespace Go.Sx
set_option linter.unusedVariables false
set_option linter.unusedSimpArgs false
open Go
open Go.RowKit

/-! ### Renamings -/
abbrev MZ := List (Nat × Option Nat)
mutual
def AV.prs (t s : AV) : MZ :=
  match t with
  | .ptr id _ _ _ => match s with
    | .ptr id' _ _ _ => [(id, some id')]
    | _ => []
  | .sl id _ => match s with
    | .sl id' _ => [(id, some id')]
    | .nilsl => [(id, none)]
    | _ => []
  | .sub id _ _ _ _ => match s with
    | .sub id' _ _ _ _ => [(id, some id')]
    | _ => []
  | .map id => match s with
    | .map id' => [(id, some id')]
    | _ => []
  | .func _ cs => match s with
    | .func _ cs' => AV.prsL cs cs'
    | _ => []
  | .agg cs => match s with
    | .agg cs' => AV.prsL cs cs'
    | _ => []
  | .tuple cs => match s with
    | .tuple cs' => AV.prsL cs cs'
    | _ => []
  | _ => []
def AV.prsL (ts ss : List AV) : MZ :=
  match ts with
  | [] => []
  | t :: r => match ss with
    | [] => []
    | s :: q => (AV.prs t s).append (AV.prsL r q)
end
def rowsPrs : List (List AV) → List (List AV) → MZ
  | [], _ => []
  | _ :: _, [] => []
  | a :: r, b :: q => (AV.prsL a b).append (rowsPrs r q)
def objPrs (t s : Option AObj) : MZ :=
  match t with
  | some (.flat _ f) => match s with
    | some (.flat _ f') => match f with
      | .gen _ xs => match f' with
        | .gen _ ys => rowsPrs xs ys
        | _ => []
      | .rows M _ _ => match f' with
        | .rows M' _ _ => [(M, some M')]
        | _ => []
      | _ => []
    | _ => []
  | _ => []
/-- What hangs on an object that is made up: its rows. -/
def objNil (t : Option AObj) : MZ :=
  match t with
  | some (.flat _ f) => match f with
    | .rows M _ _ => [(M, none)]
    | _ => []
  | _ => []
def slotPrs : Slots → Slots → MZ
  | [], _ => []
  | (t, v) :: r, s => (AV.prs v (look s t)).append (slotPrs r s)
def memK : List (Nat × Nat) → Nat → Bool
  | [], _ => false
  | (a, _) :: r, id => bif Nat.beq a id then true else memK r id
def autoM (N0 : Nat) (G' G : Heap) : Nat → MZ → List (Nat × Nat) → List Nat → (List (Nat × Nat) → List Nat → Prop) → Prop
  | 0, _, m, z, K => K m z
  | n + 1, w, m, z, K => match w with
    | [] => K m z
    | (a, b) :: r => bif Nat.blt a N0 || memK m a || memB z a then autoM N0 G' G n r m z K else match b with
      | some b => autoM N0 G' G n ((objPrs (hget G' a) (hget G b)).append r) ((a, b) :: m) z K
      | none => autoM N0 G' G n ((objNil (hget G' a)).append r) m (a :: z) K
theorem autoM_spec {N0 : Nat} {G' G : Heap} : ∀ {n : Nat} {w : MZ} {m : List (Nat × Nat)} {z : List Nat} {K : List (Nat × Nat) → List Nat → Prop}, autoM N0 G' G n w m z K → ∃ m z, K m z
  | 0, _, m, z, K, h => ⟨m, z, h⟩
  | n + 1, w, m, z, K, h => by
    simp only [autoM] at h
    split at h
    · exact ⟨m, z, h⟩
    · rename_i a b r
      cases hb : (Nat.blt a N0 || memK m a || memB z a) with
      | true => simp only [hb, cond_true] at h; exact autoM_spec h
      | false =>
        simp only [hb, cond_false] at h
        split at h
        · exact autoM_spec h
        · exact autoM_spec h

/-- What the objects that were there before show. -/
def oldPrs (N0 : Nat) : Heap → Heap → MZ
  | [], _ => []
  | (id, o) :: r, G => bif Nat.blt id N0 then (objPrs (some o) (hget G id)).append (oldPrs N0 r G) else oldPrs N0 r G
def SubA (N0 : Nat) (s : Slots) (_N : Nat) (G : Heap) (s' : Slots) (N' : Nat) (G' : Heap) : Prop :=
  autoM N0 G' G 90 ((slotPrs s' s).append (oldPrs N0 G' G)) [] [] fun m z => (bif geAll N0 m && geAll' N0 z && Nat.ble N0 N' && nodupK (mapKeys ⟨m, z, N'⟩ G') then True else False) ∧ slotsLe ⟨m, z, N'⟩ s' s ∧ heapLe ⟨m, z, N'⟩ G' G
theorem sub_auto {N0 : Nat} {s : Slots} {N : Nat} {G : Heap} {s' : Slots} {N' : Nat} {G' : Heap} (h : SubA N0 s N G s' N' G') : Sub N0 s N G s' N' G' := by
  obtain ⟨m, z, h⟩ := autoM_spec h
  exact ⟨m, z, h⟩

/-! ### The evaluator with stops: what is left to run stands behind a name that does not unfold -/
structure OpsG (E : Env) (all l : List Oper) (s : Slots) (N : Nat) (G : Heap) (K : Slots → Nat → Heap → Prop) : Prop where
  h : runOps E all l s N G K
structure ScanG (E : Env) (ops : Array Oper) (all : List Oper) (i : Nat) (l : List Oper) (D : List Nat) (s : Slots) (G : Heap) (W : List (Nat × Nat)) (K : List Nat → Slots → List (Nat × Nat) → Prop) : Prop where
  h : scanD E ops all i l D s G W K
structure DrawG (E : Env) (ops : Array Oper) (all : List Oper) (f : Nat) (D : List Nat) (s : Slots) (N : Nat) (G : Heap) (W : List (Nat × Nat)) (K : Slots → Nat → Heap → Prop) : Prop where
  h : drawD E ops all f D s N G W K
structure EvG (E : Env) (N0 : Nat) (c : Code) (s : Slots) (N : Nat) (G : Heap) (Q : Ex → Slots → Nat → Heap → Prop) : Prop where
  h : ev E N0 c s N G Q
theorem OpsG_eq : @OpsG = @runOps := by
  funext E all l s N G K
  exact propext ⟨fun h => h.h, fun h => ⟨h⟩⟩
theorem ScanG_eq : @ScanG = @scanD := by
  funext E ops all i l D s G W K
  exact propext ⟨fun h => h.h, fun h => ⟨h⟩⟩
theorem DrawG_eq : @DrawG = @drawD := by
  funext E ops all f D s N G W K
  exact propext ⟨fun h => h.h, fun h => ⟨h⟩⟩
theorem EvG_eq : @EvG = @ev := by
  funext E N0 c s N G Q
  exact propext ⟨fun h => h.h, fun h => ⟨h⟩⟩

/-! ### Numbers and names laid open, so that nothing is reckoned twice -/
def natK (n : Nat) (K : Nat → Prop) : Prop :=
  cond (Nat.beq n 0) (K 0) (cond (Nat.beq n 1) (K 1) (cond (Nat.beq n 2) (K 2) (cond (Nat.beq n 3) (K 3) (cond (Nat.beq n 4) (K 4) (cond (Nat.beq n 5) (K 5) (cond (Nat.beq n 6) (K 6) (cond (Nat.beq n 7) (K 7) (cond (Nat.beq n 8) (K 8) (cond (Nat.beq n 9) (K 9) (cond (Nat.beq n 10) (K 10) (cond (Nat.beq n 11) (K 11) (cond (Nat.beq n 12) (K 12) (cond (Nat.beq n 13) (K 13) (cond (Nat.beq n 14) (K 14) (cond (Nat.beq n 15) (K 15) (cond (Nat.beq n 16) (K 16) (cond (Nat.beq n 17) (K 17) (cond (Nat.beq n 18) (K 18) (cond (Nat.beq n 19) (K 19) (cond (Nat.beq n 20) (K 20) (cond (Nat.beq n 21) (K 21) (cond (Nat.beq n 22) (K 22) (cond (Nat.beq n 23) (K 23) (cond (Nat.beq n 24) (K 24) (cond (Nat.beq n 25) (K 25) (cond (Nat.beq n 26) (K 26) (cond (Nat.beq n 27) (K 27) (cond (Nat.beq n 28) (K 28) (cond (Nat.beq n 29) (K 29) (cond (Nat.beq n 30) (K 30) (cond (Nat.beq n 31) (K 31) (cond (Nat.beq n 32) (K 32) (cond (Nat.beq n 33) (K 33) (cond (Nat.beq n 34) (K 34) (cond (Nat.beq n 35) (K 35) (cond (Nat.beq n 36) (K 36) (cond (Nat.beq n 37) (K 37) (cond (Nat.beq n 38) (K 38) (cond (Nat.beq n 39) (K 39) (K n))))))))))))))))))))))))))))))))))))))))
theorem nat_step {n i : Nat} {K : Nat → Prop} {X : Prop} (h : X = K n) : cond (Nat.beq n i) (K i) X = K n := by
  cases hb : Nat.beq n i with
  | true => simp only [cond_true]; rw [Nat.eq_of_beq_eq_true hb]
  | false => simp only [cond_false]; exact h
theorem natK_eq (n : Nat) (K : Nat → Prop) : natK n K = K n := by
  unfold natK
  repeat' apply nat_step
  rfl
mutual
def avK (v : AV) (K : AV → Prop) : Prop :=
  match v with
  | .int k n => K (.int k n)
  | .bool b => K (.bool b)
  | .str s => K (.str s)
  | .ptr id p i j => natK id fun id => natK j fun j => K (.ptr id p i j)
  | .sl id p => natK id fun id => K (.sl id p)
  | .sub id p i len cap => natK id fun id => K (.sub id p i len cap)
  | .nilsl => K .nilsl
  | .nilptr => K .nilptr
  | .nilmap => K .nilmap
  | .map id => natK id fun id => K (.map id)
  | .func f caps => avLK caps fun caps => K (.func f caps)
  | .agg cs => avLK cs fun cs => K (.agg cs)
  | .tuple vs => avLK vs fun vs => K (.tuple vs)
  | .opt gt w g a => avK a fun a => K (.opt gt w g a)
  | .top => K .top
def avLK (vs : List AV) (K : List AV → Prop) : Prop :=
  match vs with
  | [] => K []
  | v :: r => avK v fun v => avLK r fun r => K (v :: r)
end
mutual
theorem avK_eq : ∀ (v : AV) (K : AV → Prop), avK v K = K v
  | .int _ _, _ => by simp only [avK]
  | .bool _, _ => by simp only [avK]
  | .str _, _ => by simp only [avK]
  | .ptr _ _ _ _, _ => by simp only [avK, natK_eq]
  | .sl _ _, _ => by simp only [avK, natK_eq]
  | .sub _ _ _ _ _, _ => by simp only [avK, natK_eq]
  | .nilsl, _ => by simp only [avK]
  | .nilptr, _ => by simp only [avK]
  | .nilmap, _ => by simp only [avK]
  | .map _, _ => by simp only [avK, natK_eq]
  | .func _ caps, _ => by simp only [avK, avLK_eq caps]
  | .agg cs, _ => by simp only [avK, avLK_eq cs]
  | .tuple vs, _ => by simp only [avK, avLK_eq vs]
  | .opt _ _ _ a, _ => by simp only [avK, avK_eq a]
  | .top, _ => by simp only [avK]
theorem avLK_eq : ∀ (vs : List AV) (K : List AV → Prop), avLK vs K = K vs
  | [], _ => by simp only [avLK]
  | v :: r, _ => by simp only [avLK, avK_eq v, avLK_eq r]
end
def avRK : List (List AV) → (List (List AV) → Prop) → Prop
  | [], K => K []
  | v :: r, K => avLK v fun v => avRK r fun r => K (v :: r)
theorem avRK_eq : ∀ (l : List (List AV)) (K : List (List AV) → Prop), avRK l K = K l
  | [], _ => rfl
  | v :: r, _ => by simp only [avRK, avLK_eq, avRK_eq r]
def objN (o : AObj) (K : AObj → Prop) : Prop :=
  match o with
  | .flat own f => match f with
    | .gen sz rows => natK sz fun sz => avRK rows fun rows => K (.flat own (.gen sz rows))
    | .ints k xs => K (.flat own (.ints k xs))
    | .r2 xs => K (.flat own (.r2 xs))
    | .r3 xs => K (.flat own (.r3 xs))
    | .r4 xs => K (.flat own (.r4 xs))
    | .bools xs => K (.flat own (.bools xs))
    | .strs xs => K (.flat own (.strs xs))
    | .rows M off n => natK M fun M => K (.flat own (.rows M off n))
  | o => K o
theorem objN_eq (o : AObj) (K : AObj → Prop) : objN o K = K o := by
  unfold objN
  split
  · split <;> simp only [natK_eq, avRK_eq]
  · rfl
def tidyN : Heap → (Heap → Prop) → Prop
  | [], K => K []
  | (k, o) :: r, K => natK k fun k => objN o fun o => tidyN r fun r => K ((k, o) :: r)
theorem tidyN_eq : ∀ (G : Heap) (K : Heap → Prop), tidyN G K = K G
  | [], _ => rfl
  | (k, o) :: r, _ => by simp only [tidyN, natK_eq, objN_eq, tidyN_eq r]
def headK (s : Slots) (K : Slots → Prop) : Prop :=
  match s with
  | [] => K []
  | (t, v) :: r => avK v fun v => K ((t, v) :: r)
theorem headK_eq (s : Slots) (K : Slots → Prop) : headK s K = K s := by
  unfold headK
  split
  · rfl
  · rw [avK_eq]
def openK (s : Slots) (N : Nat) (G : Heap) (K : Slots → Nat → Heap → Prop) : Prop := headK s fun s => natK N fun N => tidyN G fun G => K s N G
theorem openK_eq (s : Slots) (N : Nat) (G : Heap) (K : Slots → Nat → Heap → Prop) : openK s N G K = K s N G := by
  simp only [openK, headK_eq, natK_eq, tidyN_eq]
def watchK (x : Option Nat) (i : Nat) (W : List (Nat × Nat)) (K : List (Nat × Nat) → Prop) : Prop :=
  match x with
  | some id => natK i fun i => K ((i, id) :: W)
  | none => K W
theorem watchK_eq (x : Option Nat) (i : Nat) (W : List (Nat × Nat)) (K : List (Nat × Nat) → Prop) : watchK x i W K = K (watch x i W) := by
  cases x <;> simp only [watchK, watch, natK_eq]
def wRestK (es : List Edge) : List (Nat × Nat) → (List (Nat × Nat) → Prop) → Prop
  | [], K => K []
  | (i, id) :: r, K => bif onE i es then wRestK es r K else wRestK es r fun r => K ((i, id) :: r)
theorem wRestK_eq (es : List Edge) : ∀ (W : List (Nat × Nat)) (K : List (Nat × Nat) → Prop), wRestK es W K = K (wRest es W)
  | [], _ => rfl
  | (i, id) :: r, K => by
    simp only [wRestK, wRest]
    cases onE i es <;> simp only [cond_true, cond_false, wRestK_eq es r]
def wIdsK (es : List Edge) : List (Nat × Nat) → (List Nat → Prop) → Prop
  | [], K => K []
  | (i, id) :: r, K => bif onE i es then wIdsK es r K else wIdsK es r fun r => K (id :: r)
theorem wIdsK_eq (es : List Edge) : ∀ (W : List (Nat × Nat)) (K : List Nat → Prop), wIdsK es W K = K (wIds es W)
  | [], _ => rfl
  | (i, id) :: r, K => by
    simp only [wIdsK, wIds]
    cases onE i es <;> simp only [cond_true, cond_false, wIdsK_eq es r]

/-- For each of a list, one after another. -/
structure EachG (l : List (Nat × Oper)) (F : Nat → Oper → Prop) : Prop where
  h : eachR l F
theorem EachG_eq : @EachG = @eachR := by
  funext l F
  exact propext ⟨fun h => h.h, fun h => ⟨h⟩⟩
def each1 (l : List (Nat × Oper)) (F : Nat → Oper → Prop) : Prop :=
  match l with
  | [] => True
  | x :: r => match r with
    | [] => F x.1 x.2
    | _ :: _ => F x.1 x.2 ∧ EachG r F
theorem each1_eq (l : List (Nat × Oper)) (F : Nat → Oper → Prop) : each1 l F = eachR l F := by
  unfold each1
  split
  · simp only [eachR]
  · split <;> simp only [eachR, EachG_eq]
theorem each_step {l : List (Nat × Oper)} {F : Nat → Oper → Prop} (h : each1 l F) : EachG l F := ⟨by rw [each1_eq] at h; exact h⟩
def readyK (D : List Nat) : Nat → List Oper → (List (Nat × Oper) → Prop) → Prop
  | _, [], K => K []
  | i, o :: r, K => bif !memB D i && allIn D o.after.toList then natK (i + 1) fun i' => readyK D i' r fun l => K ((i, o) :: l) else natK (i + 1) fun i' => readyK D i' r K
theorem readyK_eq (D : List Nat) : ∀ (l : List Oper) (i : Nat) (K : List (Nat × Oper) → Prop), readyK D i l K = K (readyL D i l)
  | [], _, _ => rfl
  | o :: r, i, K => by
    simp only [readyK, readyL, natK_eq, readyK_eq D r]
    cases (!memB D i && allIn D o.after.toList) <;> rfl

def ops1 (E : Env) (all l : List Oper) (s : Slots) (N : Nat) (G : Heap) (K : Slots → Nat → Heap → Prop) : Prop :=
  match l with
  | [] => K s N G
  | o :: r => match isEffect o.op with
    | true => stepK E all o s N G fun s' N' G' => openK s' N' G' fun s' N' G' => OpsG E all r s' N' G' K
    | false => stepK E all o s N G fun s' N' G' => OpsG E all r s' N' G' K
theorem ops_step {E : Env} {all l : List Oper} {s : Slots} {N : Nat} {G : Heap} {K : Slots → Nat → Heap → Prop} (h : ops1 E all l s N G K) : OpsG E all l s N G K := by
  simp only [ops1, OpsG_eq, openK_eq] at h ⊢
  cases l with
  | nil => unfold runOps; exact h
  | cons o r =>
    unfold runOps
    simp only at h
    split at h <;> exact h
def scan1 (E : Env) (ops : Array Oper) (all : List Oper) (i : Nat) (l : List Oper) (D : List Nat) (s : Slots) (G : Heap) (W : List (Nat × Nat)) (K : List Nat → Slots → List (Nat × Nat) → Prop) : Prop :=
  match l with
  | [] => K D s W
  | o :: r => bif !memB D i && allIn D o.after.toList && !isEffect o.op && freeQ ops D i o 0 all then qstep E all o s G fun s' => watchK (qidOf o s) i W fun W => natK (i + 1) fun i' => ScanG E ops all i' r (i :: D) s' G W K else natK (i + 1) fun i' => ScanG E ops all i' r D s G W K
theorem scan_step {E : Env} {ops : Array Oper} {all : List Oper} {i : Nat} {l : List Oper} {D : List Nat} {s : Slots} {G : Heap} {W : List (Nat × Nat)} {K : List Nat → Slots → List (Nat × Nat) → Prop}
    (h : scan1 E ops all i l D s G W K) : ScanG E ops all i l D s G W K := by
  simp only [scan1, ScanG_eq, watchK_eq, natK_eq] at h ⊢
  cases l <;> (unfold scanD; exact h)
def draw1 (E : Env) (ops : Array Oper) (all : List Oper) (f : Nat) (D : List Nat) (s : Slots) (N : Nat) (G : Heap) (W : List (Nat × Nat)) (K : Slots → Nat → Heap → Prop) : Prop :=
  match f with
  | 0 => False
  | f + 1 => ScanG E ops all 0 all D s G W fun D s W => readyK D 0 all fun l => match l with
    | [] => K s N G
    | x :: l => each1 (x :: l) fun j o => match isEffect o.op with
      | true => wIdsK o.after.toList W fun ws => wRestK o.after.toList W fun W => estep E all o s N G ws fun s' N' G' => openK s' N' G' fun s' N' G' => natK j fun j => DrawG E ops all f (j :: D) s' N' G' W K
      | false => qstep E all o s G fun s' => wRestK o.after.toList W fun W => natK j fun j => DrawG E ops all f (j :: D) s' N G W K
theorem draw_step {E : Env} {ops : Array Oper} {all : List Oper} {f : Nat} {D : List Nat} {s : Slots} {N : Nat} {G : Heap} {W : List (Nat × Nat)} {K : Slots → Nat → Heap → Prop}
    (h : draw1 E ops all f D s N G W K) : DrawG E ops all f D s N G W K := by
  simp only [draw1, DrawG_eq, ScanG_eq, wIdsK_eq, wRestK_eq, openK_eq, natK_eq, readyK_eq, each1_eq] at h ⊢
  cases f <;> (unfold drawD; exact h)
def ev1 (E : Env) (N0 : Nat) (c : Code) (s : Slots) (N : Nat) (G : Heap) (Q : Ex → Slots → Nat → Heap → Prop) : Prop :=
  match c with
  | .skip => Q .normal s N G
  | .region _ ops draw => match draw with
    | true => bif noSel ops.toList && E.P.follows .mixedOrders then CutG N0 (fun K => DrawG E ops ops.toList (ops.toList.length + 1) [] s N G [] fun s N G => trimK E.keep s fun s => K s N G) (fun s N G => Q .normal s N G) else False
    | false => OpsG E ops.toList ops.toList s N G fun s N G => trimK E.keep s fun s => Q .normal s N G
  | .seq x y => EvG E N0 x s N G fun e s N G => match e with
    | .normal => EvG E N0 y s N G Q
    | .exit i => Q (.exit i) s N G
    | .ret => Q .ret s N G
  | .cond c x y => match ao s c with
    | .bool b => cond b (EvG E N0 x s N G Q) (EvG E N0 y s N G Q)
    | _ => False
  | .block id x => EvG E N0 x s N G fun e s N G => match e with
    | .normal => Q .normal s N G
    | .exit i => bif Nat.beq i id then Q .normal s N G else Q (.exit i) s N G
    | .ret => Q .ret s N G
  | .loop x => LoopG N0 s N G fun s N G k => EvG E N0 x s N G fun e s N G => match e with
      | .normal => k s N G
      | .exit i => Q (.exit i) s N G
      | .ret => Q .ret s N G
  | .exit id => Q (.exit id) s N G
  | .ret => Q .ret s N G
  | .label _ => Q .normal s N G
  | _ => False
theorem ev_step {E : Env} {N0 : Nat} {c : Code} {s : Slots} {N : Nat} {G : Heap} {Q : Ex → Slots → Nat → Heap → Prop} (h : ev1 E N0 c s N G Q) : EvG E N0 c s N G Q := by
  simp only [ev1, EvG_eq, OpsG_eq, DrawG_eq] at h ⊢
  cases c <;> (unfold ev; exact h)

theorem cond_split {b : Bool} {X Y : Prop} (h1 : b = true → X) (h2 : b = false → Y) : cond b X Y := by
  cases b with
  | true => exact h1 rfl
  | false => exact h2 rfl

/-! ### Loops, by what a round turns -/
def delS (ks : List Nat) : Slots → (Slots → Prop) → Prop
  | [], K => K []
  | (t, v) :: r, K => bif memB ks t then delS ks r K else match v with
    | .opt _ _ _ _ => delS (t :: ks) r K
    | v => delS (t :: ks) r fun r' => K ((t, v) :: r')
def delG (ks : List Nat) : Heap → (Heap → Prop) → Prop
  | [], K => K []
  | (t, v) :: r, K => bif memB ks t then delG ks r K else delG ks r fun r' => K ((t, v) :: r')
def putS : Slots → List Nat → (Slots → List Nat → Prop) → Prop
  | [], ks, K => K [] ks
  | (t, v) :: r, ks, K => putS r (t :: ks) fun r' ks' => K ((t, v) :: r') ks'
def putG : Heap → List Nat → (Heap → List Nat → Prop) → Prop
  | [], ks, K => K [] ks
  | (t, v) :: r, ks, K => putG r (t :: ks) fun r' ks' => K ((t, v) :: r') ks'
def updS (m s : Slots) (K : Slots → Prop) : Prop := putS m [] fun m' ks => delS ks s fun s' => K (m'.append s')
def updG (m s : Heap) (K : Heap → Prop) : Prop := putG m [] fun m' ks => delG ks s fun s' => K (m'.append s')
theorem delS_eq : ∀ (s : Slots) (ks : List Nat), ∃ s', ∀ K, delS ks s K = K s'
  | [], ks => ⟨[], fun _ => rfl⟩
  | (t, v) :: r, ks => by
    cases h : memB ks t with
    | true => obtain ⟨s', hs⟩ := delS_eq r ks; exact ⟨s', fun K => by simp [delS, h, hs]⟩
    | false =>
      obtain ⟨s', hs⟩ := delS_eq r (t :: ks)
      cases v with
      | opt a b c d => exact ⟨s', fun K => by simp [delS, h, hs]⟩
      | _ => exact ⟨_ :: s', fun K => by simp [delS, h, hs]; rfl⟩
theorem delG_eq : ∀ (s : Heap) (ks : List Nat), ∃ s', ∀ K, delG ks s K = K s'
  | [], ks => ⟨[], fun _ => rfl⟩
  | (t, v) :: r, ks => by
    obtain ⟨s', hs⟩ := delG_eq r ks
    cases h : memB ks t with
    | true => exact ⟨s', fun K => by simp [delG, h, hs]⟩
    | false => exact ⟨(t, v) :: s', fun K => by simp [delG, h, hs]⟩
theorem putS_eq : ∀ (s : Slots) (ks : List Nat), ∃ s' ks', ∀ K, putS s ks K = K s' ks'
  | [], ks => ⟨[], ks, fun _ => rfl⟩
  | (t, v) :: r, ks => by
    obtain ⟨s', ks', hs⟩ := putS_eq r (t :: ks)
    exact ⟨(t, v) :: s', ks', fun K => by simp [putS, hs]⟩
theorem putG_eq : ∀ (s : Heap) (ks : List Nat), ∃ s' ks', ∀ K, putG s ks K = K s' ks'
  | [], ks => ⟨[], ks, fun _ => rfl⟩
  | (t, v) :: r, ks => by
    obtain ⟨s', ks', hs⟩ := putG_eq r (t :: ks)
    exact ⟨(t, v) :: s', ks', fun K => by simp [putG, hs]⟩
theorem updS_eq (m s : Slots) : ∃ s', ∀ K, updS m s K = K s' := by
  obtain ⟨m', ks, h1⟩ := putS_eq m []
  obtain ⟨s', h2⟩ := delS_eq s ks
  exact ⟨m'.append s', fun K => by simp [updS, h1, h2]⟩
theorem updG_eq (m s : Heap) : ∃ s', ∀ K, updG m s K = K s' := by
  obtain ⟨m', ks, h1⟩ := putG_eq m []
  obtain ⟨s', h2⟩ := delG_eq s ks
  exact ⟨m'.append s', fun K => by simp [updG, h1, h2]⟩

/-- What is to be shown at the end of a round. -/
def NextR (N0 : Nat) (s : Slots) (G : Heap) (N' : Nat) (m : Slots) (g : Heap) (s1 : Slots) (N1 : Nat) (G1 : Heap) : Prop :=
  updS m s fun s' => updG g G fun G' => SubA N0 s1 N1 G1 s' N' G'
theorem loop_at {N0 : Nat} {s : Slots} {N : Nat} {G : Heap} {F : Slots → Nat → Heap → (Slots → Nat → Heap → Prop) → Prop} {α : Type} (p : α → Prop) (N' : Nat) (sm : α → Slots) (gm : α → Heap) (μ : α → Nat) (a0 : α) (h0 : p a0)
    (hs : NextR N0 s G N' (sm a0) (gm a0) s N G)
    (hr : ∀ a, p a → updS (sm a) s fun s' => updG (gm a) G fun G' => F s' N' G' fun s1 N1 G1 => ∃ b, p b ∧ μ b < μ a ∧ NextR N0 s G N' (sm b) (gm b) s1 N1 G1) : LoopG N0 s N G F := by
  have e1 : ∀ a, ∃ s', ∀ K, updS (sm a) s K = K s' := fun a => updS_eq _ _
  have e2 : ∀ a, ∃ s', ∀ K, updG (gm a) G K = K s' := fun a => updG_eq _ _
  obtain ⟨f1, h1⟩ := Classical.axiomOfChoice e1
  obtain ⟨f2, h2⟩ := Classical.axiomOfChoice e2
  have hn : ∀ a s1 N1 G1, NextR N0 s G N' (sm a) (gm a) s1 N1 G1 → Sub N0 s1 N1 G1 (f1 a) N' (f2 a) := fun a s1 N1 G1 h => by
    unfold NextR at h
    rw [h1 a, h2 a] at h
    exact sub_auto h
  refine ⟨α, p, fun a => (f1 a, N', f2 a), μ, fun a => NextR N0 s G N' (sm a) (gm a), hn, ⟨a0, h0, hs⟩, fun a ha => ?_⟩
  have h := hr a ha
  rw [h1 a, h2 a] at h
  exact h

/-! ### The plain form -/
structure FnIs (P : Program) (f : Nat) (args : List AV) (N : Nat) (G : Heap) (v : AV) (n : Nat) (g : Heap) : Prop where
  call : ACall P f args N G fun v' N' G' => v' = v ∧ N' = n ∧ G' = g

/-- What a contract's use leaves to be shown. -/
abbrev PostR := List (Nat × Nat) → Nat → Heap → (AV → Nat → Heap → Prop) → Prop
def isR (N0 : Nat) (G0 : Heap) (v : AV) (n : Nat) (g : Heap) : PostR := fun m N G K => K (v.ren (rN m N0 N)) (Nat.add (Nat.sub n N0) N) (join m N0 N G0 g G)
def exR {α : Type} (N0 : Nat) (G0 : Heap) (p : α → Prop) (v : α → AV) (n : Nat) (g : α → Heap) : PostR := fun m N G K => ∀ a, p a → K ((v a).ren (rN m N0 N)) (Nat.add (Nat.sub n N0) N) (join m N0 N G0 (g a) G)
/-- Used at a call. -/
def useA (args0 : List AV) (N0 : Nat) (G0 : Heap) (R : PostR) (args : List AV) (N : Nat) (G : Heap) (K : AV → Nat → Heap → Prop) : Prop :=
  autoM 0 G0 G 60 (AV.prsL args0 args) [] [] fun m _ => useC m args0 N0 G0 args N G ∧ R m N G K
/-- A contract, as far as its use asks. -/
structure FnR (P : Program) (f : Nat) (args0 : List AV) (N0 : Nat) (G0 : Heap) (R : PostR) : Prop where
  use : ∀ (m : List (Nat × Nat)) (args : List AV) (N : Nat) (G : Heap) (K : AV → Nat → Heap → Prop), useC m args0 N0 G0 args N G → R m N G K → ACall P f args N G K
theorem FnR.useA {P : Program} {f : Nat} {args0 : List AV} {N0 : Nat} {G0 : Heap} {R : PostR} (h : FnR P f args0 N0 G0 R) {args : List AV} {N : Nat} {G : Heap} {K : AV → Nat → Heap → Prop}
    (hu : Go.Sx.useA args0 N0 G0 R args N G K) : ACall P f args N G K := by
  obtain ⟨m, _, h1, h2⟩ := autoM_spec hu
  exact h.use m _ _ _ _ h1 h2
theorem FnIs.r {P : Program} {f : Nat} {args0 : List AV} {N0 : Nat} {G0 : Heap} {v : AV} {n : Nat} {g : Heap} (h : FnIs P f args0 N0 G0 v n g) : FnR P f args0 N0 G0 (isR N0 G0 v n g) :=
  ⟨fun m _ _ _ _ h1 h2 => h.call.lift m h1 fun _ _ _ ⟨e1, e2, e3⟩ _ => by subst e1 e2 e3; exact h2⟩

/-- A contract that tells its outcome only in part. -/
structure FnEx (P : Program) (f : Nat) (args : List AV) (N : Nat) (G : Heap) {α : Type} (p : α → Prop) (v : α → AV) (n : Nat) (g : α → Heap) : Prop where
  call : ACall P f args N G fun v' N' G' => ∃ a, p a ∧ v' = v a ∧ N' = n ∧ G' = g a
theorem FnEx.r {P : Program} {f : Nat} {args0 : List AV} {N0 : Nat} {G0 : Heap} {α : Type} {p : α → Prop} {v : α → AV} {n : Nat} {g : α → Heap} (h : FnEx P f args0 N0 G0 p v n g) : FnR P f args0 N0 G0 (exR N0 G0 p v n g) :=
  ⟨fun m _ _ _ _ h1 h2 => h.call.lift m h1 fun _ _ _ ⟨a, ha, e1, e2, e3⟩ _ => by subst e1 e2 e3; exact h2 a ha⟩
theorem FnIs.ex {P : Program} {f : Nat} {args : List AV} {N : Nat} {G : Heap} {α : Type} {p : α → Prop} {v : α → AV} {n : Nat} {g : α → Heap} (a : α) (ha : p a) (h : FnIs P f args N G (v a) n (g a)) : FnEx P f args N G p v n g :=
  ⟨h.call.mono fun _ _ _ ⟨e1, e2, e3⟩ => ⟨a, ha, e1, e2, e3⟩⟩

theorem ex_of_evk (ks : List Nat) {P : Program} {T : Tbl} (hT : TblOK P T) {f : Nat} {fn : Func} {c : Code} (hf : P.funcs[f]? = some fn) (hb : fn.body = some c) (hok : (fn.name == "runtime.NumGoroutine") = false) {args : List AV} {N : Nat} {G : Heap} {α : Type} {p : α → Prop} {v : α → AV} {n : Nat} {g : α → Heap}
    (hle : Nat.ble args.length fn.ntmps = true)
    (h : EvG ⟨P, T, fn.ntmps, ks⟩ N c (initSlots 0 args) N G (fun e s N' G' => match e with
      | .exit _ => False
      | _ => RetVC ⟨P, T, fn.ntmps, ks⟩ fn.results.toList s N' G' fun rv N' G' => ∃ a, p a ∧ SubA N [(0, rv)] N' G' [(0, v a)] n (g a))) : FnEx P f args N G p v n g :=
  ⟨acall_of_ev hT hf hb ⟨⟨fn, hf, hok, by rw [hb]; rfl⟩⟩ hle (fun _ _ _ ⟨a, ha, hr⟩ => ⟨v a, n, g a, sub_auto hr, a, ha, rfl, rfl, rfl⟩) h.h⟩

theorem fn_of_evk (ks : List Nat) {P : Program} {T : Tbl} (hT : TblOK P T) {f : Nat} {fn : Func} {c : Code} (hf : P.funcs[f]? = some fn) (hb : fn.body = some c) (hok : (fn.name == "runtime.NumGoroutine") = false) {args : List AV} {N : Nat} {G : Heap} {v : AV} {n : Nat} {g : Heap}
    (hle : Nat.ble args.length fn.ntmps = true)
    (h : EvG ⟨P, T, fn.ntmps, ks⟩ N c (initSlots 0 args) N G (fun e s N' G' => match e with
      | .exit _ => False
      | _ => RetVC ⟨P, T, fn.ntmps, ks⟩ fn.results.toList s N' G' fun rv N' G' => SubA N [(0, rv)] N' G' [(0, v)] n g)) : FnIs P f args N G v n g :=
  ⟨acall_of_ev hT hf hb ⟨⟨fn, hf, hok, by rw [hb]; rfl⟩⟩ hle (fun _ _ _ hr => ⟨v, n, g, sub_auto hr, rfl, rfl, rfl⟩) h.h⟩

theorem fn_of_ev {P : Program} {T : Tbl} (hT : TblOK P T) {f : Nat} {fn : Func} {c : Code} (hf : P.funcs[f]? = some fn) (hb : fn.body = some c) (hok : (fn.name == "runtime.NumGoroutine") = false) {args : List AV} {N : Nat} {G : Heap} {v : AV} {n : Nat} {g : Heap}
    (hle : Nat.ble args.length fn.ntmps = true)
    (h : EvG ⟨P, T, fn.ntmps, []⟩ N c (initSlots 0 args) N G (fun e s N' G' => match e with
      | .exit _ => False
      | _ => RetVC ⟨P, T, fn.ntmps, []⟩ fn.results.toList s N' G' fun rv N' G' => SubA N [(0, rv)] N' G' [(0, v)] n g)) : FnIs P f args N G v n g :=
  fn_of_evk [] hT hf hb hok hle h

end Go.Sx
