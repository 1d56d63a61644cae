/-
  Chapter 11, journals: what the program says of strings, in plain words: decimals, check numbers, journals.
-/
import Derived.Test.YtligakfmabjoeaaDoorK1
import Derived.Lib.ItoaNum
import Derived.Lib.ItoaLen
import Derived.Lib.Bytealg
import Derived.Lib.IndexLaws
set_option linter.unusedSimpArgs false
namespace Go.Sx.U
set_option linter.unusedVariables false
set_option linter.unusedSimpArgs false
set_option maxRecDepth 100000
set_option maxHeartbeats 8000000
open Go Go.Sx Go.Proofs

/-- A string's bytes. -/
abbrev bl (s : ByteArray) : List UInt8 := s.data.toList
theorem bl_ext {a b : ByteArray} (h : bl a = bl b) : a = b := by
  cases a with | mk a => cases b with | mk b => exact congrArg _ (Array.ext' h)
theorem bl_app (a b : ByteArray) : bl (a ++ b) = bl a ++ bl b := by
  simp [bl, ByteArray.data_append]
theorem bl_len (a : ByteArray) : (bl a).length = a.size := Array.length_toList
theorem bl_ext_iff {a b : ByteArray} : a = b ↔ bl a = bl b := ⟨fun h => h ▸ rfl, bl_ext⟩
theorem bl_mk (l : List UInt8) : bl ⟨l.toArray⟩ = l := by simp [bl]
theorem bl_sub (s : ByteArray) (a b : Nat) : bl (s.extract a b) = ((bl s).take b).drop a := by
  simp only [bl, ByteArray.data_extract, Array.toList_extract]
  rw [List.extract_eq_take_drop, List.take_drop]
  by_cases h : a ≤ b
  · rw [show a + (b - a) = b by omega]
  · rw [show a + (b - a) = a by omega, List.drop_eq_nil_of_le (by simp; omega), List.drop_eq_nil_of_le (by simp; omega)]
theorem bl_size_app (a b : ByteArray) : (a ++ b).size = a.size + b.size := by simp [ByteArray.size_append]

/-- A number in decimal. -/
def decB (n : Int) : ByteArray := ⟨(Lib.itoa n).toArray⟩
theorem decB_bl (n : Int) : bl (decB n) = Lib.itoa n := bl_mk _
theorem decDigits_pos (u : Nat) : 0 < (Lib.decDigits u).length := by
  rw [Lib.decDigits]; split <;> simp
theorem decB_pos (n : Int) : 0 < (decB n).size := by
  rw [← bl_len, decB_bl, Lib.itoa]
  split
  · simp
  · exact decDigits_pos _
theorem decB_le (n : Int) (h0 : -9223372036854775808 ≤ n) (h1 : n ≤ 9223372036854775807) : (decB n).size ≤ 21 := by
  rw [← bl_len, decB_bl]; exact Lib.itoa_length_le n h0 h1
theorem decDigits_no : ∀ (k u : Nat), u < k → ∀ c ∈ Lib.decDigits u, 48 ≤ c.toNat ∧ c.toNat ≤ 57
  | 0, _, h => absurd h (Nat.not_lt_zero _)
  | k + 1, u, h => by
    intro c hc
    rw [Lib.decDigits] at hc
    split at hc
    · simp only [List.mem_singleton] at hc; subst hc
      simp only [UInt8.toNat_ofNat']; omega
    · simp only [List.mem_append, List.mem_singleton] at hc
      rcases hc with hc | hc
      · exact decDigits_no k (u / 10) (by omega) c hc
      · subst hc
        simp only [UInt8.toNat_ofNat']; omega
theorem decB_no {n : Int} (h : 0 ≤ n) : ∀ c ∈ bl (decB n), 48 ≤ c.toNat ∧ c.toNat ≤ 57 := by
  rw [decB_bl, Lib.itoa, if_neg (by omega)]
  exact decDigits_no _ _ (Nat.lt_succ_self _)

/-- The check number. -/
def chk1 (n : Int) (c : UInt8) : Int := (211 * n + (c.toNat : Int) + 9) % 65521
def chk (n : Int) (s : ByteArray) : Int := (bl s).foldl chk1 n
abbrev chkOk (n : Int) : Prop := 0 ≤ n ∧ n ≤ 65520
theorem chk1_ok {n : Int} (h : 0 ≤ n) (c : UInt8) : chkOk (chk1 n c) := by
  unfold chk1 chkOk
  have : 0 ≤ 211 * n + (c.toNat : Int) + 9 := by omega
  omega
theorem foldl_ok : ∀ (l : List UInt8) {n : Int}, chkOk n → chkOk (l.foldl chk1 n)
  | [], _, h => h
  | c :: r, _, h => foldl_ok r (chk1_ok h.1 c)
theorem chk_ok {n : Int} (h : chkOk n) (s : ByteArray) : chkOk (chk n s) := foldl_ok _ h

/-- A line in a journal. -/
def jline (n : Int) (s : ByteArray) : ByteArray := decB n ++ ⟨#[32]⟩ ++ s ++ ⟨#[10]⟩
theorem jline_size (n : Int) (s : ByteArray) : (jline n s).size = (decB n).size + s.size + 2 := by
  unfold jline
  simp only [bl_size_app]
  have e1 : (ByteArray.mk #[32]).size = 1 := rfl
  have e2 : (ByteArray.mk #[10]).size = 1 := rfl
  omega
theorem jline_bl (n : Int) (s : ByteArray) : bl (jline n s) = Lib.itoa n ++ 32 :: bl s ++ [10] := by
  unfold jline
  simp [bl_app, decB_bl]
def jst (a : Int × ByteArray) (s : ByteArray) : Int × ByteArray := (chk a.1 s, a.2 ++ jline (chk a.1 s) s)
def jour (ls : List ByteArray) : Int × ByteArray := ls.foldl jst (0, ByteArray.empty)
theorem jour_ok (ls : List ByteArray) : chkOk (jour ls).1 := by
  unfold jour
  suffices h : ∀ (ls : List ByteArray) (a : Int × ByteArray), chkOk a.1 → chkOk (ls.foldl jst a).1 from h ls _ (by decide)
  intro ls
  induction ls with
  | nil => exact fun a h => h
  | cons s r ih => exact fun a h => ih _ (chk_ok h s)
theorem jour_snoc (ls : List ByteArray) (s : ByteArray) : jour (ls ++ [s]) = jst (jour ls) s := by simp [jour, List.foldl_append]
theorem take_snocS {α : Type} {xs : List α} {d : α} {i : Nat} (h : i < xs.length) : xs.take (i + 1) = xs.take i ++ [xs.getD i d] := by
  rw [List.take_add_one, List.getElem?_eq_getElem h]; simp [List.getD, h]
theorem jour_succ {ls : List ByteArray} {i : Nat} (h : i < ls.length) : jour (ls.take (i + 1)) = jst (jour (ls.take i)) (ls.getD i ByteArray.empty) := by
  rw [take_snocS (d := ByteArray.empty) h, jour_snoc]

/-- Has a string the byte of the line's end? -/
def nlB (s : ByteArray) : Bool := (bl s).any fun c => c == 10
/-- What lines have in a journal at least. -/
def sum3 (ls : List ByteArray) : Nat := (ls.map fun s => s.size + 3).sum
theorem sum3_succ {ls : List ByteArray} {i : Nat} (h : i < ls.length) : sum3 (ls.take (i + 1)) = sum3 (ls.take i) + ((ls.getD i ByteArray.empty).size + 3) := by
  rw [take_snocS (d := ByteArray.empty) h]; simp [sum3]
theorem jour_size_succ {ls : List ByteArray} {i : Nat} (h : i < ls.length) : (jour (ls.take i)).2.size + (ls.getD i ByteArray.empty).size + 3 ≤ (jour (ls.take (i + 1))).2.size ∧
    (jour (ls.take (i + 1))).2.size ≤ (jour (ls.take i)).2.size + (ls.getD i ByteArray.empty).size + 23 := by
  rw [jour_succ h]
  simp only [jst, bl_size_app, jline_size]
  have h1 := decB_pos (chk (jour (ls.take i)).1 (ls.getD i ByteArray.empty))
  have h2 := chk_ok (jour_ok (ls.take i)) (ls.getD i ByteArray.empty)
  have h3 := decB_le (chk (jour (ls.take i)).1 (ls.getD i ByteArray.empty)) (by omega) (by omega)
  omega
theorem sum3_le (ls : List ByteArray) : ∀ i, i ≤ ls.length → sum3 (ls.take i) ≤ (jour (ls.take i)).2.size
  | 0, _ => by simp [sum3]
  | i + 1, h => by
    have h1 := sum3_le ls i (by omega)
    have h2 := (jour_size_succ (ls := ls) (i := i) (by omega)).1
    rw [sum3_succ (by omega)]
    omega
theorem jour_mono (ls : List ByteArray) : ∀ (k i : Nat), i + k ≤ ls.length → (jour (ls.take i)).2.size ≤ (jour (ls.take (i + k))).2.size
  | 0, _, _ => Nat.le_refl _
  | k + 1, i, h => by
    have h1 := jour_mono ls k i (by omega)
    have h2 := (jour_size_succ (ls := ls) (i := i + k) (by omega)).1
    rw [← Nat.add_assoc]
    omega
theorem jour_le (ls : List ByteArray) {i : Nat} (h : i ≤ ls.length) : (jour (ls.take i)).2.size ≤ (jour ls).2.size := by
  have := jour_mono ls (ls.length - i) i (by omega)
  rwa [show i + (ls.length - i) = ls.length by omega, List.take_length] at this
/-- Is there a journal of the lines? -/
def jokB (ls : List ByteArray) : Bool := !(ls.any nlB) && decide ((jour ls).2.size ≤ 4000)
def jourV (ls : List ByteArray) : ByteArray := bif jokB ls then (jour ls).2 else ByteArray.empty
end Go.Sx.U
