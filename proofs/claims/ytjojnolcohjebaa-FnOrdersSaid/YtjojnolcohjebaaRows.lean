/-
  No cell of these rows narrows 'for every input' (looked for: loops, veiled, ifaces, maps, wideKeys, modest, calm, conditions, laid).
  DERIVED. THE GIVEN ROWS OF THIS SEAT. 10 by the template 'for every input the law returns true; each argument reads behind the call as it read before'; 0 by the template 'total and deterministic' (their statements: YtjojnolcohjebaaTotals.lean).
  GIVEN WITH THE SEED: the statements are not yours to turn. If you find one false, say at which input.
  Laid BY PROGRAM, IN A SANDBOX (cutbox-rows.mjs): the forced cells as the released guide's own fill.sh prints them over the translation 1d12da3946bb99d4… (all of the seat's roots in one cut). By AI agents, Wed Nov 11 2026. No macro, syntax, notation, axiom, sorry.
-/
import Derived.Test.YtjojnolcohjebaaChecked
import GoSem.Claim
import GoSem.ClaimJoined
import GoSem.ClaimMapViews
import Derived.JoinedTies
import Derived.KernelRfl
namespace Go.Proofs.Ytjojnolcohjebaa
/- THE CELL 'sum', in the pinned program and in every row, IS THE sha256 OF THE DUMP (.gsa) THAT YtjojnolcohjebaaProg.lean LOADS. Nothing in Lean hashes anything: it is a label: what it is worth is what the hold of that sum in a sandbox is worth. -/
noncomputable def Try.pinned : Pinned := { name := "ytjojnolcohjebaa", sum := "1d12da3946bb99d48a639f1d1c6f673395bec811fea2cbff000d5f3035366573", checked := Try.checked }
namespace Rows
def none {H : Type} : Left H := { results := [], args := [] }

/-- 'laws.FnExactTreeBound': WHATEVER THE INPUT: true; the input reads as it did. -/
def fnExactTreeBoundSpec : ChangeSpec := { name := "fnExactTreeBound", fn := fun _ => fun
  | [d] => { results := [.lit (.bool true)], args := [d] }
  | _ => none }
def fnExactTreeBoundRow : OpenClaim := { program := "ytjojnolcohjebaa", sum := "1d12da3946bb99d48a639f1d1c6f673395bec811fea2cbff000d5f3035366573", func := "loop.example/g01149/laws.FnExactTreeBound", spec := "fnExactTreeBound", plainKeys := false, apart := false }
def FnExactTreeBoundSaid : Prop := fnExactTreeBoundRow.holds Try.pinned (OpenSpec.ofChange fnExactTreeBoundSpec)

/-- ITS FALSE NEIGHBOUR: 'it returns false'. Refute it at one input. -/
def fnExactTreeBoundWrong : ChangeSpec := { name := "fnExactTreeBound", fn := fun _ => fun
  | [d] => { results := [.lit (.bool false)], args := [d] }
  | _ => none }
def FnExactTreeBoundWrongFalsely : Prop := fnExactTreeBoundRow.holds Try.pinned (OpenSpec.ofChange fnExactTreeBoundWrong)

/-- 'laws.FnExactCountOrdersOf': WHATEVER THE INPUT: true; the input reads as it did. -/
def fnExactCountOrdersOfSpec : ChangeSpec := { name := "fnExactCountOrdersOf", fn := fun _ => fun
  | [d1, d2] => { results := [.lit (.bool true)], args := [d1, d2] }
  | _ => none }
def fnExactCountOrdersOfRow : OpenClaim := { program := "ytjojnolcohjebaa", sum := "1d12da3946bb99d48a639f1d1c6f673395bec811fea2cbff000d5f3035366573", func := "loop.example/g01149/laws.FnExactCountOrdersOf", spec := "fnExactCountOrdersOf", unfollowed := true, recurses := true, plainKeys := false, apart := false }
def FnExactCountOrdersOfSaid : Prop := fnExactCountOrdersOfRow.holds Try.pinned (OpenSpec.ofChange fnExactCountOrdersOfSpec)

/-- ITS FALSE NEIGHBOUR: 'it returns false'. Refute it at one input. -/
def fnExactCountOrdersOfWrong : ChangeSpec := { name := "fnExactCountOrdersOf", fn := fun _ => fun
  | [d1, d2] => { results := [.lit (.bool false)], args := [d1, d2] }
  | _ => none }
def FnExactCountOrdersOfWrongFalsely : Prop := fnExactCountOrdersOfRow.holds Try.pinned (OpenSpec.ofChange fnExactCountOrdersOfWrong)

/-- 'laws.FnExactQuietOrder': WHATEVER THE INPUT: true; the input reads as it did. -/
def fnExactQuietOrderSpec : ChangeSpec := { name := "fnExactQuietOrder", fn := fun _ => fun
  | [d] => { results := [.lit (.bool true)], args := [d] }
  | _ => none }
def fnExactQuietOrderRow : OpenClaim := { program := "ytjojnolcohjebaa", sum := "1d12da3946bb99d48a639f1d1c6f673395bec811fea2cbff000d5f3035366573", func := "loop.example/g01149/laws.FnExactQuietOrder", spec := "fnExactQuietOrder", unfollowed := true, recurses := true, plainKeys := false, apart := false }
def FnExactQuietOrderSaid : Prop := fnExactQuietOrderRow.holds Try.pinned (OpenSpec.ofChange fnExactQuietOrderSpec)

/-- ITS FALSE NEIGHBOUR: 'it returns false'. Refute it at one input. -/
def fnExactQuietOrderWrong : ChangeSpec := { name := "fnExactQuietOrder", fn := fun _ => fun
  | [d] => { results := [.lit (.bool false)], args := [d] }
  | _ => none }
def FnExactQuietOrderWrongFalsely : Prop := fnExactQuietOrderRow.holds Try.pinned (OpenSpec.ofChange fnExactQuietOrderWrong)

/-- 'laws.FnExactBestShields': WHATEVER THE INPUT: true; the input reads as it did. -/
def fnExactBestShieldsSpec : ChangeSpec := { name := "fnExactBestShields", fn := fun _ => fun
  | [d1, d2, d3] => { results := [.lit (.bool true)], args := [d1, d2, d3] }
  | _ => none }
def fnExactBestShieldsRow : OpenClaim := { program := "ytjojnolcohjebaa", sum := "1d12da3946bb99d48a639f1d1c6f673395bec811fea2cbff000d5f3035366573", func := "loop.example/g01149/laws.FnExactBestShields", spec := "fnExactBestShields", plainKeys := false, apart := false }
def FnExactBestShieldsSaid : Prop := fnExactBestShieldsRow.holds Try.pinned (OpenSpec.ofChange fnExactBestShieldsSpec)

/-- ITS FALSE NEIGHBOUR: 'it returns false'. Refute it at one input. -/
def fnExactBestShieldsWrong : ChangeSpec := { name := "fnExactBestShields", fn := fun _ => fun
  | [d1, d2, d3] => { results := [.lit (.bool false)], args := [d1, d2, d3] }
  | _ => none }
def FnExactBestShieldsWrongFalsely : Prop := fnExactBestShieldsRow.holds Try.pinned (OpenSpec.ofChange fnExactBestShieldsWrong)

/-- 'laws.FnExactBestBetween': WHATEVER THE INPUT: true; the input reads as it did. -/
def fnExactBestBetweenSpec : ChangeSpec := { name := "fnExactBestBetween", fn := fun _ => fun
  | [d1, d2, d3] => { results := [.lit (.bool true)], args := [d1, d2, d3] }
  | _ => none }
def fnExactBestBetweenRow : OpenClaim := { program := "ytjojnolcohjebaa", sum := "1d12da3946bb99d48a639f1d1c6f673395bec811fea2cbff000d5f3035366573", func := "loop.example/g01149/laws.FnExactBestBetween", spec := "fnExactBestBetween", unfollowed := true, recurses := true, plainKeys := false, apart := false }
def FnExactBestBetweenSaid : Prop := fnExactBestBetweenRow.holds Try.pinned (OpenSpec.ofChange fnExactBestBetweenSpec)

/-- ITS FALSE NEIGHBOUR: 'it returns false'. Refute it at one input. -/
def fnExactBestBetweenWrong : ChangeSpec := { name := "fnExactBestBetween", fn := fun _ => fun
  | [d1, d2, d3] => { results := [.lit (.bool false)], args := [d1, d2, d3] }
  | _ => none }
def FnExactBestBetweenWrongFalsely : Prop := fnExactBestBetweenRow.holds Try.pinned (OpenSpec.ofChange fnExactBestBetweenWrong)

/-- 'laws.FnExactBestOrder': WHATEVER THE INPUT: true; the input reads as it did. -/
def fnExactBestOrderSpec : ChangeSpec := { name := "fnExactBestOrder", fn := fun _ => fun
  | [d1, d2] => { results := [.lit (.bool true)], args := [d1, d2] }
  | _ => none }
def fnExactBestOrderRow : OpenClaim := { program := "ytjojnolcohjebaa", sum := "1d12da3946bb99d48a639f1d1c6f673395bec811fea2cbff000d5f3035366573", func := "loop.example/g01149/laws.FnExactBestOrder", spec := "fnExactBestOrder", unfollowed := true, recurses := true, plainKeys := false, apart := false }
def FnExactBestOrderSaid : Prop := fnExactBestOrderRow.holds Try.pinned (OpenSpec.ofChange fnExactBestOrderSpec)

/-- ITS FALSE NEIGHBOUR: 'it returns false'. Refute it at one input. -/
def fnExactBestOrderWrong : ChangeSpec := { name := "fnExactBestOrder", fn := fun _ => fun
  | [d1, d2] => { results := [.lit (.bool false)], args := [d1, d2] }
  | _ => none }
def FnExactBestOrderWrongFalsely : Prop := fnExactBestOrderRow.holds Try.pinned (OpenSpec.ofChange fnExactBestOrderWrong)

/-- 'laws.FnQuiet': WHATEVER THE INPUT: true; the input reads as it did. -/
def fnQuietSpec : ChangeSpec := { name := "fnQuiet", fn := fun _ => fun
  | [d1, d2] => { results := [.lit (.bool true)], args := [d1, d2] }
  | _ => none }
def fnQuietRow : OpenClaim := { program := "ytjojnolcohjebaa", sum := "1d12da3946bb99d48a639f1d1c6f673395bec811fea2cbff000d5f3035366573", func := "loop.example/g01149/laws.FnQuiet", spec := "fnQuiet", unfollowed := true, recurses := true, plainKeys := false, apart := false }
def FnQuietSaid : Prop := fnQuietRow.holds Try.pinned (OpenSpec.ofChange fnQuietSpec)

/-- ITS FALSE NEIGHBOUR: 'it returns false'. Refute it at one input. -/
def fnQuietWrong : ChangeSpec := { name := "fnQuiet", fn := fun _ => fun
  | [d1, d2] => { results := [.lit (.bool false)], args := [d1, d2] }
  | _ => none }
def FnQuietWrongFalsely : Prop := fnQuietRow.holds Try.pinned (OpenSpec.ofChange fnQuietWrong)

/-- 'laws.FnBetween': WHATEVER THE INPUT: true; the input reads as it did. -/
def fnBetweenSpec : ChangeSpec := { name := "fnBetween", fn := fun _ => fun
  | [d1, d2] => { results := [.lit (.bool true)], args := [d1, d2] }
  | _ => none }
def fnBetweenRow : OpenClaim := { program := "ytjojnolcohjebaa", sum := "1d12da3946bb99d48a639f1d1c6f673395bec811fea2cbff000d5f3035366573", func := "loop.example/g01149/laws.FnBetween", spec := "fnBetween", unfollowed := true, recurses := true, plainKeys := false, apart := false }
def FnBetweenSaid : Prop := fnBetweenRow.holds Try.pinned (OpenSpec.ofChange fnBetweenSpec)

/-- ITS FALSE NEIGHBOUR: 'it returns false'. Refute it at one input. -/
def fnBetweenWrong : ChangeSpec := { name := "fnBetween", fn := fun _ => fun
  | [d1, d2] => { results := [.lit (.bool false)], args := [d1, d2] }
  | _ => none }
def FnBetweenWrongFalsely : Prop := fnBetweenRow.holds Try.pinned (OpenSpec.ofChange fnBetweenWrong)

/-- 'laws.FnCountedOrders': WHATEVER THE INPUT: true; the input reads as it did. -/
def fnCountedOrdersSpec : ChangeSpec := { name := "fnCountedOrders", fn := fun _ => fun
  | [d1, d2] => { results := [.lit (.bool true)], args := [d1, d2] }
  | _ => none }
def fnCountedOrdersRow : OpenClaim := { program := "ytjojnolcohjebaa", sum := "1d12da3946bb99d48a639f1d1c6f673395bec811fea2cbff000d5f3035366573", func := "loop.example/g01149/laws.FnCountedOrders", spec := "fnCountedOrders", unfollowed := true, recurses := true, plainKeys := false, apart := false }
def FnCountedOrdersSaid : Prop := fnCountedOrdersRow.holds Try.pinned (OpenSpec.ofChange fnCountedOrdersSpec)

/-- ITS FALSE NEIGHBOUR: 'it returns false'. Refute it at one input. -/
def fnCountedOrdersWrong : ChangeSpec := { name := "fnCountedOrders", fn := fun _ => fun
  | [d1, d2] => { results := [.lit (.bool false)], args := [d1, d2] }
  | _ => none }
def FnCountedOrdersWrongFalsely : Prop := fnCountedOrdersRow.holds Try.pinned (OpenSpec.ofChange fnCountedOrdersWrong)

/-- 'laws.FnOrders': WHATEVER THE INPUT: true; the input reads as it did. -/
def fnOrdersSpec : ChangeSpec := { name := "fnOrders", fn := fun _ => fun
  | [d1, d2] => { results := [.lit (.bool true)], args := [d1, d2] }
  | _ => none }
def fnOrdersRow : OpenClaim := { program := "ytjojnolcohjebaa", sum := "1d12da3946bb99d48a639f1d1c6f673395bec811fea2cbff000d5f3035366573", func := "loop.example/g01149/laws.FnOrders", spec := "fnOrders", unfollowed := true, recurses := true, plainKeys := false, apart := false }
def FnOrdersSaid : Prop := fnOrdersRow.holds Try.pinned (OpenSpec.ofChange fnOrdersSpec)

/-- ITS FALSE NEIGHBOUR: 'it returns false'. Refute it at one input. -/
def fnOrdersWrong : ChangeSpec := { name := "fnOrders", fn := fun _ => fun
  | [d1, d2] => { results := [.lit (.bool false)], args := [d1, d2] }
  | _ => none }
def FnOrdersWrongFalsely : Prop := fnOrdersRow.holds Try.pinned (OpenSpec.ofChange fnOrdersWrong)

/- THE SECOND FORM. 'bulk': how many values and letters a reading holds, each counted each time it is reached (what is shared counts as often as it is met; a slice's spare places count too). A statement '..UptoSaid' is the law's where the arguments, and the package variables that the reading takes, are together of bulk at most 1048576: NARROWER than '..Said'. Prove '..Said' where nothing that the law and all that it calls make is longer than what came in: it says more and counts as full. Else prove '..UptoSaid'. A law counts once. -/
mutual
def uptoBulk {H : Type} : DataW H → Nat
  | .lit (.string bytes) => bytes.length + 1
  | .lit _ => 1
  | .nil => 1
  | .ptr d => uptoBulk d + 1
  | .slice elems spare => uptoBulkAll elems + uptoBulkAll spare + 1
  | .agg parts => uptoBulkAll parts + 1
  | .iface _ d => uptoBulk d + 1
  | .map entries => uptoBulkEntries entries + 1
  | .held _ => 1
def uptoBulkAll {H : Type} : List (DataW H) → Nat
  | [] => 0
  | d :: r => uptoBulk d + uptoBulkAll r
def uptoBulkEntries {H : Type} : List (Lit × DataW H) → Nat
  | [] => 0
  | x :: r => uptoBulkEntry x + uptoBulkEntries r
def uptoBulkEntry {H : Type} : Lit × DataW H → Nat
  | (.string bytes, d) => bytes.length + uptoBulk d + 1
  | (_, d) => uptoBulk d + 1
 end
def uptoSmall : (H : Type) → List (DataW H) → Bool := fun _ ds => decide (uptoBulkAll ds ≤ 1048576)
def OpenSpec.upto (s : _root_.Go.ChangeSpec) : _root_.Go.OpenSpec := { _root_.Go.OpenSpec.ofChange s with cond := some uptoSmall }

/-- 'laws.FnExactTreeBound', WHERE WHAT IT READS IS OF BULK AT MOST 1048576: true; the input reads as it did. -/
def fnExactTreeBoundUptoRow : OpenClaim := { program := "ytjojnolcohjebaa", sum := "1d12da3946bb99d48a639f1d1c6f673395bec811fea2cbff000d5f3035366573", func := "loop.example/g01149/laws.FnExactTreeBound", spec := "fnExactTreeBound", plainKeys := false, apart := false, narrowed := true }
def FnExactTreeBoundUptoSaid : Prop := fnExactTreeBoundUptoRow.holds Try.pinned (OpenSpec.upto fnExactTreeBoundSpec)

/-- 'laws.FnExactCountOrdersOf', WHERE WHAT IT READS IS OF BULK AT MOST 1048576: true; the input reads as it did. -/
def fnExactCountOrdersOfUptoRow : OpenClaim := { program := "ytjojnolcohjebaa", sum := "1d12da3946bb99d48a639f1d1c6f673395bec811fea2cbff000d5f3035366573", func := "loop.example/g01149/laws.FnExactCountOrdersOf", spec := "fnExactCountOrdersOf", unfollowed := true, recurses := true, plainKeys := false, apart := false, narrowed := true }
def FnExactCountOrdersOfUptoSaid : Prop := fnExactCountOrdersOfUptoRow.holds Try.pinned (OpenSpec.upto fnExactCountOrdersOfSpec)

/-- 'laws.FnExactQuietOrder', WHERE WHAT IT READS IS OF BULK AT MOST 1048576: true; the input reads as it did. -/
def fnExactQuietOrderUptoRow : OpenClaim := { program := "ytjojnolcohjebaa", sum := "1d12da3946bb99d48a639f1d1c6f673395bec811fea2cbff000d5f3035366573", func := "loop.example/g01149/laws.FnExactQuietOrder", spec := "fnExactQuietOrder", unfollowed := true, recurses := true, plainKeys := false, apart := false, narrowed := true }
def FnExactQuietOrderUptoSaid : Prop := fnExactQuietOrderUptoRow.holds Try.pinned (OpenSpec.upto fnExactQuietOrderSpec)

/-- 'laws.FnExactBestShields', WHERE WHAT IT READS IS OF BULK AT MOST 1048576: true; the input reads as it did. -/
def fnExactBestShieldsUptoRow : OpenClaim := { program := "ytjojnolcohjebaa", sum := "1d12da3946bb99d48a639f1d1c6f673395bec811fea2cbff000d5f3035366573", func := "loop.example/g01149/laws.FnExactBestShields", spec := "fnExactBestShields", plainKeys := false, apart := false, narrowed := true }
def FnExactBestShieldsUptoSaid : Prop := fnExactBestShieldsUptoRow.holds Try.pinned (OpenSpec.upto fnExactBestShieldsSpec)

/-- 'laws.FnExactBestBetween', WHERE WHAT IT READS IS OF BULK AT MOST 1048576: true; the input reads as it did. -/
def fnExactBestBetweenUptoRow : OpenClaim := { program := "ytjojnolcohjebaa", sum := "1d12da3946bb99d48a639f1d1c6f673395bec811fea2cbff000d5f3035366573", func := "loop.example/g01149/laws.FnExactBestBetween", spec := "fnExactBestBetween", unfollowed := true, recurses := true, plainKeys := false, apart := false, narrowed := true }
def FnExactBestBetweenUptoSaid : Prop := fnExactBestBetweenUptoRow.holds Try.pinned (OpenSpec.upto fnExactBestBetweenSpec)

/-- 'laws.FnExactBestOrder', WHERE WHAT IT READS IS OF BULK AT MOST 1048576: true; the input reads as it did. -/
def fnExactBestOrderUptoRow : OpenClaim := { program := "ytjojnolcohjebaa", sum := "1d12da3946bb99d48a639f1d1c6f673395bec811fea2cbff000d5f3035366573", func := "loop.example/g01149/laws.FnExactBestOrder", spec := "fnExactBestOrder", unfollowed := true, recurses := true, plainKeys := false, apart := false, narrowed := true }
def FnExactBestOrderUptoSaid : Prop := fnExactBestOrderUptoRow.holds Try.pinned (OpenSpec.upto fnExactBestOrderSpec)

/-- 'laws.FnQuiet', WHERE WHAT IT READS IS OF BULK AT MOST 1048576: true; the input reads as it did. -/
def fnQuietUptoRow : OpenClaim := { program := "ytjojnolcohjebaa", sum := "1d12da3946bb99d48a639f1d1c6f673395bec811fea2cbff000d5f3035366573", func := "loop.example/g01149/laws.FnQuiet", spec := "fnQuiet", unfollowed := true, recurses := true, plainKeys := false, apart := false, narrowed := true }
def FnQuietUptoSaid : Prop := fnQuietUptoRow.holds Try.pinned (OpenSpec.upto fnQuietSpec)

/-- 'laws.FnBetween', WHERE WHAT IT READS IS OF BULK AT MOST 1048576: true; the input reads as it did. -/
def fnBetweenUptoRow : OpenClaim := { program := "ytjojnolcohjebaa", sum := "1d12da3946bb99d48a639f1d1c6f673395bec811fea2cbff000d5f3035366573", func := "loop.example/g01149/laws.FnBetween", spec := "fnBetween", unfollowed := true, recurses := true, plainKeys := false, apart := false, narrowed := true }
def FnBetweenUptoSaid : Prop := fnBetweenUptoRow.holds Try.pinned (OpenSpec.upto fnBetweenSpec)

/-- 'laws.FnCountedOrders', WHERE WHAT IT READS IS OF BULK AT MOST 1048576: true; the input reads as it did. -/
def fnCountedOrdersUptoRow : OpenClaim := { program := "ytjojnolcohjebaa", sum := "1d12da3946bb99d48a639f1d1c6f673395bec811fea2cbff000d5f3035366573", func := "loop.example/g01149/laws.FnCountedOrders", spec := "fnCountedOrders", unfollowed := true, recurses := true, plainKeys := false, apart := false, narrowed := true }
def FnCountedOrdersUptoSaid : Prop := fnCountedOrdersUptoRow.holds Try.pinned (OpenSpec.upto fnCountedOrdersSpec)

/-- 'laws.FnOrders', WHERE WHAT IT READS IS OF BULK AT MOST 1048576: true; the input reads as it did. -/
def fnOrdersUptoRow : OpenClaim := { program := "ytjojnolcohjebaa", sum := "1d12da3946bb99d48a639f1d1c6f673395bec811fea2cbff000d5f3035366573", func := "loop.example/g01149/laws.FnOrders", spec := "fnOrders", unfollowed := true, recurses := true, plainKeys := false, apart := false, narrowed := true }
def FnOrdersUptoSaid : Prop := fnOrdersUptoRow.holds Try.pinned (OpenSpec.upto fnOrdersSpec)

end Rows
end Go.Proofs.Ytjojnolcohjebaa
