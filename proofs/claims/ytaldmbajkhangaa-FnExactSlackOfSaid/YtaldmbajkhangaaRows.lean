/-
  No cell of these rows narrows 'for every input' (looked for: loops, veiled, ifaces, maps, wideKeys, modest, calm, conditions, laid).
  DERIVED. THE GIVEN ROWS OF THIS SEAT. 9 by the template 'for every input the law returns true; each argument reads behind the call as it read before'; 0 by the template 'total and deterministic' (their statements: YtaldmbajkhangaaTotals.lean).
  GIVEN WITH THE SEED: the statements are not yours to turn. If you find one false, say at which input.
  Laid BY PROGRAM, IN A SANDBOX (cutbox-rows.mjs): the forced cells as the released guide's own fill.sh prints them over the translation 4550e2f9e10014aa… (all of the seat's roots in one cut). By AI agents, Wed Nov 11 2026. No macro, syntax, notation, axiom, sorry.
-/
import Derived.Test.YtaldmbajkhangaaChecked
import GoSem.Claim
import GoSem.ClaimJoined
import GoSem.ClaimMapViews
import Derived.JoinedTies
import Derived.KernelRfl
namespace Go.Proofs.Ytaldmbajkhangaa
/- THE CELL 'sum', in the pinned program and in every row, IS THE sha256 OF THE DUMP (.gsa) THAT YtaldmbajkhangaaProg.lean LOADS. Nothing in Lean hashes anything: it is a label: what it is worth is what the hold of that sum in a sandbox is worth. -/
noncomputable def Try.pinned : Pinned := { name := "ytaldmbajkhangaa", sum := "4550e2f9e10014aa91ad42a2e435ef075d36044ddd775d096a1dfc17e69e9f87", checked := Try.checked }
namespace Rows
def none {H : Type} : Left H := { results := [], args := [] }

/-- 'laws.FnExactSplitLines': WHATEVER THE INPUT: true; the input reads as it did. -/
def fnExactSplitLinesSpec : ChangeSpec := { name := "fnExactSplitLines", fn := fun _ => fun
  | [d] => { results := [.lit (.bool true)], args := [d] }
  | _ => none }
def fnExactSplitLinesRow : OpenClaim := { program := "ytaldmbajkhangaa", sum := "4550e2f9e10014aa91ad42a2e435ef075d36044ddd775d096a1dfc17e69e9f87", func := "loop.example/g00860/laws.FnExactSplitLines", spec := "fnExactSplitLines", inPlace := ["internal/bytealg.IndexByteString"], apart := false }
def FnExactSplitLinesSaid : Prop := fnExactSplitLinesRow.holds Try.pinned (OpenSpec.ofChange fnExactSplitLinesSpec)

/-- ITS FALSE NEIGHBOUR: 'it returns false'. Refute it at one input. -/
def fnExactSplitLinesWrong : ChangeSpec := { name := "fnExactSplitLines", fn := fun _ => fun
  | [d] => { results := [.lit (.bool false)], args := [d] }
  | _ => none }
def FnExactSplitLinesWrongFalsely : Prop := fnExactSplitLinesRow.holds Try.pinned (OpenSpec.ofChange fnExactSplitLinesWrong)

/-- 'laws.FnExactJoin': WHATEVER THE INPUT: true; the input reads as it did. -/
def fnExactJoinSpec : ChangeSpec := { name := "fnExactJoin", fn := fun _ => fun
  | [d1, d2] => { results := [.lit (.bool true)], args := [d1, d2] }
  | _ => none }
def fnExactJoinRow : OpenClaim := { program := "ytaldmbajkhangaa", sum := "4550e2f9e10014aa91ad42a2e435ef075d36044ddd775d096a1dfc17e69e9f87", func := "loop.example/g00860/laws.FnExactJoin", spec := "fnExactJoin", inPlace := ["internal/abi.NoEscape", "internal/bytealg.MakeNoZero"], apart := false }
def FnExactJoinSaid : Prop := fnExactJoinRow.holds Try.pinned (OpenSpec.ofChange fnExactJoinSpec)

/-- ITS FALSE NEIGHBOUR: 'it returns false'. Refute it at one input. -/
def fnExactJoinWrong : ChangeSpec := { name := "fnExactJoin", fn := fun _ => fun
  | [d1, d2] => { results := [.lit (.bool false)], args := [d1, d2] }
  | _ => none }
def FnExactJoinWrongFalsely : Prop := fnExactJoinRow.holds Try.pinned (OpenSpec.ofChange fnExactJoinWrong)

/-- 'laws.FnExactPadZeros': WHATEVER THE INPUT: true; the input reads as it did. -/
def fnExactPadZerosSpec : ChangeSpec := { name := "fnExactPadZeros", fn := fun _ => fun
  | [d1, d2] => { results := [.lit (.bool true)], args := [d1, d2] }
  | _ => none }
def fnExactPadZerosRow : OpenClaim := { program := "ytaldmbajkhangaa", sum := "4550e2f9e10014aa91ad42a2e435ef075d36044ddd775d096a1dfc17e69e9f87", func := "loop.example/g00860/laws.FnExactPadZeros", spec := "fnExactPadZeros", inPlace := ["internal/abi.NoEscape", "internal/bytealg.MakeNoZero"], apart := false }
def FnExactPadZerosSaid : Prop := fnExactPadZerosRow.holds Try.pinned (OpenSpec.ofChange fnExactPadZerosSpec)

/-- ITS FALSE NEIGHBOUR: 'it returns false'. Refute it at one input. -/
def fnExactPadZerosWrong : ChangeSpec := { name := "fnExactPadZeros", fn := fun _ => fun
  | [d1, d2] => { results := [.lit (.bool false)], args := [d1, d2] }
  | _ => none }
def FnExactPadZerosWrongFalsely : Prop := fnExactPadZerosRow.holds Try.pinned (OpenSpec.ofChange fnExactPadZerosWrong)

/-- 'laws.FnExactSortedDown': WHATEVER THE INPUT: true; the input reads as it did. -/
def fnExactSortedDownSpec : ChangeSpec := { name := "fnExactSortedDown", fn := fun _ => fun
  | [d] => { results := [.lit (.bool true)], args := [d] }
  | _ => none }
def fnExactSortedDownRow : OpenClaim := { program := "ytaldmbajkhangaa", sum := "4550e2f9e10014aa91ad42a2e435ef075d36044ddd775d096a1dfc17e69e9f87", func := "loop.example/g00860/laws.FnExactSortedDown", spec := "fnExactSortedDown", unfollowed := true, recurses := true, apart := false }
def FnExactSortedDownSaid : Prop := fnExactSortedDownRow.holds Try.pinned (OpenSpec.ofChange fnExactSortedDownSpec)

/-- ITS FALSE NEIGHBOUR: 'it returns false'. Refute it at one input. -/
def fnExactSortedDownWrong : ChangeSpec := { name := "fnExactSortedDown", fn := fun _ => fun
  | [d] => { results := [.lit (.bool false)], args := [d] }
  | _ => none }
def FnExactSortedDownWrongFalsely : Prop := fnExactSortedDownRow.holds Try.pinned (OpenSpec.ofChange fnExactSortedDownWrong)

/-- 'laws.FnExactNextTo': WHATEVER THE INPUT: true; the input reads as it did. -/
def fnExactNextToSpec : ChangeSpec := { name := "fnExactNextTo", fn := fun _ => fun
  | [d1, d2] => { results := [.lit (.bool true)], args := [d1, d2] }
  | _ => none }
def fnExactNextToRow : OpenClaim := { program := "ytaldmbajkhangaa", sum := "4550e2f9e10014aa91ad42a2e435ef075d36044ddd775d096a1dfc17e69e9f87", func := "loop.example/g00860/laws.FnExactNextTo", spec := "fnExactNextTo", apart := false }
def FnExactNextToSaid : Prop := fnExactNextToRow.holds Try.pinned (OpenSpec.ofChange fnExactNextToSpec)

/-- ITS FALSE NEIGHBOUR: 'it returns false'. Refute it at one input. -/
def fnExactNextToWrong : ChangeSpec := { name := "fnExactNextTo", fn := fun _ => fun
  | [d1, d2] => { results := [.lit (.bool false)], args := [d1, d2] }
  | _ => none }
def FnExactNextToWrongFalsely : Prop := fnExactNextToRow.holds Try.pinned (OpenSpec.ofChange fnExactNextToWrong)

/-- 'laws.FnExactPathTo': WHATEVER THE INPUT: true; the input reads as it did. -/
def fnExactPathToSpec : ChangeSpec := { name := "fnExactPathTo", fn := fun _ => fun
  | [d1, d2] => { results := [.lit (.bool true)], args := [d1, d2] }
  | _ => none }
def fnExactPathToRow : OpenClaim := { program := "ytaldmbajkhangaa", sum := "4550e2f9e10014aa91ad42a2e435ef075d36044ddd775d096a1dfc17e69e9f87", func := "loop.example/g00860/laws.FnExactPathTo", spec := "fnExactPathTo", apart := false }
def FnExactPathToSaid : Prop := fnExactPathToRow.holds Try.pinned (OpenSpec.ofChange fnExactPathToSpec)

/-- ITS FALSE NEIGHBOUR: 'it returns false'. Refute it at one input. -/
def fnExactPathToWrong : ChangeSpec := { name := "fnExactPathTo", fn := fun _ => fun
  | [d1, d2] => { results := [.lit (.bool false)], args := [d1, d2] }
  | _ => none }
def FnExactPathToWrongFalsely : Prop := fnExactPathToRow.holds Try.pinned (OpenSpec.ofChange fnExactPathToWrong)

/-- 'laws.FnExactWorstColumns': WHATEVER THE INPUT: true; the input reads as it did. -/
def fnExactWorstColumnsSpec : ChangeSpec := { name := "fnExactWorstColumns", fn := fun _ => fun
  | [d1, d2] => { results := [.lit (.bool true)], args := [d1, d2] }
  | _ => none }
def fnExactWorstColumnsRow : OpenClaim := { program := "ytaldmbajkhangaa", sum := "4550e2f9e10014aa91ad42a2e435ef075d36044ddd775d096a1dfc17e69e9f87", func := "loop.example/g00860/laws.FnExactWorstColumns", spec := "fnExactWorstColumns", unfollowed := true, recurses := true, apart := false }
def FnExactWorstColumnsSaid : Prop := fnExactWorstColumnsRow.holds Try.pinned (OpenSpec.ofChange fnExactWorstColumnsSpec)

/-- ITS FALSE NEIGHBOUR: 'it returns false'. Refute it at one input. -/
def fnExactWorstColumnsWrong : ChangeSpec := { name := "fnExactWorstColumns", fn := fun _ => fun
  | [d1, d2] => { results := [.lit (.bool false)], args := [d1, d2] }
  | _ => none }
def FnExactWorstColumnsWrongFalsely : Prop := fnExactWorstColumnsRow.holds Try.pinned (OpenSpec.ofChange fnExactWorstColumnsWrong)

/-- 'laws.FnExactExists': WHATEVER THE INPUT: true; the input reads as it did. -/
def fnExactExistsSpec : ChangeSpec := { name := "fnExactExists", fn := fun _ => fun
  | [d1, d2] => { results := [.lit (.bool true)], args := [d1, d2] }
  | _ => none }
def fnExactExistsRow : OpenClaim := { program := "ytaldmbajkhangaa", sum := "4550e2f9e10014aa91ad42a2e435ef075d36044ddd775d096a1dfc17e69e9f87", func := "loop.example/g00860/laws.FnExactExists", spec := "fnExactExists", unfollowed := true, recurses := true, apart := false }
def FnExactExistsSaid : Prop := fnExactExistsRow.holds Try.pinned (OpenSpec.ofChange fnExactExistsSpec)

/-- ITS FALSE NEIGHBOUR: 'it returns false'. Refute it at one input. -/
def fnExactExistsWrong : ChangeSpec := { name := "fnExactExists", fn := fun _ => fun
  | [d1, d2] => { results := [.lit (.bool false)], args := [d1, d2] }
  | _ => none }
def FnExactExistsWrongFalsely : Prop := fnExactExistsRow.holds Try.pinned (OpenSpec.ofChange fnExactExistsWrong)

/-- 'laws.FnExactSlackOf': WHATEVER THE INPUT: true; the input reads as it did. -/
def fnExactSlackOfSpec : ChangeSpec := { name := "fnExactSlackOf", fn := fun _ => fun
  | [d1, d2] => { results := [.lit (.bool true)], args := [d1, d2] }
  | _ => none }
def fnExactSlackOfRow : OpenClaim := { program := "ytaldmbajkhangaa", sum := "4550e2f9e10014aa91ad42a2e435ef075d36044ddd775d096a1dfc17e69e9f87", func := "loop.example/g00860/laws.FnExactSlackOf", spec := "fnExactSlackOf", unfollowed := true, recurses := true, apart := false }
def FnExactSlackOfSaid : Prop := fnExactSlackOfRow.holds Try.pinned (OpenSpec.ofChange fnExactSlackOfSpec)

/-- ITS FALSE NEIGHBOUR: 'it returns false'. Refute it at one input. -/
def fnExactSlackOfWrong : ChangeSpec := { name := "fnExactSlackOf", fn := fun _ => fun
  | [d1, d2] => { results := [.lit (.bool false)], args := [d1, d2] }
  | _ => none }
def FnExactSlackOfWrongFalsely : Prop := fnExactSlackOfRow.holds Try.pinned (OpenSpec.ofChange fnExactSlackOfWrong)

/- THE SECOND FORM. 'bulk': how many values and letters a reading holds, each counted each time it is reached (what is shared counts as often as it is met; a slice's spare places count too). A statement '..UptoSaid' is the law's where the arguments, and the package variables that the reading takes, are together of bulk at most 1048576: NARROWER than '..Said'. Prove '..Said' where nothing that the law and all that it calls make is longer than what came in: it says more and counts as full. Else prove '..UptoSaid'. A law counts once. -/
mutual
def uptoBulk {H : Type} : DataW H → Nat
  | .lit (.string bytes) => bytes.length + 1
  | .lit _ => 1
  | .nil => 1
  | .ptr d => uptoBulk d + 1
  | .slice elems spare => uptoBulkAll elems + uptoBulkAll spare + 1
  | .agg parts => uptoBulkAll parts + 1
  | .iface _ d => uptoBulk d + 1
  | .map entries => uptoBulkEntries entries + 1
  | .held _ => 1
def uptoBulkAll {H : Type} : List (DataW H) → Nat
  | [] => 0
  | d :: r => uptoBulk d + uptoBulkAll r
def uptoBulkEntries {H : Type} : List (Lit × DataW H) → Nat
  | [] => 0
  | x :: r => uptoBulkEntry x + uptoBulkEntries r
def uptoBulkEntry {H : Type} : Lit × DataW H → Nat
  | (.string bytes, d) => bytes.length + uptoBulk d + 1
  | (_, d) => uptoBulk d + 1
 end
def uptoSmall : (H : Type) → List (DataW H) → Bool := fun _ ds => decide (uptoBulkAll ds ≤ 1048576)
def OpenSpec.upto (s : _root_.Go.ChangeSpec) : _root_.Go.OpenSpec := { _root_.Go.OpenSpec.ofChange s with cond := some uptoSmall }

/-- 'laws.FnExactSplitLines', WHERE WHAT IT READS IS OF BULK AT MOST 1048576: true; the input reads as it did. -/
def fnExactSplitLinesUptoRow : OpenClaim := { program := "ytaldmbajkhangaa", sum := "4550e2f9e10014aa91ad42a2e435ef075d36044ddd775d096a1dfc17e69e9f87", func := "loop.example/g00860/laws.FnExactSplitLines", spec := "fnExactSplitLines", inPlace := ["internal/bytealg.IndexByteString"], apart := false, narrowed := true }
def FnExactSplitLinesUptoSaid : Prop := fnExactSplitLinesUptoRow.holds Try.pinned (OpenSpec.upto fnExactSplitLinesSpec)

/-- 'laws.FnExactJoin', WHERE WHAT IT READS IS OF BULK AT MOST 1048576: true; the input reads as it did. -/
def fnExactJoinUptoRow : OpenClaim := { program := "ytaldmbajkhangaa", sum := "4550e2f9e10014aa91ad42a2e435ef075d36044ddd775d096a1dfc17e69e9f87", func := "loop.example/g00860/laws.FnExactJoin", spec := "fnExactJoin", inPlace := ["internal/abi.NoEscape", "internal/bytealg.MakeNoZero"], apart := false, narrowed := true }
def FnExactJoinUptoSaid : Prop := fnExactJoinUptoRow.holds Try.pinned (OpenSpec.upto fnExactJoinSpec)

/-- 'laws.FnExactPadZeros', WHERE WHAT IT READS IS OF BULK AT MOST 1048576: true; the input reads as it did. -/
def fnExactPadZerosUptoRow : OpenClaim := { program := "ytaldmbajkhangaa", sum := "4550e2f9e10014aa91ad42a2e435ef075d36044ddd775d096a1dfc17e69e9f87", func := "loop.example/g00860/laws.FnExactPadZeros", spec := "fnExactPadZeros", inPlace := ["internal/abi.NoEscape", "internal/bytealg.MakeNoZero"], apart := false, narrowed := true }
def FnExactPadZerosUptoSaid : Prop := fnExactPadZerosUptoRow.holds Try.pinned (OpenSpec.upto fnExactPadZerosSpec)

/-- 'laws.FnExactSortedDown', WHERE WHAT IT READS IS OF BULK AT MOST 1048576: true; the input reads as it did. -/
def fnExactSortedDownUptoRow : OpenClaim := { program := "ytaldmbajkhangaa", sum := "4550e2f9e10014aa91ad42a2e435ef075d36044ddd775d096a1dfc17e69e9f87", func := "loop.example/g00860/laws.FnExactSortedDown", spec := "fnExactSortedDown", unfollowed := true, recurses := true, apart := false, narrowed := true }
def FnExactSortedDownUptoSaid : Prop := fnExactSortedDownUptoRow.holds Try.pinned (OpenSpec.upto fnExactSortedDownSpec)

/-- 'laws.FnExactNextTo', WHERE WHAT IT READS IS OF BULK AT MOST 1048576: true; the input reads as it did. -/
def fnExactNextToUptoRow : OpenClaim := { program := "ytaldmbajkhangaa", sum := "4550e2f9e10014aa91ad42a2e435ef075d36044ddd775d096a1dfc17e69e9f87", func := "loop.example/g00860/laws.FnExactNextTo", spec := "fnExactNextTo", apart := false, narrowed := true }
def FnExactNextToUptoSaid : Prop := fnExactNextToUptoRow.holds Try.pinned (OpenSpec.upto fnExactNextToSpec)

/-- 'laws.FnExactPathTo', WHERE WHAT IT READS IS OF BULK AT MOST 1048576: true; the input reads as it did. -/
def fnExactPathToUptoRow : OpenClaim := { program := "ytaldmbajkhangaa", sum := "4550e2f9e10014aa91ad42a2e435ef075d36044ddd775d096a1dfc17e69e9f87", func := "loop.example/g00860/laws.FnExactPathTo", spec := "fnExactPathTo", apart := false, narrowed := true }
def FnExactPathToUptoSaid : Prop := fnExactPathToUptoRow.holds Try.pinned (OpenSpec.upto fnExactPathToSpec)

/-- 'laws.FnExactWorstColumns', WHERE WHAT IT READS IS OF BULK AT MOST 1048576: true; the input reads as it did. -/
def fnExactWorstColumnsUptoRow : OpenClaim := { program := "ytaldmbajkhangaa", sum := "4550e2f9e10014aa91ad42a2e435ef075d36044ddd775d096a1dfc17e69e9f87", func := "loop.example/g00860/laws.FnExactWorstColumns", spec := "fnExactWorstColumns", unfollowed := true, recurses := true, apart := false, narrowed := true }
def FnExactWorstColumnsUptoSaid : Prop := fnExactWorstColumnsUptoRow.holds Try.pinned (OpenSpec.upto fnExactWorstColumnsSpec)

/-- 'laws.FnExactExists', WHERE WHAT IT READS IS OF BULK AT MOST 1048576: true; the input reads as it did. -/
def fnExactExistsUptoRow : OpenClaim := { program := "ytaldmbajkhangaa", sum := "4550e2f9e10014aa91ad42a2e435ef075d36044ddd775d096a1dfc17e69e9f87", func := "loop.example/g00860/laws.FnExactExists", spec := "fnExactExists", unfollowed := true, recurses := true, apart := false, narrowed := true }
def FnExactExistsUptoSaid : Prop := fnExactExistsUptoRow.holds Try.pinned (OpenSpec.upto fnExactExistsSpec)

/-- 'laws.FnExactSlackOf', WHERE WHAT IT READS IS OF BULK AT MOST 1048576: true; the input reads as it did. -/
def fnExactSlackOfUptoRow : OpenClaim := { program := "ytaldmbajkhangaa", sum := "4550e2f9e10014aa91ad42a2e435ef075d36044ddd775d096a1dfc17e69e9f87", func := "loop.example/g00860/laws.FnExactSlackOf", spec := "fnExactSlackOf", unfollowed := true, recurses := true, apart := false, narrowed := true }
def FnExactSlackOfUptoSaid : Prop := fnExactSlackOfUptoRow.holds Try.pinned (OpenSpec.upto fnExactSlackOfSpec)

end Rows
end Go.Proofs.Ytaldmbajkhangaa
