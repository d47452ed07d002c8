/-
  No cell of these rows narrows 'for every input' (looked for: loops, veiled, ifaces, maps, wideKeys, modest, calm, conditions, laid).
  DERIVED. THE GIVEN ROWS OF THIS SEAT. 12 by the template 'for every input the law returns true; each argument reads behind the call as it read before'; 0 by the template 'total and deterministic' (their statements: YtkhhbkchaellaaaTotals.lean).
  GIVEN WITH THE SEED: the statements are not yours to turn. If you find one false, say at which input.
  Laid BY PROGRAM, IN A SANDBOX (cutbox-rows.mjs): the forced cells as the released guide's own fill.sh prints them over the translation 282f4ce202d3ad95… (all of the seat's roots in one cut). By AI agents, Wed Nov 11 2026. No macro, syntax, notation, axiom, sorry.
-/
import Derived.Test.YtkhhbkchaellaaaChecked
import GoSem.Claim
import GoSem.ClaimJoined
import GoSem.ClaimMapViews
import Derived.JoinedTies
import Derived.KernelRfl
namespace Go.Proofs.Ytkhhbkchaellaaa
/- THE CELL 'sum', in the pinned program and in every row, IS THE sha256 OF THE DUMP (.gsa) THAT YtkhhbkchaellaaaProg.lean LOADS. Nothing in Lean hashes anything: it is a label: what it is worth is what the hold of that sum in a sandbox is worth. -/
noncomputable def Try.pinned : Pinned := { name := "ytkhhbkchaellaaa", sum := "282f4ce202d3ad95ac7aaac762669b575afa7eeb1e3b65945e2d0e8fffb049ac", checked := Try.checked }
namespace Rows
def none {H : Type} : Left H := { results := [], args := [] }

/-- 'laws.FnExactEmptyImage': WHATEVER THE INPUT: true; the input reads as it did. -/
def fnExactEmptyImageSpec : ChangeSpec := { name := "fnExactEmptyImage", fn := fun _ => fun
  | [d1, d2] => { results := [.lit (.bool true)], args := [d1, d2] }
  | _ => none }
def fnExactEmptyImageRow : OpenClaim := { program := "ytkhhbkchaellaaa", sum := "282f4ce202d3ad95ac7aaac762669b575afa7eeb1e3b65945e2d0e8fffb049ac", func := "loop.example/g00860/laws.FnExactEmptyImage", spec := "fnExactEmptyImage", apart := false }
def FnExactEmptyImageSaid : Prop := fnExactEmptyImageRow.holds Try.pinned (OpenSpec.ofChange fnExactEmptyImageSpec)

/-- ITS FALSE NEIGHBOUR: 'it returns false'. Refute it at one input. -/
def fnExactEmptyImageWrong : ChangeSpec := { name := "fnExactEmptyImage", fn := fun _ => fun
  | [d1, d2] => { results := [.lit (.bool false)], args := [d1, d2] }
  | _ => none }
def FnExactEmptyImageWrongFalsely : Prop := fnExactEmptyImageRow.holds Try.pinned (OpenSpec.ofChange fnExactEmptyImageWrong)

/-- 'laws.FnExactImageOk': WHATEVER THE INPUT: true; the input reads as it did. -/
def fnExactImageOkSpec : ChangeSpec := { name := "fnExactImageOk", fn := fun _ => fun
  | [d] => { results := [.lit (.bool true)], args := [d] }
  | _ => none }
def fnExactImageOkRow : OpenClaim := { program := "ytkhhbkchaellaaa", sum := "282f4ce202d3ad95ac7aaac762669b575afa7eeb1e3b65945e2d0e8fffb049ac", func := "loop.example/g00860/laws.FnExactImageOk", spec := "fnExactImageOk", apart := false }
def FnExactImageOkSaid : Prop := fnExactImageOkRow.holds Try.pinned (OpenSpec.ofChange fnExactImageOkSpec)

/-- ITS FALSE NEIGHBOUR: 'it returns false'. Refute it at one input. -/
def fnExactImageOkWrong : ChangeSpec := { name := "fnExactImageOk", fn := fun _ => fun
  | [d] => { results := [.lit (.bool false)], args := [d] }
  | _ => none }
def FnExactImageOkWrongFalsely : Prop := fnExactImageOkRow.holds Try.pinned (OpenSpec.ofChange fnExactImageOkWrong)

/-- 'laws.FnExactSameImage': WHATEVER THE INPUT: true; the input reads as it did. -/
def fnExactSameImageSpec : ChangeSpec := { name := "fnExactSameImage", fn := fun _ => fun
  | [d1, d2] => { results := [.lit (.bool true)], args := [d1, d2] }
  | _ => none }
def fnExactSameImageRow : OpenClaim := { program := "ytkhhbkchaellaaa", sum := "282f4ce202d3ad95ac7aaac762669b575afa7eeb1e3b65945e2d0e8fffb049ac", func := "loop.example/g00860/laws.FnExactSameImage", spec := "fnExactSameImage", unfollowed := true, recurses := true, apart := false }
def FnExactSameImageSaid : Prop := fnExactSameImageRow.holds Try.pinned (OpenSpec.ofChange fnExactSameImageSpec)

/-- ITS FALSE NEIGHBOUR: 'it returns false'. Refute it at one input. -/
def fnExactSameImageWrong : ChangeSpec := { name := "fnExactSameImage", fn := fun _ => fun
  | [d1, d2] => { results := [.lit (.bool false)], args := [d1, d2] }
  | _ => none }
def FnExactSameImageWrongFalsely : Prop := fnExactSameImageRow.holds Try.pinned (OpenSpec.ofChange fnExactSameImageWrong)

/-- 'laws.FnExactCellAt': WHATEVER THE INPUT: true; the input reads as it did. -/
def fnExactCellAtSpec : ChangeSpec := { name := "fnExactCellAt", fn := fun _ => fun
  | [d1, d2, d3] => { results := [.lit (.bool true)], args := [d1, d2, d3] }
  | _ => none }
def fnExactCellAtRow : OpenClaim := { program := "ytkhhbkchaellaaa", sum := "282f4ce202d3ad95ac7aaac762669b575afa7eeb1e3b65945e2d0e8fffb049ac", func := "loop.example/g00860/laws.FnExactCellAt", spec := "fnExactCellAt", apart := false }
def FnExactCellAtSaid : Prop := fnExactCellAtRow.holds Try.pinned (OpenSpec.ofChange fnExactCellAtSpec)

/-- ITS FALSE NEIGHBOUR: 'it returns false'. Refute it at one input. -/
def fnExactCellAtWrong : ChangeSpec := { name := "fnExactCellAt", fn := fun _ => fun
  | [d1, d2, d3] => { results := [.lit (.bool false)], args := [d1, d2, d3] }
  | _ => none }
def FnExactCellAtWrongFalsely : Prop := fnExactCellAtRow.holds Try.pinned (OpenSpec.ofChange fnExactCellAtWrong)

/-- 'laws.FnExactIsStaircase': WHATEVER THE INPUT: true; the input reads as it did. -/
def fnExactIsStaircaseSpec : ChangeSpec := { name := "fnExactIsStaircase", fn := fun _ => fun
  | [d] => { results := [.lit (.bool true)], args := [d] }
  | _ => none }
def fnExactIsStaircaseRow : OpenClaim := { program := "ytkhhbkchaellaaa", sum := "282f4ce202d3ad95ac7aaac762669b575afa7eeb1e3b65945e2d0e8fffb049ac", func := "loop.example/g00860/laws.FnExactIsStaircase", spec := "fnExactIsStaircase", apart := false }
def FnExactIsStaircaseSaid : Prop := fnExactIsStaircaseRow.holds Try.pinned (OpenSpec.ofChange fnExactIsStaircaseSpec)

/-- ITS FALSE NEIGHBOUR: 'it returns false'. Refute it at one input. -/
def fnExactIsStaircaseWrong : ChangeSpec := { name := "fnExactIsStaircase", fn := fun _ => fun
  | [d] => { results := [.lit (.bool false)], args := [d] }
  | _ => none }
def FnExactIsStaircaseWrongFalsely : Prop := fnExactIsStaircaseRow.holds Try.pinned (OpenSpec.ofChange fnExactIsStaircaseWrong)

/-- 'laws.FnExactSwitchOk': WHATEVER THE INPUT: true; the input reads as it did. -/
def fnExactSwitchOkSpec : ChangeSpec := { name := "fnExactSwitchOk", fn := fun _ => fun
  | [d1, d2] => { results := [.lit (.bool true)], args := [d1, d2] }
  | _ => none }
def fnExactSwitchOkRow : OpenClaim := { program := "ytkhhbkchaellaaa", sum := "282f4ce202d3ad95ac7aaac762669b575afa7eeb1e3b65945e2d0e8fffb049ac", func := "loop.example/g00860/laws.FnExactSwitchOk", spec := "fnExactSwitchOk", apart := false }
def FnExactSwitchOkSaid : Prop := fnExactSwitchOkRow.holds Try.pinned (OpenSpec.ofChange fnExactSwitchOkSpec)

/-- ITS FALSE NEIGHBOUR: 'it returns false'. Refute it at one input. -/
def fnExactSwitchOkWrong : ChangeSpec := { name := "fnExactSwitchOk", fn := fun _ => fun
  | [d1, d2] => { results := [.lit (.bool false)], args := [d1, d2] }
  | _ => none }
def FnExactSwitchOkWrongFalsely : Prop := fnExactSwitchOkRow.holds Try.pinned (OpenSpec.ofChange fnExactSwitchOkWrong)

/-- 'laws.FnExactCountBlack': WHATEVER THE INPUT: true; the input reads as it did. -/
def fnExactCountBlackSpec : ChangeSpec := { name := "fnExactCountBlack", fn := fun _ => fun
  | [d] => { results := [.lit (.bool true)], args := [d] }
  | _ => none }
def fnExactCountBlackRow : OpenClaim := { program := "ytkhhbkchaellaaa", sum := "282f4ce202d3ad95ac7aaac762669b575afa7eeb1e3b65945e2d0e8fffb049ac", func := "loop.example/g00860/laws.FnExactCountBlack", spec := "fnExactCountBlack", apart := false }
def FnExactCountBlackSaid : Prop := fnExactCountBlackRow.holds Try.pinned (OpenSpec.ofChange fnExactCountBlackSpec)

/-- ITS FALSE NEIGHBOUR: 'it returns false'. Refute it at one input. -/
def fnExactCountBlackWrong : ChangeSpec := { name := "fnExactCountBlack", fn := fun _ => fun
  | [d] => { results := [.lit (.bool false)], args := [d] }
  | _ => none }
def FnExactCountBlackWrongFalsely : Prop := fnExactCountBlackRow.holds Try.pinned (OpenSpec.ofChange fnExactCountBlackWrong)

/-- 'laws.FnExactDistanceOf': WHATEVER THE INPUT: true; the input reads as it did. -/
def fnExactDistanceOfSpec : ChangeSpec := { name := "fnExactDistanceOf", fn := fun _ => fun
  | [d1, d2] => { results := [.lit (.bool true)], args := [d1, d2] }
  | _ => none }
def fnExactDistanceOfRow : OpenClaim := { program := "ytkhhbkchaellaaa", sum := "282f4ce202d3ad95ac7aaac762669b575afa7eeb1e3b65945e2d0e8fffb049ac", func := "loop.example/g00860/laws.FnExactDistanceOf", spec := "fnExactDistanceOf", apart := false }
def FnExactDistanceOfSaid : Prop := fnExactDistanceOfRow.holds Try.pinned (OpenSpec.ofChange fnExactDistanceOfSpec)

/-- ITS FALSE NEIGHBOUR: 'it returns false'. Refute it at one input. -/
def fnExactDistanceOfWrong : ChangeSpec := { name := "fnExactDistanceOf", fn := fun _ => fun
  | [d1, d2] => { results := [.lit (.bool false)], args := [d1, d2] }
  | _ => none }
def FnExactDistanceOfWrongFalsely : Prop := fnExactDistanceOfRow.holds Try.pinned (OpenSpec.ofChange fnExactDistanceOfWrong)

/-- 'laws.FnExactStaircaseOf': WHATEVER THE INPUT: true; the input reads as it did. -/
def fnExactStaircaseOfSpec : ChangeSpec := { name := "fnExactStaircaseOf", fn := fun _ => fun
  | [d1, d2] => { results := [.lit (.bool true)], args := [d1, d2] }
  | _ => none }
def fnExactStaircaseOfRow : OpenClaim := { program := "ytkhhbkchaellaaa", sum := "282f4ce202d3ad95ac7aaac762669b575afa7eeb1e3b65945e2d0e8fffb049ac", func := "loop.example/g00860/laws.FnExactStaircaseOf", spec := "fnExactStaircaseOf", apart := false }
def FnExactStaircaseOfSaid : Prop := fnExactStaircaseOfRow.holds Try.pinned (OpenSpec.ofChange fnExactStaircaseOfSpec)

/-- ITS FALSE NEIGHBOUR: 'it returns false'. Refute it at one input. -/
def fnExactStaircaseOfWrong : ChangeSpec := { name := "fnExactStaircaseOf", fn := fun _ => fun
  | [d1, d2] => { results := [.lit (.bool false)], args := [d1, d2] }
  | _ => none }
def FnExactStaircaseOfWrongFalsely : Prop := fnExactStaircaseOfRow.holds Try.pinned (OpenSpec.ofChange fnExactStaircaseOfWrong)

/-- 'laws.FnExactRowSums': WHATEVER THE INPUT: true; the input reads as it did. -/
def fnExactRowSumsSpec : ChangeSpec := { name := "fnExactRowSums", fn := fun _ => fun
  | [d] => { results := [.lit (.bool true)], args := [d] }
  | _ => none }
def fnExactRowSumsRow : OpenClaim := { program := "ytkhhbkchaellaaa", sum := "282f4ce202d3ad95ac7aaac762669b575afa7eeb1e3b65945e2d0e8fffb049ac", func := "loop.example/g00860/laws.FnExactRowSums", spec := "fnExactRowSums", apart := false }
def FnExactRowSumsSaid : Prop := fnExactRowSumsRow.holds Try.pinned (OpenSpec.ofChange fnExactRowSumsSpec)

/-- ITS FALSE NEIGHBOUR: 'it returns false'. Refute it at one input. -/
def fnExactRowSumsWrong : ChangeSpec := { name := "fnExactRowSums", fn := fun _ => fun
  | [d] => { results := [.lit (.bool false)], args := [d] }
  | _ => none }
def FnExactRowSumsWrongFalsely : Prop := fnExactRowSumsRow.holds Try.pinned (OpenSpec.ofChange fnExactRowSumsWrong)

/-- 'laws.FnExactIsUnique': WHATEVER THE INPUT: true; the input reads as it did. -/
def fnExactIsUniqueSpec : ChangeSpec := { name := "fnExactIsUnique", fn := fun _ => fun
  | [d] => { results := [.lit (.bool true)], args := [d] }
  | _ => none }
def fnExactIsUniqueRow : OpenClaim := { program := "ytkhhbkchaellaaa", sum := "282f4ce202d3ad95ac7aaac762669b575afa7eeb1e3b65945e2d0e8fffb049ac", func := "loop.example/g00860/laws.FnExactIsUnique", spec := "fnExactIsUnique", apart := false }
def FnExactIsUniqueSaid : Prop := fnExactIsUniqueRow.holds Try.pinned (OpenSpec.ofChange fnExactIsUniqueSpec)

/-- ITS FALSE NEIGHBOUR: 'it returns false'. Refute it at one input. -/
def fnExactIsUniqueWrong : ChangeSpec := { name := "fnExactIsUnique", fn := fun _ => fun
  | [d] => { results := [.lit (.bool false)], args := [d] }
  | _ => none }
def FnExactIsUniqueWrongFalsely : Prop := fnExactIsUniqueRow.holds Try.pinned (OpenSpec.ofChange fnExactIsUniqueWrong)

/-- 'laws.FnExactPutCell': WHATEVER THE INPUT: true; the input reads as it did. -/
def fnExactPutCellSpec : ChangeSpec := { name := "fnExactPutCell", fn := fun _ => fun
  | [d1, d2, d3, d4] => { results := [.lit (.bool true)], args := [d1, d2, d3, d4] }
  | _ => none }
def fnExactPutCellRow : OpenClaim := { program := "ytkhhbkchaellaaa", sum := "282f4ce202d3ad95ac7aaac762669b575afa7eeb1e3b65945e2d0e8fffb049ac", func := "loop.example/g00860/laws.FnExactPutCell", spec := "fnExactPutCell", apart := false }
def FnExactPutCellSaid : Prop := fnExactPutCellRow.holds Try.pinned (OpenSpec.ofChange fnExactPutCellSpec)

/-- ITS FALSE NEIGHBOUR: 'it returns false'. Refute it at one input. -/
def fnExactPutCellWrong : ChangeSpec := { name := "fnExactPutCell", fn := fun _ => fun
  | [d1, d2, d3, d4] => { results := [.lit (.bool false)], args := [d1, d2, d3, d4] }
  | _ => none }
def FnExactPutCellWrongFalsely : Prop := fnExactPutCellRow.holds Try.pinned (OpenSpec.ofChange fnExactPutCellWrong)

/- THE SECOND FORM. 'bulk': how many values and letters a reading holds, each counted each time it is reached (what is shared counts as often as it is met; a slice's spare places count too). A statement '..UptoSaid' is the law's where the arguments, and the package variables that the reading takes, are together of bulk at most 1048576: NARROWER than '..Said'. Prove '..Said' where nothing that the law and all that it calls make is longer than what came in: it says more and counts as full. Else prove '..UptoSaid'. A law counts once. -/
mutual
def uptoBulk {H : Type} : DataW H → Nat
  | .lit (.string bytes) => bytes.length + 1
  | .lit _ => 1
  | .nil => 1
  | .ptr d => uptoBulk d + 1
  | .slice elems spare => uptoBulkAll elems + uptoBulkAll spare + 1
  | .agg parts => uptoBulkAll parts + 1
  | .iface _ d => uptoBulk d + 1
  | .map entries => uptoBulkEntries entries + 1
  | .held _ => 1
def uptoBulkAll {H : Type} : List (DataW H) → Nat
  | [] => 0
  | d :: r => uptoBulk d + uptoBulkAll r
def uptoBulkEntries {H : Type} : List (Lit × DataW H) → Nat
  | [] => 0
  | x :: r => uptoBulkEntry x + uptoBulkEntries r
def uptoBulkEntry {H : Type} : Lit × DataW H → Nat
  | (.string bytes, d) => bytes.length + uptoBulk d + 1
  | (_, d) => uptoBulk d + 1
 end
def uptoSmall : (H : Type) → List (DataW H) → Bool := fun _ ds => decide (uptoBulkAll ds ≤ 1048576)
def OpenSpec.upto (s : _root_.Go.ChangeSpec) : _root_.Go.OpenSpec := { _root_.Go.OpenSpec.ofChange s with cond := some uptoSmall }

/-- 'laws.FnExactEmptyImage', WHERE WHAT IT READS IS OF BULK AT MOST 1048576: true; the input reads as it did. -/
def fnExactEmptyImageUptoRow : OpenClaim := { program := "ytkhhbkchaellaaa", sum := "282f4ce202d3ad95ac7aaac762669b575afa7eeb1e3b65945e2d0e8fffb049ac", func := "loop.example/g00860/laws.FnExactEmptyImage", spec := "fnExactEmptyImage", apart := false, narrowed := true }
def FnExactEmptyImageUptoSaid : Prop := fnExactEmptyImageUptoRow.holds Try.pinned (OpenSpec.upto fnExactEmptyImageSpec)

/-- 'laws.FnExactImageOk', WHERE WHAT IT READS IS OF BULK AT MOST 1048576: true; the input reads as it did. -/
def fnExactImageOkUptoRow : OpenClaim := { program := "ytkhhbkchaellaaa", sum := "282f4ce202d3ad95ac7aaac762669b575afa7eeb1e3b65945e2d0e8fffb049ac", func := "loop.example/g00860/laws.FnExactImageOk", spec := "fnExactImageOk", apart := false, narrowed := true }
def FnExactImageOkUptoSaid : Prop := fnExactImageOkUptoRow.holds Try.pinned (OpenSpec.upto fnExactImageOkSpec)

/-- 'laws.FnExactSameImage', WHERE WHAT IT READS IS OF BULK AT MOST 1048576: true; the input reads as it did. -/
def fnExactSameImageUptoRow : OpenClaim := { program := "ytkhhbkchaellaaa", sum := "282f4ce202d3ad95ac7aaac762669b575afa7eeb1e3b65945e2d0e8fffb049ac", func := "loop.example/g00860/laws.FnExactSameImage", spec := "fnExactSameImage", unfollowed := true, recurses := true, apart := false, narrowed := true }
def FnExactSameImageUptoSaid : Prop := fnExactSameImageUptoRow.holds Try.pinned (OpenSpec.upto fnExactSameImageSpec)

/-- 'laws.FnExactCellAt', WHERE WHAT IT READS IS OF BULK AT MOST 1048576: true; the input reads as it did. -/
def fnExactCellAtUptoRow : OpenClaim := { program := "ytkhhbkchaellaaa", sum := "282f4ce202d3ad95ac7aaac762669b575afa7eeb1e3b65945e2d0e8fffb049ac", func := "loop.example/g00860/laws.FnExactCellAt", spec := "fnExactCellAt", apart := false, narrowed := true }
def FnExactCellAtUptoSaid : Prop := fnExactCellAtUptoRow.holds Try.pinned (OpenSpec.upto fnExactCellAtSpec)

/-- 'laws.FnExactIsStaircase', WHERE WHAT IT READS IS OF BULK AT MOST 1048576: true; the input reads as it did. -/
def fnExactIsStaircaseUptoRow : OpenClaim := { program := "ytkhhbkchaellaaa", sum := "282f4ce202d3ad95ac7aaac762669b575afa7eeb1e3b65945e2d0e8fffb049ac", func := "loop.example/g00860/laws.FnExactIsStaircase", spec := "fnExactIsStaircase", apart := false, narrowed := true }
def FnExactIsStaircaseUptoSaid : Prop := fnExactIsStaircaseUptoRow.holds Try.pinned (OpenSpec.upto fnExactIsStaircaseSpec)

/-- 'laws.FnExactSwitchOk', WHERE WHAT IT READS IS OF BULK AT MOST 1048576: true; the input reads as it did. -/
def fnExactSwitchOkUptoRow : OpenClaim := { program := "ytkhhbkchaellaaa", sum := "282f4ce202d3ad95ac7aaac762669b575afa7eeb1e3b65945e2d0e8fffb049ac", func := "loop.example/g00860/laws.FnExactSwitchOk", spec := "fnExactSwitchOk", apart := false, narrowed := true }
def FnExactSwitchOkUptoSaid : Prop := fnExactSwitchOkUptoRow.holds Try.pinned (OpenSpec.upto fnExactSwitchOkSpec)

/-- 'laws.FnExactCountBlack', WHERE WHAT IT READS IS OF BULK AT MOST 1048576: true; the input reads as it did. -/
def fnExactCountBlackUptoRow : OpenClaim := { program := "ytkhhbkchaellaaa", sum := "282f4ce202d3ad95ac7aaac762669b575afa7eeb1e3b65945e2d0e8fffb049ac", func := "loop.example/g00860/laws.FnExactCountBlack", spec := "fnExactCountBlack", apart := false, narrowed := true }
def FnExactCountBlackUptoSaid : Prop := fnExactCountBlackUptoRow.holds Try.pinned (OpenSpec.upto fnExactCountBlackSpec)

/-- 'laws.FnExactDistanceOf', WHERE WHAT IT READS IS OF BULK AT MOST 1048576: true; the input reads as it did. -/
def fnExactDistanceOfUptoRow : OpenClaim := { program := "ytkhhbkchaellaaa", sum := "282f4ce202d3ad95ac7aaac762669b575afa7eeb1e3b65945e2d0e8fffb049ac", func := "loop.example/g00860/laws.FnExactDistanceOf", spec := "fnExactDistanceOf", apart := false, narrowed := true }
def FnExactDistanceOfUptoSaid : Prop := fnExactDistanceOfUptoRow.holds Try.pinned (OpenSpec.upto fnExactDistanceOfSpec)

/-- 'laws.FnExactStaircaseOf', WHERE WHAT IT READS IS OF BULK AT MOST 1048576: true; the input reads as it did. -/
def fnExactStaircaseOfUptoRow : OpenClaim := { program := "ytkhhbkchaellaaa", sum := "282f4ce202d3ad95ac7aaac762669b575afa7eeb1e3b65945e2d0e8fffb049ac", func := "loop.example/g00860/laws.FnExactStaircaseOf", spec := "fnExactStaircaseOf", apart := false, narrowed := true }
def FnExactStaircaseOfUptoSaid : Prop := fnExactStaircaseOfUptoRow.holds Try.pinned (OpenSpec.upto fnExactStaircaseOfSpec)

/-- 'laws.FnExactRowSums', WHERE WHAT IT READS IS OF BULK AT MOST 1048576: true; the input reads as it did. -/
def fnExactRowSumsUptoRow : OpenClaim := { program := "ytkhhbkchaellaaa", sum := "282f4ce202d3ad95ac7aaac762669b575afa7eeb1e3b65945e2d0e8fffb049ac", func := "loop.example/g00860/laws.FnExactRowSums", spec := "fnExactRowSums", apart := false, narrowed := true }
def FnExactRowSumsUptoSaid : Prop := fnExactRowSumsUptoRow.holds Try.pinned (OpenSpec.upto fnExactRowSumsSpec)

/-- 'laws.FnExactIsUnique', WHERE WHAT IT READS IS OF BULK AT MOST 1048576: true; the input reads as it did. -/
def fnExactIsUniqueUptoRow : OpenClaim := { program := "ytkhhbkchaellaaa", sum := "282f4ce202d3ad95ac7aaac762669b575afa7eeb1e3b65945e2d0e8fffb049ac", func := "loop.example/g00860/laws.FnExactIsUnique", spec := "fnExactIsUnique", apart := false, narrowed := true }
def FnExactIsUniqueUptoSaid : Prop := fnExactIsUniqueUptoRow.holds Try.pinned (OpenSpec.upto fnExactIsUniqueSpec)

/-- 'laws.FnExactPutCell', WHERE WHAT IT READS IS OF BULK AT MOST 1048576: true; the input reads as it did. -/
def fnExactPutCellUptoRow : OpenClaim := { program := "ytkhhbkchaellaaa", sum := "282f4ce202d3ad95ac7aaac762669b575afa7eeb1e3b65945e2d0e8fffb049ac", func := "loop.example/g00860/laws.FnExactPutCell", spec := "fnExactPutCell", apart := false, narrowed := true }
def FnExactPutCellUptoSaid : Prop := fnExactPutCellUptoRow.holds Try.pinned (OpenSpec.upto fnExactPutCellSpec)

end Rows
end Go.Proofs.Ytkhhbkchaellaaa
