/-
  No cell of these rows narrows 'for every input' (looked for: loops, veiled, ifaces, maps, wideKeys, modest, calm, conditions, laid).
  DERIVED. THE GIVEN ROWS OF THIS SEAT. 12 by the template 'for every input the law returns true; each argument reads behind the call as it read before'; 0 by the template 'total and deterministic' (their statements: YtdgkiebgmhcmdaaTotals.lean).
  GIVEN WITH THE SEED: the statements are not yours to turn. If you find one false, say at which input.
  Laid BY PROGRAM, IN A SANDBOX (cutbox-rows.mjs): the forced cells as the released guide's own fill.sh prints them over the translation 5de59259af195dc9… (all of the seat's roots in one cut). By AI agents, Wed Nov 11 2026. No macro, syntax, notation, axiom, sorry.
-/
import Derived.Test.YtdgkiebgmhcmdaaChecked
import GoSem.Claim
import GoSem.ClaimJoined
import GoSem.ClaimMapViews
import Derived.JoinedTies
import Derived.KernelRfl
namespace Go.Proofs.Ytdgkiebgmhcmdaa
/- THE CELL 'sum', in the pinned program and in every row, IS THE sha256 OF THE DUMP (.gsa) THAT YtdgkiebgmhcmdaaProg.lean LOADS. Nothing in Lean hashes anything: it is a label: what it is worth is what the hold of that sum in a sandbox is worth. -/
noncomputable def Try.pinned : Pinned := { name := "ytdgkiebgmhcmdaa", sum := "5de59259af195dc9f9cb0f9b6fda5495c60e4ba31723a67d493a13c2dfbad849", checked := Try.checked }
namespace Rows
def none {H : Type} : Left H := { results := [], args := [] }

/-- 'laws.FnExactTransposeOf': WHATEVER THE INPUT: true; the input reads as it did. -/
def fnExactTransposeOfSpec : ChangeSpec := { name := "fnExactTransposeOf", fn := fun _ => fun
  | [d] => { results := [.lit (.bool true)], args := [d] }
  | _ => none }
def fnExactTransposeOfRow : OpenClaim := { program := "ytdgkiebgmhcmdaa", sum := "5de59259af195dc9f9cb0f9b6fda5495c60e4ba31723a67d493a13c2dfbad849", func := "loop.example/g00860/laws.FnExactTransposeOf", spec := "fnExactTransposeOf", apart := false }
def FnExactTransposeOfSaid : Prop := fnExactTransposeOfRow.holds Try.pinned (OpenSpec.ofChange fnExactTransposeOfSpec)

/-- ITS FALSE NEIGHBOUR: 'it returns false'. Refute it at one input. -/
def fnExactTransposeOfWrong : ChangeSpec := { name := "fnExactTransposeOf", fn := fun _ => fun
  | [d] => { results := [.lit (.bool false)], args := [d] }
  | _ => none }
def FnExactTransposeOfWrongFalsely : Prop := fnExactTransposeOfRow.holds Try.pinned (OpenSpec.ofChange fnExactTransposeOfWrong)

/-- 'laws.FnExactInvertOf': WHATEVER THE INPUT: true; the input reads as it did. -/
def fnExactInvertOfSpec : ChangeSpec := { name := "fnExactInvertOf", fn := fun _ => fun
  | [d] => { results := [.lit (.bool true)], args := [d] }
  | _ => none }
def fnExactInvertOfRow : OpenClaim := { program := "ytdgkiebgmhcmdaa", sum := "5de59259af195dc9f9cb0f9b6fda5495c60e4ba31723a67d493a13c2dfbad849", func := "loop.example/g00860/laws.FnExactInvertOf", spec := "fnExactInvertOf", apart := false }
def FnExactInvertOfSaid : Prop := fnExactInvertOfRow.holds Try.pinned (OpenSpec.ofChange fnExactInvertOfSpec)

/-- ITS FALSE NEIGHBOUR: 'it returns false'. Refute it at one input. -/
def fnExactInvertOfWrong : ChangeSpec := { name := "fnExactInvertOf", fn := fun _ => fun
  | [d] => { results := [.lit (.bool false)], args := [d] }
  | _ => none }
def FnExactInvertOfWrongFalsely : Prop := fnExactInvertOfRow.holds Try.pinned (OpenSpec.ofChange fnExactInvertOfWrong)

/-- 'laws.FnExactMirrorOf': WHATEVER THE INPUT: true; the input reads as it did. -/
def fnExactMirrorOfSpec : ChangeSpec := { name := "fnExactMirrorOf", fn := fun _ => fun
  | [d] => { results := [.lit (.bool true)], args := [d] }
  | _ => none }
def fnExactMirrorOfRow : OpenClaim := { program := "ytdgkiebgmhcmdaa", sum := "5de59259af195dc9f9cb0f9b6fda5495c60e4ba31723a67d493a13c2dfbad849", func := "loop.example/g00860/laws.FnExactMirrorOf", spec := "fnExactMirrorOf", apart := false }
def FnExactMirrorOfSaid : Prop := fnExactMirrorOfRow.holds Try.pinned (OpenSpec.ofChange fnExactMirrorOfSpec)

/-- ITS FALSE NEIGHBOUR: 'it returns false'. Refute it at one input. -/
def fnExactMirrorOfWrong : ChangeSpec := { name := "fnExactMirrorOf", fn := fun _ => fun
  | [d] => { results := [.lit (.bool false)], args := [d] }
  | _ => none }
def FnExactMirrorOfWrongFalsely : Prop := fnExactMirrorOfRow.holds Try.pinned (OpenSpec.ofChange fnExactMirrorOfWrong)

/-- 'laws.FnExactColSums': WHATEVER THE INPUT: true; the input reads as it did. -/
def fnExactColSumsSpec : ChangeSpec := { name := "fnExactColSums", fn := fun _ => fun
  | [d] => { results := [.lit (.bool true)], args := [d] }
  | _ => none }
def fnExactColSumsRow : OpenClaim := { program := "ytdgkiebgmhcmdaa", sum := "5de59259af195dc9f9cb0f9b6fda5495c60e4ba31723a67d493a13c2dfbad849", func := "loop.example/g00860/laws.FnExactColSums", spec := "fnExactColSums", apart := false }
def FnExactColSumsSaid : Prop := fnExactColSumsRow.holds Try.pinned (OpenSpec.ofChange fnExactColSumsSpec)

/-- ITS FALSE NEIGHBOUR: 'it returns false'. Refute it at one input. -/
def fnExactColSumsWrong : ChangeSpec := { name := "fnExactColSums", fn := fun _ => fun
  | [d] => { results := [.lit (.bool false)], args := [d] }
  | _ => none }
def FnExactColSumsWrongFalsely : Prop := fnExactColSumsRow.holds Try.pinned (OpenSpec.ofChange fnExactColSumsWrong)

/-- 'laws.FnExactApplySwitch': WHATEVER THE INPUT: true; the input reads as it did. -/
def fnExactApplySwitchSpec : ChangeSpec := { name := "fnExactApplySwitch", fn := fun _ => fun
  | [d1, d2] => { results := [.lit (.bool true)], args := [d1, d2] }
  | _ => none }
def fnExactApplySwitchRow : OpenClaim := { program := "ytdgkiebgmhcmdaa", sum := "5de59259af195dc9f9cb0f9b6fda5495c60e4ba31723a67d493a13c2dfbad849", func := "loop.example/g00860/laws.FnExactApplySwitch", spec := "fnExactApplySwitch", apart := false }
def FnExactApplySwitchSaid : Prop := fnExactApplySwitchRow.holds Try.pinned (OpenSpec.ofChange fnExactApplySwitchSpec)

/-- ITS FALSE NEIGHBOUR: 'it returns false'. Refute it at one input. -/
def fnExactApplySwitchWrong : ChangeSpec := { name := "fnExactApplySwitch", fn := fun _ => fun
  | [d1, d2] => { results := [.lit (.bool false)], args := [d1, d2] }
  | _ => none }
def FnExactApplySwitchWrongFalsely : Prop := fnExactApplySwitchRow.holds Try.pinned (OpenSpec.ofChange fnExactApplySwitchWrong)

/-- 'laws.FnExactLineSums': WHATEVER THE INPUT: true; the input reads as it did. -/
def fnExactLineSumsSpec : ChangeSpec := { name := "fnExactLineSums", fn := fun _ => fun
  | [d1, d2] => { results := [.lit (.bool true)], args := [d1, d2] }
  | _ => none }
def fnExactLineSumsRow : OpenClaim := { program := "ytdgkiebgmhcmdaa", sum := "5de59259af195dc9f9cb0f9b6fda5495c60e4ba31723a67d493a13c2dfbad849", func := "loop.example/g00860/laws.FnExactLineSums", spec := "fnExactLineSums", apart := false }
def FnExactLineSumsSaid : Prop := fnExactLineSumsRow.holds Try.pinned (OpenSpec.ofChange fnExactLineSumsSpec)

/-- ITS FALSE NEIGHBOUR: 'it returns false'. Refute it at one input. -/
def fnExactLineSumsWrong : ChangeSpec := { name := "fnExactLineSums", fn := fun _ => fun
  | [d1, d2] => { results := [.lit (.bool false)], args := [d1, d2] }
  | _ => none }
def FnExactLineSumsWrongFalsely : Prop := fnExactLineSumsRow.holds Try.pinned (OpenSpec.ofChange fnExactLineSumsWrong)

/-- 'laws.FnExactSameSums': WHATEVER THE INPUT: true; the input reads as it did. -/
def fnExactSameSumsSpec : ChangeSpec := { name := "fnExactSameSums", fn := fun _ => fun
  | [d1, d2] => { results := [.lit (.bool true)], args := [d1, d2] }
  | _ => none }
def fnExactSameSumsRow : OpenClaim := { program := "ytdgkiebgmhcmdaa", sum := "5de59259af195dc9f9cb0f9b6fda5495c60e4ba31723a67d493a13c2dfbad849", func := "loop.example/g00860/laws.FnExactSameSums", spec := "fnExactSameSums", apart := false }
def FnExactSameSumsSaid : Prop := fnExactSameSumsRow.holds Try.pinned (OpenSpec.ofChange fnExactSameSumsSpec)

/-- ITS FALSE NEIGHBOUR: 'it returns false'. Refute it at one input. -/
def fnExactSameSumsWrong : ChangeSpec := { name := "fnExactSameSums", fn := fun _ => fun
  | [d1, d2] => { results := [.lit (.bool false)], args := [d1, d2] }
  | _ => none }
def FnExactSameSumsWrongFalsely : Prop := fnExactSameSumsRow.holds Try.pinned (OpenSpec.ofChange fnExactSameSumsWrong)

/-- 'laws.FnExactSwitchesOf': WHATEVER THE INPUT: true; the input reads as it did. -/
def fnExactSwitchesOfSpec : ChangeSpec := { name := "fnExactSwitchesOf", fn := fun _ => fun
  | [d] => { results := [.lit (.bool true)], args := [d] }
  | _ => none }
def fnExactSwitchesOfRow : OpenClaim := { program := "ytdgkiebgmhcmdaa", sum := "5de59259af195dc9f9cb0f9b6fda5495c60e4ba31723a67d493a13c2dfbad849", func := "loop.example/g00860/laws.FnExactSwitchesOf", spec := "fnExactSwitchesOf", apart := false }
def FnExactSwitchesOfSaid : Prop := fnExactSwitchesOfRow.holds Try.pinned (OpenSpec.ofChange fnExactSwitchesOfSpec)

/-- ITS FALSE NEIGHBOUR: 'it returns false'. Refute it at one input. -/
def fnExactSwitchesOfWrong : ChangeSpec := { name := "fnExactSwitchesOf", fn := fun _ => fun
  | [d] => { results := [.lit (.bool false)], args := [d] }
  | _ => none }
def FnExactSwitchesOfWrongFalsely : Prop := fnExactSwitchesOfRow.holds Try.pinned (OpenSpec.ofChange fnExactSwitchesOfWrong)

/-- 'laws.FnExactCountImages': WHATEVER THE INPUT: true; the input reads as it did. -/
def fnExactCountImagesSpec : ChangeSpec := { name := "fnExactCountImages", fn := fun _ => fun
  | [d1, d2] => { results := [.lit (.bool true)], args := [d1, d2] }
  | _ => none }
def fnExactCountImagesRow : OpenClaim := { program := "ytdgkiebgmhcmdaa", sum := "5de59259af195dc9f9cb0f9b6fda5495c60e4ba31723a67d493a13c2dfbad849", func := "loop.example/g00860/laws.FnExactCountImages", spec := "fnExactCountImages", unfollowed := true, recurses := true, apart := false }
def FnExactCountImagesSaid : Prop := fnExactCountImagesRow.holds Try.pinned (OpenSpec.ofChange fnExactCountImagesSpec)

/-- ITS FALSE NEIGHBOUR: 'it returns false'. Refute it at one input. -/
def fnExactCountImagesWrong : ChangeSpec := { name := "fnExactCountImages", fn := fun _ => fun
  | [d1, d2] => { results := [.lit (.bool false)], args := [d1, d2] }
  | _ => none }
def FnExactCountImagesWrongFalsely : Prop := fnExactCountImagesRow.holds Try.pinned (OpenSpec.ofChange fnExactCountImagesWrong)

/-- 'laws.FnImages': WHATEVER THE INPUT: true; the input reads as it did. -/
def fnImagesSpec : ChangeSpec := { name := "fnImages", fn := fun _ => fun
  | [d] => { results := [.lit (.bool true)], args := [d] }
  | _ => none }
def fnImagesRow : OpenClaim := { program := "ytdgkiebgmhcmdaa", sum := "5de59259af195dc9f9cb0f9b6fda5495c60e4ba31723a67d493a13c2dfbad849", func := "loop.example/g00860/laws.FnImages", spec := "fnImages", unfollowed := true, recurses := true, apart := false }
def FnImagesSaid : Prop := fnImagesRow.holds Try.pinned (OpenSpec.ofChange fnImagesSpec)

/-- ITS FALSE NEIGHBOUR: 'it returns false'. Refute it at one input. -/
def fnImagesWrong : ChangeSpec := { name := "fnImages", fn := fun _ => fun
  | [d] => { results := [.lit (.bool false)], args := [d] }
  | _ => none }
def FnImagesWrongFalsely : Prop := fnImagesRow.holds Try.pinned (OpenSpec.ofChange fnImagesWrong)

/-- 'laws.FnExactApplyAll': WHATEVER THE INPUT: true; the input reads as it did. -/
def fnExactApplyAllSpec : ChangeSpec := { name := "fnExactApplyAll", fn := fun _ => fun
  | [d1, d2] => { results := [.lit (.bool true)], args := [d1, d2] }
  | _ => none }
def fnExactApplyAllRow : OpenClaim := { program := "ytdgkiebgmhcmdaa", sum := "5de59259af195dc9f9cb0f9b6fda5495c60e4ba31723a67d493a13c2dfbad849", func := "loop.example/g00860/laws.FnExactApplyAll", spec := "fnExactApplyAll", apart := false }
def FnExactApplyAllSaid : Prop := fnExactApplyAllRow.holds Try.pinned (OpenSpec.ofChange fnExactApplyAllSpec)

/-- ITS FALSE NEIGHBOUR: 'it returns false'. Refute it at one input. -/
def fnExactApplyAllWrong : ChangeSpec := { name := "fnExactApplyAll", fn := fun _ => fun
  | [d1, d2] => { results := [.lit (.bool false)], args := [d1, d2] }
  | _ => none }
def FnExactApplyAllWrongFalsely : Prop := fnExactApplyAllRow.holds Try.pinned (OpenSpec.ofChange fnExactApplyAllWrong)

/-- 'laws.FnExactBuildImage': WHATEVER THE INPUT: true; the input reads as it did. -/
def fnExactBuildImageSpec : ChangeSpec := { name := "fnExactBuildImage", fn := fun _ => fun
  | [d1, d2] => { results := [.lit (.bool true)], args := [d1, d2] }
  | _ => none }
def fnExactBuildImageRow : OpenClaim := { program := "ytdgkiebgmhcmdaa", sum := "5de59259af195dc9f9cb0f9b6fda5495c60e4ba31723a67d493a13c2dfbad849", func := "loop.example/g00860/laws.FnExactBuildImage", spec := "fnExactBuildImage", unfollowed := true, recurses := true, apart := false }
def FnExactBuildImageSaid : Prop := fnExactBuildImageRow.holds Try.pinned (OpenSpec.ofChange fnExactBuildImageSpec)

/-- ITS FALSE NEIGHBOUR: 'it returns false'. Refute it at one input. -/
def fnExactBuildImageWrong : ChangeSpec := { name := "fnExactBuildImage", fn := fun _ => fun
  | [d1, d2] => { results := [.lit (.bool false)], args := [d1, d2] }
  | _ => none }
def FnExactBuildImageWrongFalsely : Prop := fnExactBuildImageRow.holds Try.pinned (OpenSpec.ofChange fnExactBuildImageWrong)

/- THE SECOND FORM. 'bulk': how many values and letters a reading holds, each counted each time it is reached (what is shared counts as often as it is met; a slice's spare places count too). A statement '..UptoSaid' is the law's where the arguments, and the package variables that the reading takes, are together of bulk at most 1048576: NARROWER than '..Said'. Prove '..Said' where nothing that the law and all that it calls make is longer than what came in: it says more and counts as full. Else prove '..UptoSaid'. A law counts once. -/
mutual
def uptoBulk {H : Type} : DataW H → Nat
  | .lit (.string bytes) => bytes.length + 1
  | .lit _ => 1
  | .nil => 1
  | .ptr d => uptoBulk d + 1
  | .slice elems spare => uptoBulkAll elems + uptoBulkAll spare + 1
  | .agg parts => uptoBulkAll parts + 1
  | .iface _ d => uptoBulk d + 1
  | .map entries => uptoBulkEntries entries + 1
  | .held _ => 1
def uptoBulkAll {H : Type} : List (DataW H) → Nat
  | [] => 0
  | d :: r => uptoBulk d + uptoBulkAll r
def uptoBulkEntries {H : Type} : List (Lit × DataW H) → Nat
  | [] => 0
  | x :: r => uptoBulkEntry x + uptoBulkEntries r
def uptoBulkEntry {H : Type} : Lit × DataW H → Nat
  | (.string bytes, d) => bytes.length + uptoBulk d + 1
  | (_, d) => uptoBulk d + 1
 end
def uptoSmall : (H : Type) → List (DataW H) → Bool := fun _ ds => decide (uptoBulkAll ds ≤ 1048576)
def OpenSpec.upto (s : _root_.Go.ChangeSpec) : _root_.Go.OpenSpec := { _root_.Go.OpenSpec.ofChange s with cond := some uptoSmall }

/-- 'laws.FnExactTransposeOf', WHERE WHAT IT READS IS OF BULK AT MOST 1048576: true; the input reads as it did. -/
def fnExactTransposeOfUptoRow : OpenClaim := { program := "ytdgkiebgmhcmdaa", sum := "5de59259af195dc9f9cb0f9b6fda5495c60e4ba31723a67d493a13c2dfbad849", func := "loop.example/g00860/laws.FnExactTransposeOf", spec := "fnExactTransposeOf", apart := false, narrowed := true }
def FnExactTransposeOfUptoSaid : Prop := fnExactTransposeOfUptoRow.holds Try.pinned (OpenSpec.upto fnExactTransposeOfSpec)

/-- 'laws.FnExactInvertOf', WHERE WHAT IT READS IS OF BULK AT MOST 1048576: true; the input reads as it did. -/
def fnExactInvertOfUptoRow : OpenClaim := { program := "ytdgkiebgmhcmdaa", sum := "5de59259af195dc9f9cb0f9b6fda5495c60e4ba31723a67d493a13c2dfbad849", func := "loop.example/g00860/laws.FnExactInvertOf", spec := "fnExactInvertOf", apart := false, narrowed := true }
def FnExactInvertOfUptoSaid : Prop := fnExactInvertOfUptoRow.holds Try.pinned (OpenSpec.upto fnExactInvertOfSpec)

/-- 'laws.FnExactMirrorOf', WHERE WHAT IT READS IS OF BULK AT MOST 1048576: true; the input reads as it did. -/
def fnExactMirrorOfUptoRow : OpenClaim := { program := "ytdgkiebgmhcmdaa", sum := "5de59259af195dc9f9cb0f9b6fda5495c60e4ba31723a67d493a13c2dfbad849", func := "loop.example/g00860/laws.FnExactMirrorOf", spec := "fnExactMirrorOf", apart := false, narrowed := true }
def FnExactMirrorOfUptoSaid : Prop := fnExactMirrorOfUptoRow.holds Try.pinned (OpenSpec.upto fnExactMirrorOfSpec)

/-- 'laws.FnExactColSums', WHERE WHAT IT READS IS OF BULK AT MOST 1048576: true; the input reads as it did. -/
def fnExactColSumsUptoRow : OpenClaim := { program := "ytdgkiebgmhcmdaa", sum := "5de59259af195dc9f9cb0f9b6fda5495c60e4ba31723a67d493a13c2dfbad849", func := "loop.example/g00860/laws.FnExactColSums", spec := "fnExactColSums", apart := false, narrowed := true }
def FnExactColSumsUptoSaid : Prop := fnExactColSumsUptoRow.holds Try.pinned (OpenSpec.upto fnExactColSumsSpec)

/-- 'laws.FnExactApplySwitch', WHERE WHAT IT READS IS OF BULK AT MOST 1048576: true; the input reads as it did. -/
def fnExactApplySwitchUptoRow : OpenClaim := { program := "ytdgkiebgmhcmdaa", sum := "5de59259af195dc9f9cb0f9b6fda5495c60e4ba31723a67d493a13c2dfbad849", func := "loop.example/g00860/laws.FnExactApplySwitch", spec := "fnExactApplySwitch", apart := false, narrowed := true }
def FnExactApplySwitchUptoSaid : Prop := fnExactApplySwitchUptoRow.holds Try.pinned (OpenSpec.upto fnExactApplySwitchSpec)

/-- 'laws.FnExactLineSums', WHERE WHAT IT READS IS OF BULK AT MOST 1048576: true; the input reads as it did. -/
def fnExactLineSumsUptoRow : OpenClaim := { program := "ytdgkiebgmhcmdaa", sum := "5de59259af195dc9f9cb0f9b6fda5495c60e4ba31723a67d493a13c2dfbad849", func := "loop.example/g00860/laws.FnExactLineSums", spec := "fnExactLineSums", apart := false, narrowed := true }
def FnExactLineSumsUptoSaid : Prop := fnExactLineSumsUptoRow.holds Try.pinned (OpenSpec.upto fnExactLineSumsSpec)

/-- 'laws.FnExactSameSums', WHERE WHAT IT READS IS OF BULK AT MOST 1048576: true; the input reads as it did. -/
def fnExactSameSumsUptoRow : OpenClaim := { program := "ytdgkiebgmhcmdaa", sum := "5de59259af195dc9f9cb0f9b6fda5495c60e4ba31723a67d493a13c2dfbad849", func := "loop.example/g00860/laws.FnExactSameSums", spec := "fnExactSameSums", apart := false, narrowed := true }
def FnExactSameSumsUptoSaid : Prop := fnExactSameSumsUptoRow.holds Try.pinned (OpenSpec.upto fnExactSameSumsSpec)

/-- 'laws.FnExactSwitchesOf', WHERE WHAT IT READS IS OF BULK AT MOST 1048576: true; the input reads as it did. -/
def fnExactSwitchesOfUptoRow : OpenClaim := { program := "ytdgkiebgmhcmdaa", sum := "5de59259af195dc9f9cb0f9b6fda5495c60e4ba31723a67d493a13c2dfbad849", func := "loop.example/g00860/laws.FnExactSwitchesOf", spec := "fnExactSwitchesOf", apart := false, narrowed := true }
def FnExactSwitchesOfUptoSaid : Prop := fnExactSwitchesOfUptoRow.holds Try.pinned (OpenSpec.upto fnExactSwitchesOfSpec)

/-- 'laws.FnExactCountImages', WHERE WHAT IT READS IS OF BULK AT MOST 1048576: true; the input reads as it did. -/
def fnExactCountImagesUptoRow : OpenClaim := { program := "ytdgkiebgmhcmdaa", sum := "5de59259af195dc9f9cb0f9b6fda5495c60e4ba31723a67d493a13c2dfbad849", func := "loop.example/g00860/laws.FnExactCountImages", spec := "fnExactCountImages", unfollowed := true, recurses := true, apart := false, narrowed := true }
def FnExactCountImagesUptoSaid : Prop := fnExactCountImagesUptoRow.holds Try.pinned (OpenSpec.upto fnExactCountImagesSpec)

/-- 'laws.FnImages', WHERE WHAT IT READS IS OF BULK AT MOST 1048576: true; the input reads as it did. -/
def fnImagesUptoRow : OpenClaim := { program := "ytdgkiebgmhcmdaa", sum := "5de59259af195dc9f9cb0f9b6fda5495c60e4ba31723a67d493a13c2dfbad849", func := "loop.example/g00860/laws.FnImages", spec := "fnImages", unfollowed := true, recurses := true, apart := false, narrowed := true }
def FnImagesUptoSaid : Prop := fnImagesUptoRow.holds Try.pinned (OpenSpec.upto fnImagesSpec)

/-- 'laws.FnExactApplyAll', WHERE WHAT IT READS IS OF BULK AT MOST 1048576: true; the input reads as it did. -/
def fnExactApplyAllUptoRow : OpenClaim := { program := "ytdgkiebgmhcmdaa", sum := "5de59259af195dc9f9cb0f9b6fda5495c60e4ba31723a67d493a13c2dfbad849", func := "loop.example/g00860/laws.FnExactApplyAll", spec := "fnExactApplyAll", apart := false, narrowed := true }
def FnExactApplyAllUptoSaid : Prop := fnExactApplyAllUptoRow.holds Try.pinned (OpenSpec.upto fnExactApplyAllSpec)

/-- 'laws.FnExactBuildImage', WHERE WHAT IT READS IS OF BULK AT MOST 1048576: true; the input reads as it did. -/
def fnExactBuildImageUptoRow : OpenClaim := { program := "ytdgkiebgmhcmdaa", sum := "5de59259af195dc9f9cb0f9b6fda5495c60e4ba31723a67d493a13c2dfbad849", func := "loop.example/g00860/laws.FnExactBuildImage", spec := "fnExactBuildImage", unfollowed := true, recurses := true, apart := false, narrowed := true }
def FnExactBuildImageUptoSaid : Prop := fnExactBuildImageUptoRow.holds Try.pinned (OpenSpec.upto fnExactBuildImageSpec)

end Rows
end Go.Proofs.Ytdgkiebgmhcmdaa
