/- The walks of the laws SameImage, IsStaircase. -/
import Derived.Test.YtdgkiebgmhcmdaaProg
import Derived.Test.YtdgkiebgmhcmdaaW1
import Derived.Test.YtdgkiebgmhcmdaaW3
import Derived.Test.YtdgkiebgmhcmdaaW4
import Derived.Test.YtdgkiebgmhcmdaaW6
import Derived.Test.YtdgkiebgmhcmdaaW8
import Derived.Test.YtdgkiebgmhcmdaaW9
import Derived.Test.YtdgkiebgmhcmdaaW10
import Derived.Test.YtdgkiebgmhcmdaaW11
import Derived.Test.YtdgkiebgmhcmdaaW12
import Derived.Test.YtdgkiebgmhcmdaaMem
import Derived.WalkKit
import Derived.WalkSpells
import Derived.WalkLawsBesides
import Derived.KernelRfl
import Derived.Lib.Hide
namespace Go.Proofs.Ytdgkiebgmhcmdaa
open Go.RowKit
set_option linter.unusedVariables false
set_option linter.unusedSimpArgs false

theorem calm {P : Program} {f : FuncId} {args : Array Value} {w : World} {v : Value} (h : Calls P f args w fun e w' => e = .returned v ∧ Drew w w') : Calls P f args w fun e w' => e = .returned v ∧ Below w.heap.size w w' :=
  h.mono fun _ _ ⟨h1, h2⟩ => ⟨h1, h2.below _⟩

end Go.Proofs.Ytdgkiebgmhcmdaa
