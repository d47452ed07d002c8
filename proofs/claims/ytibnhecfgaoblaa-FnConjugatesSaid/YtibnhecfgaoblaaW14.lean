/- The walks of the laws SameImage, IsStaircase. -/
import Derived.Test.YtibnhecfgaoblaaProg
import Derived.Test.YtibnhecfgaoblaaW1
import Derived.Test.YtibnhecfgaoblaaW3
import Derived.Test.YtibnhecfgaoblaaW4
import Derived.Test.YtibnhecfgaoblaaW6
import Derived.Test.YtibnhecfgaoblaaW8
import Derived.Test.YtibnhecfgaoblaaW9
import Derived.Test.YtibnhecfgaoblaaW10
import Derived.Test.YtibnhecfgaoblaaW11
import Derived.Test.YtibnhecfgaoblaaW12
import Derived.Test.YtibnhecfgaoblaaMem
import Derived.WalkKit
import Derived.WalkSpells
import Derived.WalkLawsBesides
import Derived.KernelRfl
import Derived.Lib.Hide
namespace Go.Proofs.Ytibnhecfgaoblaa
open Go.RowKit
set_option linter.unusedVariables false
set_option linter.unusedSimpArgs false

theorem calm {P : Program} {f : FuncId} {args : Array Value} {w : World} {v : Value} (h : Calls P f args w fun e w' => e = .returned v ∧ Drew w w') : Calls P f args w fun e w' => e = .returned v ∧ Below w.heap.size w w' :=
  h.mono fun _ _ ⟨h1, h2⟩ => ⟨h1, h2.below _⟩

end Go.Proofs.Ytibnhecfgaoblaa
