/- Walks that fill grids: TransposeOf, MirrorOf, InvertOf, PutCell, StaircaseOf. -/
import Derived.Test.YtkhhbkchaellaaaProg
import Derived.Test.YtkhhbkchaellaaaW1
import Derived.Test.YtkhhbkchaellaaaW2
import Derived.Test.YtkhhbkchaellaaaW3
import Derived.Test.YtkhhbkchaellaaaW4
import Derived.Test.YtkhhbkchaellaaaW6
import Derived.Test.YtkhhbkchaellaaaW8
import Derived.Test.YtkhhbkchaellaaaW9
import Derived.Test.YtkhhbkchaellaaaMem
import Derived.Test.YtkhhbkchaellaaaPoke
import Derived.WalkKit
import Derived.WalkSpells
import Derived.WalkLawsBesides
import Derived.KernelRfl
import Derived.Lib.Hide
import Derived.Deep.QuietTactic
import Derived.BigQuiet
namespace Go.Proofs.Ytkhhbkchaellaaa
open Go.RowKit
set_option linter.unusedVariables false
set_option linter.unusedSimpArgs false

def ifImg (g h : List (List Int)) : List (List Int) := if imgOk g = true then h else []
theorem ifImg_yes {g h : List (List Int)} (e : imgOk g = true) : ifImg g h = h := if_pos e
theorem ifImg_no {g h : List (List Int)} (e : ¬ imgOk g = true) : ifImg g h = [] := if_neg e
def transR (g : List (List Int)) : List (List Int) := ifImg g (mkG (hd g).length g.length fun y x => cellN g x y)
def mirrR (g : List (List Int)) : List (List Int) := ifImg g (mkG g.length (hd g).length fun y x => cellN g y ((hd g).length - 1 - x))
def invR (g : List (List Int)) : List (List Int) := ifImg g (mkG g.length (hd g).length fun y x => 1 - cellN g y x)
theorem setCell_size (w : World) (p : Addr) (u : Value) : (w.setCell p u).heap.size = w.heap.size := by simp [World.setCell]

end Go.Proofs.Ytkhhbkchaellaaa
