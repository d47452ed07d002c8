/- The walk of the law PadZeros. -/
import Derived.Test.YtaldmbajkhangaaProg
import Derived.Test.YtaldmbajkhangaaW1
import Derived.Test.YtaldmbajkhangaaW3
import Derived.Test.YtaldmbajkhangaaW7
import Derived.Test.YtaldmbajkhangaaT2
import Derived.Test.YtaldmbajkhangaaT6
import Derived.Test.YtaldmbajkhangaaMem
import Derived.WalkKit
import Derived.WalkSpells
import Derived.WalkLawsBesides
import Derived.KernelRfl
import Derived.Lib.Hide
namespace Go.Proofs.Ytaldmbajkhangaa
open Go.RowKit
set_option linter.unusedVariables false
set_option linter.unusedSimpArgs false

set_option maxRecDepth 100000 in
set_option maxHeartbeats 2000000 in
theorem fnExactPadZeros_walk (s : ByteArray) (n : Int) (w : World) (hs : s.size ≤ maxLen) (hn : (Lit.int .i64 n).wf = true) :
    Calls Try.prog 5 #[.string s, .int .i64 n] w fun e w' => e = .returned (.bool true) ∧ Below w.heap.size w w' := by
  unfold maxLen at hs
  by_cases ns : 1048576 < ((s.size : Nat) : Int)
  · go_enter Try.func5, Try.ntmps5
    go_wp2_with fail
    go_ret
    exact ⟨rfl, Below.refl _ _⟩
  have ds : s.size ≤ 1048576 := by omega
  have Er := sne_self (padF s n)
  go_enter Try.func5, Try.ntmps5
  have B0 : Below w.heap.size w w := Below.refl _ _
  go_wp2_with fail
  refine (spec_PadZeros _ _ _ ds hn).mono ?_
  rintro e wx ⟨rfl, rfl⟩
  go_wp2_with fail
  refine (impl_PadZeros _ _ _ ds hn).mono ?_
  rintro e w1 ⟨rfl, b1⟩
  have s1 := b1.size
  replace B0 := B0.trans (b1.mono (by omega))
  go_wp2_with fail
  go_ret
  exact ⟨rfl, B0⟩
end Go.Proofs.Ytaldmbajkhangaa
