/- The walk of the law SplitLines. -/
import Derived.Test.YtaldmbajkhangaaProg
import Derived.Test.YtaldmbajkhangaaW1
import Derived.Test.YtaldmbajkhangaaW3
import Derived.Test.YtaldmbajkhangaaW7
import Derived.Test.YtaldmbajkhangaaT2
import Derived.Test.YtaldmbajkhangaaT3
import Derived.Test.YtaldmbajkhangaaT4
import Derived.Test.YtaldmbajkhangaaMem
import Derived.WalkKit
import Derived.WalkSpells
import Derived.WalkLawsBesides
import Derived.KernelRfl
import Derived.Lib.Hide
namespace Go.Proofs.Ytaldmbajkhangaa
open Go.RowKit
set_option linter.unusedVariables false
set_option linter.unusedSimpArgs false

set_option maxRecDepth 100000 in
set_option maxHeartbeats 2000000 in
theorem fnExactSplitLines_walk (s : ByteArray) (w : World) (hs : s.size ≤ maxLen) :
    Calls Try.prog 3 #[.string s] w fun e w' => e = .returned (.bool true) ∧ Below w.heap.size w w' := by
  unfold maxLen at hs
  by_cases ns : 1048576 < ((s.size : Nat) : Int)
  · go_enter Try.func3, Try.ntmps3
    go_wp2_with fail
    go_ret
    exact ⟨rfl, Below.refl _ _⟩
  have ds : s.size ≤ 1048576 := by omega
  have lr : (linesF s).length ≤ 1048577 := by have := lines_len s; omega
  go_enter Try.func3, Try.ntmps3
  have B0 : Below w.heap.size w w := Below.refl _ _
  go_wp2_with fail
  refine (spec_SplitLines _ _ ds).mono ?_
  rintro e w1 ⟨r0, rfl, or0, b1⟩
  have s1 := b1.size
  replace B0 := B0.trans (b1.mono (by omega))
  go_wp2_with fail
  refine (impl_SplitLines _ _ ds).mono ?_
  rintro e w2 ⟨g0, rfl, og0, b2⟩
  have s2 := b2.size
  replace or0 := or0.new b2
  replace B0 := B0.trans (b2.mono (by omega))
  go_wp2_with fail
  refine (eqStringS_walk _ _ _ _ _ _ _ _ og0.rdS or0.rdS).mono ?_
  rintro e w3 ⟨rfl, b3⟩
  have s3 := b3.size
  replace or0 := or0.new b3
  replace og0 := og0.new b3
  replace B0 := B0.trans (b3.mono (by omega))
  go_wp2_with fail
  refine (markStringS_walk _ 1 _ _ _ _ og0 (by omega) (by omega) (by omega)).mono ?_
  rintro e w4 ⟨rfl, mog0, b4⟩
  have s4 := b4.size
  replace or0 := or0.chg b4 (by omega)
  clear og0
  have og0 := mog0; clear mog0
  replace B0 := B0.trans (b4.below (by omega) (by omega))
  go_wp2_with fail
  refine (heldStringS_walk _ 1 _ _ _ _ og0.rdS (by omega) (by omega) (by omega)).mono ?_
  rintro e w5 ⟨rfl, b5⟩
  have s5 := b5.size
  replace or0 := or0.new b5
  replace og0 := og0.new b5
  replace B0 := B0.trans (b5.mono (by omega))
  go_wp2_with fail
  refine (impl_SplitLines _ _ ds).mono ?_
  rintro e w6 ⟨h0, rfl, oh0, b6⟩
  have s6 := b6.size
  replace or0 := or0.new b6
  replace og0 := og0.new b6
  replace B0 := B0.trans (b6.mono (by omega))
  go_wp2_with fail
  refine (eqStringS_walk _ _ _ _ _ _ _ _ oh0.rdS or0.rdS).mono ?_
  rintro e w7 ⟨rfl, b7⟩
  have s7 := b7.size
  replace or0 := or0.new b7
  replace og0 := og0.new b7
  replace oh0 := oh0.new b7
  replace B0 := B0.trans (b7.mono (by omega))
  go_wp2_with fail
  refine (heldStringS_walk _ 1 _ _ _ _ og0.rdS (by omega) (by omega) (by omega)).mono ?_
  rintro e w8 ⟨rfl, b8⟩
  have s8 := b8.size
  replace or0 := or0.new b8
  replace og0 := og0.new b8
  replace oh0 := oh0.new b8
  replace B0 := B0.trans (b8.mono (by omega))
  go_wp2_with fail
  go_ret
  exact ⟨rfl, B0⟩
end Go.Proofs.Ytaldmbajkhangaa
