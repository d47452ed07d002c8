/- The walk of the law SplitAny. -/
import Derived.Test.YtibnhecfgaoblaaProg
import Derived.Test.YtibnhecfgaoblaaW1
import Derived.Test.YtibnhecfgaoblaaW3
import Derived.Test.YtibnhecfgaoblaaW7
import Derived.Test.YtibnhecfgaoblaaT2
import Derived.Test.YtibnhecfgaoblaaT3
import Derived.Test.YtibnhecfgaoblaaMem
import Derived.WalkKit
import Derived.WalkSpells
import Derived.WalkLawsBesides
import Derived.KernelRfl
import Derived.Lib.Hide
namespace Go.Proofs.Ytibnhecfgaoblaa
open Go.RowKit
set_option linter.unusedVariables false
set_option linter.unusedSimpArgs false

theorem splitF_len (s b : ByteArray) : (splitF s b).length ≤ s.size + 1 := by
  have := spAcc_len s b s.size
  simp [splitF]; omega

set_option maxRecDepth 100000 in
set_option maxHeartbeats 2000000 in
theorem fnExactSplitAny_walk (s : ByteArray) (b : ByteArray) (w : World) (hs : s.size ≤ maxLen) (hb : b.size ≤ maxLen) :
    Calls Try.prog 4 #[.string s, .string b] w fun e w' => e = .returned (.bool true) ∧ Below w.heap.size w w' := by
  unfold maxLen at hs hb
  by_cases ns : 1048576 < ((s.size : Nat) : Int)
  · go_enter Try.func4, Try.ntmps4
    go_wp2_with fail
    go_ret
    exact ⟨rfl, Below.refl _ _⟩
  by_cases nb : 1048576 < ((b.size : Nat) : Int)
  · go_enter Try.func4, Try.ntmps4
    go_wp2_with fail
    go_ret
    exact ⟨rfl, Below.refl _ _⟩
  have ds : s.size ≤ 1048576 := by omega
  have db : b.size ≤ 1048576 := by omega
  have lr : (splitF s b).length ≤ 1048577 := by have := splitF_len s b; omega
  go_enter Try.func4, Try.ntmps4
  have B0 : Below w.heap.size w w := Below.refl _ _
  go_wp2_with fail
  refine (spec_SplitAny _ _ _ ds db).mono ?_
  rintro e w1 ⟨r0, rfl, or0, b1⟩
  have s1 := b1.size
  replace B0 := B0.trans (b1.mono (by omega))
  go_wp2_with fail
  refine (impl_SplitAny _ _ _ ds db).mono ?_
  rintro e w2 ⟨g0, rfl, og0, b2⟩
  have s2 := b2.size
  replace or0 := or0.new b2
  replace B0 := B0.trans (b2.mono (by omega))
  go_wp2_with fail
  refine (eqStringS_walk _ _ _ _ _ _ _ _ og0.rdS or0.rdS).mono ?_
  rintro e w3 ⟨rfl, b3⟩
  have s3 := b3.size
  replace or0 := or0.new b3
  replace og0 := og0.new b3
  replace B0 := B0.trans (b3.mono (by omega))
  go_wp2_with fail
  refine (markStringS_walk _ 1 _ _ _ _ og0 (by omega) (by omega) (by omega)).mono ?_
  rintro e w4 ⟨rfl, mog0, b4⟩
  have s4 := b4.size
  replace or0 := or0.chg b4 (by omega)
  clear og0
  have og0 := mog0; clear mog0
  replace B0 := B0.trans (b4.below (by omega) (by omega))
  go_wp2_with fail
  refine (heldStringS_walk _ 1 _ _ _ _ og0.rdS (by omega) (by omega) (by omega)).mono ?_
  rintro e w5 ⟨rfl, b5⟩
  have s5 := b5.size
  replace or0 := or0.new b5
  replace og0 := og0.new b5
  replace B0 := B0.trans (b5.mono (by omega))
  go_wp2_with fail
  refine (impl_SplitAny _ _ _ ds db).mono ?_
  rintro e w6 ⟨h0, rfl, oh0, b6⟩
  have s6 := b6.size
  replace or0 := or0.new b6
  replace og0 := og0.new b6
  replace B0 := B0.trans (b6.mono (by omega))
  go_wp2_with fail
  refine (eqStringS_walk _ _ _ _ _ _ _ _ oh0.rdS or0.rdS).mono ?_
  rintro e w7 ⟨rfl, b7⟩
  have s7 := b7.size
  replace or0 := or0.new b7
  replace og0 := og0.new b7
  replace oh0 := oh0.new b7
  replace B0 := B0.trans (b7.mono (by omega))
  go_wp2_with fail
  refine (heldStringS_walk _ 1 _ _ _ _ og0.rdS (by omega) (by omega) (by omega)).mono ?_
  rintro e w8 ⟨rfl, b8⟩
  have s8 := b8.size
  replace or0 := or0.new b8
  replace og0 := og0.new b8
  replace oh0 := oh0.new b8
  replace B0 := B0.trans (b8.mono (by omega))
  go_wp2_with fail
  go_ret
  exact ⟨rfl, B0⟩
end Go.Proofs.Ytibnhecfgaoblaa
