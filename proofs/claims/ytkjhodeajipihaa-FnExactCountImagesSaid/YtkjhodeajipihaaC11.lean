/- The walk of the law CountImages. -/
import Derived.Test.YtkjhodeajipihaaProg
import Derived.Test.YtkjhodeajipihaaW1
import Derived.Test.YtkjhodeajipihaaW3
import Derived.Test.YtkjhodeajipihaaW4
import Derived.Test.YtkjhodeajipihaaS3
import Derived.Test.YtkjhodeajipihaaC9
import Derived.Test.YtkjhodeajipihaaC10
import Derived.Test.YtkjhodeajipihaaMem
import Derived.WalkKit
import Derived.WalkSpells
import Derived.WalkLawsBesides
import Derived.KernelRfl
import Derived.Lib.Hide
namespace Go.Proofs.Ytkjhodeajipihaa
open Go.RowKit
set_option linter.unusedVariables false
set_option linter.unusedSimpArgs false

theorem len20c {l : List Int} (h : ¬ (1048576 : Int) < l.length) : l.length ≤ 1048576 := by omega

set_option maxRecDepth 100000 in
set_option maxHeartbeats 2000000 in
theorem fnExactCountImages_walk (vp : Value) (p : List Int) (vq : Value) (q : List Int) (w : World) (hp : RdI w 0 w.heap.size vp p) (hq : RdI w 0 w.heap.size vq q) :
    Calls Try.prog 3 #[vp, vq] w fun e w' => e = .returned (.bool true) ∧ Below w.heap.size w w' := by
  have fp := hp.form
  have fq := hq.form
  obtain ⟨Ap, cp, rfl, _, _⟩ := fp
  obtain ⟨Aq, cq, rfl, _, _⟩ := fq
  by_cases ep : (1048576 : Int) < p.length
  · go_enter Try.func3, Try.ntmps3
    go_wp2_with fail
    go_ret
    exact ⟨rfl, Below.refl _ _⟩
  by_cases eq_ : (1048576 : Int) < q.length
  · go_enter Try.func3, Try.ntmps3
    go_wp2_with fail
    go_ret
    exact ⟨rfl, Below.refl _ _⟩
  have lp := len20c ep
  have lq := len20c eq_
  have Ep := eqI_self p
  have Eq_ := eqI_self q
  go_enter Try.func3, Try.ntmps3
  have B0 : Below w.heap.size w w := Below.refl _ _
  go_wp2_with fail
  refine (toIntS_walk _ _ _ _ _ hp lp).mono ?_
  rintro e w1 ⟨t1, rfl, ot1, b1⟩
  have s1 := b1.size
  replace hp := hp.new b1
  replace hq := hq.new b1
  replace B0 := B0.trans (b1.mono (by omega))
  go_wp2_with fail
  refine (toIntS_walk _ _ _ _ _ hq lq).mono ?_
  rintro e w2 ⟨t2, rfl, ot2, b2⟩
  have s2 := b2.size
  replace hp := hp.new b2
  replace hq := hq.new b2
  replace ot1 := ot1.new b2
  replace B0 := B0.trans (b2.mono (by omega))
  go_wp2_with fail
  refine (spec_CountImages _ _ _ _ _ _ _ _ _ ot1.rdI ot2.rdI).mono ?_
  rintro e w3 ⟨rfl, b3⟩
  have s3 := b3.size
  replace hp := hp.new b3
  replace hq := hq.new b3
  replace ot1 := ot1.new b3
  replace ot2 := ot2.new b3
  replace B0 := B0.trans (b3.mono (by omega))
  clear ot1 ot2
  go_wp2_with fail
  refine (toIntS_walk _ _ _ _ _ hp lp).mono ?_
  rintro e w4 ⟨x0, rfl, ox0, b4⟩
  have s4 := b4.size
  replace hp := hp.new b4
  replace hq := hq.new b4
  replace B0 := B0.trans (b4.mono (by omega))
  go_wp2_with fail
  refine (toIntS_walk _ _ _ _ _ hq lq).mono ?_
  rintro e w5 ⟨x1, rfl, ox1, b5⟩
  have s5 := b5.size
  replace hp := hp.new b5
  replace hq := hq.new b5
  replace ox0 := ox0.new b5
  replace B0 := B0.trans (b5.mono (by omega))
  go_wp2_with fail
  refine (impl_CountImages _ _ _ _ _ _ _ _ _ ox0.rdI ox1.rdI).mono ?_
  rintro e w6 ⟨rfl, b6⟩
  have s6 := b6.size
  replace hp := hp.new b6
  replace hq := hq.new b6
  replace ox0 := ox0.new b6
  replace ox1 := ox1.new b6
  replace B0 := B0.trans (b6.mono (by omega))
  go_wp2_with fail
  refine (toIntS_walk _ _ _ _ _ hp lp).mono ?_
  rintro e w7 ⟨t3, rfl, ot3, b7⟩
  have s7 := b7.size
  replace hp := hp.new b7
  replace hq := hq.new b7
  replace ox0 := ox0.new b7
  replace ox1 := ox1.new b7
  replace B0 := B0.trans (b7.mono (by omega))
  go_wp2_with fail
  refine (eqIntS_b _ _ _ _ _ _ _ _ _ ox0.rdI ot3.rdI).mono ?_
  rintro e w8 ⟨rfl, b8⟩
  have s8 := b8.size
  replace hp := hp.new b8
  replace hq := hq.new b8
  replace ox0 := ox0.new b8
  replace ox1 := ox1.new b8
  replace ot3 := ot3.new b8
  replace B0 := B0.trans (b8.mono (by omega))
  go_wp2_with fail
  refine (toIntS_walk _ _ _ _ _ hq lq).mono ?_
  rintro e w9 ⟨t4, rfl, ot4, b9⟩
  have s9 := b9.size
  replace hp := hp.new b9
  replace hq := hq.new b9
  replace ox0 := ox0.new b9
  replace ox1 := ox1.new b9
  replace ot3 := ot3.new b9
  replace B0 := B0.trans (b9.mono (by omega))
  go_wp2_with fail
  refine (eqIntS_b _ _ _ _ _ _ _ _ _ ox1.rdI ot4.rdI).mono ?_
  rintro e w10 ⟨rfl, b10⟩
  have s10 := b10.size
  replace hp := hp.new b10
  replace hq := hq.new b10
  replace ox0 := ox0.new b10
  replace ox1 := ox1.new b10
  replace ot3 := ot3.new b10
  replace ot4 := ot4.new b10
  replace B0 := B0.trans (b10.mono (by omega))
  go_wp2_with fail
  go_ret
  exact ⟨rfl, B0⟩
end Go.Proofs.Ytkjhodeajipihaa
