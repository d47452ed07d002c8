/- The walk of the law SwitchesOf. -/
import Derived.Test.YtdgkiebgmhcmdaaProg
import Derived.Test.YtdgkiebgmhcmdaaW1
import Derived.Test.YtdgkiebgmhcmdaaW3
import Derived.Test.YtdgkiebgmhcmdaaW4
import Derived.Test.YtdgkiebgmhcmdaaW6
import Derived.Test.YtdgkiebgmhcmdaaW8
import Derived.Test.YtdgkiebgmhcmdaaW9
import Derived.Test.YtdgkiebgmhcmdaaW10
import Derived.Test.YtdgkiebgmhcmdaaW21
import Derived.Test.YtdgkiebgmhcmdaaW30
import Derived.Test.YtdgkiebgmhcmdaaW31
import Derived.Test.YtdgkiebgmhcmdaaSw
import Derived.Test.YtdgkiebgmhcmdaaMem
import Derived.WalkKit
import Derived.WalkSpells
import Derived.WalkLawsBesides
import Derived.KernelRfl
import Derived.Lib.Hide
namespace Go.Proofs.Ytdgkiebgmhcmdaa
open Go.RowKit
set_option linter.unusedVariables false
set_option linter.unusedSimpArgs false

theorem swsR_len (g : List (List Int)) : (swsR g).length ≤ 625 := by
  unfold swsR
  split
  · rename_i h
    have := imgOk_in h
    have := sw1_len g g.length (hd g).length (by omega) (by omega) g.length
    omega
  · simp

set_option maxRecDepth 100000 in
set_option maxHeartbeats 2000000 in
theorem fnExactSwitchesOf_walk (vp : Value) (p : List (List Int)) (w : World) (hp : RdG w 0 w.heap.size vp p) :
    Calls Try.prog 10 #[vp] w fun e w' => e = .returned (.bool true) ∧ Below w.heap.size w w' := by
  have lr : (swsR p).length ≤ 625 := swsR_len _
  obtain ⟨Ap, kp, rfl, _, _⟩ := hp.form
  have tp := @sz_total p 1048576 _ rfl
  obtain ⟨qp, hqp⟩ : ∃ q, q = szG p 1048576 := ⟨_, rfl⟩
  have cp := szG_cases p 1048576 (by omega)
  rw [← hqp] at cp
  have Hqp := Lib.hid hqp; clear hqp
  rcases cp with cp | ⟨cp, dp, Shp⟩
  · have np : qp < 0 := by omega
    clear cp
    go_enter Try.func10, Try.ntmps10
    go_wp2_with fail
    refine (szIntSS_walk _ _ _ _ _ _ hp (by omega) (by omega)).mono ?_
    rw [← Hqp.out]
    rintro e wx ⟨rfl, rfl⟩
    go_wp2_with fail
    go_ret
    exact ⟨rfl, Below.refl _ _⟩
  have np : ¬ qp < 0 := by omega
  have HSp := Lib.hid Shp; clear Shp
  have tp2 : total p ≤ 1048576 := sz_total Hqp.out (by omega) (by omega)
  clear tp
  have Ep := eqG_self p
  go_enter Try.func10, Try.ntmps10
  have B0 : Below w.heap.size w w := Below.refl _ _
  go_wp2_with fail
  refine (szIntSS_walk _ _ _ _ _ _ hp (by omega) (by omega)).mono ?_
  rw [← Hqp.out]
  rintro e wx ⟨rfl, rfl⟩
  go_wp2_with fail
  refine (toIntSS_walk _ _ _ _ _ hp HSp.out).mono ?_
  rintro e w1 ⟨t1, rfl, ot1, b1⟩
  have s1 := b1.size
  replace hp := hp.new b1
  replace B0 := B0.trans (b1.mono (by omega))
  go_wp2_with fail
  refine (spec_SwitchesOf _ _ _ _ _ ot1.rd).mono ?_
  rintro e w2 ⟨r0, rfl, or0, b2⟩
  have s2 := b2.size
  replace hp := hp.new b2
  replace ot1 := ot1.new b2
  replace B0 := B0.trans (b2.mono (by omega))
  go_wp2_with fail
  refine (toIntSS_walk _ _ _ _ _ hp HSp.out).mono ?_
  rintro e w3 ⟨x0, rfl, ox0, b3⟩
  have s3 := b3.size
  replace hp := hp.new b3
  replace ot1 := ot1.new b3
  replace or0 := or0.new b3
  replace B0 := B0.trans (b3.mono (by omega))
  go_wp2_with fail
  refine (impl_SwitchesOf _ _ _ _ _ ox0.rd).mono ?_
  rintro e w4 ⟨g0, rfl, og0, b4⟩
  have s4 := b4.size
  replace hp := hp.new b4
  replace ot1 := ot1.new b4
  replace or0 := or0.new b4
  replace ox0 := ox0.new b4
  replace B0 := B0.trans (b4.mono (by omega))
  go_wp2_with fail
  refine (eqSwitchS_walk _ _ _ _ _ _ _ _ og0.rd or0.rd).mono ?_
  rintro e w5 ⟨rfl, b5⟩
  have s5 := b5.size
  replace hp := hp.new b5
  replace ot1 := ot1.new b5
  replace or0 := or0.new b5
  replace ox0 := ox0.new b5
  replace og0 := og0.new b5
  replace B0 := B0.trans (b5.mono (by omega))
  go_wp2_with fail
  refine (toIntSS_walk _ _ _ _ _ hp HSp.out).mono ?_
  rintro e w6 ⟨t3, rfl, ot3, b6⟩
  have s6 := b6.size
  replace hp := hp.new b6
  replace ot1 := ot1.new b6
  replace or0 := or0.new b6
  replace ox0 := ox0.new b6
  replace og0 := og0.new b6
  replace B0 := B0.trans (b6.mono (by omega))
  go_wp2_with fail
  refine (eqIntSS_b _ _ _ _ _ _ _ _ _ ox0.rd ot3.rd).mono ?_
  rintro e w7 ⟨rfl, b7⟩
  have s7 := b7.size
  replace hp := hp.new b7
  replace ot1 := ot1.new b7
  replace or0 := or0.new b7
  replace ox0 := ox0.new b7
  replace og0 := og0.new b7
  replace ot3 := ot3.new b7
  replace B0 := B0.trans (b7.mono (by omega))
  clear ot3 ot1
  go_wp2_with fail
  refine (markIntSS_walk _ _ _ _ _ _ ox0 (by omega) (by omega) (by omega)).mono ?_
  rintro e w8 ⟨rfl, mox0, b8⟩
  have s8 := b8.size
  replace hp := hp.chg b8 (by omega)
  replace or0 := or0.chg b8 (by omega)
  replace og0 := og0.chg b8 (by omega)
  clear ox0
  have ox0 := mox0; clear mox0
  replace B0 := B0.trans (b8.below (by omega) (by omega))
  go_wp2_with fail
  refine (eqSwitchS_walk _ _ _ _ _ _ _ _ og0.rd or0.rd).mono ?_
  rintro e w9 ⟨rfl, b9⟩
  have s9 := b9.size
  replace hp := hp.new b9
  replace or0 := or0.new b9
  replace ox0 := ox0.new b9
  replace og0 := og0.new b9
  replace B0 := B0.trans (b9.mono (by omega))
  go_wp2_with fail
  refine (markSwitchS_walk _ _ _ _ _ _ og0 (by omega) (by omega) (by omega)).mono ?_
  rintro e w10 ⟨rfl, mog0, b10⟩
  have s10 := b10.size
  replace hp := hp.chg b10 (by omega)
  replace or0 := or0.chg b10 (by omega)
  replace ox0 := ox0.chg b10 (by omega)
  clear og0
  have og0 := mog0; clear mog0
  replace B0 := B0.trans (b10.below (by omega) (by omega))
  go_wp2_with fail
  refine (heldSwitchS_walk _ _ _ _ _ _ og0.rd (by omega) (by omega) (by omega)).mono ?_
  rintro e wx ⟨rfl, rfl⟩
  go_wp2_with fail
  refine (toIntSS_walk _ _ _ _ _ hp HSp.out).mono ?_
  rintro e w11 ⟨t5, rfl, ot5, b11⟩
  have s11 := b11.size
  replace hp := hp.new b11
  replace or0 := or0.new b11
  replace ox0 := ox0.new b11
  replace og0 := og0.new b11
  replace B0 := B0.trans (b11.mono (by omega))
  go_wp2_with fail
  refine (impl_SwitchesOf _ _ _ _ _ ot5.rd).mono ?_
  rintro e w12 ⟨h0, rfl, oh0, b12⟩
  have s12 := b12.size
  replace hp := hp.new b12
  replace or0 := or0.new b12
  replace ox0 := ox0.new b12
  replace og0 := og0.new b12
  replace ot5 := ot5.new b12
  replace B0 := B0.trans (b12.mono (by omega))
  go_wp2_with fail
  refine (eqSwitchS_walk _ _ _ _ _ _ _ _ oh0.rd or0.rd).mono ?_
  rintro e w13 ⟨rfl, b13⟩
  have s13 := b13.size
  replace hp := hp.new b13
  replace or0 := or0.new b13
  replace ox0 := ox0.new b13
  replace og0 := og0.new b13
  replace ot5 := ot5.new b13
  replace oh0 := oh0.new b13
  replace B0 := B0.trans (b13.mono (by omega))
  go_wp2_with fail
  refine (heldSwitchS_walk _ _ _ _ _ _ og0.rd (by omega) (by omega) (by omega)).mono ?_
  rintro e wx ⟨rfl, rfl⟩
  go_wp2_with fail
  go_ret
  exact ⟨rfl, B0⟩
end Go.Proofs.Ytdgkiebgmhcmdaa
