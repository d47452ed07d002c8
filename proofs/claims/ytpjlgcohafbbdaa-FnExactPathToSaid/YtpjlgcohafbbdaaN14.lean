/- The walk of the law PathTo. -/
import Derived.Test.YtpjlgcohafbbdaaProg
import Derived.Test.YtpjlgcohafbbdaaW1
import Derived.Test.YtpjlgcohafbbdaaW3
import Derived.Test.YtpjlgcohafbbdaaW4
import Derived.Test.YtpjlgcohafbbdaaW6
import Derived.Test.YtpjlgcohafbbdaaW8
import Derived.Test.YtpjlgcohafbbdaaW9
import Derived.Test.YtpjlgcohafbbdaaW10
import Derived.Test.YtpjlgcohafbbdaaW14
import Derived.Test.YtpjlgcohafbbdaaW30
import Derived.Test.YtpjlgcohafbbdaaW31
import Derived.Test.YtpjlgcohafbbdaaSw
import Derived.Test.YtpjlgcohafbbdaaN13
import Derived.Test.YtpjlgcohafbbdaaMem
import Derived.WalkKit
import Derived.WalkSpells
import Derived.WalkLawsBesides
import Derived.KernelRfl
import Derived.Lib.Hide
namespace Go.Proofs.Ytpjlgcohafbbdaa
open Go.RowKit
set_option linter.unusedVariables false
set_option linter.unusedSimpArgs false

set_option maxRecDepth 100000 in
set_option maxHeartbeats 2000000 in
theorem fnExactPathTo_walk (vp : Value) (p : List (List Int)) (vt : Value) (t : List (List Int)) (w : World) (hp : RdG w 0 w.heap.size vp p) (ht : RdG w 0 w.heap.size vt t) :
    Calls Try.prog 5 #[vp, vt] w fun e w' => e = .returned (.bool true) ∧ Below w.heap.size w w' := by
  have lr8 := path_short p t
  have lr : (pathC p t).length ≤ 625 := by omega
  clear lr8
  have eb : ((okP p t) != (okP p t)) = false := by simp
  obtain ⟨Ap, kp, rfl, _, _⟩ := hp.form
  obtain ⟨At, kt, rfl, _, _⟩ := ht.form
  have tp := @sz_total p 1048576 _ rfl
  obtain ⟨qp, hqp⟩ : ∃ q, q = szG p 1048576 := ⟨_, rfl⟩
  have cp := szG_cases p 1048576 (by omega)
  rw [← hqp] at cp
  have Hqp := Lib.hid hqp; clear hqp
  rcases cp with cp | ⟨cp, dp, Shp⟩
  · have np : qp < 0 := by omega
    clear cp
    go_enter Try.func5, Try.ntmps5
    go_wp2_with fail
    refine (szIntSS_walk _ _ _ _ _ _ hp (by omega) (by omega)).mono ?_
    rw [← Hqp.out]
    rintro e wx ⟨rfl, rfl⟩
    go_wp2_with fail
    go_ret
    exact ⟨rfl, Below.refl _ _⟩
  have np : ¬ qp < 0 := by omega
  have HSp := Lib.hid Shp; clear Shp
  obtain ⟨qt, hqt⟩ : ∃ q, q = szG t qp := ⟨_, rfl⟩
  have ct := szG_cases t qp (by omega)
  rw [← hqt] at ct
  have Hqt := Lib.hid hqt; clear hqt
  rcases ct with ct | ⟨ct, dt, Sht⟩
  · have nt : qt < 0 := by omega
    clear ct
    go_enter Try.func5, Try.ntmps5
    go_wp2_with fail
    refine (szIntSS_walk _ _ _ _ _ _ hp (by omega) (by omega)).mono ?_
    rw [← Hqp.out]
    rintro e wx ⟨rfl, rfl⟩
    go_wp2_with fail
    refine (szIntSS_walk _ _ _ _ _ _ ht (by omega) (by omega)).mono ?_
    rw [← Hqt.out]
    rintro e wx ⟨rfl, rfl⟩
    go_wp2_with fail
    go_ret
    exact ⟨rfl, Below.refl _ _⟩
  have nt : ¬ qt < 0 := by omega
  have HSt := Lib.hid Sht; clear Sht
  have tp2 : total p ≤ 1048576 := sz_total Hqp.out (by omega) (by omega)
  clear tp
  have tt2 : total t ≤ 1048576 := sz_total Hqt.out (by omega) (by omega)
  have Ep := eqG_self p
  have Et := eqG_self t
  go_enter Try.func5, Try.ntmps5
  have B0 : Below w.heap.size w w := Below.refl _ _
  go_wp2_with fail
  refine (szIntSS_walk _ _ _ _ _ _ hp (by omega) (by omega)).mono ?_
  rw [← Hqp.out]
  rintro e wx ⟨rfl, rfl⟩
  go_wp2_with fail
  refine (szIntSS_walk _ _ _ _ _ _ ht (by omega) (by omega)).mono ?_
  rw [← Hqt.out]
  rintro e wx ⟨rfl, rfl⟩
  go_wp2_with fail
  refine (toIntSS_walk _ _ _ _ _ hp HSp.out).mono ?_
  rintro e w1 ⟨t1, rfl, ot1, b1⟩
  have s1 := b1.size
  replace hp := hp.new b1
  replace ht := ht.new b1
  replace B0 := B0.trans (b1.mono (by omega))
  go_wp2_with fail
  refine (toIntSS_walk _ _ _ _ _ ht HSt.out).mono ?_
  rintro e w2 ⟨t2, rfl, ot2, b2⟩
  have s2 := b2.size
  replace hp := hp.new b2
  replace ht := ht.new b2
  replace ot1 := ot1.new b2
  replace B0 := B0.trans (b2.mono (by omega))
  go_wp2_with fail
  refine (spec_PathTo' _ _ _ _ _ _ _ _ _ ot1.rd ot2.rd).mono ?_
  rintro e w3 ⟨r0, rfl, or0, b3⟩
  have s3 := b3.size
  replace hp := hp.new b3
  replace ht := ht.new b3
  replace ot1 := ot1.new b3
  replace ot2 := ot2.new b3
  replace B0 := B0.trans (b3.mono (by omega))
  clear ot1 ot2
  go_wp2_with fail
  refine (toIntSS_walk _ _ _ _ _ hp HSp.out).mono ?_
  rintro e w4 ⟨x0, rfl, ox0, b4⟩
  have s4 := b4.size
  replace hp := hp.new b4
  replace ht := ht.new b4
  replace or0 := or0.new b4
  replace B0 := B0.trans (b4.mono (by omega))
  go_wp2_with fail
  refine (toIntSS_walk _ _ _ _ _ ht HSt.out).mono ?_
  rintro e w5 ⟨x1, rfl, ox1, b5⟩
  have s5 := b5.size
  replace hp := hp.new b5
  replace ht := ht.new b5
  replace or0 := or0.new b5
  replace ox0 := ox0.new b5
  replace B0 := B0.trans (b5.mono (by omega))
  go_wp2_with fail
  refine (impl_PathTo' _ _ _ _ _ _ _ _ _ ox0.rd ox1.rd).mono ?_
  rintro e w6 ⟨g0, rfl, og0, b6⟩
  have s6 := b6.size
  replace hp := hp.new b6
  replace ht := ht.new b6
  replace or0 := or0.new b6
  replace ox0 := ox0.new b6
  replace ox1 := ox1.new b6
  replace B0 := B0.trans (b6.mono (by omega))
  go_wp2_with fail
  refine (eqSwitchS_walk _ _ _ _ _ _ _ _ og0.rd or0).mono ?_
  rintro e w7 ⟨rfl, b7⟩
  have s7 := b7.size
  replace hp := hp.new b7
  replace ht := ht.new b7
  replace or0 := or0.new b7
  replace ox0 := ox0.new b7
  replace ox1 := ox1.new b7
  replace og0 := og0.new b7
  replace B0 := B0.trans (b7.mono (by omega))
  go_wp2_with fail
  refine (toIntSS_walk _ _ _ _ _ hp HSp.out).mono ?_
  rintro e w8 ⟨t3, rfl, ot3, b8⟩
  have s8 := b8.size
  replace hp := hp.new b8
  replace ht := ht.new b8
  replace or0 := or0.new b8
  replace ox0 := ox0.new b8
  replace ox1 := ox1.new b8
  replace og0 := og0.new b8
  replace B0 := B0.trans (b8.mono (by omega))
  go_wp2_with fail
  refine (eqIntSS_b _ _ _ _ _ _ _ _ _ ox0.rd ot3.rd).mono ?_
  rintro e w9 ⟨rfl, b9⟩
  have s9 := b9.size
  replace hp := hp.new b9
  replace ht := ht.new b9
  replace or0 := or0.new b9
  replace ox0 := ox0.new b9
  replace ox1 := ox1.new b9
  replace og0 := og0.new b9
  replace ot3 := ot3.new b9
  replace B0 := B0.trans (b9.mono (by omega))
  clear ot3
  go_wp2_with fail
  refine (toIntSS_walk _ _ _ _ _ ht HSt.out).mono ?_
  rintro e w10 ⟨t4, rfl, ot4, b10⟩
  have s10 := b10.size
  replace hp := hp.new b10
  replace ht := ht.new b10
  replace or0 := or0.new b10
  replace ox0 := ox0.new b10
  replace ox1 := ox1.new b10
  replace og0 := og0.new b10
  replace B0 := B0.trans (b10.mono (by omega))
  go_wp2_with fail
  refine (eqIntSS_b _ _ _ _ _ _ _ _ _ ox1.rd ot4.rd).mono ?_
  rintro e w11 ⟨rfl, b11⟩
  have s11 := b11.size
  replace hp := hp.new b11
  replace ht := ht.new b11
  replace or0 := or0.new b11
  replace ox0 := ox0.new b11
  replace ox1 := ox1.new b11
  replace og0 := og0.new b11
  replace ot4 := ot4.new b11
  replace B0 := B0.trans (b11.mono (by omega))
  clear ot4
  go_wp2_with fail
  refine (markIntSS_walk _ _ _ _ _ _ ox0 (by omega) (by omega) (by omega)).mono ?_
  rintro e w12 ⟨rfl, mox0, b12⟩
  have s12 := b12.size
  replace hp := hp.chg b12 (by omega)
  replace ht := ht.chg b12 (by omega)
  replace or0 := or0.chg b12 (by omega)
  replace ox1 := ox1.chg b12 (by omega)
  replace og0 := og0.chg b12 (by omega)
  clear ox0
  have ox0 := mox0; clear mox0
  replace B0 := B0.trans (b12.below (by omega) (by omega))
  go_wp2_with fail
  refine (markIntSS_walk _ _ _ _ _ _ ox1 (by omega) (by omega) (by omega)).mono ?_
  rintro e w13 ⟨rfl, mox1, b13⟩
  have s13 := b13.size
  replace hp := hp.chg b13 (by omega)
  replace ht := ht.chg b13 (by omega)
  replace or0 := or0.chg b13 (by omega)
  replace ox0 := ox0.chg b13 (by omega)
  replace og0 := og0.chg b13 (by omega)
  clear ox1
  have ox1 := mox1; clear mox1
  replace B0 := B0.trans (b13.below (by omega) (by omega))
  go_wp2_with fail
  refine (eqSwitchS_walk _ _ _ _ _ _ _ _ og0.rd or0).mono ?_
  rintro e w14 ⟨rfl, b14⟩
  have s14 := b14.size
  replace hp := hp.new b14
  replace ht := ht.new b14
  replace or0 := or0.new b14
  replace ox0 := ox0.new b14
  replace ox1 := ox1.new b14
  replace og0 := og0.new b14
  replace B0 := B0.trans (b14.mono (by omega))
  go_wp2_with fail
  refine (markSwitchS_walk _ _ _ _ _ _ og0 (by omega) (by omega) (by omega)).mono ?_
  rintro e w15 ⟨rfl, mog0, b15⟩
  have s15 := b15.size
  replace hp := hp.chg b15 (by omega)
  replace ht := ht.chg b15 (by omega)
  replace or0 := or0.chg b15 (by omega)
  replace ox0 := ox0.chg b15 (by omega)
  replace ox1 := ox1.chg b15 (by omega)
  clear og0
  have og0 := mog0; clear mog0
  replace B0 := B0.trans (b15.below (by omega) (by omega))
  go_wp2_with fail
  refine (heldSwitchS_walk _ _ _ _ _ _ og0.rd (by omega) (by omega) (by omega)).mono ?_
  rintro e wx ⟨rfl, rfl⟩
  go_wp2_with fail
  refine (toIntSS_walk _ _ _ _ _ hp HSp.out).mono ?_
  rintro e w16 ⟨t5, rfl, ot5, b16⟩
  have s16 := b16.size
  replace hp := hp.new b16
  replace ht := ht.new b16
  replace or0 := or0.new b16
  replace ox0 := ox0.new b16
  replace ox1 := ox1.new b16
  replace og0 := og0.new b16
  replace B0 := B0.trans (b16.mono (by omega))
  go_wp2_with fail
  refine (toIntSS_walk _ _ _ _ _ ht HSt.out).mono ?_
  rintro e w17 ⟨t6, rfl, ot6, b17⟩
  have s17 := b17.size
  replace hp := hp.new b17
  replace ht := ht.new b17
  replace or0 := or0.new b17
  replace ox0 := ox0.new b17
  replace ox1 := ox1.new b17
  replace og0 := og0.new b17
  replace ot5 := ot5.new b17
  replace B0 := B0.trans (b17.mono (by omega))
  go_wp2_with fail
  refine (impl_PathTo' _ _ _ _ _ _ _ _ _ ot5.rd ot6.rd).mono ?_
  rintro e w18 ⟨h0, rfl, oh0, b18⟩
  have s18 := b18.size
  replace hp := hp.new b18
  replace ht := ht.new b18
  replace or0 := or0.new b18
  replace ox0 := ox0.new b18
  replace ox1 := ox1.new b18
  replace og0 := og0.new b18
  replace ot5 := ot5.new b18
  replace ot6 := ot6.new b18
  replace B0 := B0.trans (b18.mono (by omega))
  clear ot5 ot6
  go_wp2_with fail
  refine (eqSwitchS_walk _ _ _ _ _ _ _ _ oh0.rd or0).mono ?_
  rintro e w19 ⟨rfl, b19⟩
  have s19 := b19.size
  replace hp := hp.new b19
  replace ht := ht.new b19
  replace or0 := or0.new b19
  replace ox0 := ox0.new b19
  replace ox1 := ox1.new b19
  replace og0 := og0.new b19
  replace oh0 := oh0.new b19
  replace B0 := B0.trans (b19.mono (by omega))
  go_wp2_with fail
  refine (heldSwitchS_walk _ _ _ _ _ _ og0.rd (by omega) (by omega) (by omega)).mono ?_
  rintro e wx ⟨rfl, rfl⟩
  go_wp2_with fail
  go_ret
  exact ⟨rfl, B0⟩
end Go.Proofs.Ytpjlgcohafbbdaa
