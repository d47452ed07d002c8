/- The walks of the laws SortedDown, WorstColumns, Exists, SlackOf. -/
import Derived.Test.YtaldmbajkhangaaProg
import Derived.Test.YtaldmbajkhangaaW1
import Derived.Test.YtaldmbajkhangaaW3
import Derived.Test.YtaldmbajkhangaaW4
import Derived.Test.YtaldmbajkhangaaS1
import Derived.Test.YtaldmbajkhangaaS2
import Derived.Test.YtaldmbajkhangaaS3
import Derived.Test.YtaldmbajkhangaaS4
import Derived.Test.YtaldmbajkhangaaMem
import Derived.WalkKit
import Derived.WalkSpells
import Derived.WalkLawsBesides
import Derived.KernelRfl
import Derived.Lib.Hide
namespace Go.Proofs.Ytaldmbajkhangaa
open Go.RowKit
set_option linter.unusedVariables false
set_option linter.unusedSimpArgs false

theorem len20s {l : List Int} (h : ¬ (1048576 : Int) < l.length) : l.length ≤ 1048576 := by omega

set_option maxRecDepth 100000 in
set_option maxHeartbeats 2000000 in
theorem fnExactWorstColumns_walk (vp : Value) (p : List Int) (vq : Value) (q : List Int) (w : World) (hp : RdI w 0 w.heap.size vp p) (hq : RdI w 0 w.heap.size vq q) :
    Calls Try.prog 9 #[vp, vq] w fun e w' => e = .returned (.bool true) ∧ Below w.heap.size w w' := by
  have fp := hp.form
  have fq := hq.form
  obtain ⟨Ap, cp, rfl, _, _⟩ := fp
  obtain ⟨Aq, cq, rfl, _, _⟩ := fq
  by_cases ep : (1048576 : Int) < p.length
  · go_enter Try.func9, Try.ntmps9
    go_wp2_with fail
    go_ret
    exact ⟨rfl, Below.refl _ _⟩
  by_cases eq_ : (1048576 : Int) < q.length
  · go_enter Try.func9, Try.ntmps9
    go_wp2_with fail
    go_ret
    exact ⟨rfl, Below.refl _ _⟩
  have lp := len20s ep
  have lq := len20s eq_
  have Ep := eqI_self p
  have Eq_ := eqI_self q
  go_enter Try.func9, Try.ntmps9
  have B0 : Below w.heap.size w w := Below.refl _ _
  go_wp2_with fail
  refine (toIntS_walk _ _ _ _ _ hp lp).mono ?_
  rintro e w1 ⟨t1, rfl, ot1, b1⟩
  have s1 := b1.size
  replace hp := hp.new b1
  replace hq := hq.new b1
  replace B0 := B0.trans (b1.mono (by omega))
  go_wp2_with fail
  refine (toIntS_walk _ _ _ _ _ hq lq).mono ?_
  rintro e w2 ⟨t2, rfl, ot2, b2⟩
  have s2 := b2.size
  replace hp := hp.new b2
  replace hq := hq.new b2
  replace ot1 := ot1.new b2
  replace B0 := B0.trans (b2.mono (by omega))
  go_wp2_with fail
  refine (spec_WorstColumns _ _ _ _ _ _ _ _ _ ot1.rdI ot2.rdI).mono ?_
  rintro e w3 ⟨rfl, b3⟩
  have s3 := b3.size
  replace hp := hp.new b3
  replace hq := hq.new b3
  replace ot1 := ot1.new b3
  replace ot2 := ot2.new b3
  replace B0 := B0.trans (b3.mono (by omega))
  clear ot1 ot2
  go_wp2_with fail
  refine (toIntS_walk _ _ _ _ _ hp lp).mono ?_
  rintro e w4 ⟨x0, rfl, ox0, b4⟩
  have s4 := b4.size
  replace hp := hp.new b4
  replace hq := hq.new b4
  replace B0 := B0.trans (b4.mono (by omega))
  go_wp2_with fail
  refine (toIntS_walk _ _ _ _ _ hq lq).mono ?_
  rintro e w5 ⟨x1, rfl, ox1, b5⟩
  have s5 := b5.size
  replace hp := hp.new b5
  replace hq := hq.new b5
  replace ox0 := ox0.new b5
  replace B0 := B0.trans (b5.mono (by omega))
  go_wp2_with fail
  refine (impl_WorstColumns _ _ _ _ _ _ _ _ _ ox0.rdI ox1.rdI).mono ?_
  rintro e w6 ⟨rfl, b6⟩
  have s6 := b6.size
  replace hp := hp.new b6
  replace hq := hq.new b6
  replace ox0 := ox0.new b6
  replace ox1 := ox1.new b6
  replace B0 := B0.trans (b6.mono (by omega))
  go_wp2_with fail
  refine (toIntS_walk _ _ _ _ _ hp lp).mono ?_
  rintro e w7 ⟨t3, rfl, ot3, b7⟩
  have s7 := b7.size
  replace hp := hp.new b7
  replace hq := hq.new b7
  replace ox0 := ox0.new b7
  replace ox1 := ox1.new b7
  replace B0 := B0.trans (b7.mono (by omega))
  go_wp2_with fail
  refine (eqIntS_b _ _ _ _ _ _ _ _ _ ox0.rdI ot3.rdI).mono ?_
  rintro e w8 ⟨rfl, b8⟩
  have s8 := b8.size
  replace hp := hp.new b8
  replace hq := hq.new b8
  replace ox0 := ox0.new b8
  replace ox1 := ox1.new b8
  replace ot3 := ot3.new b8
  replace B0 := B0.trans (b8.mono (by omega))
  go_wp2_with fail
  refine (toIntS_walk _ _ _ _ _ hq lq).mono ?_
  rintro e w9 ⟨t4, rfl, ot4, b9⟩
  have s9 := b9.size
  replace hp := hp.new b9
  replace hq := hq.new b9
  replace ox0 := ox0.new b9
  replace ox1 := ox1.new b9
  replace ot3 := ot3.new b9
  replace B0 := B0.trans (b9.mono (by omega))
  go_wp2_with fail
  refine (eqIntS_b _ _ _ _ _ _ _ _ _ ox1.rdI ot4.rdI).mono ?_
  rintro e w10 ⟨rfl, b10⟩
  have s10 := b10.size
  replace hp := hp.new b10
  replace hq := hq.new b10
  replace ox0 := ox0.new b10
  replace ox1 := ox1.new b10
  replace ot3 := ot3.new b10
  replace ot4 := ot4.new b10
  replace B0 := B0.trans (b10.mono (by omega))
  go_wp2_with fail
  go_ret
  exact ⟨rfl, B0⟩

set_option maxRecDepth 100000 in
set_option maxHeartbeats 2000000 in
theorem fnExactExists_walk (vp : Value) (p : List Int) (vq : Value) (q : List Int) (w : World) (hp : RdI w 0 w.heap.size vp p) (hq : RdI w 0 w.heap.size vq q) :
    Calls Try.prog 10 #[vp, vq] w fun e w' => e = .returned (.bool true) ∧ Below w.heap.size w w' := by
  have fp := hp.form
  have fq := hq.form
  obtain ⟨Ap, cp, rfl, _, _⟩ := fp
  obtain ⟨Aq, cq, rfl, _, _⟩ := fq
  by_cases ep : (1048576 : Int) < p.length
  · go_enter Try.func10, Try.ntmps10
    go_wp2_with fail
    go_ret
    exact ⟨rfl, Below.refl _ _⟩
  by_cases eq_ : (1048576 : Int) < q.length
  · go_enter Try.func10, Try.ntmps10
    go_wp2_with fail
    go_ret
    exact ⟨rfl, Below.refl _ _⟩
  have lp := len20s ep
  have lq := len20s eq_
  have Ep := eqI_self p
  have Eq_ := eqI_self q
  go_enter Try.func10, Try.ntmps10
  have B0 : Below w.heap.size w w := Below.refl _ _
  go_wp2_with fail
  refine (toIntS_walk _ _ _ _ _ hp lp).mono ?_
  rintro e w1 ⟨t1, rfl, ot1, b1⟩
  have s1 := b1.size
  replace hp := hp.new b1
  replace hq := hq.new b1
  replace B0 := B0.trans (b1.mono (by omega))
  go_wp2_with fail
  refine (toIntS_walk _ _ _ _ _ hq lq).mono ?_
  rintro e w2 ⟨t2, rfl, ot2, b2⟩
  have s2 := b2.size
  replace hp := hp.new b2
  replace hq := hq.new b2
  replace ot1 := ot1.new b2
  replace B0 := B0.trans (b2.mono (by omega))
  go_wp2_with fail
  refine (spec_Exists _ _ _ _ _ _ _ _ _ ot1.rdI ot2.rdI).mono ?_
  rintro e w3 ⟨rfl, b3⟩
  have s3 := b3.size
  replace hp := hp.new b3
  replace hq := hq.new b3
  replace ot1 := ot1.new b3
  replace ot2 := ot2.new b3
  replace B0 := B0.trans (b3.mono (by omega))
  clear ot1 ot2
  go_wp2_with fail
  refine (toIntS_walk _ _ _ _ _ hp lp).mono ?_
  rintro e w4 ⟨x0, rfl, ox0, b4⟩
  have s4 := b4.size
  replace hp := hp.new b4
  replace hq := hq.new b4
  replace B0 := B0.trans (b4.mono (by omega))
  go_wp2_with fail
  refine (toIntS_walk _ _ _ _ _ hq lq).mono ?_
  rintro e w5 ⟨x1, rfl, ox1, b5⟩
  have s5 := b5.size
  replace hp := hp.new b5
  replace hq := hq.new b5
  replace ox0 := ox0.new b5
  replace B0 := B0.trans (b5.mono (by omega))
  go_wp2_with fail
  refine (impl_Exists _ _ _ _ _ _ _ _ _ ox0.rdI ox1.rdI).mono ?_
  rintro e w6 ⟨rfl, b6⟩
  have s6 := b6.size
  replace hp := hp.new b6
  replace hq := hq.new b6
  replace ox0 := ox0.new b6
  replace ox1 := ox1.new b6
  replace B0 := B0.trans (b6.mono (by omega))
  go_wp2_with fail
  refine (toIntS_walk _ _ _ _ _ hp lp).mono ?_
  rintro e w7 ⟨t3, rfl, ot3, b7⟩
  have s7 := b7.size
  replace hp := hp.new b7
  replace hq := hq.new b7
  replace ox0 := ox0.new b7
  replace ox1 := ox1.new b7
  replace B0 := B0.trans (b7.mono (by omega))
  go_wp2_with fail
  refine (eqIntS_b _ _ _ _ _ _ _ _ _ ox0.rdI ot3.rdI).mono ?_
  rintro e w8 ⟨rfl, b8⟩
  have s8 := b8.size
  replace hp := hp.new b8
  replace hq := hq.new b8
  replace ox0 := ox0.new b8
  replace ox1 := ox1.new b8
  replace ot3 := ot3.new b8
  replace B0 := B0.trans (b8.mono (by omega))
  go_wp2_with fail
  refine (toIntS_walk _ _ _ _ _ hq lq).mono ?_
  rintro e w9 ⟨t4, rfl, ot4, b9⟩
  have s9 := b9.size
  replace hp := hp.new b9
  replace hq := hq.new b9
  replace ox0 := ox0.new b9
  replace ox1 := ox1.new b9
  replace ot3 := ot3.new b9
  replace B0 := B0.trans (b9.mono (by omega))
  go_wp2_with fail
  refine (eqIntS_b _ _ _ _ _ _ _ _ _ ox1.rdI ot4.rdI).mono ?_
  rintro e w10 ⟨rfl, b10⟩
  have s10 := b10.size
  replace hp := hp.new b10
  replace hq := hq.new b10
  replace ox0 := ox0.new b10
  replace ox1 := ox1.new b10
  replace ot3 := ot3.new b10
  replace ot4 := ot4.new b10
  replace B0 := B0.trans (b10.mono (by omega))
  go_wp2_with fail
  go_ret
  exact ⟨rfl, B0⟩

set_option maxRecDepth 100000 in
set_option maxHeartbeats 2000000 in
theorem fnExactSlackOf_walk (vp : Value) (p : List Int) (vq : Value) (q : List Int) (w : World) (hp : RdI w 0 w.heap.size vp p) (hq : RdI w 0 w.heap.size vq q) :
    Calls Try.prog 11 #[vp, vq] w fun e w' => e = .returned (.bool true) ∧ Below w.heap.size w w' := by
  have fp := hp.form
  have fq := hq.form
  obtain ⟨Ap, cp, rfl, _, _⟩ := fp
  obtain ⟨Aq, cq, rfl, _, _⟩ := fq
  by_cases ep : (1048576 : Int) < p.length
  · go_enter Try.func11, Try.ntmps11
    go_wp2_with fail
    go_ret
    exact ⟨rfl, Below.refl _ _⟩
  by_cases eq_ : (1048576 : Int) < q.length
  · go_enter Try.func11, Try.ntmps11
    go_wp2_with fail
    go_ret
    exact ⟨rfl, Below.refl _ _⟩
  have lp := len20s ep
  have lq := len20s eq_
  have Ep := eqI_self p
  have Eq_ := eqI_self q
  go_enter Try.func11, Try.ntmps11
  have B0 : Below w.heap.size w w := Below.refl _ _
  go_wp2_with fail
  refine (toIntS_walk _ _ _ _ _ hp lp).mono ?_
  rintro e w1 ⟨t1, rfl, ot1, b1⟩
  have s1 := b1.size
  replace hp := hp.new b1
  replace hq := hq.new b1
  replace B0 := B0.trans (b1.mono (by omega))
  go_wp2_with fail
  refine (toIntS_walk _ _ _ _ _ hq lq).mono ?_
  rintro e w2 ⟨t2, rfl, ot2, b2⟩
  have s2 := b2.size
  replace hp := hp.new b2
  replace hq := hq.new b2
  replace ot1 := ot1.new b2
  replace B0 := B0.trans (b2.mono (by omega))
  go_wp2_with fail
  refine (spec_SlackOf _ _ _ _ _ _ _ _ _ ot1.rdI ot2.rdI).mono ?_
  rintro e w3 ⟨rfl, b3⟩
  have s3 := b3.size
  replace hp := hp.new b3
  replace hq := hq.new b3
  replace ot1 := ot1.new b3
  replace ot2 := ot2.new b3
  replace B0 := B0.trans (b3.mono (by omega))
  clear ot1 ot2
  go_wp2_with fail
  refine (toIntS_walk _ _ _ _ _ hp lp).mono ?_
  rintro e w4 ⟨x0, rfl, ox0, b4⟩
  have s4 := b4.size
  replace hp := hp.new b4
  replace hq := hq.new b4
  replace B0 := B0.trans (b4.mono (by omega))
  go_wp2_with fail
  refine (toIntS_walk _ _ _ _ _ hq lq).mono ?_
  rintro e w5 ⟨x1, rfl, ox1, b5⟩
  have s5 := b5.size
  replace hp := hp.new b5
  replace hq := hq.new b5
  replace ox0 := ox0.new b5
  replace B0 := B0.trans (b5.mono (by omega))
  go_wp2_with fail
  refine (impl_SlackOf _ _ _ _ _ _ _ _ _ ox0.rdI ox1.rdI).mono ?_
  rintro e w6 ⟨rfl, b6⟩
  have s6 := b6.size
  replace hp := hp.new b6
  replace hq := hq.new b6
  replace ox0 := ox0.new b6
  replace ox1 := ox1.new b6
  replace B0 := B0.trans (b6.mono (by omega))
  go_wp2_with fail
  refine (toIntS_walk _ _ _ _ _ hp lp).mono ?_
  rintro e w7 ⟨t3, rfl, ot3, b7⟩
  have s7 := b7.size
  replace hp := hp.new b7
  replace hq := hq.new b7
  replace ox0 := ox0.new b7
  replace ox1 := ox1.new b7
  replace B0 := B0.trans (b7.mono (by omega))
  go_wp2_with fail
  refine (eqIntS_b _ _ _ _ _ _ _ _ _ ox0.rdI ot3.rdI).mono ?_
  rintro e w8 ⟨rfl, b8⟩
  have s8 := b8.size
  replace hp := hp.new b8
  replace hq := hq.new b8
  replace ox0 := ox0.new b8
  replace ox1 := ox1.new b8
  replace ot3 := ot3.new b8
  replace B0 := B0.trans (b8.mono (by omega))
  go_wp2_with fail
  refine (toIntS_walk _ _ _ _ _ hq lq).mono ?_
  rintro e w9 ⟨t4, rfl, ot4, b9⟩
  have s9 := b9.size
  replace hp := hp.new b9
  replace hq := hq.new b9
  replace ox0 := ox0.new b9
  replace ox1 := ox1.new b9
  replace ot3 := ot3.new b9
  replace B0 := B0.trans (b9.mono (by omega))
  go_wp2_with fail
  refine (eqIntS_b _ _ _ _ _ _ _ _ _ ox1.rdI ot4.rdI).mono ?_
  rintro e w10 ⟨rfl, b10⟩
  have s10 := b10.size
  replace hp := hp.new b10
  replace hq := hq.new b10
  replace ox0 := ox0.new b10
  replace ox1 := ox1.new b10
  replace ot3 := ot3.new b10
  replace ot4 := ot4.new b10
  replace B0 := B0.trans (b10.mono (by omega))
  go_wp2_with fail
  go_ret
  exact ⟨rfl, B0⟩

set_option maxRecDepth 100000 in
set_option maxHeartbeats 2000000 in
theorem fnExactSortedDown_walk (vp : Value) (p : List Int) (w : World) (hp : RdI w 0 w.heap.size vp p) :
    Calls Try.prog 6 #[vp] w fun e w' => e = .returned (.bool true) ∧ Below w.heap.size w w' := by
  obtain ⟨Ap, cp, rfl, _, _⟩ := hp.form
  by_cases ep : (1048576 : Int) < p.length
  · go_enter Try.func6, Try.ntmps6
    go_wp2_with fail
    go_ret
    exact ⟨rfl, Below.refl _ _⟩
  have lp := len20s ep
  have Ep := eqI_self p
  have lr : (sortD p).length ≤ 1048576 := by rw [sortD_len]; exact lp
  have Er := eqI_self (sortD p)
  have Hr := heldF_mark (sortD p).length 1
  go_enter Try.func6, Try.ntmps6
  have B0 : Below w.heap.size w w := Below.refl _ _
  go_wp2_with fail
  refine (toIntS_walk _ _ _ _ _ hp lp).mono ?_
  rintro e w1 ⟨t1, rfl, ot1, b1⟩
  have s1 := b1.size
  replace hp := hp.new b1
  replace B0 := B0.trans (b1.mono (by omega))
  go_wp2_with fail
  refine (spec_SortedDown _ _ _ _ _ ot1.rdI lp).mono ?_
  rintro e w2 ⟨r0, rfl, or0, b2⟩
  have s2 := b2.size
  replace hp := hp.new b2
  replace ot1 := ot1.new b2
  replace B0 := B0.trans (b2.mono (by omega))
  clear ot1
  go_wp2_with fail
  refine (toIntS_walk _ _ _ _ _ hp lp).mono ?_
  rintro e w3 ⟨x0, rfl, ox0, b3⟩
  have s3 := b3.size
  replace hp := hp.new b3
  replace or0 := or0.new b3
  replace B0 := B0.trans (b3.mono (by omega))
  go_wp2_with fail
  refine (impl_SortedDown _ _ _ _ _ ox0.rdI lp).mono ?_
  rintro e w4 ⟨g0, rfl, og0, b4⟩
  have s4 := b4.size
  replace hp := hp.new b4
  replace or0 := or0.new b4
  replace ox0 := ox0.new b4
  replace B0 := B0.trans (b4.mono (by omega))
  go_wp2_with fail
  refine (eqIntS_b _ _ _ _ _ _ _ _ _ og0.rdI or0.rdI).mono ?_
  rintro e w5 ⟨rfl, b5⟩
  have s5 := b5.size
  replace hp := hp.new b5
  replace or0 := or0.new b5
  replace ox0 := ox0.new b5
  replace og0 := og0.new b5
  replace B0 := B0.trans (b5.mono (by omega))
  go_wp2_with fail
  refine (toIntS_walk _ _ _ _ _ hp lp).mono ?_
  rintro e w6 ⟨t3, rfl, ot3, b6⟩
  have s6 := b6.size
  replace hp := hp.new b6
  replace or0 := or0.new b6
  replace ox0 := ox0.new b6
  replace og0 := og0.new b6
  replace B0 := B0.trans (b6.mono (by omega))
  go_wp2_with fail
  refine (eqIntS_b _ _ _ _ _ _ _ _ _ ox0.rdI ot3.rdI).mono ?_
  rintro e w7 ⟨rfl, b7⟩
  have s7 := b7.size
  replace hp := hp.new b7
  replace or0 := or0.new b7
  replace ox0 := ox0.new b7
  replace og0 := og0.new b7
  replace ot3 := ot3.new b7
  replace B0 := B0.trans (b7.mono (by omega))
  clear ot3
  go_wp2_with fail
  refine (markIntS_c _ _ _ _ _ _ ox0 (by omega) (by omega) (by omega)).mono ?_
  rintro e w8 ⟨rfl, mox0, b8⟩
  have s8 := b8.size
  replace hp := hp.chg b8 (by omega)
  replace or0 := or0.chg b8 (by omega)
  replace og0 := og0.chg b8 (by omega)
  clear ox0
  have ox0 := mox0; clear mox0
  replace B0 := B0.trans (b8.below (by omega) (by omega))
  go_wp2_with fail
  refine (eqIntS_b _ _ _ _ _ _ _ _ _ og0.rdI or0.rdI).mono ?_
  rintro e w9 ⟨rfl, b9⟩
  have s9 := b9.size
  replace hp := hp.new b9
  replace or0 := or0.new b9
  replace ox0 := ox0.new b9
  replace og0 := og0.new b9
  replace B0 := B0.trans (b9.mono (by omega))
  go_wp2_with fail
  refine (markIntS_c _ _ _ _ _ _ og0 (by omega) (by omega) (by omega)).mono ?_
  rintro e w10 ⟨rfl, mog0, b10⟩
  have s10 := b10.size
  replace hp := hp.chg b10 (by omega)
  replace or0 := or0.chg b10 (by omega)
  replace ox0 := ox0.chg b10 (by omega)
  clear og0
  have og0 := mog0; clear mog0
  replace B0 := B0.trans (b10.below (by omega) (by omega))
  go_wp2_with fail
  refine (heldIntS_walk _ _ _ _ _ _ og0.rdI (by rw [markL_len]; omega) (by omega) (by omega)).mono ?_
  rintro e wx ⟨rfl, rfl⟩
  go_wp2_with fail
  refine (toIntS_walk _ _ _ _ _ hp lp).mono ?_
  rintro e w11 ⟨t5, rfl, ot5, b11⟩
  have s11 := b11.size
  replace hp := hp.new b11
  replace or0 := or0.new b11
  replace ox0 := ox0.new b11
  replace og0 := og0.new b11
  replace B0 := B0.trans (b11.mono (by omega))
  go_wp2_with fail
  refine (impl_SortedDown _ _ _ _ _ ot5.rdI lp).mono ?_
  rintro e w12 ⟨h0, rfl, oh0, b12⟩
  have s12 := b12.size
  replace hp := hp.new b12
  replace or0 := or0.new b12
  replace ox0 := ox0.new b12
  replace og0 := og0.new b12
  replace ot5 := ot5.new b12
  replace B0 := B0.trans (b12.mono (by omega))
  go_wp2_with fail
  refine (eqIntS_b _ _ _ _ _ _ _ _ _ oh0.rdI or0.rdI).mono ?_
  rintro e w13 ⟨rfl, b13⟩
  have s13 := b13.size
  replace hp := hp.new b13
  replace or0 := or0.new b13
  replace ox0 := ox0.new b13
  replace og0 := og0.new b13
  replace ot5 := ot5.new b13
  replace oh0 := oh0.new b13
  replace B0 := B0.trans (b13.mono (by omega))
  go_wp2_with fail
  refine (heldIntS_walk _ _ _ _ _ _ og0.rdI (by rw [markL_len]; omega) (by omega) (by omega)).mono ?_
  rintro e wx ⟨rfl, rfl⟩
  go_wp2_with fail
  go_ret
  exact ⟨rfl, B0⟩
end Go.Proofs.Ytaldmbajkhangaa
