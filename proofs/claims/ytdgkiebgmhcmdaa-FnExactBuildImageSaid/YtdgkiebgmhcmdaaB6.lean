/- The walk of the law BuildImage. -/
import Derived.Test.YtdgkiebgmhcmdaaProg
import Derived.Test.YtdgkiebgmhcmdaaW1
import Derived.Test.YtdgkiebgmhcmdaaW3
import Derived.Test.YtdgkiebgmhcmdaaW4
import Derived.Test.YtdgkiebgmhcmdaaW6
import Derived.Test.YtdgkiebgmhcmdaaW8
import Derived.Test.YtdgkiebgmhcmdaaW9
import Derived.Test.YtdgkiebgmhcmdaaW10
import Derived.Test.YtdgkiebgmhcmdaaPoke
import Derived.Test.YtdgkiebgmhcmdaaW16
import Derived.Test.YtdgkiebgmhcmdaaW18
import Derived.Test.YtdgkiebgmhcmdaaS3
import Derived.Test.YtdgkiebgmhcmdaaB1
import Derived.Test.YtdgkiebgmhcmdaaB3
import Derived.Test.YtdgkiebgmhcmdaaB4
import Derived.Test.YtdgkiebgmhcmdaaB5
import Derived.Test.YtdgkiebgmhcmdaaMem
import Derived.WalkKit
import Derived.WalkSpells
import Derived.WalkLawsBesides
import Derived.KernelRfl
import Derived.Lib.Hide
namespace Go.Proofs.Ytdgkiebgmhcmdaa
open Go.RowKit
set_option linter.unusedVariables false
set_option linter.unusedSimpArgs false

theorem buildR_total : ∀ (l left : List Int), total (buildR l left) = l.length * left.length
  | [], left => by simp [buildR, total]
  | x :: l, left => by
    have ih := buildR_total l (restR left x.toNat)
    rw [rest_len] at ih
    simp only [buildR, total, List.map_cons, List.sum_cons, List.length_cons, fill_len] at ih ⊢
    rw [ih, Nat.add_mul, Nat.one_mul, Nat.add_comm]
theorem builtR_total (rows cols : List Int) : total (builtR rows cols) ≤ 25 := by
  unfold builtR
  split
  · rename_i h
    obtain ⟨_, l2, _, l4, _⟩ := existsR_in h
    rw [buildR_total]
    exact Nat.mul_le_mul l2 l4
  · simp [total]

set_option maxRecDepth 100000 in
set_option maxHeartbeats 2000000 in
theorem fnExactBuildImage_walk (vp : Value) (p : List Int) (vq : Value) (q : List Int) (w : World) (hp : RdI w 0 w.heap.size vp p) (hq : RdI w 0 w.heap.size vq q) :
    Calls Try.prog 14 #[vp, vq] w fun e w' => e = .returned (.bool true) ∧ Below w.heap.size w w' := by
  have Er := eqG_self (builtR p q)
  have Hr := heldG_mark (builtR p q) 1
  have lr : total (builtR p q) ≤ 25 := builtR_total _ _
  have eb : ((existsR p q) != (existsR p q)) = false := by simp
  obtain ⟨Ap, cp, rfl, _, _⟩ := hp.form
  obtain ⟨Aq, cq, rfl, _, _⟩ := hq.form
  by_cases ep : (1048576 : Int) < p.length
  · go_enter Try.func14, Try.ntmps14
    go_wp2_with fail
    go_ret
    exact ⟨rfl, Below.refl _ _⟩
  have lp := len20' ep
  by_cases eq : (1048576 : Int) < q.length
  · go_enter Try.func14, Try.ntmps14
    go_wp2_with fail
    go_ret
    exact ⟨rfl, Below.refl _ _⟩
  have lq := len20' eq
  have Ep := eqI_self p
  have Eq := eqI_self q
  go_enter Try.func14, Try.ntmps14
  have B0 : Below w.heap.size w w := Below.refl _ _
  go_wp2_with fail
  refine (toIntS_walk _ _ _ _ _ hp lp).mono ?_
  rintro e w1 ⟨t1, rfl, ot1, b1⟩
  have s1 := b1.size
  replace hp := hp.new b1
  replace hq := hq.new b1
  replace B0 := B0.trans (b1.mono (by omega))
  go_wp2_with fail
  refine (toIntS_walk _ _ _ _ _ hq lq).mono ?_
  rintro e w2 ⟨t2, rfl, ot2, b2⟩
  have s2 := b2.size
  replace hp := hp.new b2
  replace hq := hq.new b2
  replace ot1 := ot1.new b2
  replace B0 := B0.trans (b2.mono (by omega))
  go_wp2_with fail
  refine (spec_BuildImage _ _ _ _ _ _ _ _ _ ot1.rdI ot2.rdI).mono ?_
  rintro e w3 ⟨r0, rfl, or0, b3⟩
  have s3 := b3.size
  replace hp := hp.new b3
  replace hq := hq.new b3
  replace ot1 := ot1.new b3
  replace ot2 := ot2.new b3
  replace B0 := B0.trans (b3.mono (by omega))
  clear ot1 ot2
  go_wp2_with fail
  refine (toIntS_walk _ _ _ _ _ hp lp).mono ?_
  rintro e w4 ⟨x0, rfl, ox0, b4⟩
  have s4 := b4.size
  replace hp := hp.new b4
  replace hq := hq.new b4
  replace or0 := or0.new b4
  replace B0 := B0.trans (b4.mono (by omega))
  go_wp2_with fail
  refine (toIntS_walk _ _ _ _ _ hq lq).mono ?_
  rintro e w5 ⟨x1, rfl, ox1, b5⟩
  have s5 := b5.size
  replace hp := hp.new b5
  replace hq := hq.new b5
  replace or0 := or0.new b5
  replace ox0 := ox0.new b5
  replace B0 := B0.trans (b5.mono (by omega))
  go_wp2_with fail
  refine (impl_BuildImage _ _ _ _ _ _ _ _ _ ox0.rdI ox1.rdI).mono ?_
  rintro e w6 ⟨g0, rfl, og0, b6⟩
  have s6 := b6.size
  replace hp := hp.new b6
  replace hq := hq.new b6
  replace or0 := or0.new b6
  replace ox0 := ox0.new b6
  replace ox1 := ox1.new b6
  replace B0 := B0.trans (b6.mono (by omega))
  go_wp2_with fail
  refine (eqIntSS_b _ _ _ _ _ _ _ _ _ og0.rd or0.rd).mono ?_
  rintro e w7 ⟨rfl, b7⟩
  have s7 := b7.size
  replace hp := hp.new b7
  replace hq := hq.new b7
  replace or0 := or0.new b7
  replace ox0 := ox0.new b7
  replace ox1 := ox1.new b7
  replace og0 := og0.new b7
  replace B0 := B0.trans (b7.mono (by omega))
  go_wp2_with fail
  refine (toIntS_walk _ _ _ _ _ hp lp).mono ?_
  rintro e w8 ⟨t3, rfl, ot3, b8⟩
  have s8 := b8.size
  replace hp := hp.new b8
  replace hq := hq.new b8
  replace or0 := or0.new b8
  replace ox0 := ox0.new b8
  replace ox1 := ox1.new b8
  replace og0 := og0.new b8
  replace B0 := B0.trans (b8.mono (by omega))
  go_wp2_with fail
  refine (eqIntS_b _ _ _ _ _ _ _ _ _ ox0.rdI ot3.rdI).mono ?_
  rintro e w9 ⟨rfl, b9⟩
  have s9 := b9.size
  replace hp := hp.new b9
  replace hq := hq.new b9
  replace or0 := or0.new b9
  replace ox0 := ox0.new b9
  replace ox1 := ox1.new b9
  replace og0 := og0.new b9
  replace ot3 := ot3.new b9
  replace B0 := B0.trans (b9.mono (by omega))
  clear ot3
  go_wp2_with fail
  refine (toIntS_walk _ _ _ _ _ hq lq).mono ?_
  rintro e w10 ⟨t4, rfl, ot4, b10⟩
  have s10 := b10.size
  replace hp := hp.new b10
  replace hq := hq.new b10
  replace or0 := or0.new b10
  replace ox0 := ox0.new b10
  replace ox1 := ox1.new b10
  replace og0 := og0.new b10
  replace B0 := B0.trans (b10.mono (by omega))
  go_wp2_with fail
  refine (eqIntS_b _ _ _ _ _ _ _ _ _ ox1.rdI ot4.rdI).mono ?_
  rintro e w11 ⟨rfl, b11⟩
  have s11 := b11.size
  replace hp := hp.new b11
  replace hq := hq.new b11
  replace or0 := or0.new b11
  replace ox0 := ox0.new b11
  replace ox1 := ox1.new b11
  replace og0 := og0.new b11
  replace ot4 := ot4.new b11
  replace B0 := B0.trans (b11.mono (by omega))
  clear ot4
  go_wp2_with fail
  refine (markIntS_c _ _ _ _ _ _ ox0 (by omega) (by omega) (by omega)).mono ?_
  rintro e w12 ⟨rfl, mox0, b12⟩
  have s12 := b12.size
  replace hp := hp.chg b12 (by omega)
  replace hq := hq.chg b12 (by omega)
  replace or0 := or0.chg b12 (by omega)
  replace ox1 := ox1.chg b12 (by omega)
  replace og0 := og0.chg b12 (by omega)
  clear ox0
  have ox0 := mox0; clear mox0
  replace B0 := B0.trans (b12.below (by omega) (by omega))
  go_wp2_with fail
  refine (markIntS_c _ _ _ _ _ _ ox1 (by omega) (by omega) (by omega)).mono ?_
  rintro e w13 ⟨rfl, mox1, b13⟩
  have s13 := b13.size
  replace hp := hp.chg b13 (by omega)
  replace hq := hq.chg b13 (by omega)
  replace or0 := or0.chg b13 (by omega)
  replace ox0 := ox0.chg b13 (by omega)
  replace og0 := og0.chg b13 (by omega)
  clear ox1
  have ox1 := mox1; clear mox1
  replace B0 := B0.trans (b13.below (by omega) (by omega))
  go_wp2_with fail
  refine (eqIntSS_b _ _ _ _ _ _ _ _ _ og0.rd or0.rd).mono ?_
  rintro e w14 ⟨rfl, b14⟩
  have s14 := b14.size
  replace hp := hp.new b14
  replace hq := hq.new b14
  replace or0 := or0.new b14
  replace ox0 := ox0.new b14
  replace ox1 := ox1.new b14
  replace og0 := og0.new b14
  replace B0 := B0.trans (b14.mono (by omega))
  go_wp2_with fail
  refine (markIntSS_walk _ _ _ _ _ _ og0 (by omega) (by omega) (by omega)).mono ?_
  rintro e w15 ⟨rfl, mog0, b15⟩
  have s15 := b15.size
  replace hp := hp.chg b15 (by omega)
  replace hq := hq.chg b15 (by omega)
  replace or0 := or0.chg b15 (by omega)
  replace ox0 := ox0.chg b15 (by omega)
  replace ox1 := ox1.chg b15 (by omega)
  clear og0
  have og0 := mog0; clear mog0
  replace B0 := B0.trans (b15.below (by omega) (by omega))
  go_wp2_with fail
  refine (heldIntSS_walk _ _ _ _ _ _ og0.rd (by rw [markG_total]; omega) (by omega) (by omega)).mono ?_
  rintro e wx ⟨rfl, rfl⟩
  go_wp2_with fail
  refine (toIntS_walk _ _ _ _ _ hp lp).mono ?_
  rintro e w16 ⟨t5, rfl, ot5, b16⟩
  have s16 := b16.size
  replace hp := hp.new b16
  replace hq := hq.new b16
  replace or0 := or0.new b16
  replace ox0 := ox0.new b16
  replace ox1 := ox1.new b16
  replace og0 := og0.new b16
  replace B0 := B0.trans (b16.mono (by omega))
  go_wp2_with fail
  refine (toIntS_walk _ _ _ _ _ hq lq).mono ?_
  rintro e w17 ⟨t6, rfl, ot6, b17⟩
  have s17 := b17.size
  replace hp := hp.new b17
  replace hq := hq.new b17
  replace or0 := or0.new b17
  replace ox0 := ox0.new b17
  replace ox1 := ox1.new b17
  replace og0 := og0.new b17
  replace ot5 := ot5.new b17
  replace B0 := B0.trans (b17.mono (by omega))
  go_wp2_with fail
  refine (impl_BuildImage _ _ _ _ _ _ _ _ _ ot5.rdI ot6.rdI).mono ?_
  rintro e w18 ⟨h0, rfl, oh0, b18⟩
  have s18 := b18.size
  replace hp := hp.new b18
  replace hq := hq.new b18
  replace or0 := or0.new b18
  replace ox0 := ox0.new b18
  replace ox1 := ox1.new b18
  replace og0 := og0.new b18
  replace ot5 := ot5.new b18
  replace ot6 := ot6.new b18
  replace B0 := B0.trans (b18.mono (by omega))
  go_wp2_with fail
  refine (eqIntSS_b _ _ _ _ _ _ _ _ _ oh0.rd or0.rd).mono ?_
  rintro e w19 ⟨rfl, b19⟩
  have s19 := b19.size
  replace hp := hp.new b19
  replace hq := hq.new b19
  replace or0 := or0.new b19
  replace ox0 := ox0.new b19
  replace ox1 := ox1.new b19
  replace og0 := og0.new b19
  replace ot5 := ot5.new b19
  replace ot6 := ot6.new b19
  replace oh0 := oh0.new b19
  replace B0 := B0.trans (b19.mono (by omega))
  go_wp2_with fail
  refine (heldIntSS_walk _ _ _ _ _ _ og0.rd (by rw [markG_total]; omega) (by omega) (by omega)).mono ?_
  rintro e wx ⟨rfl, rfl⟩
  go_wp2_with fail
  go_ret
  exact ⟨rfl, B0⟩
end Go.Proofs.Ytdgkiebgmhcmdaa
