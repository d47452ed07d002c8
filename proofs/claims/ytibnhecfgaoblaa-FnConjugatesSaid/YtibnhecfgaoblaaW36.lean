/- Walks: IsUnique; its law. -/
import Derived.Test.YtibnhecfgaoblaaProg
import Derived.Test.YtibnhecfgaoblaaW1
import Derived.Test.YtibnhecfgaoblaaW3
import Derived.Test.YtibnhecfgaoblaaW4
import Derived.Test.YtibnhecfgaoblaaW6
import Derived.Test.YtibnhecfgaoblaaW8
import Derived.Test.YtibnhecfgaoblaaW9
import Derived.Test.YtibnhecfgaoblaaW10
import Derived.Test.YtibnhecfgaoblaaW14
import Derived.Test.YtibnhecfgaoblaaW21
import Derived.Test.YtibnhecfgaoblaaW30
import Derived.Test.YtibnhecfgaoblaaSw
import Derived.Test.YtibnhecfgaoblaaPoke
import Derived.Test.YtibnhecfgaoblaaMem
import Derived.WalkKit
import Derived.WalkSpells
import Derived.WalkLawsBesides
import Derived.KernelRfl
import Derived.Lib.Hide
namespace Go.Proofs.Ytibnhecfgaoblaa
open Go.RowKit
set_option linter.unusedVariables false
set_option linter.unusedSimpArgs false

def uniqF (g : List (List Int)) : Bool := imgOk g && decide ((swsR g).length = 0)
theorem uniq_no {g : List (List Int)} (h : imgOk g = false) : uniqF g = false := by simp [uniqF, h]
theorem uniq_some {g : List (List Int)} (h : ¬ (swsR g).length = 0) : uniqF g = false := by simp [uniqF, h]
theorem uniq_yes {g : List (List Int)} (h : imgOk g = true) (h2 : (swsR g).length = 0) : uniqF g = true := by simp [uniqF, h, h2]

set_option maxRecDepth 100000 in
set_option maxHeartbeats 1000000 in
theorem impl_IsUnique (g : List (List Int)) (v : Value) (w : World) (a b : Nat) (hr : RdG w a b v g) :
    Calls Try.prog 29 #[v] w fun e w' => e = .returned (.bool (uniqF g)) ∧ Below w.heap.size w w' := by
  obtain ⟨A, c, rfl, h1, h2⟩ := hr.form
  by_cases g1 : imgOk g = true
  rotate_left
  · have g2 : imgOk g = false := by simpa using g1
    have GD := Lib.hid (uniq_no g2)
    clear g1
    go_enter Try.func29, Try.ntmps29
    go_wp2_with (go_at_call 46; refine (impl_ImageOk g _ _ _ _ hr).mono ?_; rintro e w1 ⟨rfl, rfl⟩)
    go_ret
    exact ⟨ret_bool GD.out.symm, Below.refl _ _⟩
  have G1 := Lib.hid g1
  by_cases g2 : (swsR g).length = 0
  · have GD := Lib.hid (uniq_yes g1 g2)
    have G2 := Lib.hid g2; clear g2
    go_enter Try.func29, Try.ntmps29
    go_wp2_with fail
    refine (impl_ImageOk g _ _ _ _ hr).mono ?_
    rintro e w1 ⟨rfl, rfl⟩
    go_wp2_with fail
    refine (impl_SwitchesOf g _ _ _ _ hr).mono ?_
    rintro e w1 ⟨u, rfl, ho, hb⟩
    obtain ⟨A', c', rfl, q1, q2⟩ := ho.form'
    rw [G2.out] at q1 ⊢
    clear ho
    go_wp2_with fail
    go_ret
    exact ⟨ret_bool GD.out.symm, hb⟩
  · have GD := Lib.hid (uniq_some g2)
    obtain ⟨m, hm⟩ : ∃ m, (swsR g).length = m := ⟨_, rfl⟩
    have e1 : ((m : Int) == 0) = false := by simp; omega
    have G2 := Lib.hid hm; clear hm g2
    go_enter Try.func29, Try.ntmps29
    go_wp2_with fail
    refine (impl_ImageOk g _ _ _ _ hr).mono ?_
    rintro e w1 ⟨rfl, rfl⟩
    go_wp2_with fail
    refine (impl_SwitchesOf g _ _ _ _ hr).mono ?_
    rintro e w1 ⟨u, rfl, ho, hb⟩
    obtain ⟨A', c', rfl, q1, q2⟩ := ho.form'
    rw [G2.out] at q1 ⊢
    clear ho
    go_wp2_with fail
    go_ret
    exact ⟨ret_bool GD.out.symm, hb⟩

set_option maxRecDepth 100000 in
set_option maxHeartbeats 1000000 in
theorem spec_IsUnique (g : List (List Int)) (v : Value) (w : World) (a b : Nat) (hr : RdG w a b v g) :
    Calls Try.prog 31 #[v] w fun e w' => e = .returned (.bool (uniqF g)) ∧ Below w.heap.size w w' := by
  obtain ⟨A, c, rfl, h1, h2⟩ := hr.form
  by_cases g1 : imgOk g = true
  rotate_left
  · have g2 : imgOk g = false := by simpa using g1
    have GD := Lib.hid (uniq_no g2)
    clear g1
    go_enter Try.func31, Try.ntmps31
    go_wp2_with (go_at_call 59; refine (spec_ImageOk g _ _ _ _ hr).mono ?_; rintro e w1 ⟨rfl, rfl⟩)
    go_ret
    exact ⟨ret_bool GD.out.symm, Below.refl _ _⟩
  have G1 := Lib.hid g1
  by_cases g2 : (swsR g).length = 0
  · have GD := Lib.hid (uniq_yes g1 g2)
    have G2 := Lib.hid g2; clear g2
    go_enter Try.func31, Try.ntmps31
    go_wp2_with fail
    refine (spec_ImageOk g _ _ _ _ hr).mono ?_
    rintro e w1 ⟨rfl, rfl⟩
    go_wp2_with fail
    refine (spec_SwitchesOf g _ _ _ _ hr).mono ?_
    rintro e w1 ⟨u, rfl, ho, hb⟩
    obtain ⟨A', c', rfl, q1, q2⟩ := ho.form'
    rw [G2.out] at q1 ⊢
    clear ho
    go_wp2_with fail
    go_ret
    exact ⟨ret_bool GD.out.symm, hb⟩
  · have GD := Lib.hid (uniq_some g2)
    obtain ⟨m, hm⟩ : ∃ m, (swsR g).length = m := ⟨_, rfl⟩
    have e1 : ((m : Int) == 0) = false := by simp; omega
    have G2 := Lib.hid hm; clear hm g2
    go_enter Try.func31, Try.ntmps31
    go_wp2_with fail
    refine (spec_ImageOk g _ _ _ _ hr).mono ?_
    rintro e w1 ⟨rfl, rfl⟩
    go_wp2_with fail
    refine (spec_SwitchesOf g _ _ _ _ hr).mono ?_
    rintro e w1 ⟨u, rfl, ho, hb⟩
    obtain ⟨A', c', rfl, q1, q2⟩ := ho.form'
    rw [G2.out] at q1 ⊢
    clear ho
    go_wp2_with fail
    go_ret
    exact ⟨ret_bool GD.out.symm, hb⟩

set_option maxRecDepth 100000 in
set_option maxHeartbeats 2000000 in
theorem fnExactIsUnique_walk (vp : Value) (p : List (List Int)) (w : World) (hp : RdG w 0 w.heap.size vp p) :
    Calls Try.prog 6 #[vp] w fun e w' => e = .returned (.bool true) ∧ Below w.heap.size w w' := by
  obtain ⟨Ap, kp, rfl, _, _⟩ := hp.form
  obtain ⟨qp, hqp⟩ : ∃ q, q = szG p 1048576 := ⟨_, rfl⟩
  have cp := szG_cases p 1048576 (by omega)
  rw [← hqp] at cp
  have Hqp := Lib.hid hqp; clear hqp
  rcases cp with cp | ⟨cp, dp, Shp⟩
  · have np : qp < 0 := by omega
    clear cp
    go_enter Try.func6, Try.ntmps6
    go_wp2_with fail
    refine (szIntSS_walk _ _ _ _ _ _ hp (by omega) (by omega)).mono ?_
    rw [← Hqp.out]
    rintro e wx ⟨rfl, rfl⟩
    go_wp2_with fail
    go_ret
    exact ⟨rfl, Below.refl _ _⟩
  have np : ¬ qp < 0 := by omega
  have HSp := Lib.hid Shp; clear Shp
  have Ep := eqG_self p
  go_enter Try.func6, Try.ntmps6
  have B0 : Below w.heap.size w w := Below.refl _ _
  go_wp2_with fail
  refine (szIntSS_walk _ _ _ _ _ _ hp (by omega) (by omega)).mono ?_
  rw [← Hqp.out]
  rintro e wx ⟨rfl, rfl⟩
  go_wp2_with fail
  refine (toIntSS_walk _ _ _ _ _ hp HSp.out).mono ?_
  rintro e w1 ⟨t0, rfl, ot0, b1⟩
  have s1 := b1.size
  replace hp := hp.new b1
  replace B0 := B0.trans (b1.mono (by omega))
  go_wp2_with fail
  refine (spec_IsUnique _ _ _ _ _ ot0.rd).mono ?_
  rintro e w2 ⟨rfl, b2⟩
  have s2 := b2.size
  replace hp := hp.new b2
  replace ot0 := ot0.new b2
  replace B0 := B0.trans (b2.mono (by omega))
  clear ot0
  go_wp2_with fail
  refine (toIntSS_walk _ _ _ _ _ hp HSp.out).mono ?_
  rintro e w3 ⟨x0, rfl, ox0, b3⟩
  have s3 := b3.size
  replace hp := hp.new b3
  replace B0 := B0.trans (b3.mono (by omega))
  go_wp2_with fail
  refine (impl_IsUnique _ _ _ _ _ ox0.rd).mono ?_
  rintro e w4 ⟨rfl, b4⟩
  have s4 := b4.size
  replace hp := hp.new b4
  replace ox0 := ox0.new b4
  replace B0 := B0.trans (b4.mono (by omega))
  go_wp2_with fail
  refine (toIntSS_walk _ _ _ _ _ hp HSp.out).mono ?_
  rintro e w5 ⟨c0, rfl, oc0, b5⟩
  have s5 := b5.size
  replace hp := hp.new b5
  replace ox0 := ox0.new b5
  replace B0 := B0.trans (b5.mono (by omega))
  go_wp2_with fail
  refine (eqIntSS_b _ _ _ _ _ _ _ _ _ ox0.rd oc0.rd).mono ?_
  rintro e w6 ⟨rfl, b6⟩
  have s6 := b6.size
  replace hp := hp.new b6
  replace ox0 := ox0.new b6
  replace oc0 := oc0.new b6
  replace B0 := B0.trans (b6.mono (by omega))
  clear oc0
  go_wp2_with fail
  go_ret
  exact ⟨rfl, B0⟩
end Go.Proofs.Ytibnhecfgaoblaa
