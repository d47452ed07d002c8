/- The walks of the laws SameImage, IsStaircase. -/
import Derived.Test.YtkhhbkchaellaaaProg
import Derived.Test.YtkhhbkchaellaaaW1
import Derived.Test.YtkhhbkchaellaaaW3
import Derived.Test.YtkhhbkchaellaaaW4
import Derived.Test.YtkhhbkchaellaaaW6
import Derived.Test.YtkhhbkchaellaaaW8
import Derived.Test.YtkhhbkchaellaaaW9
import Derived.Test.YtkhhbkchaellaaaW10
import Derived.Test.YtkhhbkchaellaaaW11
import Derived.Test.YtkhhbkchaellaaaW12
import Derived.Test.YtkhhbkchaellaaaMem
import Derived.WalkKit
import Derived.WalkSpells
import Derived.WalkLawsBesides
import Derived.KernelRfl
import Derived.Lib.Hide
namespace Go.Proofs.Ytkhhbkchaellaaa
open Go.RowKit
set_option linter.unusedVariables false
set_option linter.unusedSimpArgs false

theorem calm {P : Program} {f : FuncId} {args : Array Value} {w : World} {v : Value} (h : Calls P f args w fun e w' => e = .returned v ∧ Drew w w') : Calls P f args w fun e w' => e = .returned v ∧ Below w.heap.size w w' :=
  h.mono fun _ _ ⟨h1, h2⟩ => ⟨h1, h2.below _⟩

set_option maxRecDepth 100000 in
set_option maxHeartbeats 2000000 in
theorem fnExactSameImage_walk (vpa : Value) (pa : List (List Int)) (vpb : Value) (pb : List (List Int)) (w : World) (hpa : RdG w 0 w.heap.size vpa pa) (hpb : RdG w 0 w.heap.size vpb pb) :
    Calls Try.prog 5 #[vpa, vpb] w fun e w' => e = .returned (.bool true) ∧ Below w.heap.size w w' := by
  obtain ⟨Apa, kpa, rfl, _, _⟩ := hpa.form
  obtain ⟨Apb, kpb, rfl, _, _⟩ := hpb.form
  obtain ⟨qpa, hqpa⟩ : ∃ q, q = szG pa 1048576 := ⟨_, rfl⟩
  have cpa := szG_cases pa 1048576 (by omega)
  rw [← hqpa] at cpa
  have Hqpa := Lib.hid hqpa; clear hqpa
  rcases cpa with cpa | ⟨cpa, dpa, Shpa⟩
  · have npa : qpa < 0 := by omega
    clear cpa
    go_enter Try.func5, Try.ntmps5
    go_wp2_with fail
    refine (szIntSS_walk _ _ _ _ _ _ hpa (by omega) (by omega)).mono ?_
    rw [← Hqpa.out]
    rintro e wx ⟨rfl, rfl⟩
    go_wp2_with fail
    go_ret
    exact ⟨rfl, Below.refl _ _⟩
  have npa : ¬ qpa < 0 := by omega
  have HSpa := Lib.hid Shpa; clear Shpa
  obtain ⟨qpb, hqpb⟩ : ∃ q, q = szG pb qpa := ⟨_, rfl⟩
  have cpb := szG_cases pb qpa (by omega)
  rw [← hqpb] at cpb
  have Hqpb := Lib.hid hqpb; clear hqpb
  rcases cpb with cpb | ⟨cpb, dpb, Shpb⟩
  · have npb : qpb < 0 := by omega
    clear cpb
    go_enter Try.func5, Try.ntmps5
    go_wp2_with fail
    refine (szIntSS_walk _ _ _ _ _ _ hpa (by omega) (by omega)).mono ?_
    rw [← Hqpa.out]
    rintro e wx ⟨rfl, rfl⟩
    go_wp2_with fail
    refine (szIntSS_walk _ _ _ _ _ _ hpb (by omega) (by omega)).mono ?_
    rw [← Hqpb.out]
    rintro e wx ⟨rfl, rfl⟩
    go_wp2_with fail
    go_ret
    exact ⟨rfl, Below.refl _ _⟩
  have npb : ¬ qpb < 0 := by omega
  have HSpb := Lib.hid Shpb; clear Shpb
  have Epa := eqG_self pa
  have Epb := eqG_self pb
  go_enter Try.func5, Try.ntmps5
  have B0 : Below w.heap.size w w := Below.refl _ _
  go_wp2_with fail
  refine (szIntSS_walk _ _ _ _ _ _ hpa (by omega) (by omega)).mono ?_
  rw [← Hqpa.out]
  rintro e wx ⟨rfl, rfl⟩
  go_wp2_with fail
  refine (szIntSS_walk _ _ _ _ _ _ hpb (by omega) (by omega)).mono ?_
  rw [← Hqpb.out]
  rintro e wx ⟨rfl, rfl⟩
  go_wp2_with fail
  refine (toIntSS_walk _ _ _ _ _ hpa HSpa.out).mono ?_
  rintro e w1 ⟨t0, rfl, ot0, b1⟩
  have s1 := b1.size
  replace hpa := hpa.new b1
  replace hpb := hpb.new b1
  replace B0 := B0.trans (b1.mono (by omega))
  go_wp2_with fail
  refine (toIntSS_walk _ _ _ _ _ hpb HSpb.out).mono ?_
  rintro e w2 ⟨t1, rfl, ot1, b2⟩
  have s2 := b2.size
  replace hpa := hpa.new b2
  replace hpb := hpb.new b2
  replace ot0 := ot0.new b2
  replace B0 := B0.trans (b2.mono (by omega))
  go_wp2_with fail
  refine (spec_SameImage _ _ _ _ _ _ _ _ _ ot0.rd ot1.rd).mono ?_
  rintro e wx ⟨rfl, rfl⟩
  clear ot0 ot1
  go_wp2_with fail
  refine (toIntSS_walk _ _ _ _ _ hpa HSpa.out).mono ?_
  rintro e w3 ⟨x0, rfl, ox0, b3⟩
  have s3 := b3.size
  replace hpa := hpa.new b3
  replace hpb := hpb.new b3
  replace B0 := B0.trans (b3.mono (by omega))
  go_wp2_with fail
  refine (toIntSS_walk _ _ _ _ _ hpb HSpb.out).mono ?_
  rintro e w4 ⟨x1, rfl, ox1, b4⟩
  have s4 := b4.size
  replace hpa := hpa.new b4
  replace hpb := hpb.new b4
  replace ox0 := ox0.new b4
  replace B0 := B0.trans (b4.mono (by omega))
  go_wp2_with fail
  refine (calm (impl_SameImage _ _ _ _ _ _ _ _ _ ox0.rd ox1.rd)).mono ?_
  rintro e w5 ⟨rfl, b5⟩
  have s5 := b5.size
  replace hpa := hpa.new b5
  replace hpb := hpb.new b5
  replace ox0 := ox0.new b5
  replace ox1 := ox1.new b5
  replace B0 := B0.trans (b5.mono (by omega))
  go_wp2_with fail
  refine (toIntSS_walk _ _ _ _ _ hpa HSpa.out).mono ?_
  rintro e w6 ⟨c0, rfl, oc0, b6⟩
  have s6 := b6.size
  replace hpa := hpa.new b6
  replace hpb := hpb.new b6
  replace ox0 := ox0.new b6
  replace ox1 := ox1.new b6
  replace B0 := B0.trans (b6.mono (by omega))
  go_wp2_with fail
  refine (eqIntSS_b _ _ _ _ _ _ _ _ _ ox0.rd oc0.rd).mono ?_
  rintro e w7 ⟨rfl, b7⟩
  have s7 := b7.size
  replace hpa := hpa.new b7
  replace hpb := hpb.new b7
  replace ox0 := ox0.new b7
  replace ox1 := ox1.new b7
  replace oc0 := oc0.new b7
  replace B0 := B0.trans (b7.mono (by omega))
  clear oc0
  go_wp2_with fail
  refine (toIntSS_walk _ _ _ _ _ hpb HSpb.out).mono ?_
  rintro e w8 ⟨c1, rfl, oc1, b8⟩
  have s8 := b8.size
  replace hpa := hpa.new b8
  replace hpb := hpb.new b8
  replace ox0 := ox0.new b8
  replace ox1 := ox1.new b8
  replace B0 := B0.trans (b8.mono (by omega))
  go_wp2_with fail
  refine (eqIntSS_b _ _ _ _ _ _ _ _ _ ox1.rd oc1.rd).mono ?_
  rintro e w9 ⟨rfl, b9⟩
  have s9 := b9.size
  replace hpa := hpa.new b9
  replace hpb := hpb.new b9
  replace ox0 := ox0.new b9
  replace ox1 := ox1.new b9
  replace oc1 := oc1.new b9
  replace B0 := B0.trans (b9.mono (by omega))
  clear oc1
  go_wp2_with fail
  go_ret
  exact ⟨rfl, B0⟩

set_option maxRecDepth 100000 in
set_option maxHeartbeats 2000000 in
theorem fnExactIsStaircase_walk (vp : Value) (p : List (List Int)) (w : World) (hp : RdG w 0 w.heap.size vp p) :
    Calls Try.prog 7 #[vp] w fun e w' => e = .returned (.bool true) ∧ Below w.heap.size w w' := by
  obtain ⟨Ap, kp, rfl, _, _⟩ := hp.form
  obtain ⟨qp, hqp⟩ : ∃ q, q = szG p 1048576 := ⟨_, rfl⟩
  have cp := szG_cases p 1048576 (by omega)
  rw [← hqp] at cp
  have Hqp := Lib.hid hqp; clear hqp
  rcases cp with cp | ⟨cp, dp, Shp⟩
  · have np : qp < 0 := by omega
    clear cp
    go_enter Try.func7, Try.ntmps7
    go_wp2_with fail
    refine (szIntSS_walk _ _ _ _ _ _ hp (by omega) (by omega)).mono ?_
    rw [← Hqp.out]
    rintro e wx ⟨rfl, rfl⟩
    go_wp2_with fail
    go_ret
    exact ⟨rfl, Below.refl _ _⟩
  have np : ¬ qp < 0 := by omega
  have HSp := Lib.hid Shp; clear Shp
  have Ep := eqG_self p
  go_enter Try.func7, Try.ntmps7
  have B0 : Below w.heap.size w w := Below.refl _ _
  go_wp2_with fail
  refine (szIntSS_walk _ _ _ _ _ _ hp (by omega) (by omega)).mono ?_
  rw [← Hqp.out]
  rintro e wx ⟨rfl, rfl⟩
  go_wp2_with fail
  refine (toIntSS_walk _ _ _ _ _ hp HSp.out).mono ?_
  rintro e w1 ⟨t0, rfl, ot0, b1⟩
  have s1 := b1.size
  replace hp := hp.new b1
  replace B0 := B0.trans (b1.mono (by omega))
  go_wp2_with fail
  refine (calm (spec_IsStaircase _ _ _ _ _ ot0.rd)).mono ?_
  rintro e w2 ⟨rfl, b2⟩
  have s2 := b2.size
  replace hp := hp.new b2
  replace ot0 := ot0.new b2
  replace B0 := B0.trans (b2.mono (by omega))
  clear ot0
  go_wp2_with fail
  refine (toIntSS_walk _ _ _ _ _ hp HSp.out).mono ?_
  rintro e w3 ⟨x0, rfl, ox0, b3⟩
  have s3 := b3.size
  replace hp := hp.new b3
  replace B0 := B0.trans (b3.mono (by omega))
  go_wp2_with fail
  refine (calm (impl_IsStaircase _ _ _ _ _ ox0.rd)).mono ?_
  rintro e w4 ⟨rfl, b4⟩
  have s4 := b4.size
  replace hp := hp.new b4
  replace ox0 := ox0.new b4
  replace B0 := B0.trans (b4.mono (by omega))
  go_wp2_with fail
  refine (toIntSS_walk _ _ _ _ _ hp HSp.out).mono ?_
  rintro e w5 ⟨c0, rfl, oc0, b5⟩
  have s5 := b5.size
  replace hp := hp.new b5
  replace ox0 := ox0.new b5
  replace B0 := B0.trans (b5.mono (by omega))
  go_wp2_with fail
  refine (eqIntSS_b _ _ _ _ _ _ _ _ _ ox0.rd oc0.rd).mono ?_
  rintro e w6 ⟨rfl, b6⟩
  have s6 := b6.size
  replace hp := hp.new b6
  replace ox0 := ox0.new b6
  replace oc0 := oc0.new b6
  replace B0 := B0.trans (b6.mono (by omega))
  clear oc0
  go_wp2_with fail
  go_ret
  exact ⟨rfl, B0⟩
end Go.Proofs.Ytkhhbkchaellaaa
