/- The walk of the law SameSums. -/
import Derived.Test.YtdgkiebgmhcmdaaProg
import Derived.Test.YtdgkiebgmhcmdaaW1
import Derived.Test.YtdgkiebgmhcmdaaW3
import Derived.Test.YtdgkiebgmhcmdaaW4
import Derived.Test.YtdgkiebgmhcmdaaW6
import Derived.Test.YtdgkiebgmhcmdaaW8
import Derived.Test.YtdgkiebgmhcmdaaW9
import Derived.Test.YtdgkiebgmhcmdaaW10
import Derived.Test.YtdgkiebgmhcmdaaW14
import Derived.Test.YtdgkiebgmhcmdaaW23
import Derived.Test.YtdgkiebgmhcmdaaMem
import Derived.WalkKit
import Derived.WalkSpells
import Derived.WalkLawsBesides
import Derived.KernelRfl
import Derived.Lib.Hide
namespace Go.Proofs.Ytdgkiebgmhcmdaa
open Go.RowKit
set_option linter.unusedVariables false
set_option linter.unusedSimpArgs false

set_option maxRecDepth 100000 in
set_option maxHeartbeats 2000000 in
theorem fnExactSameSums_walk (vpa : Value) (pa : List (List Int)) (vpb : Value) (pb : List (List Int)) (w : World) (hpa : RdG w 0 w.heap.size vpa pa) (hpb : RdG w 0 w.heap.size vpb pb) :
    Calls Try.prog 9 #[vpa, vpb] w fun e w' => e = .returned (.bool true) ∧ Below w.heap.size w w' := by
  obtain ⟨Apa, kpa, rfl, _, _⟩ := hpa.form
  obtain ⟨Apb, kpb, rfl, _, _⟩ := hpb.form
  obtain ⟨qpa, hqpa⟩ : ∃ q, q = szG pa 1048576 := ⟨_, rfl⟩
  have cpa := szG_cases pa 1048576 (by omega)
  rw [← hqpa] at cpa
  have Hqpa := Lib.hid hqpa; clear hqpa
  rcases cpa with cpa | ⟨cpa, dpa, Shpa⟩
  · have npa : qpa < 0 := by omega
    clear cpa
    go_enter Try.func9, Try.ntmps9
    go_wp2_with fail
    refine (szIntSS_walk _ _ _ _ _ _ hpa (by omega) (by omega)).mono ?_
    rw [← Hqpa.out]
    rintro e wx ⟨rfl, rfl⟩
    go_wp2_with fail
    go_ret
    exact ⟨rfl, Below.refl _ _⟩
  have npa : ¬ qpa < 0 := by omega
  have HSpa := Lib.hid Shpa; clear Shpa
  obtain ⟨qpb, hqpb⟩ : ∃ q, q = szG pb qpa := ⟨_, rfl⟩
  have cpb := szG_cases pb qpa (by omega)
  rw [← hqpb] at cpb
  have Hqpb := Lib.hid hqpb; clear hqpb
  rcases cpb with cpb | ⟨cpb, dpb, Shpb⟩
  · have npb : qpb < 0 := by omega
    clear cpb
    go_enter Try.func9, Try.ntmps9
    go_wp2_with fail
    refine (szIntSS_walk _ _ _ _ _ _ hpa (by omega) (by omega)).mono ?_
    rw [← Hqpa.out]
    rintro e wx ⟨rfl, rfl⟩
    go_wp2_with fail
    refine (szIntSS_walk _ _ _ _ _ _ hpb (by omega) (by omega)).mono ?_
    rw [← Hqpb.out]
    rintro e wx ⟨rfl, rfl⟩
    go_wp2_with fail
    go_ret
    exact ⟨rfl, Below.refl _ _⟩
  have npb : ¬ qpb < 0 := by omega
  have HSpb := Lib.hid Shpb; clear Shpb
  have Epa := eqG_self pa
  have Epb := eqG_self pb
  go_enter Try.func9, Try.ntmps9
  have B0 : Below w.heap.size w w := Below.refl _ _
  go_wp2_with fail
  refine (szIntSS_walk _ _ _ _ _ _ hpa (by omega) (by omega)).mono ?_
  rw [← Hqpa.out]
  rintro e wx ⟨rfl, rfl⟩
  go_wp2_with fail
  refine (szIntSS_walk _ _ _ _ _ _ hpb (by omega) (by omega)).mono ?_
  rw [← Hqpb.out]
  rintro e wx ⟨rfl, rfl⟩
  go_wp2_with fail
  refine (toIntSS_walk _ _ _ _ _ hpa HSpa.out).mono ?_
  rintro e w1 ⟨t0, rfl, ot0, b1⟩
  have s1 := b1.size
  replace hpa := hpa.new b1
  replace hpb := hpb.new b1
  replace B0 := B0.trans (b1.mono (by omega))
  go_wp2_with fail
  refine (toIntSS_walk _ _ _ _ _ hpb HSpb.out).mono ?_
  rintro e w2 ⟨t1, rfl, ot1, b2⟩
  have s2 := b2.size
  replace hpa := hpa.new b2
  replace hpb := hpb.new b2
  replace ot0 := ot0.new b2
  replace B0 := B0.trans (b2.mono (by omega))
  go_wp2_with fail
  refine (spec_SameSums _ _ _ _ _ _ _ _ _ ot0.rd ot1.rd).mono ?_
  rintro e w3 ⟨rfl, b3⟩
  have s3 := b3.size
  replace hpa := hpa.new b3
  replace hpb := hpb.new b3
  replace ot0 := ot0.new b3
  replace ot1 := ot1.new b3
  replace B0 := B0.trans (b3.mono (by omega))
  clear ot0 ot1
  go_wp2_with fail
  refine (toIntSS_walk _ _ _ _ _ hpa HSpa.out).mono ?_
  rintro e w4 ⟨x0, rfl, ox0, b4⟩
  have s4 := b4.size
  replace hpa := hpa.new b4
  replace hpb := hpb.new b4
  replace B0 := B0.trans (b4.mono (by omega))
  go_wp2_with fail
  refine (toIntSS_walk _ _ _ _ _ hpb HSpb.out).mono ?_
  rintro e w5 ⟨x1, rfl, ox1, b5⟩
  have s5 := b5.size
  replace hpa := hpa.new b5
  replace hpb := hpb.new b5
  replace ox0 := ox0.new b5
  replace B0 := B0.trans (b5.mono (by omega))
  go_wp2_with fail
  refine (impl_SameSums _ _ _ _ _ _ _ _ _ ox0.rd ox1.rd).mono ?_
  rintro e w6 ⟨rfl, b6⟩
  have s6 := b6.size
  replace hpa := hpa.new b6
  replace hpb := hpb.new b6
  replace ox0 := ox0.new b6
  replace ox1 := ox1.new b6
  replace B0 := B0.trans (b6.mono (by omega))
  go_wp2_with fail
  refine (toIntSS_walk _ _ _ _ _ hpa HSpa.out).mono ?_
  rintro e w7 ⟨c0, rfl, oc0, b7⟩
  have s7 := b7.size
  replace hpa := hpa.new b7
  replace hpb := hpb.new b7
  replace ox0 := ox0.new b7
  replace ox1 := ox1.new b7
  replace B0 := B0.trans (b7.mono (by omega))
  go_wp2_with fail
  refine (eqIntSS_b _ _ _ _ _ _ _ _ _ ox0.rd oc0.rd).mono ?_
  rintro e w8 ⟨rfl, b8⟩
  have s8 := b8.size
  replace hpa := hpa.new b8
  replace hpb := hpb.new b8
  replace ox0 := ox0.new b8
  replace ox1 := ox1.new b8
  replace oc0 := oc0.new b8
  replace B0 := B0.trans (b8.mono (by omega))
  clear oc0
  go_wp2_with fail
  refine (toIntSS_walk _ _ _ _ _ hpb HSpb.out).mono ?_
  rintro e w9 ⟨c1, rfl, oc1, b9⟩
  have s9 := b9.size
  replace hpa := hpa.new b9
  replace hpb := hpb.new b9
  replace ox0 := ox0.new b9
  replace ox1 := ox1.new b9
  replace B0 := B0.trans (b9.mono (by omega))
  go_wp2_with fail
  refine (eqIntSS_b _ _ _ _ _ _ _ _ _ ox1.rd oc1.rd).mono ?_
  rintro e w10 ⟨rfl, b10⟩
  have s10 := b10.size
  replace hpa := hpa.new b10
  replace hpb := hpb.new b10
  replace ox0 := ox0.new b10
  replace ox1 := ox1.new b10
  replace oc1 := oc1.new b10
  replace B0 := B0.trans (b10.mono (by omega))
  clear oc1
  go_wp2_with fail
  go_ret
  exact ⟨rfl, B0⟩
end Go.Proofs.Ytdgkiebgmhcmdaa
