/- The walk of the law Join. -/
import Derived.Test.YtaldmbajkhangaaProg
import Derived.Test.YtaldmbajkhangaaW1
import Derived.Test.YtaldmbajkhangaaW3
import Derived.Test.YtaldmbajkhangaaW7
import Derived.Test.YtaldmbajkhangaaT2
import Derived.Test.YtaldmbajkhangaaT6
import Derived.Test.YtaldmbajkhangaaT8
import Derived.Test.YtaldmbajkhangaaMem
import Derived.WalkKit
import Derived.WalkSpells
import Derived.WalkLawsBesides
import Derived.KernelRfl
import Derived.Lib.Hide
namespace Go.Proofs.Ytaldmbajkhangaa
open Go.RowKit
set_option linter.unusedVariables false
set_option linter.unusedSimpArgs false

set_option maxRecDepth 100000 in
set_option maxHeartbeats 2000000 in
theorem fnExactJoin_walk (vl : Value) (l : List ByteArray) (s : ByteArray) (w : World) (hl : RdS w 0 w.heap.size vl l ∧ ∀ x ∈ l, x.size ≤ 9223372036854775807) (hs : s.size ≤ maxLen) :
    Calls Try.prog 4 #[vl, .string s] w fun e w' => e = .returned (.bool true) ∧ Below w.heap.size w w' := by
  obtain ⟨hl, hm⟩ := hl
  unfold maxLen at hs
  by_cases ns : 1048576 < ((s.size : Nat) : Int)
  · go_enter Try.func4, Try.ntmps4
    go_wp2_with fail
    go_ret
    exact ⟨rfl, Below.refl _ _⟩
  have ds : s.size ≤ 1048576 := by omega
  obtain ⟨ql, hql⟩ : ∃ q, q = szT l 1048576 := ⟨_, rfl⟩
  have cl := szT_cases l 1048576 (by omega)
  rw [← hql] at cl
  have Hql := Lib.hid hql; clear hql
  rcases cl with cl | ⟨cl, dl⟩
  · have nl : ql < 0 := by omega
    clear cl
    go_enter Try.func4, Try.ntmps4
    go_wp2_with fail
    refine (szStringS_walk _ _ _ _ _ _ hl (by omega) (by omega) hm).mono ?_
    rw [← Hql.out]
    rintro e wx ⟨rfl, rfl⟩
    go_wp2_with fail
    go_ret
    exact ⟨rfl, Below.refl _ _⟩
  have nl : ¬ ql < 0 := by omega
  have ll : l.length ≤ 1048576 := by omega
  have lb : sumB l ≤ 1048576 := by omega
  have Er := sne_self (jn l s)
  obtain ⟨Al, kl, rfl, _, _⟩ := hl.form
  have Hm := Lib.hid hm; clear hm
  go_enter Try.func4, Try.ntmps4
  have B0 : Below w.heap.size w w := Below.refl _ _
  go_wp2_with fail
  refine (szStringS_walk _ _ _ _ _ _ hl (by omega) (by omega) Hm.out).mono ?_
  rw [← Hql.out]
  rintro e wx ⟨rfl, rfl⟩
  go_wp2_with fail
  refine (toStringS_walk _ _ _ _ _ hl ll).mono ?_
  rintro e w1 ⟨t1, rfl, ot1, b1⟩
  have s1 := b1.size
  replace hl := hl.new b1
  replace B0 := B0.trans (b1.mono (by omega))
  go_wp2_with fail
  refine (spec_Join _ _ _ _ _ _ ot1.rdS ds ll lb).mono ?_
  rintro e wx ⟨rfl, rfl⟩
  clear ot1
  go_wp2_with fail
  refine (toStringS_walk _ _ _ _ _ hl ll).mono ?_
  rintro e w2 ⟨x0, rfl, ox0, b2⟩
  have s2 := b2.size
  replace hl := hl.new b2
  replace B0 := B0.trans (b2.mono (by omega))
  go_wp2_with fail
  refine (impl_Join _ _ _ _ _ _ ox0.rdS ds ll lb).mono ?_
  rintro e w3 ⟨rfl, b3⟩
  have s3 := b3.size
  replace hl := hl.new b3
  replace ox0 := ox0.new b3
  replace B0 := B0.trans (b3.mono (by omega))
  go_wp2_with fail
  refine (toStringS_walk _ _ _ _ _ hl ll).mono ?_
  rintro e w4 ⟨t2, rfl, ot2, b4⟩
  have s4 := b4.size
  replace hl := hl.new b4
  replace ox0 := ox0.new b4
  replace B0 := B0.trans (b4.mono (by omega))
  go_wp2_with fail
  refine (eqStringS_walk _ _ _ _ _ _ _ _ ox0.rdS ot2.rdS).mono ?_
  rintro e w5 ⟨rfl, b5⟩
  have s5 := b5.size
  replace hl := hl.new b5
  replace ox0 := ox0.new b5
  replace ot2 := ot2.new b5
  replace B0 := B0.trans (b5.mono (by omega))
  go_wp2_with fail
  go_ret
  exact ⟨rfl, B0⟩
end Go.Proofs.Ytaldmbajkhangaa
