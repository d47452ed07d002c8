/- The walk of the law ParseInt. -/
import Derived.Test.YtaldmbajkhangaaDoorProg
import Derived.Test.YtaldmbajkhangaaDoorW1
import Derived.Test.YtaldmbajkhangaaDoorF1
import Derived.Test.YtaldmbajkhangaaDoorF2
import Derived.Test.YtaldmbajkhangaaDoorF3
import Derived.Test.YtaldmbajkhangaaDoorF4
import Derived.Test.YtaldmbajkhangaaDoorF5
import Derived.Test.YtaldmbajkhangaaDoorF6
import Derived.Test.YtaldmbajkhangaaDoorF7
import Derived.Test.YtaldmbajkhangaaDoorMem
import Derived.WalkKit
import Derived.WalkSpells
import Derived.WalkLawsBesides
import Derived.KernelRfl
import Derived.Lib.Hide
namespace Go.Proofs.YtaldmbajkhangaaDoor
open Go.RowKit
set_option linter.unusedVariables false
set_option linter.unusedSimpArgs false

theorem spec_ParseInt (s : ByteArray) (w : World) (hs : s.size ≤ 1048576) :
    Calls Tryd.prog 8 #[.string s] w (RetP w (parseR s)) := by
  cases hm : minus s
  · exact spec_ParseInt_pos s w hs hm
  · exact spec_ParseInt_neg s w hs hm
set_option maxRecDepth 100000 in
set_option maxHeartbeats 1000000 in
theorem fnExactParseInt_walk (s : ByteArray) (w : World) (hs : s.size ≤ maxLen) (ht : Tab w) (he : Errs w) :
    Calls Tryd.prog 4 #[.string s] w fun e w' => e = .returned (.bool true) ∧ Below w.heap.size w w' := by
  by_cases hb : s.size ≤ 1048576
  · obtain ⟨r, hr⟩ : ∃ r, r = parseR s := ⟨_, rfl⟩
    obtain ⟨x, b⟩ := r
    have HR := Lib.hid hr; clear hr
    have g1 : (x != x) = false := by simp
    have g2 : (b != b) = false := by simp
    go_enter Tryd.func4, Tryd.ntmps4
    go_wp2_with fail
    refine (spec_ParseInt s _ hb).mono ?_
    rw [← HR.out]
    rintro e w1 ⟨rfl, b1⟩
    have s1 := b1.size
    go_wp2_with fail
    refine (impl_ParseInt s _ hb (ht.new b1) (he.new b1)).mono ?_
    rw [← HR.out]
    rintro e w2 ⟨rfl, b2⟩
    go_wp2_with fail
    go_ret
    exact ⟨rfl, b1.trans (b2.mono s1)⟩
  · go_enter Tryd.func4, Tryd.ntmps4
    have hb2 : ¬ (s.size : Int) ≤ 1048576 := by omega
    go_wp2_with fail
    go_ret
    exact ⟨rfl, Below.refl _ _⟩
end Go.Proofs.YtaldmbajkhangaaDoor
