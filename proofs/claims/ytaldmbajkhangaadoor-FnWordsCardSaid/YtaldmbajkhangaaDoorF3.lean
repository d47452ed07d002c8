/- The walk of the law FormatInt. -/
import Derived.Test.YtaldmbajkhangaaDoorProg
import Derived.Test.YtaldmbajkhangaaDoorW1
import Derived.Test.YtaldmbajkhangaaDoorF1
import Derived.Test.YtaldmbajkhangaaDoorF2
import Derived.Test.YtaldmbajkhangaaDoorMem
import Derived.Lib.SmallJoins
import Derived.WalkKit
import Derived.WalkSpells
import Derived.WalkLawsBesides
import Derived.KernelRfl
import Derived.Lib.Hide
namespace Go.Proofs.YtaldmbajkhangaaDoor
open Go.RowKit
set_option linter.unusedVariables false
set_option linter.unusedSimpArgs false

theorem gTab : Tryd.prog.globalNamed "internal/strconv.uint64pow10" = some 3 := by kernel_rfl
theorem Tab.new {w w' : World} (h : Tab w) (hb : Below w.heap.size w w') : Tab w' := Joins.tab_stays gTab h hb (Nat.le_refl _)
theorem wf_in {n : Int} (h : (Lit.int .i64 n).wf = true) : -9223372036854775808 ≤ n ∧ n ≤ 9223372036854775807 := by
  have e1 : IntKind.i64.min = -9223372036854775808 := rfl
  have e2 : IntKind.i64.max = 9223372036854775807 := rfl
  simp [Lit.wf, e1, e2] at h
  omega
theorem spec_FormatInt (n : Int) (w : World) (h0 : -9223372036854775808 ≤ n) (h1 : n ≤ 9223372036854775807) :
    Calls Tryd.prog 6 #[.int .i64 n] w fun e w' => e = .returned (.string (fmtF n)) ∧ Below w.heap.size w w' := by
  by_cases hn : n < 0
  · obtain ⟨u, rfl⟩ : ∃ u : Nat, n = -(u : Int) := ⟨n.natAbs, by omega⟩
    exact spec_FormatInt_neg u w (by omega) (by omega)
  · obtain ⟨u, rfl⟩ : ∃ u : Nat, n = (u : Int) := ⟨n.toNat, by omega⟩
    exact spec_FormatInt_pos u w (by omega)
theorem fsne_self (s : ByteArray) : (s != s) = false := by
  first
  | (show (!(decide (s = s))) = false; simp)
  | (obtain ⟨d⟩ := s; simp only [bne]; show (!(d == d)) = false; simp)

set_option maxRecDepth 100000 in
set_option maxHeartbeats 1000000 in
theorem fnExactFormatInt_walk (n : Int) (w : World) (hn : (Lit.int .i64 n).wf = true) (ht : Tab w) :
    Calls Tryd.prog 3 #[.int .i64 n] w fun e w' => e = .returned (.bool true) ∧ Below w.heap.size w w' := by
  obtain ⟨h0, h1⟩ := wf_in hn
  have Er := fsne_self (fmtF n)
  clear hn
  go_enter Tryd.func3, Tryd.ntmps3
  go_wp2_with fail
  refine (spec_FormatInt n _ h0 h1).mono ?_
  rintro e w1 ⟨rfl, b1⟩
  have s1 := b1.size
  go_wp2_with fail
  refine (impl_FormatInt n _ h0 h1 (ht.new b1)).mono ?_
  rintro e w2 ⟨rfl, b2⟩
  go_wp2_with fail
  go_ret
  exact ⟨rfl, b1.trans (b2.mono s1)⟩
end Go.Proofs.YtaldmbajkhangaaDoor
