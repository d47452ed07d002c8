/- The walk of the law SwitchOk. -/
import Derived.Test.YtdgkiebgmhcmdaaProg
import Derived.Test.YtdgkiebgmhcmdaaW1
import Derived.Test.YtdgkiebgmhcmdaaW3
import Derived.Test.YtdgkiebgmhcmdaaW4
import Derived.Test.YtdgkiebgmhcmdaaW6
import Derived.Test.YtdgkiebgmhcmdaaW8
import Derived.Test.YtdgkiebgmhcmdaaW9
import Derived.Test.YtdgkiebgmhcmdaaW10
import Derived.Test.YtdgkiebgmhcmdaaW21
import Derived.Test.YtdgkiebgmhcmdaaMem
import Derived.WalkKit
import Derived.WalkSpells
import Derived.WalkLawsBesides
import Derived.KernelRfl
import Derived.Lib.Hide
import Derived.Deep.RegionHeld3
namespace Go.Proofs.Ytdgkiebgmhcmdaa
open Go.RowKit
set_option linter.unusedVariables false
set_option linter.unusedSimpArgs false

theorem RdG.drew1 {w : World} {lo hi : Nat} {v : Value} {g : List (List Int)} (h : RdG w lo hi v g) : RdG w.drew lo hi v g := h
theorem OwG.drew1 {w : World} {lo hi : Nat} {T I : TypeId} {v : Value} {g : List (List Int)} (h : OwG w lo hi T I v g) : OwG w.drew lo hi T I v g := h

set_option maxRecDepth 100000 in
theorem toSwitch_walk (a b c d : Int) (w : World) :
    Calls Try.prog 32 #[.agg #[.int .i64 a, .int .i64 b, .int .i64 c, .int .i64 d]] w fun e w' => e = .returned (.agg #[.int .i64 a, .int .i64 b, .int .i64 c, .int .i64 d]) ∧ Below w.heap.size w w' := by
  go_enter Try.func32, Try.ntmps32
  go_wp2_with fail
  refine bodyPost_ret (v := .agg #[.int .i64 a, .int .i64 b, .int .i64 c, .int .i64 d]) (by simp [results, Try.results32, go_sem]) rfl ⟨rfl, ?_⟩
  exact (((Below.refl _ _).alloc (Nat.le_refl _) _).alloc (by simp) _).alloc (by simp; omega) _

end Go.Proofs.Ytdgkiebgmhcmdaa
