/- The walk of the law ApplySwitch. -/
import Derived.Test.YtpjlgcohafbbdaaProg
import Derived.Test.YtpjlgcohafbbdaaW1
import Derived.Test.YtpjlgcohafbbdaaW3
import Derived.Test.YtpjlgcohafbbdaaW4
import Derived.Test.YtpjlgcohafbbdaaW6
import Derived.Test.YtpjlgcohafbbdaaW8
import Derived.Test.YtpjlgcohafbbdaaW9
import Derived.Test.YtpjlgcohafbbdaaW10
import Derived.Test.YtpjlgcohafbbdaaPoke
import Derived.Test.YtpjlgcohafbbdaaW16
import Derived.Test.YtpjlgcohafbbdaaW18
import Derived.Test.YtpjlgcohafbbdaaW21
import Derived.Test.YtpjlgcohafbbdaaW22
import Derived.Test.YtpjlgcohafbbdaaW25
import Derived.Test.YtpjlgcohafbbdaaMem
import Derived.WalkKit
import Derived.WalkSpells
import Derived.WalkLawsBesides
import Derived.KernelRfl
import Derived.Lib.Hide
import Derived.Deep.RegionHeld3
namespace Go.Proofs.Ytpjlgcohafbbdaa
open Go.RowKit
set_option linter.unusedVariables false
set_option linter.unusedSimpArgs false

theorem flips_total {g : List (List Int)} {y1 y2 x1 x2 : Nat} : ∀ n, total (flips g y1 y2 x1 x2 n) = total g
  | 0 => rfl
  | n + 1 => by rw [flips, set_total, flips_total n]
theorem swR_total (g : List (List Int)) (a b c d : Int) : total (swR g a b c d) ≤ 25 := by
  unfold swR
  split
  · rename_i h
    rw [flips_total]
    exact short_total (hasF_in (swOk_in h).1).1
  · simp [total]

end Go.Proofs.Ytpjlgcohafbbdaa
