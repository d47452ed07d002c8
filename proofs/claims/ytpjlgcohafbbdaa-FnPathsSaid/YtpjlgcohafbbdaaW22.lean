/- The walk of the law SwitchOk. -/
import Derived.Test.YtpjlgcohafbbdaaProg
import Derived.Test.YtpjlgcohafbbdaaW1
import Derived.Test.YtpjlgcohafbbdaaW3
import Derived.Test.YtpjlgcohafbbdaaW4
import Derived.Test.YtpjlgcohafbbdaaW6
import Derived.Test.YtpjlgcohafbbdaaW8
import Derived.Test.YtpjlgcohafbbdaaW9
import Derived.Test.YtpjlgcohafbbdaaW10
import Derived.Test.YtpjlgcohafbbdaaW21
import Derived.Test.YtpjlgcohafbbdaaMem
import Derived.WalkKit
import Derived.WalkSpells
import Derived.WalkLawsBesides
import Derived.KernelRfl
import Derived.Lib.Hide
import Derived.Deep.RegionHeld3
namespace Go.Proofs.Ytpjlgcohafbbdaa
open Go.RowKit
set_option linter.unusedVariables false
set_option linter.unusedSimpArgs false

theorem RdG.drew1 {w : World} {lo hi : Nat} {v : Value} {g : List (List Int)} (h : RdG w lo hi v g) : RdG w.drew lo hi v g := h
theorem OwG.drew1 {w : World} {lo hi : Nat} {T I : TypeId} {v : Value} {g : List (List Int)} (h : OwG w lo hi T I v g) : OwG w.drew lo hi T I v g := h

end Go.Proofs.Ytpjlgcohafbbdaa
