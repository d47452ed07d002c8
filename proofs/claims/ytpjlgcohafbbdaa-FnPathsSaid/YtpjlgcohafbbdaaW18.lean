/- The walks of the laws PutCell, StaircaseOf. -/
import Derived.Test.YtpjlgcohafbbdaaProg
import Derived.Test.YtpjlgcohafbbdaaW1
import Derived.Test.YtpjlgcohafbbdaaW3
import Derived.Test.YtpjlgcohafbbdaaW4
import Derived.Test.YtpjlgcohafbbdaaW6
import Derived.Test.YtpjlgcohafbbdaaW8
import Derived.Test.YtpjlgcohafbbdaaW9
import Derived.Test.YtpjlgcohafbbdaaW10
import Derived.Test.YtpjlgcohafbbdaaPoke
import Derived.Test.YtpjlgcohafbbdaaW16
import Derived.Test.YtpjlgcohafbbdaaMem
import Derived.WalkKit
import Derived.WalkSpells
import Derived.WalkLawsBesides
import Derived.KernelRfl
import Derived.Lib.Hide
namespace Go.Proofs.Ytpjlgcohafbbdaa
open Go.RowKit
set_option linter.unusedVariables false
set_option linter.unusedSimpArgs false

theorem set_total {g : List (List Int)} {y x : Nat} {z : Int} : total (putN g y x z) = total g := by
  unfold putN total
  rw [List.map_set]
  by_cases h : y < g.length
  · rw [List.length_set, List.getD_eq_getElem?_getD, List.getElem?_eq_getElem h]
    congr 1
    refine List.ext_getElem? fun i => ?_
    by_cases e : i = y
    · subst e; rw [List.getElem?_set_self (by simpa using h)]; simp [h]
    · rw [List.getElem?_set_ne (fun c => e c.symm)]
  · rw [List.set_eq_of_length_le (by simpa using h)]
theorem putR_total (g : List (List Int)) (y x z : Int) : total (putR g y x z) ≤ 25 := by
  unfold putR
  split
  · rename_i h
    rw [set_total]
    simp only [putOk, Bool.and_eq_true] at h
    exact short_total (hasF_in h.1).1
  · simp [total]
theorem stairs_total (l : List Int) (n : Int) : total (stairsR l n) ≤ 25 := by
  unfold stairsR
  split
  · rename_i h
    obtain ⟨h1, h2, h3, _⟩ := conjOk_in h
    rw [mkG_total]
    have : l.length * n.toNat ≤ 5 * 5 := Nat.mul_le_mul h3 (by omega)
    omega
  · simp [total]
theorem len20' {α : Type} {l : List α} (h : ¬ (1048576 : Int) < l.length) : l.length ≤ 1048576 := by omega

end Go.Proofs.Ytpjlgcohafbbdaa
