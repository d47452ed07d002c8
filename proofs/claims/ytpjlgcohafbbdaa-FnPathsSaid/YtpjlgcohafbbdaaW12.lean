/- Walks: IsStaircase, PutCell. -/
import Derived.Test.YtpjlgcohafbbdaaProg
import Derived.Test.YtpjlgcohafbbdaaW1
import Derived.Test.YtpjlgcohafbbdaaW2
import Derived.Test.YtpjlgcohafbbdaaW3
import Derived.Test.YtpjlgcohafbbdaaW4
import Derived.Test.YtpjlgcohafbbdaaW6
import Derived.Test.YtpjlgcohafbbdaaW8
import Derived.Test.YtpjlgcohafbbdaaW9
import Derived.Test.YtpjlgcohafbbdaaMem
import Derived.WalkKit
import Derived.WalkSpells
import Derived.WalkLawsBesides
import Derived.KernelRfl
import Derived.Lib.Hide
import Derived.Deep.QuietTactic
import Derived.BigQuiet
namespace Go.Proofs.Ytpjlgcohafbbdaa
open Go.RowKit
set_option linter.unusedVariables false
set_option linter.unusedSimpArgs false
/-- No step up before place j. -/
def stepsOk (r : List Int) (j : Nat) : Prop := ∀ i, i + 1 < j → ∀ x y, r[i]? = some x → r[i + 1]? = some y → y ≤ x
def rowDown (r : List Int) : Prop := stepsOk r r.length
noncomputable def stairR (g : List (List Int)) : Bool := by classical exact imgOk g && decide (∀ r ∈ g, rowDown r)
theorem stair_no {g : List (List Int)} (h : imgOk g = false) : stairR g = false := by simp [stairR, h]
theorem stair_bad {g : List (List Int)} {k j : Nat} {r : List Int} {x y : Int} (hr : g[k]? = some r) (hx : r[j]? = some x) (hy : r[j + 1]? = some y) (h : ¬ y ≤ x) : stairR g = false := by
  simp only [stairR, Bool.and_eq_false_iff, decide_eq_false_iff_not]
  right; intro hh
  exact h (hh r (List.mem_of_getElem? hr) j (by have := (List.getElem?_eq_some_iff.1 hy).1; omega) x y hx hy)
theorem stair_yes {g : List (List Int)} (h : imgOk g = true) (hd : ∀ r ∈ g, rowDown r) : stairR g = true := by
  simp only [stairR, h, Bool.true_and, decide_eq_true_eq]; exact hd
theorem steps_step {r : List Int} {j : Nat} {x y : Int} (hx : r[j]? = some x) (hy : r[j + 1]? = some y) (h : y ≤ x) (hs : stepsOk r (j + 1)) : stepsOk r (j + 2) := by
  intro i hi x' y' h1 h2
  by_cases e : i = j
  · subst e; rw [hx] at h1; rw [hy] at h2; cases h1; cases h2; exact h
  · exact hs i (by omega) x' y' h1 h2
theorem rows_step {g : List (List Int)} {k : Nat} {r : List Int} (hr : g[k]? = some r) (h : ∀ s ∈ g.take k, rowDown s) (h2 : rowDown r) : ∀ s ∈ g.take (k + 1), rowDown s := by
  rw [take_snoc hr]; intro s hs
  rcases List.mem_append.1 hs with h3 | h3
  · exact h s h3
  · simp at h3; subst h3; exact h2

end Go.Proofs.Ytpjlgcohafbbdaa
