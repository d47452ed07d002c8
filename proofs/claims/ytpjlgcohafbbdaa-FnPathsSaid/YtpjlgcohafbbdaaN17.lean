/- Plain law for Paths: the way back is as long; behind the first switch the rest is the next image's way. No program in sight. -/
import Derived.Test.YtpjlgcohafbbdaaW3
import Derived.Test.YtpjlgcohafbbdaaW23
import Derived.Test.YtpjlgcohafbbdaaN1
import Derived.Test.YtpjlgcohafbbdaaN2
import Derived.Test.YtpjlgcohafbbdaaN3
import Derived.Test.YtpjlgcohafbbdaaN7
import Derived.Test.YtpjlgcohafbbdaaN8
import Derived.Test.YtpjlgcohafbbdaaN13
namespace Go.Proofs.Ytpjlgcohafbbdaa
set_option linter.unusedVariables false
set_option linter.unusedSimpArgs false

theorem reach_back {R C n : Nat} {g h : Img} (k : ReachI n g h) : Good g R C → ReachI n h g := by
  induction k with
  | here g => intro _; exact .here _
  | step he _ ih =>
    intro hg
    obtain ⟨g1, _, g3⟩ := nb_good hg he
    exact (ih g1).snoc g3
theorem way_sym {g t : Img} {R C : Nat} {p q : List Sw} (hg : Good g R C) (ht : Good t R C) (hp : WayP g t p) (hq : WayP t g q) : p.length = q.length := by
  obtain ⟨S, D, F, h1, rfl⟩ := hp
  obtain ⟨S', D', F', h2, rfl⟩ := hq
  rw [gr_len F (D g) g h1 rfl, gr_len F' (D' t) t h2 rfl]
  exact Nat.le_antisymm (far_reach F (reach_back (far_walk F' (D' t) t h2 rfl) ht) h1) (far_reach F' (reach_back (far_walk F (D g) g h1 rfl) hg) h2)
/-- Behind the first switch. -/
theorem way_step {g t : Img} {s : Sw} {l : List Sw} (h : WayP g t (s :: l)) : ∃ N, (s, N) ∈ nbI g ∧ WayP N t l := by
  obtain ⟨S, D, F, hS, e⟩ := h
  have hl := gr_len F (D g) g hS rfl
  rw [← e] at hl
  simp only [List.length_cons] at hl
  obtain ⟨q, x, h1, h2, h3, h4, _⟩ := low_some F hS (by omega)
  rw [show D g = l.length + 1 from by omega, grB, h1] at e
  injection e with e1 e2
  refine ⟨x.2, ?_, S, D, F, h4, ?_⟩
  · rw [e1]; exact List.mem_of_getElem? h2
  · rw [e2]; congr 1; omega
theorem way_nil {g t : Img} (h : WayP g t []) : g = t := by
  obtain ⟨S, D, F, hS, e⟩ := h
  have hl := gr_len F (D g) g hS rfl
  rw [← e] at hl
  exact F.only g hS (by simpa using hl.symm)
end Go.Proofs.Ytpjlgcohafbbdaa
