/- An argument []Switch of a law, opened. -/
import Derived.Test.YtdgkiebgmhcmdaaChecked
import Derived.Test.YtdgkiebgmhcmdaaProg
import Derived.WalkKit
import Derived.ProofKit
import Derived.OpenShut
import Derived.ShutString
import Derived.ChangeOld
import Derived.Below
import Derived.Lib.SmallJoins
import Derived.Deep.Slices
import Derived.Test.YtdgkiebgmhcmdaaMem
import Derived.Test.YtdgkiebgmhcmdaaSw
namespace Go.Proofs.Ytdgkiebgmhcmdaa
open Go.ChangeShapes Go.WideShapes Go.ChangeAt Go.RowKit Go.Joins
open Go.Deep (open_slice choose_lt)
set_option linter.unusedVariables false

section
variable {H : Type} {enc : TypeId × Value → H} {W : World} {base : Nat} {v : Value} {d : DataW H} {p : List MemPlace}

set_option maxRecDepth 100000 in
theorem open_sws (hv : Value.okWide Try.prog W .any base 57 v) (h : DataW.Trod enc Try.prog W 0 (fun _ => true) true 57 v d p) :
    ∃ l : List Sw, RdS W 0 W.heap.size v l := by
  obtain ⟨A0, len0, cap0, rfl⟩ := okWide_slice Try.underlying57 hv
  obtain ⟨fuel, hf⟩ := h
  rcases open_slice Try.underlying57 hf with ⟨hcs, _⟩ | ⟨a, len, cap, m, n, D, Pl, hcs, _, hl, hm, hmm, _, hr⟩
  · simp [Value.cells] at hcs
    obtain ⟨rfl, rfl, rfl⟩ := hcs
    exact ⟨[], none, 0, rfl, by simp, by simp [maxLen], fun k s hs => by simp at hs⟩
  · simp [Value.cells] at hcs
    obtain ⟨rfl, rfl, rfl⟩ := hcs
    have c4 : Try.prog.cellsOf 32 = 4 := by kernel_rfl
    have c1 : Try.prog.cellsOf 3 = 1 := by kernel_rfl
    have hml : len0 ≤ m := by rw [hmm]; simp; omega
    have each : ∀ i, i < m → ∃ s : Sw, ∀ j u, (swCells s)[j]? = some u → W.cell? ((a.add (i * 4)).add j) = some u := by
      intro i hi
      obtain ⟨cs', h1, h2⟩ := hr i hi
      rw [c4] at h1
      obtain ⟨_, hlen, hcell⟩ := World.cells?_some h1
      obtain ⟨y0, y1, y2, y3, n', _, _, g0, g1, g2, g3⟩ := trod_struct4 Try.underlying32 h2
      match cs', hlen with
      | [v0, v1, v2, v3], _ =>
        simp [c1] at g0 g1 g2 g3
        obtain ⟨x0, e0, _, _⟩ := DataW.trod_int Try.underlying3 g0
        obtain ⟨x1, e1, _, _⟩ := DataW.trod_int Try.underlying3 g1
        obtain ⟨x2, e2, _, _⟩ := DataW.trod_int Try.underlying3 g2
        obtain ⟨x3, e3, _, _⟩ := DataW.trod_int Try.underlying3 g3
        simp at e0 e1 e2 e3
        subst e0 e1 e2 e3
        refine ⟨(x0, x1, x2, x3), fun j u hu => ?_⟩
        have hj : j < 4 := by have := (List.getElem?_eq_some_iff.1 hu).1; simpa [swCells] using this
        rw [hcell j hj]
        exact hu
    obtain ⟨q, hq⟩ := choose_lt each
    refine ⟨(List.range len0).map q, some a, cap0, by simp, by simpa using hl, hm, fun k s hs => ?_⟩
    simp only [List.getElem?_map, Option.map_eq_some_iff] at hs
    obtain ⟨k', hk', rfl⟩ := hs
    obtain ⟨h1, h2⟩ := List.getElem?_eq_some_iff.1 hk'
    simp at h1 h2; subst h2
    have h0 := hq k (by omega) 0 _ rfl
    obtain ⟨b, o, sp⟩ := a
    have h00 := hq 0 (by omega) 0 _ rfl
    have hsp : sp = none := by simpa [Addr.add] using World.cell?_spot h00
    subst hsp
    rw [Addr.add_lit, Addr.add_lit] at h0
    have hb := World.block_lt_of_cell? W _ h0
    refine ⟨b, o, rfl, Nat.zero_le _, hb, hb, fun j u hu => ?_⟩
    have := hq k (by omega) j u hu
    rw [Addr.add_lit, Addr.add_lit] at this
    rw [← Nat.add_assoc]; exact this
end
end Go.Proofs.Ytdgkiebgmhcmdaa
