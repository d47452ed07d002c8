/- An argument []string of a law, opened. -/
import Derived.Test.YtaldmbajkhangaaChecked
import Derived.Test.YtaldmbajkhangaaProg
import Derived.WalkKit
import Derived.ProofKit
import Derived.OpenShut
import Derived.ShutString
import Derived.ChangeOld
import Derived.Below
import Derived.Deep.Strs
import Derived.Test.YtaldmbajkhangaaMem
import Derived.Test.YtaldmbajkhangaaW7
namespace Go.Proofs.Ytaldmbajkhangaa
open Go.ChangeShapes Go.WideShapes Go.ChangeAt Go.RowKit
set_option linter.unusedVariables false

section
variable {H : Type} {enc : TypeId × Value → H} {W : World} {base : Nat} {v : Value} {d : DataW H} {p : List MemPlace}

set_option maxRecDepth 100000 in
theorem open_strs (hv : Value.okWide Try.prog W .any base 22 v) (h : DataW.Trod enc Try.prog W 0 (fun _ => true) true 22 v d p) :
    ∃ l : List ByteArray, RdS W 0 W.heap.size v l ∧ ∀ x ∈ l, x.size ≤ 9223372036854775807 := by
  obtain ⟨A0, len0, cap0, rfl⟩ := okWide_slice Try.underlying22 hv
  obtain ⟨fuel, hf⟩ := h
  rcases Go.Deep.open_strs Try.underlying22 Try.underlying9 (by kernel_rfl) hf with ⟨hcs, _⟩ | ⟨a, len, cap, m, S, hcs, _, hl, hm, hmm, _, hr⟩
  · simp [Value.cells] at hcs
    obtain ⟨rfl, rfl, rfl⟩ := hcs
    exact ⟨[], Rd.nil _ _ _, fun x hx => by simp at hx⟩
  · simp [Value.cells] at hcs
    obtain ⟨rfl, rfl, rfl⟩ := hcs
    have hml : len0 ≤ m := by rw [hmm]; simp; omega
    refine ⟨(List.range len0).map S, ⟨some a, cap0, by simp [strs], by simpa [strs] using hl, hm, fun k u hu => ?_⟩, fun x hx => ?_⟩
    · rw [strs_get, List.getElem?_map] at hu
      have hk : k < len0 := by
        rcases Nat.lt_or_ge k len0 with h | h
        · exact h
        · rw [List.getElem?_eq_none (by simp; omega)] at hu; cases hu
      rw [List.getElem?_range hk] at hu
      injection hu with hu; subst hu
      have h0 := (hr 0 (by omega)).1
      obtain ⟨b, o, sp⟩ := a
      have hsp : sp = none := by simpa [Addr.add] using World.cell?_spot h0
      subst hsp
      have hc := (hr k (by omega)).1
      rw [Addr.add_lit] at hc
      exact ⟨b, o, rfl, Nat.zero_le _, World.block_lt_of_cell? W _ hc, hc⟩
    · simp only [List.mem_map, List.mem_range] at hx
      obtain ⟨i, hi, rfl⟩ := hx
      have := (hr i (by omega)).2
      unfold maxLen at this
      omega
end
end Go.Proofs.Ytaldmbajkhangaa
