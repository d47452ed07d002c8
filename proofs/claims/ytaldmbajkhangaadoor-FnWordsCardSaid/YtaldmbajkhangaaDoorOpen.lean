/- An argument of a law, opened: what its value is, and what the walk is told of it. -/
import Derived.Test.YtaldmbajkhangaaDoorChecked
import Derived.Test.YtaldmbajkhangaaDoorProg
import Derived.WalkKit
import Derived.ProofKit
import Derived.OpenShut
import Derived.ShutString
import Derived.ChangeOld
import Derived.Below
import Derived.Lib.SmallJoins
import Derived.Deep.Matrix
import Derived.Test.YtaldmbajkhangaaDoorMem
namespace Go.Proofs.YtaldmbajkhangaaDoor
open Go.ChangeShapes Go.WideShapes Go.ChangeAt Go.RowKit Go.Joins
open Go.ChangeMaps (open_string)
open Go.Deep (open_int_rows)
set_option linter.unusedVariables false

section
variable {H : Type} {enc : TypeId × Value → H} {W : World} {base : Nat} {v : Value} {d : DataW H} {p : List MemPlace}

set_option maxRecDepth 100000 in
theorem open_int (hv : Value.okWide Tryd.prog W .any base 3 v) (h : DataW.Trod enc Tryd.prog W 0 (fun _ => true) true 3 v d p) :
    ∃ a : Int, v = .int .i64 a ∧ (Lit.int .i64 a).wf = true := by
  obtain ⟨a, rfl, _, _, w⟩ := ChangeShapes.open_int Tryd.underlying3 hv h
  exact ⟨a, rfl, w⟩

set_option maxRecDepth 100000 in
theorem open_str (hv : Value.okWide Tryd.prog W .any base 9 v) (h : DataW.Trod enc Tryd.prog W 0 (fun _ => true) true 9 v d p) :
    ∃ s : ByteArray, v = .string s ∧ s.size ≤ maxLen := by
  obtain ⟨s, rfl, _, _, w⟩ := open_string Tryd.underlying9 hv h
  exact ⟨s, rfl, w⟩


/-- Cells from an address on: the address has no spot where a cell is there, so they lie in one block. -/
theorem cells_at {A : Addr} {f : Nat → Value} {n : Nat} (h : ∀ i, i < n → W.cell? (A.add i) = some (f i)) : ∀ k, k < n → ∃ b o, A = ⟨b, o, none⟩ ∧ b < W.heap.size ∧ W.cell? ⟨b, o + k, none⟩ = some (f k) := by
  intro k hk
  have h0 := h 0 (by omega)
  obtain ⟨b, o, sp⟩ := A
  have hs : sp = none := by simpa [Addr.add] using World.cell?_spot h0
  subst hs
  have hc := h k hk
  rw [Addr.add_lit] at hc
  exact ⟨b, o, rfl, World.block_lt_of_cell? W _ hc, hc⟩
theorem rd_of {A : Option Addr} {len cap : Nat} {zs : List Int} (hl : len ≤ cap) (hm : cap ≤ maxLen) (hz : zs.length = cap) (hA : A = none → cap = 0)
    (hc : ∀ a', A = some a' → ∀ c, c < cap → W.cell? (a'.add c) = some (.int .i64 (zs.getD c 0))) : RdI W 0 W.heap.size (.slice A len cap) (zs.take len) := by
  have e : (ints (zs.take len)).length = len := by rw [ints_len, List.length_take]; omega
  refine ⟨A, cap, by rw [e], by omega, hm, fun k u hu => ?_⟩
  rw [ints_get] at hu
  have hk : k < len := by
    rcases Nat.lt_or_ge k len with h | h
    · exact h
    · rw [List.getElem?_take, if_neg (by omega)] at hu; cases hu
  rw [List.getElem?_take, if_pos hk, List.getElem?_eq_getElem (by omega)] at hu
  injection hu with hu; subst hu
  cases A with
  | none => have := hA rfl; omega
  | some a' =>
    obtain ⟨b, o, rfl, h1, h2⟩ := cells_at (f := fun c => .int .i64 (zs.getD c 0)) (hc a' rfl) k (by omega)
    refine ⟨b, o, rfl, Nat.zero_le _, h1, ?_⟩
    rw [h2]
    simp [show k < zs.length by omega]



end
end Go.Proofs.YtaldmbajkhangaaDoor
