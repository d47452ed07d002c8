/- An argument of a law, opened: what its value is, and what the walk is told of it. -/
import Derived.Test.YtpjlgcohafbbdaaChecked
import Derived.Test.YtpjlgcohafbbdaaProg
import Derived.WalkKit
import Derived.ProofKit
import Derived.OpenShut
import Derived.ShutString
import Derived.ChangeOld
import Derived.Below
import Derived.Lib.SmallJoins
import Derived.Deep.Matrix
import Derived.Test.YtpjlgcohafbbdaaMem
namespace Go.Proofs.Ytpjlgcohafbbdaa
open Go.ChangeShapes Go.WideShapes Go.ChangeAt Go.RowKit Go.Joins
open Go.ChangeMaps (open_string)
open Go.Deep (open_int_rows)
set_option linter.unusedVariables false

section
variable {H : Type} {enc : TypeId × Value → H} {W : World} {base : Nat} {v : Value} {d : DataW H} {p : List MemPlace}

set_option maxRecDepth 100000 in
theorem open_int (hv : Value.okWide Try.prog W .any base 3 v) (h : DataW.Trod enc Try.prog W 0 (fun _ => true) true 3 v d p) :
    ∃ a : Int, v = .int .i64 a ∧ (Lit.int .i64 a).wf = true := by
  obtain ⟨a, rfl, _, _, w⟩ := ChangeShapes.open_int Try.underlying3 hv h
  exact ⟨a, rfl, w⟩

set_option maxRecDepth 100000 in
theorem open_str (hv : Value.okWide Try.prog W .any base 9 v) (h : DataW.Trod enc Try.prog W 0 (fun _ => true) true 9 v d p) :
    ∃ s : ByteArray, v = .string s ∧ s.size ≤ maxLen := by
  obtain ⟨s, rfl, _, _, w⟩ := open_string Try.underlying9 hv h
  exact ⟨s, rfl, w⟩


/-- Cells from an address on: the address has no spot where a cell is there, so they lie in one block. -/
theorem cells_at {A : Addr} {f : Nat → Value} {n : Nat} (h : ∀ i, i < n → W.cell? (A.add i) = some (f i)) : ∀ k, k < n → ∃ b o, A = ⟨b, o, none⟩ ∧ b < W.heap.size ∧ W.cell? ⟨b, o + k, none⟩ = some (f k) := by
  intro k hk
  have h0 := h 0 (by omega)
  obtain ⟨b, o, sp⟩ := A
  have hs : sp = none := by simpa [Addr.add] using World.cell?_spot h0
  subst hs
  have hc := h k hk
  rw [Addr.add_lit] at hc
  exact ⟨b, o, rfl, World.block_lt_of_cell? W _ hc, hc⟩
theorem rd_of {A : Option Addr} {len cap : Nat} {zs : List Int} (hl : len ≤ cap) (hm : cap ≤ maxLen) (hz : zs.length = cap) (hA : A = none → cap = 0)
    (hc : ∀ a', A = some a' → ∀ c, c < cap → W.cell? (a'.add c) = some (.int .i64 (zs.getD c 0))) : RdI W 0 W.heap.size (.slice A len cap) (zs.take len) := by
  have e : (ints (zs.take len)).length = len := by rw [ints_len, List.length_take]; omega
  refine ⟨A, cap, by rw [e], by omega, hm, fun k u hu => ?_⟩
  rw [ints_get] at hu
  have hk : k < len := by
    rcases Nat.lt_or_ge k len with h | h
    · exact h
    · rw [List.getElem?_take, if_neg (by omega)] at hu; cases hu
  rw [List.getElem?_take, if_pos hk, List.getElem?_eq_getElem (by omega)] at hu
  injection hu with hu; subst hu
  cases A with
  | none => have := hA rfl; omega
  | some a' =>
    obtain ⟨b, o, rfl, h1, h2⟩ := cells_at (f := fun c => .int .i64 (zs.getD c 0)) (hc a' rfl) k (by omega)
    refine ⟨b, o, rfl, Nat.zero_le _, h1, ?_⟩
    rw [h2]
    simp [show k < zs.length by omega]

set_option maxRecDepth 100000 in
theorem open_ints (hv : Value.okWide Try.prog W .any base 50 v) (h : DataW.Trod enc Try.prog W 0 (fun _ => true) true 50 v d p) :
    ∃ l : List Int, RdI W 0 W.heap.size v l := by
  obtain ⟨A, len, cap, rfl⟩ := okWide_slice Try.underlying50 hv
  obtain ⟨fuel, hf⟩ := h
  rcases ChangeShapes.open_ints Try.underlying50 Try.underlying3 (by kernel_rfl) hf with ⟨hcs, _⟩ | ⟨x, l, c, zs, hcs, _, hl, hm, hz, _, hcell, hwz⟩
  · simp [Value.cells] at hcs
    obtain ⟨rfl, rfl, rfl⟩ := hcs
    exact ⟨[], Rd.nil _ _ _⟩
  · simp [Value.cells] at hcs
    obtain ⟨rfl, rfl, rfl⟩ := hcs
    have hz' : zs.length = cap := by simpa using hz
    exact ⟨_, rd_of hl hm hz' (fun e => by cases e) (fun a' e k hk => by injection e with e; subst e; exact hcell k (by omega))⟩

set_option maxRecDepth 100000 in
theorem open_grid (hv : Value.okWide Try.prog W .any base 23 v) (h : DataW.Trod enc Try.prog W 0 (fun _ => true) true 23 v d p) :
    ∃ g : List (List Int), RdG W 0 W.heap.size v g := by
  obtain ⟨A0, len0, cap0, rfl⟩ := okWide_slice Try.underlying23 hv
  obtain ⟨fuel, hf⟩ := h
  rcases open_int_rows Try.underlying23 Try.underlying50 Try.underlying3 (by kernel_rfl) (by kernel_rfl) hf with ⟨hcs, _⟩ | ⟨a, len, cap, A, L, C, Z, hcs, _, hl, hm, _, hr⟩
  · simp [Value.cells] at hcs
    obtain ⟨rfl, rfl, rfl⟩ := hcs
    exact ⟨[], [], rfl, Rd.nil _ _ _, fun k u r hu => by simp at hu⟩
  · simp [Value.cells] at hcs
    obtain ⟨rfl, rfl, rfl⟩ := hcs
    refine ⟨(List.range len0).map fun r => (Z r).take (L r), (List.range len0).map fun r => .slice (A r) (L r) (C r), by simp, ⟨some a, cap0, by simp, by simpa using hl, hm, fun k u hu => ?_⟩, fun k u r hu hr' => ?_⟩
    · simp only [List.getElem?_map, Option.map_eq_some_iff] at hu
      obtain ⟨k', hk', rfl⟩ := hu
      obtain ⟨h1, h2⟩ := List.getElem?_eq_some_iff.1 hk'
      simp at h1 h2; subst h2
      obtain ⟨b, o, rfl, q1, q2⟩ := cells_at (f := fun r => .slice (A r) (L r) (C r)) (n := cap0) (fun i hi => (hr i hi).1) k (by omega)
      exact ⟨b, o, rfl, Nat.zero_le _, q1, q2⟩
    · simp only [List.getElem?_map, Option.map_eq_some_iff] at hu hr'
      obtain ⟨k', hk', rfl⟩ := hu
      obtain ⟨k'', hk'', rfl⟩ := hr'
      rw [hk'] at hk''; injection hk'' with e; subst e
      obtain ⟨h1, h2⟩ := List.getElem?_eq_some_iff.1 hk'
      simp at h1 h2; subst h2
      obtain ⟨_, g1, g2, g3, g4, g5, g6⟩ := hr k (by omega)
      exact rd_of g1 g2 g3 g5 (fun a' e c hc => (g6 a' e).2 c hc)

end
end Go.Proofs.Ytpjlgcohafbbdaa
