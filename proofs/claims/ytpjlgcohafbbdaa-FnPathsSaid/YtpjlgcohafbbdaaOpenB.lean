/- An argument []byte of a law, opened. -/
import Derived.Test.YtpjlgcohafbbdaaChecked
import Derived.Test.YtpjlgcohafbbdaaProg
import Derived.WalkKit
import Derived.ProofKit
import Derived.OpenShut
import Derived.ShutString
import Derived.ChangeOld
import Derived.Below
import Derived.Lib.SmallJoins
import Derived.Test.YtpjlgcohafbbdaaMem
import Derived.Test.YtpjlgcohafbbdaaOpen
import Derived.Test.YtpjlgcohafbbdaaR1
namespace Go.Proofs.Ytpjlgcohafbbdaa
open Go.ChangeShapes Go.WideShapes Go.ChangeAt Go.RowKit Go.Joins
set_option linter.unusedVariables false

theorem wf_u8 {n : Int} (h : (Lit.int .u8 n).wf = true) : 0 ≤ n ∧ n ≤ 255 := bounds_u8 h

section
variable {H : Type} {enc : TypeId × Value → H} {W : World} {base : Nat} {v : Value} {d : DataW H} {p : List MemPlace}

set_option maxRecDepth 100000 in
theorem open_bytes (hv : Value.okWide Try.prog W .any base 22 v) (h : DataW.Trod enc Try.prog W 0 (fun _ => true) true 22 v d p) :
    ∃ l : List UInt8, Rd W 0 W.heap.size v (bytesV l) := by
  obtain ⟨A, len, cap, rfl⟩ := okWide_slice Try.underlying22 hv
  obtain ⟨fuel, hf⟩ := h
  rcases ChangeShapes.open_ints Try.underlying22 Try.underlying5 (by kernel_rfl) hf with ⟨hcs, _⟩ | ⟨x, l, c, zs, hcs, _, hl, hm, hz, _, hcell, hwz⟩
  · simp [Value.cells] at hcs
    obtain ⟨rfl, rfl, rfl⟩ := hcs
    exact ⟨[], Rd.nil _ _ _⟩
  · simp [Value.cells] at hcs
    obtain ⟨rfl, rfl, rfl⟩ := hcs
    have hz' : zs.length = cap := by simpa using hz
    have hlen : (bytesV ((zs.take len).map fun n => UInt8.ofNat n.toNat)).length = len := by rw [bytesV_len]; simp; omega
    refine ⟨(zs.take len).map fun n => UInt8.ofNat n.toNat, some x, cap, by rw [hlen], by rw [hlen]; omega, hm, fun k u hu => ?_⟩
    have hk : k < len := by
      rcases Nat.lt_or_ge k len with h | h
      · exact h
      · rw [List.getElem?_eq_none (by rw [hlen]; exact h)] at hu; cases hu
    obtain ⟨b, o, rfl, h1, h2⟩ := cells_at (f := fun c => .int .u8 (zs.getD c 0)) (n := cap) (fun i hi => hcell i (by omega)) k (by omega)
    refine ⟨b, o, rfl, Nat.zero_le _, h1, ?_⟩
    rw [h2]
    have hkz : k < zs.length := by omega
    have hb := wf_u8 (hwz _ (List.getElem_mem hkz))
    have e : zs.getD k 0 = zs[k] := by simp [hkz]
    rw [e]
    rw [bytesV_get, List.getElem?_map, List.getElem?_take, if_pos hk, List.getElem?_eq_getElem hkz] at hu
    simp only [Option.map_some] at hu
    injection hu with hu
    rw [← hu]
    congr 2
    simp only [UInt8.toNat_ofNat']
    omega
end
end Go.Proofs.Ytpjlgcohafbbdaa
