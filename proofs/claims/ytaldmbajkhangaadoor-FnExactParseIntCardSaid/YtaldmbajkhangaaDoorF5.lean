/- Walks: ParseInt of spec. -/
import Derived.Test.YtaldmbajkhangaaDoorProg
import Derived.Test.YtaldmbajkhangaaDoorW1
import Derived.Test.YtaldmbajkhangaaDoorShelf
import Derived.Test.YtaldmbajkhangaaDoorF1
import Derived.Test.YtaldmbajkhangaaDoorF2
import Derived.Test.YtaldmbajkhangaaDoorF3
import Derived.Test.YtaldmbajkhangaaDoorF4
import Derived.Test.YtaldmbajkhangaaDoorMem
import Derived.Lib.SmallJoins
import Derived.Lib.Strings
import Derived.WalkKit
import Derived.WalkSpells
import Derived.WalkLawsBesides
import Derived.KernelRfl
import Derived.Lib.Hide
namespace Go.Proofs.YtaldmbajkhangaaDoor
open Go.RowKit
set_option linter.unusedVariables false
set_option linter.unusedSimpArgs false

/-- The overflow test of one step. -/
theorem step_test (val d : Nat) (hd : d ≤ 9) (hv : val ≤ 9223372036854775808) : (-(val : Int) < (-9223372036854775808 + (d : Int)).tdiv 10) ↔ 9223372036854775808 < val * 10 + d := by
  have e : (-9223372036854775808 + (d : Int)) = -((9223372036854775808 - d : Nat) : Int) := by omega
  rw [e, Int.neg_tdiv]
  have e2 : ((9223372036854775808 - d : Nat) : Int).tdiv 10 = (((9223372036854775808 - d) / 10 : Nat) : Int) := rfl
  rw [e2]
  omega
theorem lenT {t : ByteArray} : t.data.toList.length = t.size := Array.length_toList
theorem tail_of_minus {s : ByteArray} (h : minus s = true) : (s.extract 1 s.size).data.toList = s.data.toList.tail := by
  cases hs : s.data.toList with
  | nil => simp [minus, hs] at h
  | cons c r =>
    have := @lenT s
    rw [hs] at this
    simp [hs]
    apply List.take_of_length_le
    simp at this; omega
theorem minus_size {s : ByteArray} (h : minus s = true) : 0 < s.size := by
  cases hs : s.data.toList with
  | nil => simp [minus, hs] at h
  | cons c r =>
    have : s.data.toList.length = s.size := Array.length_toList
    rw [hs] at this
    simp at this; omega
theorem minus_at {s : ByteArray} (h : 0 < s.size) : minus s = decide (s[0]'h = 45) := by
  have e : s.data.toList.head? = some (s[0]'h) := by
    have : s.data.toList.length = s.size := Array.length_toList
    cases hs : s.data.toList with
    | nil => rw [hs] at this; simp at this; omega
    | cons c r =>
      simp only [List.head?_cons]
      congr 1
      have e2 : s[0]'h = s.data.toList[0]'(by rw [this]; exact h) := rfl
      rw [e2]
      simp [hs]
  simp [minus, e]
theorem take_full {t : ByteArray} {k : Nat} (h : ¬ k < t.size) : t.data.toList.take k = t.data.toList := List.take_of_length_le (by have := @lenT t; omega)
theorem dig_at {t : ByteArray} {k : Nat} (h : k < t.size) (hd : digitsF t.data.toList = true) : 48 ≤ (t[k]'h).toNat ∧ (t[k]'h).toNat ≤ 57 := by
  have : isDig (t[k]'h) = true := by
    unfold digitsF at hd
    simp only [Bool.and_eq_true] at hd
    have := hd
    have hm : t[k]'h ∈ t.data.toList := List.getElem_mem (by rw [lenT]; exact h)
    first
    | exact List.all_eq_true.1 hd.2 _ hm
    | exact List.all_eq_true.1 hd.1 _ hm
  exact isDig_in this
theorem val_step {t : ByteArray} {k : Nat} (h : k < t.size) : valD 0 (t.data.toList.take (k + 1)) = valD 0 (t.data.toList.take k) * 10 + ((t[k]'h).toNat - 48) := by
  rw [take_snoc_b t k h, valD_snoc]; rfl

end Go.Proofs.YtaldmbajkhangaaDoor
