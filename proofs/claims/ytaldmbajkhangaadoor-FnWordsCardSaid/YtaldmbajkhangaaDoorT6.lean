/- Walks: PadZeros, Join. -/
import Derived.Test.YtaldmbajkhangaaDoorProg
import Derived.Test.YtaldmbajkhangaaDoorW1
import Derived.Test.YtaldmbajkhangaaDoorW3
import Derived.Test.YtaldmbajkhangaaDoorW7
import Derived.Test.YtaldmbajkhangaaDoorT2
import Derived.Test.YtaldmbajkhangaaDoorShelf
import Derived.Test.YtaldmbajkhangaaDoorMem
import Derived.WalkKit
import Derived.WalkSpells
import Derived.WalkLawsBesides
import Derived.KernelRfl
import Derived.Lib.Hide
import Derived.Lib.Strings
import Derived.Lib.Repeat
namespace Go.Proofs.YtaldmbajkhangaaDoor
open Go.RowKit
set_option linter.unusedVariables false
set_option linter.unusedSimpArgs false

def zeroB (k : Nat) : ByteArray := ⟨(List.replicate k 48).toArray⟩
theorem zeroB_size (k : Nat) : (zeroB k).size = k := by simp [zeroB, ByteArray.size]
theorem zeroB_zero (s : ByteArray) : zeroB 0 ++ s = s := by
  apply ByteArray.ext
  simp [zeroB]
theorem zeroB_succ (k : Nat) (s : ByteArray) : (⟨#[48]⟩ : ByteArray) ++ (zeroB k ++ s) = zeroB (k + 1) ++ s := by
  apply ByteArray.ext
  simp only [ByteArray.data_append, zeroB, List.replicate_succ]
  rw [← Array.append_assoc]
  congr 1
  apply Array.ext'
  simp
theorem repeat_zero : ∀ k, Lib.repeatL [48] k = List.replicate k 48
  | 0 => rfl
  | k + 1 => by rw [Lib.repeatL, repeat_zero k, List.replicate_succ]; rfl
def padF (s : ByteArray) (n : Int) : ByteArray := if 2000 < n then s else zeroB (n - s.size).toNat ++ s
theorem pad_big {s : ByteArray} {n : Int} (h : 2000 < n) : padF s n = s := if_pos h
theorem pad_in {s : ByteArray} {n : Int} {k : Nat} (h : ¬ 2000 < n) (hk : (n - s.size).toNat = k) : padF s n = zeroB k ++ s := by rw [padF, if_neg h, hk]
theorem ret_str {a b : ByteArray} (h : a = b) : Ending.returned (.string a) = .returned (.string b) := by rw [h]
end Go.Proofs.YtaldmbajkhangaaDoor
