/- Walks over []string: the laws' helpers. -/
import Derived.Test.YtaldmbajkhangaaDoorProg
import Derived.Test.YtaldmbajkhangaaDoorW1
import Derived.Test.YtaldmbajkhangaaDoorW3
import Derived.Test.YtaldmbajkhangaaDoorW7
import Derived.Test.YtaldmbajkhangaaDoorMem
import Derived.WalkKit
import Derived.WalkSpells
import Derived.WalkLawsBesides
import Derived.KernelRfl
import Derived.Lib.Hide
import Derived.Lib.Strings
import Derived.Deep.QuietTactic
import Derived.BigQuiet
import Derived.Deep.RegionHeld3
namespace Go.Proofs.YtaldmbajkhangaaDoor
open Go.RowKit
set_option linter.unusedVariables false
set_option linter.unusedSimpArgs false

theorem sne_self (s : ByteArray) : (s != s) = false := by
  first
  | (show (!(decide (s = s))) = false; simp)
  | (obtain ⟨d⟩ := s; simp only [bne]; show (!(d == d)) = false; simp)
theorem ine_self (x : Int) : (x != x) = false := by simp
theorem Ow.drew3 {w : World} {lo hi : Nat} {T : TypeId} {v : Value} {xs : List Value} (h : Ow w lo hi T v xs) : Ow w.drew lo hi T v xs := h
theorem RdS.drew {w : World} {lo hi : Nat} {v : Value} {l : List ByteArray} (h : RdS w lo hi v l) : RdS w.drew lo hi v l := h

def markS (n k : Nat) : List ByteArray := (List.range n).map fun i => mkT (k + i)
theorem markS_len (n k : Nat) : (markS n k).length = n := by simp [markS]
theorem markS_succ (n k : Nat) : markS (n + 1) k = markS n k ++ [mkT (k + n)] := by simp [markS, List.range_succ]
theorem markS_get {n i : Nat} (k : Nat) (h : i < n) : (markS n k)[i]? = some (mkT (k + i)) := by simp [markS, h]
theorem markS_step {l : List ByteArray} {i k : Nat} (h : i < l.length) : (strs (markS i k ++ l.drop i)).set i (.string (mkT (k + i))) = strs (markS (i + 1) k ++ l.drop (i + 1)) := by
  rw [strs_set, markS_succ, List.set_append_right _ _ (by simp [markS_len]), markS_len, Nat.sub_self, List.drop_eq_getElem_cons h, List.set_cons_zero, List.append_assoc]
  rfl

/-- What szStringS answers. -/
def sumB (l : List ByteArray) : Nat := (l.map (·.size)).sum
def szT (l : List ByteArray) (left : Int) : Int := if (l.length : Int) + sumB l ≤ left then left - l.length - sumB l else -1
theorem sumB_snoc (l : List ByteArray) (x : ByteArray) : sumB (l ++ [x]) = sumB l + x.size := by simp [sumB]
theorem sumB_take_le : ∀ (l : List ByteArray) (k : Nat), sumB (l.take k) ≤ sumB l
  | [], k => by simp [sumB]
  | x :: l, 0 => by simp [sumB]
  | x :: l, k + 1 => by
    have := sumB_take_le l k
    simp only [sumB, List.take_succ_cons, List.map_cons, List.sum_cons] at this ⊢
    omega
theorem szT_cases (l : List ByteArray) (left : Int) (h : 0 ≤ left) : szT l left < 0 ∨ (0 ≤ szT l left ∧ (l.length : Int) + sumB l ≤ left) := by
  unfold szT; split <;> omega
end Go.Proofs.YtaldmbajkhangaaDoor
