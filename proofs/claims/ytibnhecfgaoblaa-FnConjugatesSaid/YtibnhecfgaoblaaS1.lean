/- Walks: SortedDown of the reference. The list in descending order: sortD. -/
import Derived.Test.YtibnhecfgaoblaaProg
import Derived.Test.YtibnhecfgaoblaaW1
import Derived.Test.YtibnhecfgaoblaaW3
import Derived.Test.YtibnhecfgaoblaaMem
import Derived.WalkKit
import Derived.WalkSpells
import Derived.WalkLawsBesides
import Derived.KernelRfl
import Derived.Lib.Hide
import Derived.Deep.QuietTactic
import Derived.BigQuiet
namespace Go.Proofs.Ytibnhecfgaoblaa
open Go.RowKit
set_option linter.unusedVariables false
set_option linter.unusedSimpArgs false

def sortD (l : List Int) : List Int := l.mergeSort fun x y => decide (y ≤ x)
theorem sortD_perm (l : List Int) : (sortD l).Perm l := List.mergeSort_perm _ _
theorem sortD_sorted (l : List Int) : (sortD l).Pairwise (fun x y => y ≤ x) := by
  have h := List.pairwise_mergeSort (le := fun x y : Int => decide (y ≤ x)) (by simp; omega) (by simp; omega) l
  unfold sortD
  simpa using h
theorem sortD_len (l : List Int) : (sortD l).length = l.length := (sortD_perm l).length_eq
theorem sortD_unique {l p : List Int} (hp : p.Perm l) (hs : p.Pairwise (fun x y => y ≤ x)) : p = sortD l :=
  List.Perm.eq_of_pairwise (fun a b _ _ h1 h2 => by omega) hs (sortD_sorted l) (hp.trans (sortD_perm l).symm)
/-- The state of the inner loop: x stands at place A.length, the rest is in order, and x is greater than all behind it. -/
structure Ins (l : List Int) (x : Int) (A B : List Int) : Prop where
  perm : (A ++ x :: B).Perm l
  sorted : (A ++ B).Pairwise (fun x y => y ≤ x)
  less : ∀ b ∈ B, b ≤ x
theorem Ins.start {l P : List Int} {x : Int} (h : P.Perm l) (hs : P.Pairwise (fun x y => y ≤ x)) : Ins (l ++ [x]) x P [] := ⟨h.append_right _, by simpa using hs, by simp⟩
theorem Ins.step {l A B : List Int} {x a : Int} (h : Ins l x (A ++ [a]) B) (hl : a < x) : Ins l x A (a :: B) := by
  refine ⟨?_, by simpa using h.sorted, ?_⟩
  · refine List.Perm.trans ?_ h.perm
    rw [List.append_assoc]
    exact (List.Perm.refl A).append (List.Perm.swap a x B)
  · intro b hb
    rcases List.mem_cons.1 hb with rfl | hb
    · omega
    · exact h.less b hb
theorem Ins.done {l A B : List Int} {x : Int} (h : Ins l x A B) (hA : ∀ A' a, A = A' ++ [a] → x ≤ a) : (A ++ x :: B).Pairwise (fun x y => y ≤ x) := by
  have hs := List.pairwise_append.1 h.sorted
  have hlast : ∀ a ∈ A, x ≤ a := by
    intro a ha
    rcases List.eq_nil_or_concat A with rfl | ⟨A', z, e⟩
    · simp at ha
    · rw [List.concat_eq_append] at e
      have hz := hA A' z e
      rw [e] at ha hs
      rcases List.mem_append.1 ha with ha | ha
      · have := (List.pairwise_append.1 hs.1).2.2 a ha z (by simp)
        omega
      · simp at ha; omega
  refine List.pairwise_append.2 ⟨hs.1, List.pairwise_cons.2 ⟨fun b hb => h.less b hb, hs.2.1⟩, fun a ha b hb => ?_⟩
  rcases List.mem_cons.1 hb with rfl | hb
  · exact hlast a ha
  · exact hs.2.2 a ha b hb
theorem ins_get (A B : List Int) (x : Int) : (ints (A ++ x :: B))[A.length]? = some (.int .i64 x) := by rw [ints_get]; simp
theorem ins_prev (A B : List Int) (x a : Int) : (ints ((A ++ [a]) ++ x :: B))[A.length]? = some (.int .i64 a) := by rw [ints_get]; simp
theorem ins_swap (A B : List Int) (x a : Int) : (((ints ((A ++ [a]) ++ x :: B)).set (A.length + 1) (.int .i64 a)).set A.length (.int .i64 x)) = ints (A ++ x :: a :: B) := by
  rw [ints_set, ints_set]
  congr 1
  rw [List.append_assoc, List.set_append_right _ _ (by omega), List.set_append_right _ _ (by omega)]
  simp
theorem Ins.len {l A B : List Int} {x : Int} (h : Ins l x A B) : A.length < l.length := by
  have := h.perm.length_eq
  simp at this
  omega

end Go.Proofs.Ytibnhecfgaoblaa
