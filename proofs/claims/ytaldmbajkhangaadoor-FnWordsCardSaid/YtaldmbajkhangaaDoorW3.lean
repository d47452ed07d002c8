/- Walks over []int: the laws' helpers and the small callees. -/
import Derived.Test.YtaldmbajkhangaaDoorProg
import Derived.Test.YtaldmbajkhangaaDoorW1
import Derived.Test.YtaldmbajkhangaaDoorMem
import Derived.WalkKit
import Derived.WalkSpells
import Derived.WalkLawsBesides
import Derived.KernelRfl
import Derived.Lib.Hide
import Derived.Deep.QuietTactic
import Derived.BigQuiet
namespace Go.Proofs.YtaldmbajkhangaaDoor
open Go.RowKit
set_option linter.unusedVariables false
set_option linter.unusedSimpArgs false

theorem take_snoc {α : Type} {l : List α} {k : Nat} {x : α} (h : l[k]? = some x) : l.take (k + 1) = l.take k ++ [x] := by
  obtain ⟨hk, rfl⟩ := List.getElem?_eq_some_iff.1 h
  rw [List.take_succ_eq_append_getElem hk]
theorem get_of_lt {α : Type} (l : List α) (k : Nat) (h : k < l.length) : ∃ x, l[k]? = some x := ⟨l[k], List.getElem?_eq_getElem h⟩
theorem take_all {α : Type} {l : List α} {k : Nat} (h : ¬ k < l.length) : l.take k = l := List.take_of_length_le (by omega)
theorem all_take_bad {α : Type} {l : List α} {k : Nat} {x : α} {p : α → Bool} (h : l[k]? = some x) (hp : p x = false) : l.all p = false := by
  rw [List.all_eq_false]
  obtain ⟨hk, rfl⟩ := List.getElem?_eq_some_iff.1 h
  exact ⟨_, List.getElem_mem hk, by simp [hp]⟩
theorem all_take_ok {α : Type} {l : List α} {k : Nat} {x : α} {p : α → Bool} (h : l[k]? = some x) (hp : p x = true) (ha : (l.take k).all p = true) : (l.take (k + 1)).all p = true := by
  rw [take_snoc h, List.all_append, ha]; simp [hp]

theorem int_info : (Tryd.prog.info? 3).map (fun i => (i.zero, i.size, i.bytes)) = some (some (.int .i64 0), 1, 8) := by kernel_rfl

/-- The post of a call that makes a new []int. -/
def RetI (w : World) (l : List Int) (e : Ending) (w' : World) : Prop := ∃ v, e = .returned v ∧ Ow w' w.heap.size w'.heap.size 3 v (ints l) ∧ Below w.heap.size w w'

theorem eq_take {α : Type} {l m : List α} {k : Nat} {x : α} (h1 : l[k]? = some x) (h2 : m[k]? = some x) (h : l.take k = m.take k) : l.take (k + 1) = m.take (k + 1) := by
  rw [take_snoc h1, take_snoc h2, h]
theorem ne_at {α : Type} {l m : List α} {k : Nat} {x y : α} (h1 : l[k]? = some x) (h2 : m[k]? = some y) (h : x ≠ y) : l ≠ m := by
  rintro rfl; rw [h1] at h2; exact h (Option.some.inj h2)

/-- Equality of two lists of ints, as a Bool. -/
def eqI (l m : List Int) : Bool := decide (l = m)
theorem eqI_len {l m : List Int} (h : l.length ≠ m.length) : eqI l m = false := by
  simp only [eqI, decide_eq_false_iff_not]; rintro rfl; exact h rfl
theorem eqI_ne {l m : List Int} (h : l ≠ m) : eqI l m = false := by simpa [eqI] using h
theorem eqI_self (l : List Int) : eqI l l = true := by simp [eqI]
theorem eqI_fin {l m : List Int} {k : Nat} (hl : l.length = m.length) (hk : ¬ k < l.length) (h : l.take k = m.take k) : eqI l m = true := by
  rw [take_all hk, take_all (by omega)] at h; simpa [eqI] using h

theorem below_drewN {B : Nat} {a w : World} (h : Below B a w) (n : Nat) : Below B a (w.drewN n) := ⟨h.os, h.tape, h.output, h.size, h.block⟩

def markL (n : Nat) (k : Int) : List Int := (List.range n).map fun (i : Nat) => k + (i : Int)
theorem markL_len (n : Nat) (k : Int) : (markL n k).length = n := by simp [markL]
theorem markL_succ (n : Nat) (k : Int) : markL (n + 1) k = markL n k ++ [k + (n : Int)] := by simp [markL, List.range_succ]
theorem markL_get {n i : Nat} (k : Int) (h : i < n) : (markL n k)[i]? = some (k + (i : Int)) := by simp [markL, h]
theorem mark_step {l : List Int} {i : Nat} {k : Int} (h : i < l.length) : (ints (markL i k ++ l.drop i)).set i (.int .i64 (k + (i : Int))) = ints (markL (i + 1) k ++ l.drop (i + 1)) := by
  rw [ints_set, markL_succ, List.set_append_right _ _ (by simp [markL_len]), markL_len, Nat.sub_self, List.drop_eq_getElem_cons h, List.set_cons_zero, List.append_assoc]
  rfl

/-- What heldIntS answers. -/
def heldF (l : List Int) (k : Int) : Int := if l = markL l.length k then k + l.length else -1
theorem heldF_mark (n : Nat) (k : Int) : heldF (markL n k) k = k + n := by simp [heldF, markL_len]
end Go.Proofs.YtaldmbajkhangaaDoor
