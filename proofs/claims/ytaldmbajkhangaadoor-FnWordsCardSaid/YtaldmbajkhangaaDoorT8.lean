/- Walks: Join. -/
import Derived.Test.YtaldmbajkhangaaDoorProg
import Derived.Test.YtaldmbajkhangaaDoorW1
import Derived.Test.YtaldmbajkhangaaDoorW3
import Derived.Test.YtaldmbajkhangaaDoorW7
import Derived.Test.YtaldmbajkhangaaDoorT2
import Derived.Test.YtaldmbajkhangaaDoorT6
import Derived.Test.YtaldmbajkhangaaDoorShelf
import Derived.Test.YtaldmbajkhangaaDoorMem
import Derived.WalkKit
import Derived.WalkSpells
import Derived.WalkLawsBesides
import Derived.KernelRfl
import Derived.Lib.Hide
import Derived.Lib.Strings
namespace Go.Proofs.YtaldmbajkhangaaDoor
open Go.RowKit
set_option linter.unusedVariables false
set_option linter.unusedSimpArgs false

def byts (l : List ByteArray) : List (List UInt8) := l.map (·.data.toList)
def jn (l : List ByteArray) (by_ : ByteArray) : ByteArray := ⟨(Lib.join (byts l) by_.data.toList).toArray⟩
theorem jn_nil (by_ : ByteArray) : jn [] by_ = ByteArray.empty := rfl
theorem jn_one (x by_ : ByteArray) : jn [x] by_ = x := by
  unfold jn byts
  rw [List.map_cons, List.map_nil, Lib.join_one]
theorem joinTail_snoc (sep : List UInt8) (r : List (List UInt8)) (y : List UInt8) : Lib.joinTail sep (r ++ [y]) = Lib.joinTail sep r ++ sep ++ y := by
  simp [Lib.joinTail]
theorem jn_snoc {l : List ByteArray} (h : 0 < l.length) (x by_ : ByteArray) : jn (l ++ [x]) by_ = (jn l by_ ++ by_) ++ x := by
  cases l with
  | nil => simp at h
  | cons a r =>
    apply ByteArray.ext
    apply Array.ext'
    simp only [jn, byts, List.map_append, List.map_cons, List.map_nil, List.cons_append, Lib.join_cons, joinTail_snoc, ByteArray.data_append, Array.toList_append]
    simp [List.append_assoc]
theorem lens_byts : ∀ l : List ByteArray, Lib.lens (byts l) = sumB l
  | [] => rfl
  | x :: l => by
    have := lens_byts l
    simp only [Lib.lens, byts, sumB, List.map_cons, List.sum_cons] at this ⊢
    rw [this]
    congr 1
theorem jn_len {l : List ByteArray} {by_ : ByteArray} (h1 : by_.size ≤ 1048576) (h2 : l.length ≤ 1048576) (h3 : sumB l ≤ 1048576) : (Lib.join (byts l) by_.data.toList).length ≤ 1099512676352 := by
  cases l with
  | nil => simp [byts, Lib.join_nil]
  | cons x r =>
    have h4 : byts (x :: r) = x.data.toList :: byts r := rfl
    rw [h4, Lib.join_length, ← h4, lens_byts]
    have h5 : by_.data.toList.length ≤ 1048576 := by simpa using h1
    have h6 : (byts r).length ≤ 1048576 := by simp [byts] at h2 ⊢; omega
    have := Nat.mul_le_mul h5 h6
    omega
theorem jn_size {l : List ByteArray} {by_ : ByteArray} (h1 : by_.size ≤ 1048576) (h2 : l.length ≤ 1048576) (h3 : sumB l ≤ 1048576) : (jn l by_).size ≤ 1099512676352 := by
  have := jn_len h1 h2 h3
  simpa [jn, ByteArray.size] using this

set_option maxRecDepth 100000 in
set_option maxHeartbeats 1000000 in
theorem impl_Join (l : List ByteArray) (by_ : ByteArray) (v : Value) (w : World) (a b : Nat) (hr : RdS w a b v l) (h1 : by_.size ≤ 1048576) (h2 : l.length ≤ 1048576) (h3 : sumB l ≤ 1048576) :
    Calls Tryd.prog 12 #[v, .string by_] w fun e w' => e = .returned (.string (jn l by_)) ∧ Below w.heap.size w w' := by
  have hl := jn_len h1 h2 h3
  obtain ⟨A, c, rfl, q1, q2⟩ := hr.form
  by_cases h0 : l = []
  · subst h0
    have hj := fun W => Tryd.strings_Join_none A c by_ W
    go_enter Tryd.func12, Tryd.ntmps12
    go_wp2_with (go_at_call 24; refine (hj _).mono ?_; rintro e w1 ⟨rfl, hw⟩; subst hw)
    go_ret
    exact ⟨rfl, Below.refl _ _⟩
  · have hp : 0 < l.length := List.length_pos_iff.2 h0
    obtain ⟨b0, o0, rfl, _, _, hb0, _⟩ := hr.at_ (List.getElem?_eq_getElem hp)
    have hj := Tryd.strings_Join b0 o0 c l by_ w (fun j x hx => by
      obtain ⟨b1, o1, e, _, _, _, hc⟩ := hr.at_ hx
      injection e with e; injection e with e1 e2; subst e1; subst e2
      exact hc) hb0 (by omega) q1 (by show (Lib.join (byts l) _).length ≤ _; omega)
    go_enter Tryd.func12, Tryd.ntmps12
    go_wp2_with (go_at_call 24; refine hj.mono ?_; rintro e w1 ⟨rfl, hb⟩)
    go_ret
    exact ⟨rfl, hb⟩

end Go.Proofs.YtaldmbajkhangaaDoor
