/- Walks: Join. -/
import Derived.Test.YtaldmbajkhangaaProg
import Derived.Test.YtaldmbajkhangaaW1
import Derived.Test.YtaldmbajkhangaaW3
import Derived.Test.YtaldmbajkhangaaW7
import Derived.Test.YtaldmbajkhangaaT2
import Derived.Test.YtaldmbajkhangaaT6
import Derived.Test.YtaldmbajkhangaaShelf
import Derived.Test.YtaldmbajkhangaaMem
import Derived.WalkKit
import Derived.WalkSpells
import Derived.WalkLawsBesides
import Derived.KernelRfl
import Derived.Lib.Hide
import Derived.Lib.Strings
namespace Go.Proofs.Ytaldmbajkhangaa
open Go.RowKit
set_option linter.unusedVariables false
set_option linter.unusedSimpArgs false

def byts (l : List ByteArray) : List (List UInt8) := l.map (·.data.toList)
def jn (l : List ByteArray) (by_ : ByteArray) : ByteArray := ⟨(Lib.join (byts l) by_.data.toList).toArray⟩
theorem jn_nil (by_ : ByteArray) : jn [] by_ = ByteArray.empty := rfl
theorem jn_one (x by_ : ByteArray) : jn [x] by_ = x := by
  unfold jn byts
  rw [List.map_cons, List.map_nil, Lib.join_one]
theorem joinTail_snoc (sep : List UInt8) (r : List (List UInt8)) (y : List UInt8) : Lib.joinTail sep (r ++ [y]) = Lib.joinTail sep r ++ sep ++ y := by
  simp [Lib.joinTail]
theorem jn_snoc {l : List ByteArray} (h : 0 < l.length) (x by_ : ByteArray) : jn (l ++ [x]) by_ = (jn l by_ ++ by_) ++ x := by
  cases l with
  | nil => simp at h
  | cons a r =>
    apply ByteArray.ext
    apply Array.ext'
    simp only [jn, byts, List.map_append, List.map_cons, List.map_nil, List.cons_append, Lib.join_cons, joinTail_snoc, ByteArray.data_append, Array.toList_append]
    simp [List.append_assoc]
theorem lens_byts : ∀ l : List ByteArray, Lib.lens (byts l) = sumB l
  | [] => rfl
  | x :: l => by
    have := lens_byts l
    simp only [Lib.lens, byts, sumB, List.map_cons, List.sum_cons] at this ⊢
    rw [this]
    congr 1
theorem jn_len {l : List ByteArray} {by_ : ByteArray} (h1 : by_.size ≤ 1048576) (h2 : l.length ≤ 1048576) (h3 : sumB l ≤ 1048576) : (Lib.join (byts l) by_.data.toList).length ≤ 1099512676352 := by
  cases l with
  | nil => simp [byts, Lib.join_nil]
  | cons x r =>
    have h4 : byts (x :: r) = x.data.toList :: byts r := rfl
    rw [h4, Lib.join_length, ← h4, lens_byts]
    have h5 : by_.data.toList.length ≤ 1048576 := by simpa using h1
    have h6 : (byts r).length ≤ 1048576 := by simp [byts] at h2 ⊢; omega
    have := Nat.mul_le_mul h5 h6
    omega
theorem jn_size {l : List ByteArray} {by_ : ByteArray} (h1 : by_.size ≤ 1048576) (h2 : l.length ≤ 1048576) (h3 : sumB l ≤ 1048576) : (jn l by_).size ≤ 1099512676352 := by
  have := jn_len h1 h2 h3
  simpa [jn, ByteArray.size] using this

set_option maxRecDepth 100000 in
set_option maxHeartbeats 1000000 in
theorem impl_Join (l : List ByteArray) (by_ : ByteArray) (v : Value) (w : World) (a b : Nat) (hr : RdS w a b v l) (h1 : by_.size ≤ 1048576) (h2 : l.length ≤ 1048576) (h3 : sumB l ≤ 1048576) :
    Calls Try.prog 20 #[v, .string by_] w fun e w' => e = .returned (.string (jn l by_)) ∧ Below w.heap.size w w' := by
  have hl := jn_len h1 h2 h3
  obtain ⟨A, c, rfl, q1, q2⟩ := hr.form
  by_cases h0 : l = []
  · subst h0
    have hj := fun W => Try.strings_Join_none A c by_ W
    go_enter Try.func20, Try.ntmps20
    go_wp2_with (go_at_call 50; refine (hj _).mono ?_; rintro e w1 ⟨rfl, hw⟩; subst hw)
    go_ret
    exact ⟨rfl, Below.refl _ _⟩
  · have hp : 0 < l.length := List.length_pos_iff.2 h0
    obtain ⟨b0, o0, rfl, _, _, hb0, _⟩ := hr.at_ (List.getElem?_eq_getElem hp)
    have hj := Try.strings_Join b0 o0 c l by_ w (fun j x hx => by
      obtain ⟨b1, o1, e, _, _, _, hc⟩ := hr.at_ hx
      injection e with e; injection e with e1 e2; subst e1; subst e2
      exact hc) hb0 (by omega) q1 (by show (Lib.join (byts l) _).length ≤ _; omega)
    go_enter Try.func20, Try.ntmps20
    go_wp2_with (go_at_call 50; refine hj.mono ?_; rintro e w1 ⟨rfl, hb⟩)
    go_ret
    exact ⟨rfl, hb⟩

set_option maxRecDepth 100000 in
set_option maxHeartbeats 1000000 in
theorem spec_Join (l : List ByteArray) (by_ : ByteArray) (v : Value) (w : World) (a b : Nat) (hr : RdS w a b v l) (h1 : by_.size ≤ 1048576) (h2 : l.length ≤ 1048576) (h3 : sumB l ≤ 1048576) :
    Calls Try.prog 18 #[v, .string by_] w fun e w' => e = .returned (.string (jn l by_)) ∧ w = w' := by
  obtain ⟨A, c, rfl, q1, q2⟩ := hr.form
  go_enter Try.func18, Try.ntmps18
  go_wp2_with fail
  go_loop [5, 10] (fun s i => ∃ (k : Nat) (t : ByteArray), t = jn (l.take k) by_ ∧ k ≤ l.length ∧ i = .int .i64 k ∧ s = .string t ∧ t.size ≤ 1099512676352) (fun _ i => l.length - (intOf i).toNat)
  case atStart => exact ⟨0, ByteArray.empty, rfl, Nat.zero_le _, rfl, rfl, by simp⟩
  case round =>
    obtain ⟨k, t, ht, hk, rfl, rfl, hz⟩ := hrel
    have Ht := Lib.hid ht; clear ht
    by_cases hlt : k < l.length
    rotate_left
    · have Hl := Lib.hid (take_all hlt)
      go_wp2_with fail
      go_ret
      exact ⟨ret_str (by rw [Ht.out, Hl.out]), rfl⟩
    obtain ⟨x, hx⟩ := get_of_lt l k hlt
    obtain ⟨b1, o1, rfl, _, _, _, hc⟩ := hr.at_ hx
    have hxs : x.size ≤ 1048576 := by
      have e1 := sumB_take_le l (k + 1)
      rw [take_snoc hx, sumB_snoc] at e1
      omega
    have hn : (jn (l.take (k + 1)) by_).size ≤ 1099512676352 := jn_size h1 (by rw [List.length_take]; omega) (Nat.le_trans (sumB_take_le l (k + 1)) h3)
    have Hx := Lib.hid (take_snoc hx); clear hx
    by_cases h0 : k = 0
    · subst h0
      rw [Nat.add_zero] at hc
      have Hn := Lib.hid (show jn (l.take (0 + 1)) by_ = t ++ x by rw [Hx.out, Ht.out]; simp [jn_nil, jn_one])
      have hn2 := hn
      rw [Hn.out] at hn2
      have hn := Lib.hid hn
      go_wp2_with fail
      go_round
      case rel => exact ⟨0 + 1, t ++ x, Hn.out.symm, by omega, by go_num, rfl, hn2⟩
      case measure => simp [intOf]; omega
    · have Hn := Lib.hid (show jn (l.take (k + 1)) by_ = (t ++ by_) ++ x by rw [Hx.out, jn_snoc (by rw [List.length_take]; omega), Ht.out])
      have hk0 : 0 < k := by omega
      have hn2 := hn
      rw [Hn.out] at hn2
      have hn := Lib.hid hn
      have hs1 : (t ++ by_).size ≤ 1099513724928 := by rw [ByteArray.size_append]; omega
      go_wp2_with fail
      go_round
      case rel => exact ⟨k + 1, (t ++ by_) ++ x, Hn.out.symm, by omega, by go_num, rfl, hn2⟩
      case measure => simp [intOf]; omega
end Go.Proofs.Ytaldmbajkhangaa
