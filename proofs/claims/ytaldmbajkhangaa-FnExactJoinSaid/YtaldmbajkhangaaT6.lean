/- Walks: PadZeros, Join. -/
import Derived.Test.YtaldmbajkhangaaProg
import Derived.Test.YtaldmbajkhangaaW1
import Derived.Test.YtaldmbajkhangaaW3
import Derived.Test.YtaldmbajkhangaaW7
import Derived.Test.YtaldmbajkhangaaT2
import Derived.Test.YtaldmbajkhangaaShelf
import Derived.Test.YtaldmbajkhangaaMem
import Derived.WalkKit
import Derived.WalkSpells
import Derived.WalkLawsBesides
import Derived.KernelRfl
import Derived.Lib.Hide
import Derived.Lib.Strings
namespace Go.Proofs.Ytaldmbajkhangaa
open Go.RowKit
set_option linter.unusedVariables false
set_option linter.unusedSimpArgs false

def zeroB (k : Nat) : ByteArray := ⟨(List.replicate k 48).toArray⟩
theorem zeroB_size (k : Nat) : (zeroB k).size = k := by simp [zeroB, ByteArray.size]
theorem zeroB_zero (s : ByteArray) : zeroB 0 ++ s = s := by
  apply ByteArray.ext
  simp [zeroB]
theorem zeroB_succ (k : Nat) (s : ByteArray) : (⟨#[48]⟩ : ByteArray) ++ (zeroB k ++ s) = zeroB (k + 1) ++ s := by
  apply ByteArray.ext
  simp only [ByteArray.data_append, zeroB, List.replicate_succ]
  rw [← Array.append_assoc]
  congr 1
  apply Array.ext'
  simp
theorem repeat_zero : ∀ k, Lib.repeatL [48] k = List.replicate k 48
  | 0 => rfl
  | k + 1 => by rw [Lib.repeatL, repeat_zero k, List.replicate_succ]; rfl
def padF (s : ByteArray) (n : Int) : ByteArray := if 2000 < n then s else zeroB (n - s.size).toNat ++ s
theorem pad_big {s : ByteArray} {n : Int} (h : 2000 < n) : padF s n = s := if_pos h
theorem pad_in {s : ByteArray} {n : Int} {k : Nat} (h : ¬ 2000 < n) (hk : (n - s.size).toNat = k) : padF s n = zeroB k ++ s := by rw [padF, if_neg h, hk]
theorem ret_str {a b : ByteArray} (h : a = b) : Ending.returned (.string a) = .returned (.string b) := by rw [h]
theorem rep0 (m : Int) (c : Nat) (w : World) (h : m = c) (hc : c ≤ 2000) :
    Calls Try.prog 51 #[.string ⟨#[48]⟩, .int .i64 m] w fun e w' => e = .returned (.string (zeroB c)) ∧ Below w.heap.size w w' := by
  subst h
  refine (Try.strings_Repeat ⟨#[48]⟩ c w (by omega) (by show 1 * c ≤ _; omega)).mono ?_
  rintro e w' ⟨rfl, hb⟩
  refine ⟨ret_str ?_, hb⟩
  show ByteArray.mk (Lib.repeatL [48] c).toArray = _
  rw [repeat_zero]; rfl

set_option maxRecDepth 100000 in
set_option maxHeartbeats 1000000 in
theorem impl_PadZeros (s : ByteArray) (n : Int) (w : World) (hs : s.size ≤ 1048576) (hn : (Lit.int .i64 n).wf = true) :
    Calls Try.prog 22 #[.string s, .int .i64 n] w fun e w' => e = .returned (.string (padF s n)) ∧ Below w.heap.size w w' := by
  by_cases h1 : 2000 < n
  · have GD := Lib.hid (pad_big (s := s) h1)
    go_enter Try.func22, Try.ntmps22
    go_wp2_with fail
    go_ret
    exact ⟨ret_str GD.out.symm, Below.refl _ _⟩
  by_cases h2 : n ≤ s.size
  · have GD := Lib.hid (pad_in (s := s) h1 (k := 0) (by omega))
    go_enter Try.func22, Try.ntmps22
    go_wp2_with fail
    go_ret
    exact ⟨ret_str (by rw [GD.out, zeroB_zero]), Below.refl _ _⟩
  obtain ⟨k, hk⟩ : ∃ k : Nat, n - s.size = k := ⟨(n - s.size).toNat, by omega⟩
  have GD := Lib.hid (pad_in (s := s) h1 (k := k) (by omega))
  have hk2 : k ≤ 2000 := by omega
  have hz := zeroB_size k
  go_enter Try.func22, Try.ntmps22
  go_wp2_with (go_at_call 51; refine (rep0 _ k _ (by omega) hk2).mono ?_; rintro e w1 ⟨rfl, hb⟩)
  go_ret
  exact ⟨ret_str GD.out.symm, hb⟩

set_option maxRecDepth 100000 in
set_option maxHeartbeats 1000000 in
theorem spec_PadZeros (s : ByteArray) (n : Int) (w : World) (hs : s.size ≤ 1048576) (hn : (Lit.int .i64 n).wf = true) :
    Calls Try.prog 21 #[.string s, .int .i64 n] w fun e w' => e = .returned (.string (padF s n)) ∧ w = w' := by
  by_cases h1 : 2000 < n
  · have GD := Lib.hid (pad_big (s := s) h1)
    go_enter Try.func21, Try.ntmps21
    go_wp2_with fail
    go_ret
    exact ⟨ret_str GD.out.symm, rfl⟩
  obtain ⟨m, hm⟩ : ∃ m : Nat, (n - s.size).toNat = m := ⟨_, rfl⟩
  have GD := Lib.hid (pad_in (s := s) h1 hm)
  have hm2 : m ≤ 2000 := by omega
  go_enter Try.func21, Try.ntmps21
  go_wp2_with fail
  go_loop [0] (fun v => ∃ (k z : Nat) (t : ByteArray), t = zeroB k ++ s ∧ k ≤ m ∧ v = .string t ∧ z = s.size + k ∧ t.size = z) (fun v => m - ((match v with | .string t => t.size | _ => 0) - s.size))
  case atStart => exact ⟨0, s.size, s, (zeroB_zero s).symm, Nat.zero_le _, rfl, rfl, rfl⟩
  case round =>
    obtain ⟨k, z, t, ht, hk, rfl, hz, hsz⟩ := hrel
    have Ht := Lib.hid ht; clear ht
    by_cases hlt : k < m
    · have hlt2 : (t.size : Int) < n := by omega
      go_wp2_with fail
      go_round
      case rel => exact ⟨k + 1, z + 1, _, by rw [Ht.out, zeroB_succ], by omega, rfl, by omega, by rw [ByteArray.size_append, hsz]; show 1 + z = _; omega⟩
      case measure =>
        show m - ((((⟨#[48]⟩ : ByteArray) ++ t).size) - s.size) < m - (t.size - s.size)
        rw [ByteArray.size_append, hsz]
        show m - ((1 + z) - s.size) < _
        omega
    · have hge : ¬ ((t.size : Int) < n) := by omega
      have Hk := Lib.hid (show k = m by omega)
      go_wp2_with fail
      go_ret
      exact ⟨ret_str (by rw [Ht.out, Hk.out, GD.out]), rfl⟩
end Go.Proofs.Ytaldmbajkhangaa
