/- Walks: SplitAny. -/
import Derived.Test.YtaldmbajkhangaaDoorProg
import Derived.Test.YtaldmbajkhangaaDoorW1
import Derived.Test.YtaldmbajkhangaaDoorW3
import Derived.Test.YtaldmbajkhangaaDoorW7
import Derived.Test.YtaldmbajkhangaaDoorT2
import Derived.Test.YtaldmbajkhangaaDoorShelf
import Derived.Test.YtaldmbajkhangaaDoorMem
import Derived.WalkKit
import Derived.WalkSpells
import Derived.WalkLawsBesides
import Derived.KernelRfl
import Derived.Lib.Hide
import Derived.Lib.Strings
import Derived.Deep.QuietTactic
import Derived.BigQuiet
namespace Go.Proofs.YtaldmbajkhangaaDoor
open Go.RowKit
set_option linter.unusedVariables false
set_option linter.unusedSimpArgs false

theorem indexByte_in : ∀ (l : List UInt8) (c : UInt8), l.contains c = true → 0 ≤ Lib.indexByte l c
  | [], c, h => by simp at h
  | b :: l, c, h => by
    unfold Lib.indexByte
    by_cases hb : b = c
    · simp [hb]
    · have h2 : l.contains c = true := by
        simp only [List.contains_cons, Bool.or_eq_true, beq_iff_eq] at h
        exact h.resolve_left (fun e => hb e.symm)
      have ih := indexByte_in l c h2
      rw [if_neg (by simpa using hb)]
      have : ¬ (Lib.indexByte l c == -1) = true := by simp; omega
      rw [if_neg this]; omega
theorem indexByte_out : ∀ (l : List UInt8) (c : UInt8), l.contains c = false → Lib.indexByte l c = -1
  | [], c, h => rfl
  | b :: l, c, h => by
    simp only [List.contains_cons, Bool.or_eq_false_iff, beq_eq_false_iff_ne] at h
    unfold Lib.indexByte
    rw [if_neg (by simpa using fun e => h.1 e.symm), indexByte_out l c h.2]
    rfl
theorem byte_back (c : UInt8) : ((c.toNat : Int)).toNat.toUInt8 = c := by simp

theorem idxB (s : ByteArray) (c : UInt8) (w : World) : Calls Tryd.prog 25 #[.string s, .int .u8 c.toNat] w fun e w' => e = .returned (.int .i64 (Lib.indexByte s.data.toList c)) ∧ w = w' := by
  have h := Tryd.strings_IndexByte s c.toNat w
  rw [byte_back] at h
  exact h.mono fun _ _ ⟨h1, h2⟩ => ⟨h1, h2.symm⟩

set_option maxRecDepth 100000 in
set_option maxHeartbeats 2000000 in
theorem impl_SplitAny (s by_ : ByteArray) (w : World) (hs : s.size ≤ 1048576) (hb : by_.size ≤ 1048576) :
    Calls Tryd.prog 13 #[.string s, .string by_] w (RetS w (splitF s by_)) := by
  obtain ⟨i0, hi, hz0, hz1, hz2⟩ := info_parts str_info
  go_enter Tryd.func13, Tryd.ntmps13
  go_wp2_with fail
  go_loopw [5, 6, 7] (fun out st i wr => ∃ (k S : Nat) (o : Value), S = spSt s by_ k ∧ k ≤ s.size ∧ i = .int .i64 k ∧ st = .int .i64 S ∧ o = out ∧ Ow wr w.heap.size wr.heap.size 9 o (strs (spAcc s by_ k)) ∧ Below w.heap.size w wr) (fun _ _ i _ => s.size - (intOf i).toNat)
  case atStart => exact ⟨0, 0, _, rfl, Nat.zero_le _, rfl, rfl, rfl, Ow.nil _ _ _ _, Below.refl _ _⟩
  case round =>
    obtain ⟨k, S, o, hS, hk, rfl, rfl, rfl, ho, hb0⟩ := hrel
    have hSk := spSt_le s by_ k
    rw [← hS] at hSk
    have HS := Lib.hid hS; clear hS
    have hlen : (strs (spAcc s by_ k)).length ≤ k := by rw [strs_len]; exact spAcc_len s by_ k
    have hbs := hb0.size
    by_cases hlt : k < s.size
    rotate_left
    · obtain rfl : k = s.size := by omega
      have lenE : (strs (spAcc s by_ s.size)).length = (spAcc s by_ s.size).length := strs_len _
      go_wp2_with (at_builtin; refine wpList_append_own _ rfl _ _ 31 rfl w.heap.size 9 i0 (.string ByteArray.empty) 1 16 Tryd.underlying31 hi hz0 hz1 hz2 rfl (by decide) _ _ _ rfl (ho.1.alloc _) ⟨wr.heap.size, 0, none⟩ 1 1 [.string (s.extract S s.size)] rfl rfl (cell_one_new _ _ _) (by simp [Value.oneCell']) (by unfold maxLen; omega) (by omega) (by simp; omega) ?_; intro v2 w2 hown2 hg2 _)
      go_ret
      have hb2 : Below w.heap.size wr w2 := ((Below.refl _ _).alloc hbs _).grown hg2 (by simp; omega) (fun q hq => (ho.blk hq).1)
      refine ⟨_, rfl, ?_, hb0.trans hb2⟩
      rw [splitF, strs_app, ← HS.out]
      exact Ow.of_top hown2
    by_cases hm : memB by_ s[k] = true
    · have hx := indexByte_in _ _ hm
      have Ha := Lib.hid (spAcc_yes hlt hm)
      have Ht := Lib.hid (spSt_yes hlt hm)
      clear hm
      go_wp2_with (first
        | (go_at_call 25; refine (idxB _ _ _).mono ?_; rintro e w' ⟨rfl, rfl⟩)
        | (at_builtin; refine wpList_append_own _ rfl _ _ 31 rfl w.heap.size 9 i0 (.string ByteArray.empty) 1 16 Tryd.underlying31 hi hz0 hz1 hz2 rfl (by decide) _ _ _ rfl (ho.1.alloc _) ⟨wr.heap.size, 0, none⟩ 1 1 [.string (s.extract S k)] rfl rfl (cell_one_new _ _ _) (by simp [Value.oneCell']) (by unfold maxLen; omega) (by omega) (by simp; omega) ?_; intro v2 w2 hown2 hg2 _))
      go_roundw
      case rel =>
        have hb2 : Below w.heap.size wr w2 := ((Below.refl _ _).alloc hbs _).grown hg2 (by simp; omega) (fun q hq => (ho.blk hq).1)
        refine ⟨k + 1, k + 1, _, by rw [Ht.out], by omega, by go_num, by go_num, rfl, ?_, hb0.trans hb2⟩
        rw [Ha.out, strs_app, ← HS.out]
        exact Ow.of_top hown2
      case measure => simp [intOf]; omega
    · have hm : memB by_ s[k] = false := by simpa using hm
      have hx := indexByte_out _ _ hm
      have Ha := Lib.hid (spAcc_no hlt hm)
      have Ht := Lib.hid (spSt_no hlt hm)
      clear hm
      go_wp2_with (go_at_call 25; refine (idxB _ _ _).mono ?_; rw [hx]; rintro e w' ⟨rfl, rfl⟩)
      go_roundw
      case rel => exact ⟨k + 1, S, _, by rw [Ht.out, HS.out], by omega, by go_num, rfl, rfl, by rw [Ha.out]; exact ho, hb0⟩
      case measure => simp [intOf]; omega

theorem not_in_all {l : List UInt8} {c : UInt8} {k : Nat} (hk : ¬ k < l.length) (h : (l.take k).contains c = false) : l.contains c = false := by
  rwa [List.take_of_length_le (by omega)] at h
theorem not_in_snoc {s : ByteArray} {c : UInt8} {k : Nat} (hk : k < s.size) (h : (s.data.toList.take k).contains c = false) (hc : c ≠ s[k]) : (s.data.toList.take (k + 1)).contains c = false := by
  rw [take_snoc_b s k hk, List.contains_eq_mem, decide_eq_false_iff_not]
  rw [List.contains_eq_mem, decide_eq_false_iff_not] at h
  intro hm
  rcases List.mem_append.1 hm with hm | hm
  · exact h hm
  · simp at hm; exact hc hm
theorem in_at {s : ByteArray} {c : UInt8} {k : Nat} (hk : k < s.size) (hc : c = s[k]) : memB s c = true := by
  unfold memB
  rw [List.contains_eq_mem, decide_eq_true_eq, hc]
  exact List.getElem_mem (by simpa using hk)

end Go.Proofs.YtaldmbajkhangaaDoor
