/- Walks: FormatInt. -/
import Derived.Test.YtaldmbajkhangaaDoorProg
import Derived.Test.YtaldmbajkhangaaDoorW1
import Derived.Test.YtaldmbajkhangaaDoorShelf
import Derived.Test.YtaldmbajkhangaaDoorF1
import Derived.Test.YtaldmbajkhangaaDoorMem
import Derived.Lib.AppendIntMem
import Derived.WalkKit
import Derived.WalkSpells
import Derived.WalkLawsBesides
import Derived.KernelRfl
import Derived.Lib.Hide
import Derived.Lib.Strings
import Derived.Deep.RegionHeld3
namespace Go.Proofs.YtaldmbajkhangaaDoor
open Go.RowKit
set_option linter.unusedVariables false
set_option linter.unusedSimpArgs false

def tabName : String := "internal/strconv.uint64pow10"
/-- The library's table of powers of ten is there. -/
def Tab (w : World) : Prop := Lib.TabIs Tryd.prog w "internal/strconv.uint64pow10" .u64 Lib.pow10Tab
theorem fret_str {a b : ByteArray} (h : a = b) : Ending.returned (.string a) = .returned (.string b) := by rw [h]
theorem belA {w w1 : World} (hb : Below w.drew.heap.size w.drew w1) (o : Obj) : Below w.heap.size w (w1.alloc o) :=
  Below.alloc (show Below w.heap.size w w1 from ⟨hb.os, hb.tape, hb.output, hb.size, hb.block⟩) hb.size o
theorem belB {w w1 : World} {o : Obj} (hb : Below (w.alloc o).drew.heap.size (w.alloc o).drew w1) : Below w.heap.size w w1 := by
  have h1 : Below w.heap.size w (w.alloc o).drew := ((Below.refl w.heap.size w).alloc (Nat.le_refl _) o).drew
  exact h1.trans (hb.mono h1.size)
theorem ofNat48 (m : Nat) : (48 : UInt8) + UInt8.ofNat m = UInt8.ofNat (48 + m) := by simp
/-- string([]byte{c}). -/
theorem conv1f (W : World) (n : Int) : (convert 27 9 (.slice (some ⟨W.heap.size, 0, none⟩) 1 1)).run Tryd.prog (W.alloc (.cells #[.int .u8 n] 5)) = .ok (.string ⟨#[UInt8.ofNat n.toNat]⟩) (W.alloc (.cells #[.int .u8 n] 5)) := by
  rw [run_convert_bytes_string _ _ _ _ _ _ _ Tryd.underlying27 Tryd.underlying5 Tryd.underlying9]
  rw [run_bytesToString _ _ _ _ [n] ?_]
  · rfl
  · have := run_loadCells_list (P := Tryd.prog) (w := W.alloc (.cells #[.int .u8 n] 5)) ⟨W.heap.size, 0, none⟩ [.int .u8 n] (by
      intro j u hj
      match j, hj with
      | 0, hj => simp at hj; subst hj; simp [Addr.add]
      | j + 1, hj => simp at hj)
    simpa using this

theorem conv2f (W : World) (b : Nat) (n : Int) (h : W.cell? ⟨b, 0, none⟩ = some (.int .u8 n)) : (convert 27 9 (.slice (some ⟨b, 0, none⟩) 1 1)).run Tryd.prog W = .ok (.string ⟨#[UInt8.ofNat n.toNat]⟩) W := by
  rw [run_convert_bytes_string _ _ _ _ _ _ _ Tryd.underlying27 Tryd.underlying5 Tryd.underlying9]
  rw [run_bytesToString _ _ _ _ [n] ?_]
  · rfl
  · have := run_loadCells_list (P := Tryd.prog) (w := W) ⟨b, 0, none⟩ [.int .u8 n] (by
      intro j u hj
      match j, hj with
      | 0, hj => simp at hj; subst hj; simpa [Addr.add] using h
      | j + 1, hj => simp at hj)
    simpa using this

theorem conv3f (W : World) (n : Int) : (convert 27 9 (.slice (some ⟨W.heap.size, 0, none⟩) 1 1)).run Tryd.prog (W.alloc (.cells #[.int .u8 n] 5)).drew = .ok (.string ⟨#[UInt8.ofNat n.toNat]⟩) (W.alloc (.cells #[.int .u8 n] 5)).drew := conv2f _ _ _ (by simp)
theorem conv4f (W w1 : World) (n : Int) (hb : Below (W.alloc (.cells #[.int .u8 n] 5)).drew.heap.size (W.alloc (.cells #[.int .u8 n] 5)).drew w1) : (convert 27 9 (.slice (some ⟨W.heap.size, 0, none⟩) 1 1)).run Tryd.prog w1 = .ok (.string ⟨#[UInt8.ofNat n.toNat]⟩) w1 :=
  conv2f _ _ _ (by rw [hb.cell (by simp)]; simp)

set_option maxRecDepth 100000 in
set_option maxHeartbeats 1000000 in
theorem impl_FormatInt (n : Int) (w : World) (h0 : -9223372036854775808 ≤ n) (h1 : n ≤ 9223372036854775807) (ht : Tab w) :
    Calls Tryd.prog 7 #[.int .i64 n] w fun e w' => e = .returned (.string (fmtF n)) ∧ Below w.heap.size w w' := by
  have hI := Tryd.strconv_Itoa n h0 h1 w ht
  go_enter Tryd.func7, Tryd.ntmps7
  go_wp2_with (go_at_call 16; refine hI.mono ?_; rintro e w' ⟨rfl, k, os, rfl⟩)
  go_ret
  exact ⟨rfl, Lib.below_grow _ _ (Nat.le_refl _) k os⟩

set_option maxRecDepth 100000 in
set_option maxHeartbeats 1000000 in
theorem spec_FormatInt_pos (u : Nat) (w : World) (hu : u ≤ 9223372036854775807) :
    Calls Tryd.prog 6 #[.int .i64 u] w fun e w' => e = .returned (.string (fmtF u)) ∧ Below w.heap.size w w' := by
  have hcv := conv1f
  have h1 : ¬ (u : Int) < 0 := by omega
  go_enter Tryd.func6, Tryd.ntmps6
  go_wp2_with fail
  go_loopw [0, 3] (fun n s wr => ∃ (m : Nat) (t : ByteArray), Hid (Lib.decDigits u = Lib.decDigits m ++ t.data.toList) ∧ m ≤ 9223372036854775807 ∧ n = .int .i64 m ∧ s = .string t ∧ Below w.heap.size w wr) (fun n _ _ => (intOf n).toNat)
  case atStart => exact ⟨u, ByteArray.empty, Lib.hid (by simp), hu, rfl, rfl, Below.refl _ _⟩
  case round =>
    obtain ⟨m, t, Ht, hm, rfl, rfl, hb⟩ := hrel
    have hts : t.size ≤ 19 := by
      have e := congrArg List.length Ht.out
      have e2 := dec_len 18 u (by omega)
      rw [List.length_append] at e
      have e3 : t.data.toList.length = t.size := Array.length_toList
      omega
    have hbs := hb.size
    by_cases hlt : 9 < m
    · go_wp2_with fail
      go_roundw
      case rel =>
        refine ⟨m / 10, _, Lib.hid ?_, by omega, by go_num, rfl, hb.alloc hbs _⟩
        rw [Ht.out, Lib.decDigits, dif_neg (by omega), List.append_assoc]
        simp [ByteArray.data_append]
      case measure => simp [intOf]; omega
    · go_wp2_with fail
      go_ret
      refine ⟨fret_str ?_, hb.alloc hbs _⟩
      apply ByteArray.ext
      apply Array.ext'
      rw [fmtF_data, Lib.itoa_nonneg, Ht.out, Lib.decDigits, dif_pos (by omega)]
      simp [ByteArray.data_append]

set_option maxRecDepth 100000 in
set_option maxHeartbeats 1000000 in
theorem spec_FormatInt_neg (u : Nat) : ∀ (w : World), 1 ≤ u → u ≤ 9223372036854775808 →
    Calls Tryd.prog 6 #[.int .i64 (-(u : Int))] w fun e w' => e = .returned (.string (fmtF (-(u : Int)))) ∧ Below w.heap.size w w' := by
  induction u using Nat.strongRecOn with
  | _ u ih =>
    intro w h1 h2
    have hcv := conv1f
    have h3 : (-(u : Int)) < 0 := by omega
    obtain ⟨q, hq⟩ : ∃ q, q = u / 10 := ⟨_, rfl⟩
    obtain ⟨r, hr⟩ : ∃ r, r = u % 10 := ⟨_, rfl⟩
    have f1 : IntKind.i64.wrap (-((u : Int) / 10)) = -(q : Int) := by rw [IntKind.wrap_i64]; omega
    have f2 : (u : Int).tmod 10 = (r : Int) := by rw [Int.tmod_eq_emod_of_nonneg (by omega)]; omega
    have f3 : IntKind.i64.wrap (48 + (r : Int)) = 48 + (r : Int) := by rw [IntKind.wrap_i64]; omega
    have f4 : IntKind.u8.wrap (48 + (r : Int)) = 48 + (r : Int) := by rw [IntKind.wrap_u8]; omega
    have hdec : Lib.itoa (-(u : Int)) = 45 :: Lib.decDigits u := Lib.itoa_neg u h1
    have Hdec := Lib.hid hdec; clear hdec
    have Hq := Lib.hid hq
    have Hr := Lib.hid hr
    have q1 : q < u := by omega
    have r1 : r < 10 := by omega
    clear hq hr
    by_cases h9 : u < 10
    · have g1 : (-(q : Int) == 0) = true := by
        have := Hq.out
        have e : q = 0 := by omega
        subst e; rfl
      have f5 : IntKind.i64.wrap (48 + (u : Int)) = 48 + (u : Int) := by rw [IntKind.wrap_i64]; omega
      have f6 : IntKind.u8.wrap (48 + (u : Int)) = 48 + (u : Int) := by rw [IntKind.wrap_u8]; omega
      go_enter Tryd.func6, Tryd.ntmps6
      go_wp2_with fail
      go_ret
      refine ⟨fret_str ?_, (Below.refl _ _).alloc (Nat.le_refl _) _⟩
      apply ByteArray.ext
      apply Array.ext'
      rw [fmtF_data, Hdec.out, Lib.decDigits, dif_pos h9]
      simp [ByteArray.data_append]
    · have g1 : (-(q : Int) == 0) = false := by
        have := Hq.out
        have e : (-(q : Int)) ≠ 0 := by omega
        simpa using e
      go_enter Tryd.func6, Tryd.ntmps6
      go_wp2_with fail
      have q2 : 1 ≤ q := by have := Hq.out; omega
      have IH := Lib.hid (fun W => ih q q1 W q2 (by omega))
      have hfl : (fmtF (-(q : Int))).size ≤ 30 := by
        have e : (fmtF (-(q : Int))).data.toList.length = (fmtF (-(q : Int))).size := Array.length_toList
        rw [fmtF_data, Lib.itoa_neg q q2] at e
        have := dec_len 18 q (by omega)
        simp only [List.length_cons] at e
        omega
      clear ih
      have hcv3 := conv3f
      go_region_with (go_at_call 6; refine (IH.out _).mono ?_; rintro e w1 ⟨rfl, hb⟩; first | (have k1 := conv4f _ _ _ hb) | skip)
      all_goals
        go_wp2_with fail
        go_ret
        refine ⟨fret_str ?_, ?_⟩
        · apply ByteArray.ext
          apply Array.ext'
          rw [fmtF_data, Hdec.out, Lib.decDigits, dif_neg h9, ← Hq.out, ← Hr.out]
          simp only [ByteArray.data_append, Array.toList_append, fmtF_data, Lib.itoa_neg q q2]
          simp
        · first
          | exact belA hb _
          | exact belB hb
end Go.Proofs.YtaldmbajkhangaaDoor
