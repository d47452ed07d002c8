/- Walks: ParseInt of spec. -/
import Derived.Test.YtaldmbajkhangaaDoorProg
import Derived.Test.YtaldmbajkhangaaDoorW1
import Derived.Test.YtaldmbajkhangaaDoorShelf
import Derived.Test.YtaldmbajkhangaaDoorF1
import Derived.Test.YtaldmbajkhangaaDoorF2
import Derived.Test.YtaldmbajkhangaaDoorF3
import Derived.Test.YtaldmbajkhangaaDoorF4
import Derived.Test.YtaldmbajkhangaaDoorF5
import Derived.Test.YtaldmbajkhangaaDoorMem
import Derived.Lib.SmallJoins
import Derived.Lib.Strings
import Derived.WalkKit
import Derived.WalkSpells
import Derived.WalkLawsBesides
import Derived.KernelRfl
import Derived.Lib.Hide
namespace Go.Proofs.YtaldmbajkhangaaDoor
open Go.RowKit
set_option linter.unusedVariables false
set_option linter.unusedSimpArgs false

set_option maxRecDepth 100000 in
set_option maxHeartbeats 2000000 in
theorem spec_ParseInt_pos (s : ByteArray) (w : World) (hs : s.size ≤ 1048576) (hm : minus s = false) :
    Calls Tryd.prog 8 #[.string s] w (RetP w (parseR s)) := by
  have hS : s.size ≤ maxLen := by unfold maxLen; omega
  have hM : magL s = s.data.toList := by rw [magL, hm]; rfl
  have hts : s.size ≤ maxLen := hS
  by_cases hz : s.size = 0
  · have hd0 : digitsF s.data.toList = false := by
      have e : s.data.toList = [] := List.length_eq_zero_iff.1 (by rw [lenT]; exact hz)
      rw [e]; rfl
    have hR := parse_nodig (s := s) (by rw [hM]; exact hd0)
    have HR := Lib.hid hR; clear hR hM hm
    go_enter Tryd.func8, Tryd.ntmps8
    go_wp2_with (go_at_call 17; refine (spec_IsDigits _ _ hts).mono ?_; rintro e w1 ⟨rfl, rfl⟩)
    go_ret2
    rw [HR.out]
    exact ⟨rfl, Below.refl _ _⟩
  have h0 : 0 < s.size := by omega
  clear hz
  have h0i : (0 : Int) < (s.size : Int) := by omega
  have hceq : ((s[0].toNat : Int) == 45) = false := by
    have hat := minus_at h0
    rw [hm] at hat
    have h2 : s[0] ≠ 45 := by simpa using hat.symm
    have h3 : s[0].toNat ≠ 45 := fun e => h2 (UInt8.toNat_inj.1 e)
    rw [beq_eq_false_iff_ne]
    omega
  have HM := Lib.hid hM; clear hM
  have Hm := Lib.hid hm; clear hm
  by_cases hd : digitsF s.data.toList = true
  rotate_left
  · have hd0 : digitsF s.data.toList = false := by simpa using hd
    have hR := parse_nodig (by rw [HM.out]; exact hd0)
    have HR := Lib.hid hR; clear hR
    clear hd
    go_enter Tryd.func8, Tryd.ntmps8
    go_wp2_with (go_at_call 17; refine (spec_IsDigits _ _ hts).mono ?_; rintro e w1 ⟨rfl, rfl⟩)
    go_ret2
    rw [HR.out]
    exact ⟨rfl, Below.refl _ _⟩
  by_cases hlen : s.size ≤ 19
  rotate_left
  · have hR := parse_long (s := s) (by rw [HM.out, lenT]; omega)
    have HR := Lib.hid hR; clear hR
    go_enter Tryd.func8, Tryd.ntmps8
    go_wp2_with (go_at_call 17; refine (spec_IsDigits _ _ hts).mono ?_; rintro e w1 ⟨rfl, rfl⟩)
    go_ret2
    rw [HR.out]
    exact ⟨rfl, Below.refl _ _⟩
  have Hd := Lib.hid hd
  go_enter Tryd.func8, Tryd.ntmps8
  go_wp2_with (go_at_call 17; refine (spec_IsDigits _ _ hts).mono ?_; rintro e w1 ⟨rfl, rfl⟩)
  clear hd
  go_loopw [6, 7] (fun n i wr => ∃ (V k : Nat), Hid (V = valD 0 (s.data.toList.take k)) ∧ k ≤ s.size ∧ V ≤ 9223372036854775808 ∧ n = .int .i64 (-(V : Int)) ∧ i = .int .i64 k ∧ wr = w) (fun _ i _ => s.size - (intOf i).toNat)
  case atStart => exact ⟨0, 0, Lib.hid (by simp [valD_nil]), Nat.zero_le _, by omega, rfl, rfl, rfl⟩
  case round =>
    obtain ⟨V, k, HV, hk, hV, rfl, rfl, rfl⟩ := hrel
    by_cases hlt : k < s.size
    · obtain ⟨d0, d1⟩ := dig_at hlt Hd.out
      have hst := val_step hlt
      rw [← HV.out] at hst
      have Hst := Lib.hid hst; clear hst
      obtain ⟨d, Hdd⟩ : ∃ d, Hid (d = s[k].toNat - 48) := ⟨_, Lib.hid rfl⟩
      have hdd : (s[k].toNat : Int) = 48 + (d : Int) := by have := Hdd.out; omega
      have hd9 : d ≤ 9 := by have := Hdd.out; omega
      have hq := step_test V d hd9 hV
      have f1 : IntKind.i64.wrap (48 + (d : Int) - 48) = (d : Int) := by rw [IntKind.wrap_i64]; omega
      have f2 : IntKind.i64.wrap (-9223372036854775808 + (d : Int)) = -9223372036854775808 + (d : Int) := by rw [IntKind.wrap_i64]; omega
      by_cases hov : 9223372036854775808 < V * 10 + d
      · have hq1 : -(V : Int) < (-9223372036854775808 + (d : Int)).tdiv 10 := hq.2 hov
        have hR := parse_big' (s := s) (k := k + 1) (by rw [HM.out, Hst.out, ← Hdd.out]; exact hov)
        have HR := Lib.hid hR; clear hR hq
        go_wp2_with fail
        go_ret2
        rw [HR.out]
        exact ⟨rfl, Below.refl _ _⟩
      · have hq1 : ¬ -(V : Int) < (-9223372036854775808 + (d : Int)).tdiv 10 := fun h => hov (hq.1 h)
        clear hq
        go_wp2_with fail
        go_roundw
        case rel => exact ⟨V * 10 + d, k + 1, Lib.hid (by rw [Hst.out, ← Hdd.out]), by omega, by omega, by go_num, by go_num, by first | rfl | trivial⟩
        case measure => simp [intOf]; omega
    · have hfull := take_full hlt
      have hV2 : V = valD 0 (magL s) := by rw [HV.out, hfull, HM.out]
      have HV2 := Lib.hid hV2; clear hV2 hfull
      by_cases hmin : V = 9223372036854775808
      · have hR := parse_min (s := s) (by rw [← HV2.out]; exact hmin) Hm.out
        have HR := Lib.hid hR; clear hR
        subst hmin
        go_wp2_with fail
        go_ret2
        rw [HR.out]
        exact ⟨rfl, Below.refl _ _⟩
      have g1 : (-(V : Int) == -9223372036854775808) = false := by simp; omega
      have hT : told s = (V : Int) := by unfold told; rw [Hm.out, HV2.out]; rfl
      have HT := Lib.hid hT; clear hT
      by_cases hf : fmtF (V : Int) = s
      · have hR := parse_fmt (s := s) (by omega) (by omega) hf
        have HR := Lib.hid hR; clear hR
        have hne := teq_yes hf
        have hne2 : (fmtF (V : Int) != s) = false := by rw [hf]; exact fsne_self s
        have Hf := Lib.hid hf; clear hf
        go_wp2_with (go_at_call 6; refine (spec_FormatInt (V : Int) _ (by omega) (by omega)).mono ?_; rintro e w2 ⟨rfl, b2⟩)
        go_ret2
        rw [HR.out]
        exact ⟨rfl, b2⟩
      · have hR := parse_else (s := s) (by rw [HT.out]; exact hf)
        have HR := Lib.hid hR; clear hR
        have hne := teq_no hf
        have hne2 : (fmtF (V : Int) != s) = true := sne_iff.2 hf
        have Hf := Lib.hid hf; clear hf
        go_wp2_with (go_at_call 6; refine (spec_FormatInt (V : Int) _ (by omega) (by omega)).mono ?_; rintro e w2 ⟨rfl, b2⟩)
        go_ret2
        rw [HR.out]
        exact ⟨rfl, b2⟩
end Go.Proofs.YtaldmbajkhangaaDoor
