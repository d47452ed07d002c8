/- Walks: AllImages and CountImages of spec. -/
import Derived.Test.YtkjhodeajipihaaProg
import Derived.Test.YtkjhodeajipihaaW1
import Derived.Test.YtkjhodeajipihaaW3
import Derived.Test.YtkjhodeajipihaaW4
import Derived.Test.YtkjhodeajipihaaW6
import Derived.Test.YtkjhodeajipihaaS3
import Derived.Test.YtkjhodeajipihaaC1
import Derived.Test.YtkjhodeajipihaaC3
import Derived.Test.YtkjhodeajipihaaC4
import Derived.Test.YtkjhodeajipihaaC5
import Derived.Test.YtkjhodeajipihaaC9
import Derived.Test.YtkjhodeajipihaaMem
import Derived.WalkKit
import Derived.WalkSpells
import Derived.WalkLawsBesides
import Derived.KernelRfl
import Derived.Lib.Hide
namespace Go.Proofs.Ytkjhodeajipihaa
open Go.RowKit
set_option linter.unusedVariables false
set_option linter.unusedSimpArgs false

theorem own_from {w1 w2 : World} {e : TypeId} {V : Value} {vs : List Value} (hV : Ow w2 0 w2.heap.size e V vs) (hn : NewV w1 (.slice none 0 0) V) : Ow w2 w1.heap.size w2.heap.size e V vs := by
  refine ⟨⟨hV.1.1, ?_⟩, hV.2⟩
  rcases hV.1.2 with h | ⟨g, cap, cur, rfl, _, h⟩
  · exact .inl h
  · rcases hn with hn | hn
    · simp [Value.ownBlock] at hn
    · exact .inr ⟨g, cap, cur, rfl, hn g rfl, h⟩

set_option maxRecDepth 100000 in
set_option maxHeartbeats 1000000 in
theorem spec_AllImages (rows cols : List Int) (v u : Value) (w : World) (a b a' b' : Nat) (hr : RdI w a b v rows) (hs : RdI w a' b' u cols) :
    Calls Try.prog 8 #[v, u] w (RetM w (sumsOk rows cols) (cntN rows cols)) := by
  by_cases hok : sumsOk rows cols = true
  rotate_left
  · have hok : sumsOk rows cols = false := by simpa using hok
    have GD := Lib.hid hok
    rw [hok]; clear hok
    go_enter Try.func8, Try.ntmps8
    go_wp2_with (go_at_call 10; refine (spec_SumsOk _ _ _ _ _ _ _ _ _ hr hs).mono ?_; rw [GD.out]; rintro e w' ⟨rfl, rfl⟩)
    go_ret2
    exact ⟨_, [], rfl, ⟨(fun h => nomatch h), Ow.nil _ _ _ _, Below.refl _ _⟩⟩
  have GD := Lib.hid hok
  have HT := Lib.hid (cnt_top hok)
  obtain ⟨k1, k2, k3, k4, k5, k6⟩ := sums_in hok
  rw [hok]
  clear hok
  have K5 := Lib.hid k5; clear k5
  have K6 := Lib.hid k6; clear k6
  by_cases hex : existsR rows cols = true
  rotate_left
  · have hex : existsR rows cols = false := by simpa using hex
    have GE := Lib.hid hex
    have H0 : Hid (cntN rows cols = 0) := Lib.hid (by rw [← HT.out, hex]; rfl)
    clear hex
    go_enter Try.func8, Try.ntmps8
    go_wp2_with (first
      | (go_at_call 10; refine (spec_SumsOk _ _ _ _ _ _ _ _ _ hr hs).mono ?_; rw [GD.out]; rintro e w' ⟨rfl, rfl⟩)
      | (go_at_call 11; refine (spec_Exists _ _ _ _ _ _ _ _ _ hr hs).mono ?_; rw [GE.out]; rintro e w1 ⟨rfl, hb1⟩))
    go_ret2
    exact ⟨_, [], rfl, ⟨fun _ => H0.out.symm, Ow.nil _ _ _ _, hb1⟩⟩
  have GE := Lib.hid hex
  have H1 : Hid (cntN rows cols = cntS rows cols) := Lib.hid (by rw [← HT.out, if_pos hex])
  clear hex
  have h32 : 32 ^ rows.length ≤ 32 ^ 5 := Nat.pow_le_pow_right (by omega) k2
  have hbd : Hid (([] : List Value).length + 32 ^ rows.length ≤ 1099511627776) := Lib.hid (by simp only [List.length_nil]; omega)
  clear h32
  go_enter Try.func8, Try.ntmps8
  go_wp2_with (first
    | (go_at_call 10; refine (spec_SumsOk _ _ _ _ _ _ _ _ _ hr hs).mono ?_; rw [GD.out]; rintro e w' ⟨rfl, rfl⟩)
    | (go_at_call 11; refine (spec_Exists _ _ _ _ _ _ _ _ _ hr hs).mono ?_; rw [GE.out]; rintro e w1 ⟨rfl, hb1⟩; have hr1 := hr.new hb1; have hs1 := hs.new hb1)
    | (go_at_call 12; refine (spec_l05All rows cols [] (.slice none 0 0) [] _ _ _ w1 (Ow.nil _ _ _ _) ⟨[], rfl, ⟨0, 0, Rd.nil _ _ _, fun q _ => .inr (Nat.zero_le _)⟩, fun k u r hu => by simp at hu⟩ ⟨_, _, hr1, fun q hq => by simp [Value.ownBlock] at hq⟩ ⟨_, _, hs1, fun q hq => by simp [Value.ownBlock] at hq⟩ k4 (by simp; omega) (fun r hr => by simp at hr) K5.out (fun z hz => by have := K6.out z hz; omega) hbd.out).mono ?_; rintro e w2 ⟨V, os, rfl, hos, hV, hn, hg⟩; have hb2 : Below w1.heap.size w1 w2 := ⟨hg.os, hg.tape, hg.output, hg.size, fun k hk => hg.block k hk (by simp [Value.ownBlock])⟩; have hV2 : Ow w2 w1.heap.size w2.heap.size 30 V os := own_from hV hn; have HOS := Lib.hid hos; clear hos))
  go_ret2
  exact ⟨V, os, rfl, ⟨fun _ => by rw [HOS.out, H1.out]; simp, hV2.mono hb1.size (Nat.le_refl _), hb1.trans (hb2.mono hb1.size)⟩⟩

set_option maxRecDepth 100000 in
set_option maxHeartbeats 400000 in
theorem spec_CountImages (rows cols : List Int) (v u : Value) (w : World) (a b a' b' : Nat) (hr : RdI w a b v rows) (hs : RdI w a' b' u cols) :
    Calls Try.prog 4 #[v, u] w (RetCn w (countR rows cols)) := by
  by_cases hok : sumsOk rows cols = true
  rotate_left
  · have hok : sumsOk rows cols = false := by simpa using hok
    have GC := Lib.hid (count_no hok)
    have GD := Lib.hid hok; clear hok
    go_enter Try.func4, Try.ntmps4
    go_wp2_with (go_at_call 8; refine (spec_AllImages _ _ _ _ _ _ _ _ _ hr hs).mono ?_; rw [GD.out]; rintro e w' ⟨V, os, rfl, h1, h2, h3⟩)
    go_ret
    exact ⟨ret_int GC.out.symm, h3⟩
  · have GC := Lib.hid (count_yes hok)
    have GB := Lib.hid (cntN_bd hok)
    have GD := Lib.hid hok; clear hok
    go_enter Try.func4, Try.ntmps4
    go_wp2_with (go_at_call 8; refine (spec_AllImages _ _ _ _ _ _ _ _ _ hr hs).mono ?_; rw [GD.out]; rintro e w' ⟨V, os, rfl, h1, h2, h3⟩; obtain ⟨AV, cV, rfl, _, _⟩ := h2.form'; have HN := Lib.hid (h1 rfl))
    go_ret
    exact ⟨ret_int GC.out.symm, h3⟩
end Go.Proofs.Ytkjhodeajipihaa
