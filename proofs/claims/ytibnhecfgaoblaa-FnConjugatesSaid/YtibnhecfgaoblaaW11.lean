/- Walks: SameImage, IsStaircase, PutCell. -/
import Derived.Test.YtibnhecfgaoblaaProg
import Derived.Test.YtibnhecfgaoblaaW1
import Derived.Test.YtibnhecfgaoblaaW2
import Derived.Test.YtibnhecfgaoblaaW3
import Derived.Test.YtibnhecfgaoblaaW4
import Derived.Test.YtibnhecfgaoblaaW6
import Derived.Test.YtibnhecfgaoblaaW8
import Derived.Test.YtibnhecfgaoblaaW9
import Derived.Test.YtibnhecfgaoblaaMem
import Derived.WalkKit
import Derived.WalkSpells
import Derived.WalkLawsBesides
import Derived.KernelRfl
import Derived.Lib.Hide
import Derived.Deep.QuietTactic
import Derived.BigQuiet
namespace Go.Proofs.Ytibnhecfgaoblaa
open Go.RowKit
set_option linter.unusedVariables false
set_option linter.unusedSimpArgs false


set_option maxRecDepth 100000 in
set_option maxHeartbeats 1000000 in
theorem slices_Equal (l m : List Int) (v u : Value) (w : World) (a b a' b' : Nat) (hr : RdI w a b v l) (hs : RdI w a' b' u m) :
    Calls Try.prog 43 #[v, u] w fun e w' => e = .returned (.bool (eqI l m)) ∧ Drew w w' := by
  obtain ⟨A, c, rfl, hlc, hcm⟩ := hr.form
  obtain ⟨A', c', rfl, hlc', hcm'⟩ := hs.form
  by_cases hlen : l.length = m.length
  rotate_left
  · have hne : ((l.length : Int) != (m.length : Int)) = true := by simp; omega
    have Hlen := Lib.hid hlen; clear hlen
    go_enter Try.func43, Try.ntmps43
    go_wp2_with fail
    go_ret
    exact ⟨ret_bool (eqI_len Hlen.out).symm, Drew.refl _⟩
  have hne : ((l.length : Int) != (m.length : Int)) = false := by simp [hlen]
  have hle : m.length ≤ l.length := by omega
  have hge : l.length ≤ m.length := by omega
  have Hlen := Lib.hid hlen; clear hlen
  go_enter Try.func43, Try.ntmps43
  go_wp2_with fail
  go_loopw [13] (fun i wr => ∃ k : Nat, k ≤ l.length ∧ i = .int .i64 k ∧ l.take k = m.take k ∧ RdI wr a b (.slice A l.length c) l ∧ RdI wr a' b' (.slice A' m.length c') m ∧ Drew w wr) (fun i _ => l.length - (intOf i).toNat)
  case atStart => exact ⟨0, Nat.zero_le _, rfl, by simp, hr, hs, Drew.refl _⟩
  case round =>
    clear hr hs
    obtain ⟨k, hk, rfl, hd, hr, hs, hb⟩ := hrel
    have Hd := Lib.hid hd; clear hd
    by_cases hlt : k < l.length
    · obtain ⟨x, hx⟩ := get_of_lt l k hlt
      obtain ⟨y, hy⟩ := get_of_lt m k (by omega)
      obtain ⟨b1, o1, rfl, _, _, _, hc1⟩ := hr.at_ hx
      obtain ⟨b2, o2, rfl, _, _, _, hc2⟩ := hs.at_ hy
      have i1 : (k : Int) < (l.length : Int) := by omega
      have i2 : (k : Int) < (m.length : Int) := by omega
      have Hx := Lib.hid hx; clear hx
      have Hy := Lib.hid hy; clear hy
      by_cases hxy : x = y
      · subst hxy
        go_wp2_with fail
        go_quiet (fail)
        go_wp2_with fail
        go_roundw
        case rel => exact ⟨k + 1, by omega, by go_num, eq_take Hx.out Hy.out Hd.out, hr.drewN _, hs.drewN _, hb.drewN _⟩
        case measure => simp [intOf]; omega
      · have hn : (x != y) = true := by simpa using hxy
        have Hxy := Lib.hid hxy; clear hxy
        go_wp2_with fail
        go_quiet (fail)
        go_wp2_with fail
        go_ret
        exact ⟨ret_bool (eqI_ne (ne_at Hx.out Hy.out Hxy.out)).symm, hb.drewN _⟩
    · go_wp2_with fail
      go_ret
      exact ⟨ret_bool (eqI_fin Hlen.out hlt Hd.out).symm, hb⟩

end Go.Proofs.Ytibnhecfgaoblaa
