/- Walks: SameImage, IsStaircase, PutCell. -/
import Derived.Test.YtpjlgcohafbbdaaProg
import Derived.Test.YtpjlgcohafbbdaaW1
import Derived.Test.YtpjlgcohafbbdaaW2
import Derived.Test.YtpjlgcohafbbdaaW3
import Derived.Test.YtpjlgcohafbbdaaW4
import Derived.Test.YtpjlgcohafbbdaaW6
import Derived.Test.YtpjlgcohafbbdaaW8
import Derived.Test.YtpjlgcohafbbdaaW9
import Derived.Test.YtpjlgcohafbbdaaMem
import Derived.WalkKit
import Derived.WalkSpells
import Derived.WalkLawsBesides
import Derived.KernelRfl
import Derived.Lib.Hide
import Derived.Deep.QuietTactic
import Derived.BigQuiet
namespace Go.Proofs.Ytpjlgcohafbbdaa
open Go.RowKit
set_option linter.unusedVariables false
set_option linter.unusedSimpArgs false


set_option maxRecDepth 100000 in
set_option maxHeartbeats 1000000 in
theorem spec_l02Same (l m : List Int) (v u : Value) (w : World) (a b a' b' : Nat) (hr : RdI w a b v l) (hs : RdI w a' b' u m) :
    Calls Try.prog 58 #[v, u] w fun e w' => e = .returned (.bool (eqI l m)) ∧ w = w' := by
  obtain ⟨A, c, rfl, hlc, hcm⟩ := hr.form
  obtain ⟨A', c', rfl, hlc', hcm'⟩ := hs.form
  by_cases hlen : l.length = m.length
  rotate_left
  · have hne : ((l.length : Int) != (m.length : Int)) = true := by simp; omega
    have Hlen := Lib.hid hlen; clear hlen
    go_enter Try.func58, Try.ntmps58
    go_wp2_with fail
    go_ret
    exact ⟨ret_bool (eqI_len Hlen.out).symm, rfl⟩
  have hne : ((l.length : Int) != (m.length : Int)) = false := by simp [hlen]
  have hle : m.length ≤ l.length := by omega
  have hge : l.length ≤ m.length := by omega
  have Hlen := Lib.hid hlen; clear hlen
  go_enter Try.func58, Try.ntmps58
  go_wp2_with fail
  go_loop [14] (fun i => ∃ k : Nat, k ≤ l.length ∧ i = .int .i64 k ∧ l.take k = m.take k) (fun i => l.length - (intOf i).toNat)
  case atStart => exact ⟨0, Nat.zero_le _, rfl, by simp⟩
  case round =>
    obtain ⟨k, hk, rfl, hd⟩ := hrel
    have Hd := Lib.hid hd; clear hd
    by_cases hlt : k < l.length
    · obtain ⟨x, hx⟩ := get_of_lt l k hlt
      obtain ⟨y, hy⟩ := get_of_lt m k (by omega)
      obtain ⟨b1, o1, rfl, _, _, _, hc1⟩ := hr.at_ hx
      obtain ⟨b2, o2, rfl, _, _, _, hc2⟩ := hs.at_ hy
      have i1 : (k : Int) < (l.length : Int) := by omega
      have i2 : (k : Int) < (m.length : Int) := by omega
      have Hx := Lib.hid hx; clear hx
      have Hy := Lib.hid hy; clear hy
      by_cases hxy : x = y
      · subst hxy
        go_wp2_with fail
        go_round
        case rel => exact ⟨k + 1, by omega, by go_num, eq_take Hx.out Hy.out Hd.out⟩
        case measure => simp [intOf]; omega
      · have hn : (x != y) = true := by simpa using hxy
        have Hxy := Lib.hid hxy; clear hxy
        go_wp2_with fail
        go_ret
        exact ⟨ret_bool (eqI_ne (ne_at Hx.out Hy.out Hxy.out)).symm, rfl⟩
    · go_wp2_with fail
      go_ret
      exact ⟨ret_bool (eqI_fin Hlen.out hlt Hd.out).symm, rfl⟩

set_option maxRecDepth 100000 in
set_option maxHeartbeats 1000000 in
theorem slices_Equal (l m : List Int) (v u : Value) (w : World) (a b a' b' : Nat) (hr : RdI w a b v l) (hs : RdI w a' b' u m) :
    Calls Try.prog 33 #[v, u] w fun e w' => e = .returned (.bool (eqI l m)) ∧ Drew w w' := by
  obtain ⟨A, c, rfl, hlc, hcm⟩ := hr.form
  obtain ⟨A', c', rfl, hlc', hcm'⟩ := hs.form
  by_cases hlen : l.length = m.length
  rotate_left
  · have hne : ((l.length : Int) != (m.length : Int)) = true := by simp; omega
    have Hlen := Lib.hid hlen; clear hlen
    go_enter Try.func33, Try.ntmps33
    go_wp2_with fail
    go_ret
    exact ⟨ret_bool (eqI_len Hlen.out).symm, Drew.refl _⟩
  have hne : ((l.length : Int) != (m.length : Int)) = false := by simp [hlen]
  have hle : m.length ≤ l.length := by omega
  have hge : l.length ≤ m.length := by omega
  have Hlen := Lib.hid hlen; clear hlen
  go_enter Try.func33, Try.ntmps33
  go_wp2_with fail
  go_loopw [13] (fun i wr => ∃ k : Nat, k ≤ l.length ∧ i = .int .i64 k ∧ l.take k = m.take k ∧ RdI wr a b (.slice A l.length c) l ∧ RdI wr a' b' (.slice A' m.length c') m ∧ Drew w wr) (fun i _ => l.length - (intOf i).toNat)
  case atStart => exact ⟨0, Nat.zero_le _, rfl, by simp, hr, hs, Drew.refl _⟩
  case round =>
    clear hr hs
    obtain ⟨k, hk, rfl, hd, hr, hs, hb⟩ := hrel
    have Hd := Lib.hid hd; clear hd
    by_cases hlt : k < l.length
    · obtain ⟨x, hx⟩ := get_of_lt l k hlt
      obtain ⟨y, hy⟩ := get_of_lt m k (by omega)
      obtain ⟨b1, o1, rfl, _, _, _, hc1⟩ := hr.at_ hx
      obtain ⟨b2, o2, rfl, _, _, _, hc2⟩ := hs.at_ hy
      have i1 : (k : Int) < (l.length : Int) := by omega
      have i2 : (k : Int) < (m.length : Int) := by omega
      have Hx := Lib.hid hx; clear hx
      have Hy := Lib.hid hy; clear hy
      by_cases hxy : x = y
      · subst hxy
        go_wp2_with fail
        go_quiet (fail)
        go_wp2_with fail
        go_roundw
        case rel => exact ⟨k + 1, by omega, by go_num, eq_take Hx.out Hy.out Hd.out, hr.drewN _, hs.drewN _, hb.drewN _⟩
        case measure => simp [intOf]; omega
      · have hn : (x != y) = true := by simpa using hxy
        have Hxy := Lib.hid hxy; clear hxy
        go_wp2_with fail
        go_quiet (fail)
        go_wp2_with fail
        go_ret
        exact ⟨ret_bool (eqI_ne (ne_at Hx.out Hy.out Hxy.out)).symm, hb.drewN _⟩
    · go_wp2_with fail
      go_ret
      exact ⟨ret_bool (eqI_fin Hlen.out hlt Hd.out).symm, hb⟩

set_option maxRecDepth 100000 in
set_option maxHeartbeats 1000000 in
theorem spec_SameImage (g h : List (List Int)) (v u : Value) (w : World) (a b a' b' : Nat) (hr : RdG w a b v g) (hs : RdG w a' b' u h) :
    Calls Try.prog 61 #[v, u] w fun e w' => e = .returned (.bool (eqG g h)) ∧ w = w' := by
  obtain ⟨A, c, rfl, hlc, hcm⟩ := hr.form
  obtain ⟨A', c', rfl, hlc', hcm'⟩ := hs.form
  by_cases hlen : g.length = h.length
  rotate_left
  · have hne : ((g.length : Int) != (h.length : Int)) = true := by simp; omega
    have Hlen := Lib.hid hlen; clear hlen
    go_enter Try.func61, Try.ntmps61
    go_wp2_with fail
    go_ret
    exact ⟨ret_bool (eqG_len Hlen.out).symm, rfl⟩
  have hne : ((g.length : Int) != (h.length : Int)) = false := by simp [hlen]
  have hle : h.length ≤ g.length := by omega
  have hge : g.length ≤ h.length := by omega
  have Hlen := Lib.hid hlen; clear hlen
  go_enter Try.func61, Try.ntmps61
  go_wp2_with fail
  go_loop [14] (fun i => ∃ k : Nat, k ≤ g.length ∧ i = .int .i64 k ∧ g.take k = h.take k) (fun i => g.length - (intOf i).toNat)
  case atStart => exact ⟨0, Nat.zero_le _, rfl, by simp⟩
  case round =>
    obtain ⟨k, hk, rfl, hd⟩ := hrel
    have Hd := Lib.hid hd; clear hd
    by_cases hlt : k < g.length
    · obtain ⟨x, hx⟩ := get_of_lt g k hlt
      obtain ⟨y, hy⟩ := get_of_lt h k (by omega)
      obtain ⟨b1, o1, rfl, _, _⟩ := hr.some_ (by omega)
      obtain ⟨b2, o2, rfl, _, _⟩ := hs.some_ (by omega)
      obtain ⟨A1, c1, hc1, _, _, hrow1⟩ := hr.row hx
      obtain ⟨A2, c2, hc2, _, _, hrow2⟩ := hs.row hy
      have i1 : (k : Int) < (g.length : Int) := by omega
      have i2 : (k : Int) < (h.length : Int) := by omega
      have Hx := Lib.hid hx; clear hx
      have Hy := Lib.hid hy; clear hy
      by_cases hxy : x = y
      · subst hxy
        have E := eqI_self x
        go_wp2_with (go_at_call 58; refine (spec_l02Same _ _ _ _ _ _ _ _ _ hrow1 hrow2).mono ?_; rintro e w' ⟨rfl, rfl⟩)
        go_round
        case rel => exact ⟨k + 1, by omega, by go_num, eq_take Hx.out Hy.out Hd.out⟩
        case measure => simp [intOf]; omega
      · have E := eqI_ne hxy
        have Hxy := Lib.hid hxy; clear hxy
        go_wp2_with (go_at_call 58; refine (spec_l02Same _ _ _ _ _ _ _ _ _ hrow1 hrow2).mono ?_; rintro e w' ⟨rfl, rfl⟩)
        go_ret
        exact ⟨ret_bool (eqG_ne (ne_at Hx.out Hy.out Hxy.out)).symm, rfl⟩
    · go_wp2_with fail
      go_ret
      exact ⟨ret_bool (eqG_fin Hlen.out hlt Hd.out).symm, rfl⟩

end Go.Proofs.Ytpjlgcohafbbdaa
