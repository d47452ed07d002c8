/- Walks: the laws' own helpers same, alike, total. -/
import Derived.Test.YtpjlgcohafbbdaaProg
import Derived.Test.YtpjlgcohafbbdaaW1
import Derived.Test.YtpjlgcohafbbdaaW3
import Derived.Test.YtpjlgcohafbbdaaW4
import Derived.Test.YtpjlgcohafbbdaaW6
import Derived.Test.YtpjlgcohafbbdaaMem
import Derived.WalkKit
import Derived.WalkSpells
import Derived.WalkLawsBesides
import Derived.KernelRfl
import Derived.Lib.Hide
import Derived.Deep.QuietTactic
import Derived.BigQuiet
namespace Go.Proofs.Ytpjlgcohafbbdaa
open Go.RowKit
set_option linter.unusedVariables false
set_option linter.unusedSimpArgs false

theorem self_ne (x : Int) : (x != x) = false := by simp
set_option maxHeartbeats 1000000 in
theorem same_walk (l : List Int) (v u : Value) (w : World) (a b a' b' : Nat) (hr : RdI w a b v l) (hs : RdI w a' b' u l) :
    Calls Try.prog 39 #[v, u] w fun e w' => e = .returned (.bool true) ∧ Drew w w' := by
  obtain ⟨A, c, rfl, hlc, hcm⟩ := hr.form
  obtain ⟨A', c', rfl, hlc', hcm'⟩ := hs.form
  have hne := self_ne (l.length : Int)
  go_enter Try.func39, Try.ntmps39
  go_wp2_with fail
  go_loopw [5, 6, 14] (fun _ _ i wr => ∃ k : Nat, k ≤ l.length ∧ i = .int .i64 k ∧ RdI wr a b (.slice A l.length c) l ∧ RdI wr a' b' (.slice A' l.length c') l ∧ Drew w wr) (fun _ _ i _ => l.length - (intOf i).toNat)
  case atStart => exact ⟨0, Nat.zero_le _, rfl, hr, hs, Drew.refl _⟩
  case round =>
    clear hr hs
    obtain ⟨k, hk, rfl, hr, hs, hb⟩ := hrel
    by_cases hlt : k < l.length
    rotate_left
    · go_wp2_with fail
      go_ret
      exact ⟨rfl, hb⟩
    obtain ⟨x, hx⟩ := get_of_lt l k hlt
    obtain ⟨b1, o1, rfl, _, _, _, hc1⟩ := hr.at_ hx
    obtain ⟨b2, o2, rfl, _, _, _, hc2⟩ := hs.at_ hx
    have i1 : (k : Int) < (l.length : Int) := by omega
    have n1 := self_ne x
    clear hx
    go_wp2_with fail
    first
    | go_quiet (fail)
      go_wp2_with fail
      go_roundw
      case rel => exact ⟨k + 1, by omega, by go_num, hr.drewN _, hs.drewN _, hb.drewN _⟩
      case measure => simp [intOf]; omega
    | go_roundw
      case rel => exact ⟨k + 1, by omega, by go_num, hr, hs, hb⟩
      case measure => simp [intOf]; omega

set_option maxHeartbeats 1000000 in
theorem alike_walk (g : List (List Int)) (v u : Value) (w : World) (a b a' b' : Nat) (hr : RdG w a b v g) (hs : RdG w a' b' u g) :
    Calls Try.prog 13 #[v, u] w fun e w' => e = .returned (.bool true) ∧ Drew w w' := by
  obtain ⟨A, c, rfl, hlc, hcm⟩ := hr.form
  obtain ⟨A', c', rfl, hlc', hcm'⟩ := hs.form
  have hne := self_ne (g.length : Int)
  go_enter Try.func13, Try.ntmps13
  go_wp2_with fail
  go_loopw [5, 6, 14] (fun _ _ i wr => ∃ k : Nat, k ≤ g.length ∧ i = .int .i64 k ∧ RdG wr a b (.slice A g.length c) g ∧ RdG wr a' b' (.slice A' g.length c') g ∧ Drew w wr) (fun _ _ i _ => g.length - (intOf i).toNat)
  case atStart => exact ⟨0, Nat.zero_le _, rfl, hr, hs, Drew.refl _⟩
  case round =>
    clear hr hs
    obtain ⟨k, hk, rfl, hr, hs, hb⟩ := hrel
    by_cases hlt : k < g.length
    rotate_left
    · go_wp2_with fail
      go_ret
      exact ⟨rfl, hb⟩
    obtain ⟨x, hx⟩ := get_of_lt g k hlt
    obtain ⟨b1, o1, rfl, _, _⟩ := hr.some_ (by omega)
    obtain ⟨b2, o2, rfl, _, _⟩ := hs.some_ (by omega)
    obtain ⟨A1, c1, hc1, _, _, hrow1⟩ := hr.row hx
    obtain ⟨A2, c2, hc2, _, _, hrow2⟩ := hs.row hx
    have i1 : (k : Int) < (g.length : Int) := by omega
    clear hx
    go_wp2_with fail
    first
    | go_quiet ((go_at_call 39; exact Calls.quiet_of (same_walk _ _ _ _ _ _ _ _ (hrow1.drewN _) (hrow2.drewN _))))
      go_wp2_with fail
      go_roundw
      case rel => exact ⟨k + 1, by omega, by go_num, hr.drewN _, hs.drewN _, hb.drewN _⟩
      case measure => simp [intOf]; omega
    | refine (same_walk _ _ _ _ _ _ _ _ hrow1 hrow2).mono ?_
      rintro e w1 ⟨rfl, hd⟩
      go_wp2_with fail
      go_roundw
      case rel => exact ⟨k + 1, by omega, by go_num, hr.new (hd.below _), hs.new (hd.below _), hb.trans hd⟩
      case measure => simp [intOf]; omega
end Go.Proofs.Ytpjlgcohafbbdaa
