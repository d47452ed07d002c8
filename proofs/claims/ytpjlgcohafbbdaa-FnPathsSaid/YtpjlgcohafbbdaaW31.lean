/- Walks over []Switch: the laws' helpers. -/
import Derived.Test.YtpjlgcohafbbdaaProg
import Derived.Test.YtpjlgcohafbbdaaW1
import Derived.Test.YtpjlgcohafbbdaaW3
import Derived.Test.YtpjlgcohafbbdaaMem
import Derived.Test.YtpjlgcohafbbdaaSw
import Derived.WalkKit
import Derived.WalkSpells
import Derived.WalkLawsBesides
import Derived.KernelRfl
import Derived.Lib.Hide
import Derived.Deep.QuietTactic
import Derived.BigQuiet
import Derived.Deep.RegionHeld3
namespace Go.Proofs.Ytpjlgcohafbbdaa
open Go.RowKit
set_option linter.unusedVariables false
set_option linter.unusedSimpArgs false

theorem ne_self (x : Int) : (x != x) = false := by simp

set_option maxRecDepth 100000 in
set_option maxHeartbeats 2000000 in
theorem eqSwitch_walk (x y z u : Int) (w : World) :
    Calls Try.prog 17 #[.agg #[.int .i64 x, .int .i64 y, .int .i64 z, .int .i64 u], .agg #[.int .i64 x, .int .i64 y, .int .i64 z, .int .i64 u]] w fun e w' => e = .returned (.bool true) ∧ Below w.heap.size w w' := by
  have n1 := ne_self x
  have n2 := ne_self y
  have n3 := ne_self z
  have n4 := ne_self u
  go_enter Try.func17, Try.ntmps17
  go_wp2_with fail
  go_ret
  exact ⟨rfl, ((Below.refl _ _).alloc (Nat.le_refl _) _).alloc (by simp) _⟩

set_option maxRecDepth 100000 in
set_option maxHeartbeats 2000000 in
theorem eqSwitchS_walk (l : List Sw) (v u : Value) (w : World) (a b a' b' : Nat) (hr : RdS w a b v l) (hs : RdS w a' b' u l) :
    Calls Try.prog 20 #[v, u] w fun e w' => e = .returned (.bool true) ∧ Below w.heap.size w w' := by
  obtain ⟨A, c, rfl, hlc, hcm⟩ := hr.form
  obtain ⟨A', c', rfl, hlc', hcm'⟩ := hs.form
  have hne := ne_self (l.length : Int)
  go_enter Try.func20, Try.ntmps20
  go_wp2_with fail
  go_loopw [5] (fun i wr => ∃ k : Nat, k ≤ l.length ∧ i = .int .i64 k ∧ RdS wr a b (.slice A l.length c) l ∧ RdS wr a' b' (.slice A' l.length c') l ∧ Below w.heap.size w wr) (fun i _ => l.length - (intOf i).toNat)
  case atStart => exact ⟨0, Nat.zero_le _, rfl, hr, hs, Below.refl _ _⟩
  case round =>
    clear hr hs
    obtain ⟨k, hk, rfl, hr, hs, hb⟩ := hrel
    by_cases hlt : k < l.length
    rotate_left
    · go_wp2_with fail
      go_ret
      exact ⟨rfl, hb⟩
    obtain ⟨⟨x, y, z, u⟩, hx⟩ := get_of_lt l k hlt
    obtain ⟨b1, o1, rfl, _, _, q1, c0, c1, c2, c3⟩ := hr.at_ hx
    obtain ⟨b2, o2, rfl, _, _, q2, d0, d1, d2, d3⟩ := hs.at_ hx
    clear hx
    have hbs := hb.size
    have i1 : (k : Int) < (l.length : Int) := by omega
    have n1 := ne_self x
    dsimp only at c0 c1 c2 c3 d0 d1 d2 d3
    go_wp2_with fail
    go_region_held3 (fun w' => w'.cell? ⟨b1, o1 + k * 4, none⟩ = some (.int .i64 x) ∧ w'.cell? ⟨b1, o1 + k * 4 + 1, none⟩ = some (.int .i64 y) ∧ w'.cell? ⟨b1, o1 + k * 4 + 2, none⟩ = some (.int .i64 z) ∧ w'.cell? ⟨b1, o1 + k * 4 + 3, none⟩ = some (.int .i64 u)
        ∧ w'.cell? ⟨b2, o2 + k * 4, none⟩ = some (.int .i64 x) ∧ w'.cell? ⟨b2, o2 + k * 4 + 1, none⟩ = some (.int .i64 y) ∧ w'.cell? ⟨b2, o2 + k * 4 + 2, none⟩ = some (.int .i64 z) ∧ w'.cell? ⟨b2, o2 + k * 4 + 3, none⟩ = some (.int .i64 u)) (go_keep)
      (first
      | (go_at_call 17
         refine (eqSwitch_walk _ _ _ _ _).mono ?_
         rintro e w3 ⟨rfl, b3⟩
         have s3 := b3.size
         have r1 : b1 < wr.drew.heap.size := q1
         have r2 : b2 < wr.drew.heap.size := q2
         replace hr := (RdS.drew hr).new b3
         replace hs := (RdS.drew hs).new b3
         replace hb := hb.drew.trans (b3.mono hbs)
         replace c0 := ((bcell b3).1 _ _ r1).trans c0
         replace c1 := ((bcell b3).1 _ _ r1).trans c1
         replace c2 := ((bcell b3).1 _ _ r1).trans c2
         replace c3 := ((bcell b3).1 _ _ r1).trans c3
         replace d0 := ((bcell b3).1 _ _ r2).trans d0
         replace d1 := ((bcell b3).1 _ _ r2).trans d1
         replace d2 := ((bcell b3).1 _ _ r2).trans d2
         replace d3 := ((bcell b3).1 _ _ r2).trans d3))
    go_wp2_with fail
    go_roundw
    case rel => exact ⟨k + 1, by omega, by go_num, hr, hs, hb⟩
    case measure => simp [intOf]; omega

set_option maxRecDepth 100000 in
set_option maxHeartbeats 2000000 in
theorem markSwitchS_walk (l : List Sw) (k : Int) (v : Value) (w : World) (a b : Nat) (ho : OwS w a b 32 v l) (hl : l.length ≤ 2097152) (hk0 : 0 ≤ k) (hk1 : k ≤ 2097152) :
    Calls Try.prog 22 #[v, .int .i64 k] w fun e w' => e = .returned (.int .i64 (k + 4 * l.length)) ∧ OwS w' a b 32 v (markSw l.length k) ∧ Chg a b w w' := by
  obtain ⟨A, c, rfl, h1, h2⟩ := ho.form'
  go_enter Try.func22, Try.ntmps22
  go_wp2_with fail
  go_loopw [1, 5] (fun kk i wr => ∃ j : Nat, j ≤ l.length ∧ i = .int .i64 j ∧ kk = .int .i64 (k + 4 * (j : Int)) ∧ OwS wr a b 32 (.slice A l.length c) (markSw j k ++ l.drop j) ∧ w.grownBy wr (Value.slice A l.length c).ownBlock) (fun _ i _ => l.length - (intOf i).toNat)
  case atStart => exact ⟨0, Nat.zero_le _, rfl, by simp, by simpa [markSw] using ho, World.grownBy.refl _ _⟩
  case round =>
    have ho0 := ho
    clear ho
    obtain ⟨j, hj, rfl, rfl, ho, hg⟩ := hrel
    by_cases hlt : j < l.length
    rotate_left
    · have Ho := Lib.hid (ho0.chgOf hg)
      clear ho0
      go_wp2_with fail
      go_ret
      obtain rfl : j = l.length := by omega
      exact ⟨rfl, by simpa using ho, Ho.out⟩
    obtain ⟨⟨x, y, z, u⟩, hx⟩ := get_of_lt (markSw j k ++ l.drop j) j (by simp [markSw_len]; omega)
    obtain ⟨g, rfl, _, _, _, c0, c1, c2, c3, hf⟩ := ho.at_ hx
    clear hx ho0
    dsimp only at c0 c1 c2 c3
    have f0 := hf (j * 4)
    have f1 := hf (j * 4 + 1)
    have f2 := hf (j * 4 + 2)
    have f3 := hf (j * 4 + 3)
    clear hf
    have ho' := ho.set4 j (k + 4 * (j : Int), k + 4 * (j : Int) + 1, k + 4 * (j : Int) + 2, k + 4 * (j : Int) + 3)
    rw [markSw_step hlt] at ho'
    have Ho := Lib.hid ho'; clear ho'
    go_wp2_with fail
    go_roundw
    case rel =>
      have h := Ho.out
      dsimp only at h
      rw [show k + 4 * (j : Int) + 2 = k + 4 * (j : Int) + 1 + 1 by omega, show k + 4 * (j : Int) + 3 = k + 4 * (j : Int) + 1 + 1 + 1 by omega] at h
      exact ⟨j + 1, by omega, by go_num, by congr 1; push_cast; omega, h, grown_setCell (grown_setCell (grown_setCell (grown_setCell hg _ _) _ _) _ _) _ _⟩
    case measure => simp [intOf]; omega

set_option maxRecDepth 100000 in
set_option maxHeartbeats 2000000 in
theorem heldSwitchS_walk (n : Nat) (k : Int) (v : Value) (w : World) (a b : Nat) (hr : RdS w a b v (markSw n k)) (hl : n ≤ 2097152) (hk0 : 0 ≤ k) (hk1 : k ≤ 2097152) :
    Calls Try.prog 23 #[v, .int .i64 k] w fun e w' => e = .returned (.int .i64 (k + 4 * n)) ∧ w = w' := by
  obtain ⟨A, c, rfl, h1, h2⟩ := hr.form
  rw [markSw_len] at h1 hr ⊢
  go_enter Try.func23, Try.ntmps23
  go_wp2_with fail
  go_loop [1, 5] (fun kk i => ∃ j : Nat, j ≤ n ∧ i = .int .i64 j ∧ kk = .int .i64 (k + 4 * (j : Int))) (fun _ i => n - (intOf i).toNat)
  case atStart => exact ⟨0, Nat.zero_le _, rfl, by simp⟩
  case round =>
    obtain ⟨j, hj, rfl, rfl⟩ := hrel
    by_cases hlt : j < n
    rotate_left
    · go_wp2_with fail
      go_ret
      obtain rfl : j = n := by omega
      exact ⟨rfl, rfl⟩
    obtain ⟨b1, o1, rfl, _, _, _, c0, c1, c2, c3⟩ := hr.at_ (markSw_get k hlt)
    dsimp only at c0 c1 c2 c3
    have n0 := ne_self (k + 4 * (j : Int))
    have n1 := ne_self (k + 4 * (j : Int) + 1)
    have n2 := ne_self (k + 4 * (j : Int) + 2)
    have n3 := ne_self (k + 4 * (j : Int) + 3)
    go_wp2_with fail
    go_round
    case rel => exact ⟨j + 1, by omega, by go_num, by go_num⟩
    case measure => simp [intOf]; omega
end Go.Proofs.Ytpjlgcohafbbdaa
