/- Walks: keyOf of impl, l06Find of spec. -/
import Derived.Test.YtpjlgcohafbbdaaProg
import Derived.Test.YtpjlgcohafbbdaaW1
import Derived.Test.YtpjlgcohafbbdaaW3
import Derived.Test.YtpjlgcohafbbdaaW4
import Derived.Test.YtpjlgcohafbbdaaW6
import Derived.Test.YtpjlgcohafbbdaaW8
import Derived.Test.YtpjlgcohafbbdaaW11
import Derived.Test.YtpjlgcohafbbdaaSw
import Derived.Test.YtpjlgcohafbbdaaR2
import Derived.Test.YtpjlgcohafbbdaaN1
import Derived.Test.YtpjlgcohafbbdaaN2
import Derived.Test.YtpjlgcohafbbdaaN3
import Derived.Test.YtpjlgcohafbbdaaN4
import Derived.Test.YtpjlgcohafbbdaaMem
import Derived.WalkKit
import Derived.WalkSpells
import Derived.WalkLawsBesides
import Derived.KernelRfl
import Derived.Lib.Hide
import Derived.Deep.QuietTactic
import Derived.BigQuiet
namespace Go.Proofs.Ytpjlgcohafbbdaa
open Go.RowKit
set_option linter.unusedVariables false
set_option linter.unusedSimpArgs false

theorem take_rows {g : Img} {R C k : Nat} (h : Good g R C) (hk : k ≤ R) : 0 ≤ kG 0 (g.take k) ∧ kG 0 (g.take k) < 2 ^ (C * k) :=
  kG_bd k (g.take k) (by rw [List.length_take, h.len]; omega) fun r hr => good_rows h r (List.mem_of_mem_take hr)
theorem pow16 {m : Nat} (h : m ≤ 16) : (2 : Int) ^ m ≤ 65536 := by
  have := Nat.pow_le_pow_right (show 0 < 2 by decide) h
  have e : ((2 ^ m : Nat) : Int) = (2 : Int) ^ m := by push_cast; rfl
  rw [← e]
  have : ((2 ^ m : Nat) : Int) ≤ ((2 ^ 16 : Nat) : Int) := by exact_mod_cast this
  simpa using this
theorem row_bd {g : Img} {R C k j : Nat} {r : List Int} (h : Good g R C) (hr : g[k]? = some r) (h4 : R ≤ 4) (h5 : C ≤ 4) (hj : j ≤ C) : 0 ≤ kL (kG 0 (g.take k)) (r.take j) ∧ kL (kG 0 (g.take k)) (r.take j) < 65536 := by
  have hk : k < R := by have := (List.getElem?_eq_some_iff.1 hr).1; rw [h.len] at this; exact this
  have hrow := good_rows h r (List.mem_of_getElem? hr)
  obtain ⟨h1, h2⟩ := take_rows h (k := k) (by omega)
  obtain ⟨q1, q2⟩ := kL_bd (r.take j) _ h1 (fun x hx => hrow.2 x (List.mem_of_mem_take hx))
  refine ⟨q1, Int.lt_of_lt_of_le q2 ?_⟩
  have hp : (0 : Int) ≤ 2 ^ (r.take j).length := Int.le_of_lt (Int.pow_pos (by decide))
  have := Int.mul_le_mul_of_nonneg_right (show kG 0 (g.take k) + 1 ≤ 2 ^ (C * k) by omega) hp
  refine Int.le_trans this ?_
  rw [← Int.pow_add]
  refine pow16 ?_
  have hl : (r.take j).length ≤ j := List.length_take_le _ _
  have hm : C * k ≤ 4 * k := Nat.mul_le_mul_right _ h5
  omega

set_option maxRecDepth 100000 in
set_option maxHeartbeats 1000000 in
theorem impl_keyOf {R C : Nat} (g : Img) (v : Value) (w : World) (a b : Nat) (hr : RdG w a b v g) (hg : Good g R C) (h4 : R ≤ 4) (h5 : C ≤ 4) :
    Calls Try.prog 30 #[v] w fun e w' => e = .returned (.int .i64 (keyR g)) ∧ w = w' := by
  obtain ⟨A, c, rfl, h1, h2⟩ := hr.form
  have hgl := hg.len
  rw [hgl] at hr h1 ⊢
  have HG := Lib.hid hg; clear hg
  have HGL := Lib.hid hgl; clear hgl
  go_enter Try.func30, Try.ntmps30
  go_wp2_with fail
  go_loop [3, 10] (fun n y => ∃ k : Nat, k ≤ R ∧ y = .int .i64 k ∧ n = .int .i64 (kG 0 (g.take k))) (fun _ y => R - (intOf y).toNat)
  case atStart => exact ⟨0, Nat.zero_le _, rfl, rfl⟩
  case round =>
    obtain ⟨k, hk, rfl, rfl⟩ := hrel
    by_cases hlt : k < R
    rotate_left
    · have Hall := Lib.hid (take_all (l := g) (k := k) (by rw [HGL.out]; omega))
      go_wp2_with fail
      go_ret
      exact ⟨ret_int (by rw [Hall.out]; rfl), rfl⟩
    obtain ⟨r, hx⟩ := get_of_lt g k (by rw [HGL.out]; exact hlt)
    obtain ⟨b0, o0, rfl, _, _⟩ := hr.some_ (by rw [HGL.out]; omega)
    obtain ⟨A1, c1, hc1, m1, m2, hrow⟩ := hr.row hx
    have hrl := (good_rows HG.out r (List.mem_of_getElem? hx)).1
    rw [hrl] at hc1 m1 hrow
    have HRL := Lib.hid hrl; clear hrl
    have HR01 := Lib.hid (good_rows HG.out r (List.mem_of_getElem? hx)).2
    have HX := Lib.hid hx; clear hx
    have i1 : (k : Int) < (R : Int) := by omega
    go_wp2_with fail
    go_loop [3, 16] (fun n x => ∃ j : Nat, j ≤ C ∧ x = .int .i64 j ∧ n = .int .i64 (kL (kG 0 (g.take k)) (r.take j))) (fun _ x => C - (intOf x).toNat)
    case atStart => exact ⟨0, Nat.zero_le _, rfl, rfl⟩
    case round =>
      obtain ⟨j, hj, rfl, rfl⟩ := hrel
      by_cases hlj : j < C
      rotate_left
      · have Hall := Lib.hid (take_all (l := r) (k := j) (by rw [HRL.out]; omega))
        have HS := Lib.hid (take_snoc HX.out)
        go_wp2_with fail
        go_round
        case rel => exact ⟨k + 1, by omega, by go_num, by rw [Hall.out, HS.out, kG_snoc]⟩
        case measure => simp [intOf]; omega
      obtain ⟨z, hz⟩ := get_of_lt r j (by rw [HRL.out]; exact hlj)
      obtain ⟨b2, o2, rfl, _, _, _, hc2⟩ := hrow.at_ hz
      obtain ⟨z0, z1⟩ := HR01.out z (List.mem_of_getElem? hz)
      obtain ⟨n0, n1⟩ := row_bd HG.out HX.out h4 h5 hj
      have hsn := kL_snoc (kG 0 (g.take k)) (r.take j) z
      rw [← take_snoc hz] at hsn
      obtain ⟨N, hN⟩ : ∃ N, N = kL (kG 0 (g.take k)) (r.take j) := ⟨_, rfl⟩
      rw [← hN] at n0 n1 hsn ⊢
      have HSN := Lib.hid hsn; clear hsn
      have HN := Lib.hid hN; clear hN
      have HZ := Lib.hid hz; clear hz
      have i2 : (j : Int) < (C : Int) := by omega
      have f1 : IntKind.i64.wrap (2 * N) = 2 * N := by rw [IntKind.wrap_i64]; omega
      have f2 : IntKind.i64.wrap (2 * N + z) = 2 * N + z := by rw [IntKind.wrap_i64]; omega
      go_wp2_with fail
      go_round
      case rel => exact ⟨j + 1, by omega, by go_num, by rw [HSN.out]⟩
      case measure => simp [intOf]; omega
end Go.Proofs.Ytpjlgcohafbbdaa
