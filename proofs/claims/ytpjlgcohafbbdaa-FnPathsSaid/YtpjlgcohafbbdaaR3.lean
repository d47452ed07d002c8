/- Walks: the reference's stream of draws over bytes of any length (l01New, l01Byte, l01Below, l02Draw). -/
import Derived.Test.YtpjlgcohafbbdaaProg
import Derived.Test.YtpjlgcohafbbdaaW1
import Derived.Test.YtpjlgcohafbbdaaW3
import Derived.Test.YtpjlgcohafbbdaaW4
import Derived.Test.YtpjlgcohafbbdaaW6
import Derived.Test.YtpjlgcohafbbdaaW8
import Derived.Test.YtpjlgcohafbbdaaR1
import Derived.Test.YtpjlgcohafbbdaaR2
import Derived.Test.YtpjlgcohafbbdaaMem
import Derived.Test.YtpjlgcohafbbdaaPoke
import Derived.WalkKit
import Derived.WalkSpells
import Derived.WalkLawsBesides
import Derived.KernelRfl
import Derived.Lib.Hide
import Derived.Deep.QuietTactic
import Derived.BigQuiet
namespace Go.Proofs.Ytpjlgcohafbbdaa
open Go.RowKit
set_option linter.unusedVariables false
set_option linter.unusedSimpArgs false

set_option maxRecDepth 100000 in
set_option maxHeartbeats 2000000 in
theorem l01Byte_walkB (code : List UInt8) (B : Nat) (w : World) (h : Cur w B code) (hc : code.length ≤ 9223372036854775807) :
    Calls Try.prog 49 #[.pointer (some ⟨B, 0, none⟩)] w fun e w' => ∃ x : Nat, x ≤ 255 ∧ e = .returned (.int .i64 x) ∧ Cur w' B code ∧ Chg B (B + 1) w w' := by
  have HC := Lib.hid h
  obtain ⟨A, c, i, hh, h0, h1, h2, f1, f2, hB, hi, hr⟩ := h
  by_cases hlt : i < code.length
  · obtain ⟨z, hz⟩ := get_of_lt code i hlt
    obtain ⟨b, o, rfl, g1, g2, g3, hz⟩ := hr.at_ (k := i) (u := .int .u8 z.toNat) (by rw [bytesV_get, hz]; rfl)
    have bB : b ≠ B := by omega
    have i1 : (i : Int) < (code.length : Int) := by omega
    go_enter Try.func49, Try.ntmps49
    go_wp2_with fail
    go_quiet (fail)
    generalize hX : bits BinOp.and IntKind.i64 _ 255 = X
    obtain ⟨x, hx, ex⟩ : ∃ x : Nat, x ≤ 255 ∧ X = x := hX ▸ and_rng _
    subst ex; clear hX
    go_wp2_with fail
    go_quiet (fail)
    go_wp2_with fail
    go_quiet (fail)
    generalize hX : bits BinOp.and IntKind.i64 _ 255 = X
    obtain ⟨y, hy, ey⟩ : ∃ y : Nat, y ≤ 255 ∧ X = y := hX ▸ and_rng _
    subst ey; clear hX
    go_wp2_with fail
    go_ret
    exact ⟨y, hy, rfl, by push_cast; exact cur_i (cur_h HC.out _) (i + 1) (by omega), (((Chg.refl B (B + 1) w).setCell (p := ⟨B, 2, none⟩) (.inl ⟨Nat.le_refl _, Nat.lt_succ_self _⟩) _).drewN _).setCell (p := ⟨B, 1, none⟩) (.inl ⟨Nat.le_refl _, Nat.lt_succ_self _⟩) _⟩
  · have i1 : ¬ (i : Int) < (code.length : Int) := by omega
    go_enter Try.func49, Try.ntmps49
    go_wp2_with fail
    go_quiet (fail)
    generalize hX : bits BinOp.and IntKind.i64 _ 255 = X
    obtain ⟨x, hx, ex⟩ : ∃ x : Nat, x ≤ 255 ∧ X = x := hX ▸ and_rng _
    subst ex; clear hX
    go_wp2_with fail
    go_quiet (fail)
    go_wp2_with fail
    go_ret
    exact ⟨x, hx, rfl, cur_h HC.out _, (((Chg.refl B (B + 1) w).setCell (p := ⟨B, 2, none⟩) (.inl ⟨Nat.le_refl _, Nat.lt_succ_self _⟩) _).drewN _).drewN _⟩


set_option maxRecDepth 100000 in
set_option maxHeartbeats 1000000 in
theorem l01Below_walkB (code : List UInt8) (B n : Nat) (w : World) (h : Cur w B code) (hc : code.length ≤ 9223372036854775807) (h1 : 1 ≤ n) (h2 : n ≤ 256) :
    Calls Try.prog 27 #[.pointer (some ⟨B, 0, none⟩), .int .i64 n] w fun e w' => ∃ x : Nat, x < n ∧ e = .returned (.int .i64 x) ∧ Cur w' B code ∧ Chg B (B + 1) w w' := by
  go_enter Try.func27, Try.ntmps27
  go_wp2_with (go_at_call 49; refine (l01Byte_walkB code B _ h hc).mono ?_; rintro e w1 ⟨x, hx, rfl, hC, hg⟩; have hm : ((x : Int) % (n : Int)) = ((x % n : Nat) : Int) := by rfl)
  go_ret
  have hlt : x % n < n := Nat.mod_lt _ h1
  exact ⟨x % n, hlt, rfl, hC, hg⟩


set_option maxRecDepth 100000 in
set_option maxHeartbeats 1000000 in
theorem l01New_walkB (code : List UInt8) (v : Value) (w : World) (a b : Nat) (hr : Rd w a b v (bytesV code)) (hc : code.length ≤ 9223372036854775807) :
    Calls Try.prog 24 #[v] w fun e w' => ∃ B, e = .returned (.pointer (some ⟨B, 0, none⟩)) ∧ Cur w' B code ∧ w.heap.size ≤ B ∧ Below w.heap.size w w' := by
  obtain ⟨A, c, rfl, h1, h2⟩ : ∃ A c, v = .slice A code.length c ∧ code.length ≤ c ∧ c ≤ 9223372036854775807 := by
    obtain ⟨A, c, e, q1, q2, _⟩ := hr
    rw [bytesV_len] at e q1
    unfold maxLen at q2
    exact ⟨A, c, e, q1, by omega⟩
  go_enter Try.func24, Try.ntmps24
  go_wp2_with fail
  go_loop [3, 4] (fun h i => ∃ (k : Nat) (hh : Int), k ≤ code.length ∧ i = .int .i64 k ∧ h = .int .i64 hh) (fun _ i => code.length - (intOf i).toNat)
  case atStart => exact ⟨0, _, Nat.zero_le _, rfl, rfl⟩
  case round =>
    obtain ⟨k, hh, hk, rfl, rfl⟩ := hrel
    by_cases hlt : k < code.length ∧ k < 4000
    · obtain ⟨k1, k2⟩ := hlt
      obtain ⟨z, hz⟩ := get_of_lt code k k1
      obtain ⟨b1, o1, rfl, _, _, _, hz1⟩ := hr.at_ (k := k) (u := .int .u8 z.toNat) (by rw [bytesV_get, hz]; rfl)
      clear hz
      go_wp2_with fail
      go_round
      case rel => exact ⟨k + 1, _, by omega, by go_num, rfl⟩
      case measure => simp [intOf]; omega
    · by_cases k1 : k < code.length
      · have k2 : ¬ k < 4000 := by omega
        clear hlt
        go_wp2_with fail
        go_ret
        refine ⟨w.heap.size, rfl, ⟨A, c, 0, hh, by simp, by simp, by simp, by simp, by simp, by simp, Nat.zero_le _, ?_⟩, Nat.le_refl _, (Below.refl _ _).alloc (Nat.le_refl _) _⟩
        exact (Rd.clip hr).new ((Below.refl _ _).alloc (Nat.le_refl _) _) |>.mono (Nat.zero_le _) (Nat.le_refl _)
      · clear hlt
        go_wp2_with fail
        go_ret
        refine ⟨w.heap.size, rfl, ⟨A, c, 0, hh, by simp, by simp, by simp, by simp, by simp, by simp, Nat.zero_le _, ?_⟩, Nat.le_refl _, (Below.refl _ _).alloc (Nat.le_refl _) _⟩
        exact (Rd.clip hr).new ((Below.refl _ _).alloc (Nat.le_refl _) _) |>.mono (Nat.zero_le _) (Nat.le_refl _)


set_option maxRecDepth 100000 in
set_option maxHeartbeats 4000000 in
theorem l02Draw_walkB (code : List UInt8) (B n : Nat) (w : World) (h : Cur w B code) (hc : code.length ≤ 9223372036854775807) (h1 : 1 ≤ n) (h2 : n ≤ 5) :
    Calls Try.prog 25 #[.pointer (some ⟨B, 0, none⟩), .int .i64 n] w fun e w' => ∃ v g R C, 1 ≤ R ∧ R ≤ n ∧ 1 ≤ C ∧ C ≤ n ∧ Bits g R C ∧ e = .returned v ∧ OwG w' w.heap.size w'.heap.size 50 3 v g ∧ Cur w' B code ∧ Chg B (B + 1) w w' := by
  have hB := h.lt
  go_enter Try.func25, Try.ntmps25
  go_wp2_with fail
  refine (l01Below_walkB code B n _ h hc h1 (by omega)).mono ?_
  rintro e w1 ⟨r, hr, rfl, hC1, hg1⟩
  go_wp2_with fail
  refine (l01Below_walkB code B n _ hC1 hc h1 (by omega)).mono ?_
  rintro e w2 ⟨c, hcn, rfl, hC2, hg2⟩
  have hg := hg1.trans hg2
  have hsz := hg.size
  obtain ⟨R, hR⟩ : ∃ R, R = 1 + r := ⟨_, rfl⟩
  obtain ⟨C, hC⟩ : ∃ C, C = 1 + c := ⟨_, rfl⟩
  go_wp2_with fail
  refine (empty_at _ _ R C _ (by omega) (by omega) (by omega) (by omega)).mono ?_
  rintro e w3 ⟨v, rfl, hu, hb⟩
  have R1 : 1 ≤ R := by omega
  have R2 : R ≤ n := by omega
  have C1 : 1 ≤ C := by omega
  have C2 : C ≤ n := by omega
  clear hr hcn hR hC hC1 hg1 hg2
  obtain ⟨b, cap, cb, cc, rfl, p1, p2, p3, p4, p5, p6, p7, p8, p9, p10⟩ := hu.poke (y := 0) (x := 0) RI (shape_zeros R C) (by omega) (by omega)
  have hcur := hC2.new hb
  have hgw := hg.trans (Chg.ofNew (lo := B) (hi := B + 1) hb)
  clear p3 p4 p5 p6 p7 p8 p9 p10 hC2 hg
  have hbz := bits_zeros R C
  have HZ := Lib.hid hbz; clear hbz
  go_wp2_with fail
  go_loopw [19] (fun i wr => ∃ (k : Nat) (G : List (List Int)), k ≤ R ∧ i = .int .i64 k ∧ Hid (Bits G R C) ∧ OwG wr w2.heap.size wr.heap.size 50 3 (.slice (some ⟨b, 0, none⟩) R cap) G ∧ Cur wr B code ∧ Chg B (B + 1) w wr) (fun i _ => R - (intOf i).toNat)
  case atStart => exact ⟨0, _, Nat.zero_le _, rfl, HZ, hu, hcur, hgw⟩
  case round =>
    clear hu hcur hgw HZ
    obtain ⟨k, G, hk, rfl, HG, hG, hcur, hgw⟩ := hrel
    by_cases hlt : k < R
    rotate_left
    · go_wp2_with fail
      go_ret
      exact ⟨_, G, R, C, R1, R2, C1, C2, HG.out, rfl, hG.mono hsz (Nat.le_refl _), hcur, hgw⟩
    obtain ⟨b', cap', cb, cc, e, p1', p2', p3, p4, p5, p6, p7, p8, p9, p10⟩ := hG.poke (y := k) (x := 0) RI HG.out.1 hlt (by omega)
    injection e with e1 e2 e3; injection e1 with e1; injection e1 with e1; subst e1; subst e3
    clear p6 p7 p8 p9 p10
    go_wp2_with fail
    go_loopw [27] (fun i wr => ∃ (j : Nat) (G : List (List Int)), j ≤ C ∧ i = .int .i64 j ∧ Hid (Bits G R C) ∧ OwG wr w2.heap.size wr.heap.size 50 3 (.slice (some ⟨b, 0, none⟩) R cap) G ∧ Cur wr B code ∧ Chg B (B + 1) w wr) (fun i _ => C - (intOf i).toNat)
    case atStart => exact ⟨0, G, Nat.zero_le _, rfl, HG, hG, hcur, hgw⟩
    case round =>
      clear hG hcur hgw HG p3 p4 p5
      obtain ⟨j, G, hj, rfl, HG, hG, hcur, hgw⟩ := hrel
      by_cases hlt2 : j < C
      rotate_left
      · go_wp2_with fail
        go_roundw
        case rel => exact ⟨k + 1, G, by omega, by go_num, HG, hG, hcur, hgw⟩
        case measure => simp [intOf]; omega
      obtain ⟨b', cap', cb, cc, e, p1', p2', p3, p4, p5, p6, p7, p8, p9, p10⟩ := hG.poke (y := k) (x := j) RI HG.out.1 hlt hlt2
      injection e with e1 e2 e3; injection e1 with e1; injection e1 with e1; subst e1; subst e3
      have i1 : (k : Int) < (R : Int) := by omega
      have i2 : (j : Int) < (C : Int) := by omega
      have hBlt := hcur.lt
      obtain ⟨rr, hrr, _⟩ := shape_row HG.out.1 hlt
      obtain ⟨b1, u1, eb, z1, z2, z3, hq⟩ := hG.at_ hrr
      injection eb with eb; injection eb with eb; subst eb
      have hcur' : Cur wr.drew B code := hcur
      have p3' : wr.drew.cell? ⟨b, k, none⟩ = some (.slice (some ⟨cb, 0, none⟩) C cc) := p3
      have z3' : b < wr.drew.heap.size := z3
      clear hrr hq
      go_wp2_with fail
      go_region_with (go_at_call 27; refine (l01Below_walkB code B 2 _ hcur' hc (by omega) (by omega)).mono ?_; rintro e w4 ⟨z, hz, rfl, hcur4, hg4⟩; have q3 := (hg4.cell (p := ⟨b, k, none⟩) z3' (.inr (show B + 1 ≤ b by omega))).trans p3'; have hG4 := (OwG.drewN hG 1).chg hg4 (.inr (.inl (by omega))); obtain ⟨_, q6, q7, q8, q9, _, _, q10⟩ := hG4.poke_at q3 RI HG.out.1 hlt hlt2)
      all_goals
        have hw4 : wr.heap.size ≤ w4.heap.size := hg4.size
        have hBc : B < cb := by omega
        have hwc : w.heap.size ≤ cb := by omega
        go_wp2_with fail
        go_roundw
        case rel => exact ⟨j + 1, putN G k j z, by omega, by go_num, Lib.hid (bits_put HG.out hlt hlt2 (by omega) (by omega)), (q10.out _).mono (Nat.le_refl _) (by simp [World.setCell]; omega), hcur4.chg ((Chg.refl cb (cb + 1) w4).setCell (p := ⟨cb, j, none⟩) (.inl ⟨Nat.le_refl _, Nat.lt_succ_self _⟩) _) hBc, ((hgw.drewN 1).trans hg4).setCell (p := ⟨cb, j, none⟩) (.inr hwc) _⟩
        case measure => simp [intOf]; omega


end Go.Proofs.Ytpjlgcohafbbdaa
