/- Walk: the reference's drawn pair (MakePair): two images of at most four by four with the same sums. -/
import Derived.Test.YtpjlgcohafbbdaaProg
import Derived.Test.YtpjlgcohafbbdaaW1
import Derived.Test.YtpjlgcohafbbdaaW3
import Derived.Test.YtpjlgcohafbbdaaW4
import Derived.Test.YtpjlgcohafbbdaaW6
import Derived.Test.YtpjlgcohafbbdaaW8
import Derived.Test.YtpjlgcohafbbdaaW21
import Derived.Test.YtpjlgcohafbbdaaW25
import Derived.Test.YtpjlgcohafbbdaaW30
import Derived.Test.YtpjlgcohafbbdaaSw
import Derived.Test.YtpjlgcohafbbdaaR1
import Derived.Test.YtpjlgcohafbbdaaR2
import Derived.Test.YtpjlgcohafbbdaaR3
import Derived.Test.YtpjlgcohafbbdaaN1
import Derived.Test.YtpjlgcohafbbdaaN2
import Derived.Test.YtpjlgcohafbbdaaN3
import Derived.Test.YtpjlgcohafbbdaaN8
import Derived.Test.YtpjlgcohafbbdaaMem
import Derived.Test.YtpjlgcohafbbdaaPoke
import Derived.WalkKit
import Derived.WalkSpells
import Derived.WalkLawsBesides
import Derived.KernelRfl
import Derived.Lib.Hide
namespace Go.Proofs.Ytpjlgcohafbbdaa
open Go.RowKit
set_option linter.unusedVariables false
set_option linter.unusedSimpArgs false

theorem sw3_four (g : List (List Int)) (C a b : Nat) (hC : C ≤ 4) (L : List Sw) : ∀ k, (sw3 g C a b L k).length ≤ L.length + 3 * k
  | 0 => by simp [sw3]
  | k + 1 => by
    have := sw3_four g C a b hC L k
    have := sw4_len g a b k (sw3 g C a b L k) (C - (k + 1))
    rw [sw3]; omega
theorem sw2_four (g : List (List Int)) (C a : Nat) (hC : C ≤ 4) (L : List Sw) : ∀ n, (sw2 g C a L n).length ≤ L.length + 12 * n
  | 0 => by simp [sw2]
  | n + 1 => by
    have := sw2_four g C a hC L n
    have := sw3_four g C a (a + 1 + n) hC (sw2 g C a L n) C
    rw [sw2]; omega
theorem sw1_four (g : List (List Int)) (R C : Nat) (hC : C ≤ 4) (hR : R ≤ 4) : ∀ k, (sw1 g R C k).length ≤ 36 * k
  | 0 => by simp [sw1]
  | k + 1 => by
    have := sw1_four g R C hC hR k
    have := sw2_four g C k hC (sw1 g R C k) (R - (k + 1))
    rw [sw1]; omega
theorem sws_four {g : Img} {R C : Nat} (h : Good g R C) (h4 : R ≤ 4) (h5 : C ≤ 4) : (swsR g).length ≤ 256 := by
  rw [sws_yes h.img, h.len, h.hd]
  have := sw1_four g R C h5 h4 R
  omega
theorem sw_moves {g H : Img} {R C j : Nat} {s : Sw} (h : Good H R C) (hs : SameN g H R C) (hj : (swsR H)[j]? = some s) :
    swOk H s.1 s.2.1 s.2.2.1 s.2.2.2 = true ∧ Good (swR H s.1 s.2.1 s.2.2.1 s.2.2.2) R C ∧ SameN g (swR H s.1 s.2.1 s.2.2.1 s.2.2.2) R C := by
  obtain ⟨g1, g2, _⟩ := nb_good h (List.mem_of_getElem? (nb_get hj))
  exact ⟨sws_ok h hj, g1, hs.trans g2.symm⟩

set_option maxRecDepth 100000 in
set_option maxHeartbeats 4000000 in
theorem MakePair_walk (code : List UInt8) (v : Value) (w : World) (a b : Nat) (hr : Rd w a b v (bytesV code)) (hc : code.length ≤ 9223372036854775807) :
    Calls Try.prog 6 #[v] w fun e w' => ∃ v1 v2 g h R C, Good g R C ∧ Good h R C ∧ SameN g h R C ∧ R ≤ 4 ∧ C ≤ 4 ∧ e = .returned (.tuple #[v1, v2]) ∧ RdG w' 0 w'.heap.size v1 g ∧ RdG w' 0 w'.heap.size v2 h ∧ Below w.heap.size w w' := by
  go_enter Try.func6, Try.ntmps6
  go_wp2_with fail
  refine (l01New_walkB code _ _ _ _ hr hc).mono ?_
  rintro e w1 ⟨B, rfl, hC, hB, hb⟩
  have s1 := hb.size
  have hBl := hC.lt
  go_wp2_with fail
  refine (l02Draw_walkB code B 4 _ hC hc (by omega) (by omega)).mono ?_
  rintro e w2 ⟨u, g, R, C, q1, q2, q3, q4, hG, rfl, ho, hC2, hg⟩
  have hgood : Good g R C := ⟨hG, q1, by omega, q3, by omega⟩
  have HG := Lib.hid hgood
  have s2 := hg.size
  have hM := ho.rd
  obtain ⟨A, cA, rfl, m1, m2⟩ := hM.form
  clear hG ho hC hgood
  go_wp2_with fail
  refine (spec_l02Copy g _ _ _ _ hM (imgOk_short HG.out.img)).mono ?_
  rintro e w3 ⟨u3, rfl, o3, b3⟩
  have s3 := b3.size
  have hC3 := hC2.new b3
  have hg3 := hg.trans (Chg.ofNew (lo := B) (hi := B + 1) b3)
  have hM3 := (hM.new b3).mono (Nat.le_refl _) s3
  have hH3 := o3.rd.mono s2 (Nat.le_refl _)
  clear hC2 hg hM o3 b3
  go_wp2_with fail
  refine (l01Below_walkB code B 6 _ hC3 hc (by omega) (by omega)).mono ?_
  rintro e w4 ⟨x, hx, rfl, hC4, hg4⟩
  have s4 := hg4.size
  have hM4 := (hM3.chg hg4 (.inr (.inl (by omega)))).mono (Nat.le_refl _) s4
  have hH4 := (hH3.chg hg4 (.inr (.inl (by omega)))).mono (Nat.le_refl _) s4
  have hgw := hg3.trans hg4
  clear hC3 hg3 hg4 hM3 hH3
  go_wp2_with fail
  go_loopw [6, 7] (fun o i wr => ∃ (k : Nat) (H : Img) (u : Value), k ≤ 5 ∧ i = .int .i64 k ∧ u = o ∧ Hid (Good H R C ∧ SameN g H R C) ∧ RdG wr w1.heap.size wr.heap.size (.slice A g.length cA) g ∧ RdG wr w1.heap.size wr.heap.size u H ∧ Cur wr B code ∧ Chg B (B + 1) w1 wr) (fun _ i _ => (intOf i).toNat)
  case atStart => exact ⟨x, g, _, by omega, rfl, rfl, Lib.hid ⟨HG.out, fun _ _ => rfl, fun _ _ => rfl⟩, hM4, hH4, hC4, hgw⟩
  case round =>
    clear hM4 hH4 hC4 hgw
    obtain ⟨k, H, u, hk, rfl, rfl, HH, hM, hH, hcur, hgw⟩ := hrel
    by_cases hk0 : k = 0
    · subst hk0
      go_wp2_with fail
      go_ret2
      exact ⟨_, _, g, H, R, C, HG.out, HH.out.1, HH.out.2, q2, q4, rfl, hM.mono (Nat.zero_le _) (Nat.le_refl _), hH.mono (Nat.zero_le _) (Nat.le_refl _), hb.trans (hgw.below hB s1)⟩
    obtain ⟨j, rfl⟩ : ∃ j, k = j + 1 := ⟨k - 1, by omega⟩
    have i1 : (0 : Int) < ((j + 1 : Nat) : Int) := by omega
    have i2 : IntKind.i64.wrap (((j + 1 : Nat) : Int) - 1) = (j : Int) := by rw [IntKind.wrap_i64]; omega
    obtain ⟨AH, cH, rfl, n1, n2⟩ := hH.form
    go_wp2_with fail
    refine (spec_SwitchesOf H _ _ _ _ hH).mono ?_
    rintro e w5 ⟨u5, rfl, o5, b5⟩
    have s5 := b5.size
    have hM5 := (hM.new b5).mono (Nat.le_refl _) s5
    have hH5 := (hH.new b5).mono (Nat.le_refl _) s5
    have hcur5 := hcur.new b5
    have sw := hgw.size
    have hgw5 := hgw.trans (Chg.ofNew (lo := B) (hi := B + 1) b5)
    clear hM hH hcur hgw b5
    have hS5 := o5.rd
    obtain ⟨AS, cS, rfl, p1, p2⟩ := hS5.form
    by_cases hl : 0 < (swsR H).length
    rotate_left
    · have l0 : (swsR H).length = 0 := by omega
      go_wp2_with fail
      go_roundw
      case rel => exact ⟨j, H, _, by omega, rfl, rfl, HH, hM5, hH5, hcur5, hgw5⟩
      case measure => simp [intOf]
    have l1 : (0 : Int) < ((swsR H).length : Int) := by omega
    have l2 := sws_four HH.out.1 q2 q4
    go_wp2_with fail
    refine (l01Below_walkB code B (swsR H).length _ hcur5 hc hl l2).mono ?_
    rintro e w6 ⟨y, hy, rfl, hcur6, hg6⟩
    have s6 := hg6.size
    have hM6 := (hM5.chg hg6 (.inr (.inl (by omega)))).mono (Nat.le_refl _) s6
    have hH6 := (hH5.chg hg6 (.inr (.inl (by omega)))).mono (Nat.le_refl _) s6
    have hS6 := hS5.chg hg6 (.inr (.inl (by omega)))
    have hgw6 := hgw5.trans hg6
    obtain ⟨⟨y1, y2, x1, x2⟩, hs⟩ := get_of_lt (swsR H) y hy
    obtain ⟨HO, HN, HM⟩ := sw_moves HH.out.1 HH.out.2 hs
    have HO := Lib.hid HO
    have HNM := Lib.hid (And.intro HN HM)
    obtain ⟨bS, oS, rfl, _, _, r1, c0, c1, c2, c3⟩ := hS6.at_ hs
    dsimp only at c0 c1 c2 c3
    have j1 : (y : Int) < ((swsR H).length : Int) := by omega
    clear hM5 hH5 hS5 hcur5 hgw5 hg6 hs HN HM o5 hS6
    go_wp2_with fail
    refine (spec_l06Apply H y1 y2 x1 x2 _ _ _ _ hH6 HO.out).mono ?_
    rintro e w7 ⟨u7, rfl, o7, b7⟩
    have s7 := b7.size
    have bw := hgw6.size
    go_wp2_with fail
    go_roundw
    case rel => exact ⟨j, _, _, by omega, rfl, rfl, HNM, (hM6.new b7).mono (Nat.le_refl _) s7, o7.rd.mono (by omega) (Nat.le_refl _), hcur6.new b7, hgw6.trans (Chg.ofNew (lo := B) (hi := B + 1) b7)⟩
    case measure => simp [intOf]
end Go.Proofs.Ytpjlgcohafbbdaa
