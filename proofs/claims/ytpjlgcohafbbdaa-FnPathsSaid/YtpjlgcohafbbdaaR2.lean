/- Walks: the reference's drawn images (l02Draw, MakeSized, MakeImage): some image of the size told. -/
import Derived.Test.YtpjlgcohafbbdaaProg
import Derived.Test.YtpjlgcohafbbdaaW1
import Derived.Test.YtpjlgcohafbbdaaW3
import Derived.Test.YtpjlgcohafbbdaaW4
import Derived.Test.YtpjlgcohafbbdaaW6
import Derived.Test.YtpjlgcohafbbdaaW8
import Derived.Test.YtpjlgcohafbbdaaR1
import Derived.Test.YtpjlgcohafbbdaaMem
import Derived.Test.YtpjlgcohafbbdaaPoke
import Derived.WalkKit
import Derived.WalkSpells
import Derived.WalkLawsBesides
import Derived.KernelRfl
import Derived.Lib.Hide
import Derived.Deep.QuietTactic
import Derived.BigQuiet
namespace Go.Proofs.Ytpjlgcohafbbdaa
open Go.RowKit
set_option linter.unusedVariables false
set_option linter.unusedSimpArgs false

/-- A grid of the size R by C with cells 0 and 1. -/
def Bits (g : List (List Int)) (R C : Nat) : Prop := shape g R C ∧ ∀ y x, y < R → x < C → 0 ≤ cellN g y x ∧ cellN g y x ≤ 1
theorem bits_put {g : List (List Int)} {R C y x : Nat} {z : Int} (h : Bits g R C) (hy : y < R) (hx : x < C) (h0 : 0 ≤ z) (h1 : z ≤ 1) : Bits (putN g y x z) R C := by
  refine ⟨shape_put h.1 x z, fun i j hi hj => ?_⟩
  rw [cell_put h.1 hy hx]
  split
  · omega
  · exact h.2 i j hi hj
theorem bits_zeros (R C : Nat) : Bits (zeros R C) R C := ⟨shape_zeros R C, fun y x _ _ => by rw [cell_zeros]; omega⟩
theorem inB_mk' {x lo hi : Int} (h1 : lo ≤ x) (h2 : x ≤ hi) : inB x lo hi = true := by simp [inB, h1, h2]
theorem bits_hd {g : List (List Int)} {R C : Nat} (h : Bits g R C) (h1 : 1 ≤ R) : (hd g).length = C := by
  have hl := h.1.1
  exact h.1.2 0 _ (hd_get (g := g) (by omega))
theorem bits_img {g : List (List Int)} {R C : Nat} (h : Bits g R C) (h1 : 1 ≤ R) (h2 : R ≤ 5) (h3 : 1 ≤ C) (h4 : C ≤ 5) : imgOk g = true := by
  have hl := h.1.1
  have hc := bits_hd h h1
  simp only [imgOk, gridOkF, Bool.and_eq_true]
  refine ⟨⟨inB_mk' (by omega) (by omega), inB_mk' (by omega) (by omega)⟩, List.all_eq_true.2 fun r hr => ?_⟩
  obtain ⟨y, hy⟩ := List.getElem?_of_mem hr
  have hrl := h.1.2 y r hy
  have hyR : y < R := by have := (List.getElem?_eq_some_iff.1 hy).1; omega
  simp only [rowOk, Bool.and_eq_true, decide_eq_true_eq]
  refine ⟨by omega, List.all_eq_true.2 fun z hz => ?_⟩
  obtain ⟨x, hx⟩ := List.getElem?_of_mem hz
  have hxC : x < C := by have := (List.getElem?_eq_some_iff.1 hx).1; omega
  obtain ⟨r', e1, e2, e3⟩ := shape_cell h.1 hyR hxC
  rw [hy] at e1; injection e1 with e1; subst e1
  rw [hx] at e3; injection e3 with e3
  have := h.2 y x hyR hxC
  exact inB_mk' (by omega) (by omega)
theorem empty_at (x y : Int) (R C : Nat) (w : World) (hx : x = R) (hy : y = C) (hR : R ≤ 1048576) (hC : C ≤ 1048576) :
    Calls Try.prog 48 #[.int .i64 x, .int .i64 y] w (RetG w (zeros R C)) := by
  subst hx; subst hy
  exact spec_l02Empty R C w hR hC

set_option maxRecDepth 100000 in
set_option maxHeartbeats 4000000 in
theorem l02Draw_walk (code : List UInt8) (B n : Nat) (w : World) (h : Cur w B code) (hc : code.length ≤ 1048576) (h1 : 1 ≤ n) (h2 : n ≤ 5) :
    Calls Try.prog 25 #[.pointer (some ⟨B, 0, none⟩), .int .i64 n] w fun e w' => ∃ v g R C, 1 ≤ R ∧ R ≤ n ∧ 1 ≤ C ∧ C ≤ n ∧ Bits g R C ∧ e = .returned v ∧ OwG w' w.heap.size w'.heap.size 50 3 v g ∧ Cur w' B code ∧ Chg B (B + 1) w w' := by
  have hB := h.lt
  go_enter Try.func25, Try.ntmps25
  go_wp2_with fail
  refine (l01Below_walk code B n _ h hc h1 (by omega)).mono ?_
  rintro e w1 ⟨r, hr, rfl, hC1, hg1⟩
  go_wp2_with fail
  refine (l01Below_walk code B n _ hC1 hc h1 (by omega)).mono ?_
  rintro e w2 ⟨c, hcn, rfl, hC2, hg2⟩
  have hg := hg1.trans hg2
  have hsz := hg.size
  obtain ⟨R, hR⟩ : ∃ R, R = 1 + r := ⟨_, rfl⟩
  obtain ⟨C, hC⟩ : ∃ C, C = 1 + c := ⟨_, rfl⟩
  go_wp2_with fail
  refine (empty_at _ _ R C _ (by omega) (by omega) (by omega) (by omega)).mono ?_
  rintro e w3 ⟨v, rfl, hu, hb⟩
  have R1 : 1 ≤ R := by omega
  have R2 : R ≤ n := by omega
  have C1 : 1 ≤ C := by omega
  have C2 : C ≤ n := by omega
  clear hr hcn hR hC hC1 hg1 hg2
  obtain ⟨b, cap, cb, cc, rfl, p1, p2, p3, p4, p5, p6, p7, p8, p9, p10⟩ := hu.poke (y := 0) (x := 0) RI (shape_zeros R C) (by omega) (by omega)
  have hcur := hC2.new hb
  have hgw := hg.trans (Chg.ofNew (lo := B) (hi := B + 1) hb)
  clear p3 p4 p5 p6 p7 p8 p9 p10 hC2 hg
  have hbz := bits_zeros R C
  have HZ := Lib.hid hbz; clear hbz
  go_wp2_with fail
  go_loopw [19] (fun i wr => ∃ (k : Nat) (G : List (List Int)), k ≤ R ∧ i = .int .i64 k ∧ Hid (Bits G R C) ∧ OwG wr w2.heap.size wr.heap.size 50 3 (.slice (some ⟨b, 0, none⟩) R cap) G ∧ Cur wr B code ∧ Chg B (B + 1) w wr) (fun i _ => R - (intOf i).toNat)
  case atStart => exact ⟨0, _, Nat.zero_le _, rfl, HZ, hu, hcur, hgw⟩
  case round =>
    clear hu hcur hgw HZ
    obtain ⟨k, G, hk, rfl, HG, hG, hcur, hgw⟩ := hrel
    by_cases hlt : k < R
    rotate_left
    · go_wp2_with fail
      go_ret
      exact ⟨_, G, R, C, R1, R2, C1, C2, HG.out, rfl, hG.mono hsz (Nat.le_refl _), hcur, hgw⟩
    obtain ⟨b', cap', cb, cc, e, p1', p2', p3, p4, p5, p6, p7, p8, p9, p10⟩ := hG.poke (y := k) (x := 0) RI HG.out.1 hlt (by omega)
    injection e with e1 e2 e3; injection e1 with e1; injection e1 with e1; subst e1; subst e3
    clear p6 p7 p8 p9 p10
    go_wp2_with fail
    go_loopw [27] (fun i wr => ∃ (j : Nat) (G : List (List Int)), j ≤ C ∧ i = .int .i64 j ∧ Hid (Bits G R C) ∧ OwG wr w2.heap.size wr.heap.size 50 3 (.slice (some ⟨b, 0, none⟩) R cap) G ∧ Cur wr B code ∧ Chg B (B + 1) w wr) (fun i _ => C - (intOf i).toNat)
    case atStart => exact ⟨0, G, Nat.zero_le _, rfl, HG, hG, hcur, hgw⟩
    case round =>
      clear hG hcur hgw HG p3 p4 p5
      obtain ⟨j, G, hj, rfl, HG, hG, hcur, hgw⟩ := hrel
      by_cases hlt2 : j < C
      rotate_left
      · go_wp2_with fail
        go_roundw
        case rel => exact ⟨k + 1, G, by omega, by go_num, HG, hG, hcur, hgw⟩
        case measure => simp [intOf]; omega
      obtain ⟨b', cap', cb, cc, e, p1', p2', p3, p4, p5, p6, p7, p8, p9, p10⟩ := hG.poke (y := k) (x := j) RI HG.out.1 hlt hlt2
      injection e with e1 e2 e3; injection e1 with e1; injection e1 with e1; subst e1; subst e3
      have i1 : (k : Int) < (R : Int) := by omega
      have i2 : (j : Int) < (C : Int) := by omega
      have hBlt := hcur.lt
      obtain ⟨rr, hrr, _⟩ := shape_row HG.out.1 hlt
      obtain ⟨b1, u1, eb, z1, z2, z3, hq⟩ := hG.at_ hrr
      injection eb with eb; injection eb with eb; subst eb
      have hcur' : Cur wr.drew B code := hcur
      have p3' : wr.drew.cell? ⟨b, k, none⟩ = some (.slice (some ⟨cb, 0, none⟩) C cc) := p3
      have z3' : b < wr.drew.heap.size := z3
      clear hrr hq
      go_wp2_with fail
      go_region_with (go_at_call 27; refine (l01Below_walk code B 2 _ hcur' hc (by omega) (by omega)).mono ?_; rintro e w4 ⟨z, hz, rfl, hcur4, hg4⟩; have q3 := (hg4.cell (p := ⟨b, k, none⟩) z3' (.inr (show B + 1 ≤ b by omega))).trans p3'; have hG4 := (OwG.drewN hG 1).chg hg4 (.inr (.inl (by omega))); obtain ⟨_, q6, q7, q8, q9, _, _, q10⟩ := hG4.poke_at q3 RI HG.out.1 hlt hlt2)
      all_goals
        have hw4 : wr.heap.size ≤ w4.heap.size := hg4.size
        have hBc : B < cb := by omega
        have hwc : w.heap.size ≤ cb := by omega
        go_wp2_with fail
        go_roundw
        case rel => exact ⟨j + 1, putN G k j z, by omega, by go_num, Lib.hid (bits_put HG.out hlt hlt2 (by omega) (by omega)), (q10.out _).mono (Nat.le_refl _) (by simp [World.setCell]; omega), hcur4.chg ((Chg.refl cb (cb + 1) w4).setCell (p := ⟨cb, j, none⟩) (.inl ⟨Nat.le_refl _, Nat.lt_succ_self _⟩) _) hBc, ((hgw.drewN 1).trans hg4).setCell (p := ⟨cb, j, none⟩) (.inr hwc) _⟩
        case measure => simp [intOf]; omega

end Go.Proofs.Ytpjlgcohafbbdaa
