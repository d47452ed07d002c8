/- Plain facts about an image's sums and their conjugates; the walk of the law Conjugates. -/
import Derived.Test.YtibnhecfgaoblaaProg
import Derived.Test.YtibnhecfgaoblaaW1
import Derived.Test.YtibnhecfgaoblaaW3
import Derived.Test.YtibnhecfgaoblaaW4
import Derived.Test.YtibnhecfgaoblaaW6
import Derived.Test.YtibnhecfgaoblaaW8
import Derived.Test.YtibnhecfgaoblaaW9
import Derived.Test.YtibnhecfgaoblaaW12
import Derived.Test.YtibnhecfgaoblaaW13
import Derived.Test.YtibnhecfgaoblaaW16
import Derived.Test.YtibnhecfgaoblaaW19
import Derived.Test.YtibnhecfgaoblaaW36
import Derived.Test.YtibnhecfgaoblaaR1
import Derived.Test.YtibnhecfgaoblaaR2
import Derived.Test.YtibnhecfgaoblaaS1
import Derived.Test.YtibnhecfgaoblaaS2
import Derived.Test.YtibnhecfgaoblaaL1
import Derived.Test.YtibnhecfgaoblaaL2
import Derived.Test.YtibnhecfgaoblaaMem
import Derived.WalkKit
import Derived.WalkSpells
import Derived.WalkLawsBesides
import Derived.KernelRfl
import Derived.Lib.Hide
namespace Go.Proofs.Ytibnhecfgaoblaa
open Go.RowKit
set_option linter.unusedVariables false
set_option linter.unusedSimpArgs false

theorem eq_below {w w' : World} (h : w = w') : Below w.heap.size w w' := by subst h; exact Below.refl _ _
theorem inB_of {x lo hi : Int} (h1 : lo ≤ x) (h2 : x ≤ hi) : inB x lo hi = true := by simp [inB, h1, h2]
theorem rows_facts {g : List (List Int)} {R C : Nat} (h : Bits g R C) (h1 : 1 ≤ R) (h2 : R ≤ 5) (h3 : 1 ≤ C) (h4 : C ≤ 5) : (rowSumsR g).length = R ∧ conjOk (rowSumsR g) C = true := by
  have hi := bits_img h h1 h2 h3 h4
  have hC := bits_hd h h1
  have e : rowSumsR g = g.map List.sum := if_pos hi
  rw [e]
  refine ⟨by rw [List.length_map]; exact h.1.1, conjOk_4 (inB_of (by omega) (by omega)) (by rw [List.length_map]; have := h.1.1; omega) (List.all_eq_true.2 fun x hx => ?_)⟩
  obtain ⟨r, hr, rfl⟩ := List.mem_map.1 hx
  obtain ⟨q1, q2⟩ := (imgOk_in hi).2.2.2.2 r hr
  have := row01 q2 r.length
  rw [List.take_length] at this
  exact inB_of this.1 (by omega)
theorem conj_facts {l : List Int} {C : Nat} (h : conjOk l C = true) (h1 : 1 ≤ l.length) : conjR l C = conjF l C ∧ (conjF l C).length = C ∧ conjOk (conjF l C) l.length = true ∧ conjR (conjF l C) l.length = sortD l ∧ (conjF l C).sum = l.sum ∧ small l ∧ small (conjF l C) := by
  obtain ⟨a, b, c, d⟩ := conjOk_in h
  have hb : ∀ x ∈ conjF l C, 0 ≤ x ∧ x ≤ l.length := by
    intro x hx
    obtain ⟨k, hk, rfl⟩ := List.mem_map.1 hx
    have := List.length_filter_le (fun x => decide ((k : Int) < x)) l
    omega
  have hk : conjOk (conjF l C) l.length = true := conjOk_4 (inB_of (by omega) (by omega)) (by rw [conjF_len]; omega) (List.all_eq_true.2 fun x hx => inB_of (hb x hx).1 (hb x hx).2)
  refine ⟨by simp [conjR, h], conjF_len _ _, hk, ?_, conj_sum C _ l rfl d, ⟨by omega, fun x hx => by have := d x hx; omega⟩, ⟨by rw [conjF_len]; omega, fun x hx => by have := hb x hx; omega⟩⟩
  rw [conjR, if_pos hk, Int.toNat_natCast, conj_perm C (sortD_perm l).symm, ← sortD_len l]
  refine conj_conj (sortD l) C (sortD_sorted l) fun x hx => d x ((sortD_perm l).mem_iff.1 hx)

set_option maxRecDepth 100000 in
set_option maxHeartbeats 4000000 in
theorem fnConjugates_walk (v : Value) (code : List UInt8) (W : World) (hr : Rd W 0 W.heap.size v (bytesV code)) :
    Calls Try.prog 5 #[v] W fun e w' => e = .returned (.bool true) ∧ Below W.heap.size W w' := by
  obtain ⟨A, c, rfl, h1, h2⟩ : ∃ A c, v = .slice A code.length c ∧ code.length ≤ c ∧ c ≤ 9223372036854775807 := by
    obtain ⟨A, c, e, q1, q2, _⟩ := hr
    rw [bytesV_len] at e q1
    unfold maxLen at q2
    exact ⟨A, c, e, q1, by omega⟩
  by_cases hc : code.length ≤ 1048576
  rotate_left
  · have hc2 : ¬ (code.length : Int) ≤ 1048576 := by omega
    go_enter Try.func5, Try.ntmps5
    go_wp2_with fail
    go_ret
    exact ⟨rfl, Below.refl _ _⟩
  go_enter Try.func5, Try.ntmps5
  go_wp2_with fail
  refine (MakeImage_walk code _ 0 _ _ _ hr hc (by omega)).mono ?_
  rintro e w1 ⟨u, g, R, C, R1, R2, C1, C2, hG, rfl, ho, B1⟩
  clear hr
  obtain ⟨f1, f2⟩ := rows_facts hG R1 R2 C1 C2
  have hhd := bits_hd hG R1
  have hgl := hG.1.1
  have hM := ho.rd
  clear ho
  obtain ⟨Am, cm, rfl, m1, m2⟩ := hM.form
  rw [hgl] at hM m1 ⊢
  obtain ⟨bm, om, rfl, _, _⟩ := hM.some_ (by omega)
  obtain ⟨r, hrow⟩ : ∃ r, r = hd g := ⟨_, rfl⟩
  have hg0 : g[0]? = some r := by rw [hrow]; exact hd_get (by omega)
  have hrl : r.length = C := by rw [hrow]; exact hhd
  obtain ⟨l, hl⟩ : ∃ l, l = rowSumsR g := ⟨_, rfl⟩
  rw [← hl] at f1 f2
  have hll : 1 ≤ l.length := by omega
  obtain ⟨k1, k2, k3, k4, k5, k6, k7⟩ := conj_facts f2 hll
  obtain ⟨k, hk⟩ : ∃ k, k = conjF l C := ⟨_, rfl⟩
  rw [← hk] at k1 k2 k3 k4 k5 k7
  rw [f1] at k3 k4
  have K1 := Lib.hid k1
  have K3 := Lib.hid k3
  have K4 := Lib.hid k4
  have K5 := Lib.hid k5
  have HL := Lib.hid hl
  have HK := Lib.hid hk
  have F2 := Lib.hid f2
  have HG0 := Lib.hid hg0
  have K6 := Lib.hid k6
  have K7 := Lib.hid k7
  clear k1 k3 k4 k5 hl hk f2 hg0 k6 k7 hG hhd hgl hrow
  have s2 : (sortD l).length = R := by rw [sortD_len]; exact f1
  have S1 := Lib.hid (stairs_stair F2.out hll)
  have S2 := Lib.hid (stairs_rows F2.out hll)
  have S3 := Lib.hid ((stairs_cols F2.out hll).trans HK.out.symm)
  have S4 : Hid (uniqF (stairsR l C) = true) := Lib.hid (uniq_yes (stairs_img F2.out hll) (by rw [stairs_unique F2.out hll]; rfl))
  have hLL := Lib.hid hll; clear hll
  --SEQ
  go_wp2_with fail
  refine (impl_RowSums g _ _ _ _ hM).mono ?_
  rintro e w2 ⟨u2, rfl, o2, b2⟩
  rw [← HL.out] at o2
  have s2 := B1.size
  have B2 := B1.trans (b2.mono s2)
  replace hM := hM.new b2
  clear B1 b2 s2
  have hL := o2.rdI
  obtain ⟨AhL, chL, rfl, q2, p2⟩ := hL.form
  rw [f1] at hL q2 ⊢
  clear o2
  obtain ⟨A0, c0, hc0, j1, j2, _⟩ := hM.row0 HG0.out
  rw [hrl] at hc0 j1
  go_wp2_with fail
  refine (impl_ConjugateOf l C _ _ _ _ hL).mono ?_
  rintro e w3 ⟨u3, rfl, o3, b3, _⟩
  rw [K1.out] at o3
  have s3 := B2.size
  have B3 := B2.trans (b3.mono s3)
  replace hM := hM.new b3
  replace hL := hL.new b3
  clear B2 b3 s3
  have hK := o3.rdI
  obtain ⟨AhK, chK, rfl, q3, p3⟩ := hK.form
  rw [k2] at hK q3 ⊢
  clear o3
  clear hc0 j1 j2
  go_wp2_with fail
  refine (impl_ConjugateOf k R _ _ _ _ hK).mono ?_
  rintro e w4 ⟨u4, rfl, o4, b4, _⟩
  rw [K4.out] at o4
  have s4 := B3.size
  have B4 := B3.trans (b4.mono s4)
  replace hM := hM.new b4
  replace hL := hL.new b4
  replace hK := hK.new b4
  clear B3 b4 s4
  have hB := o4.rdI
  obtain ⟨AhB, chB, rfl, q4, p4⟩ := hB.form
  rw [s2] at hB q4 ⊢
  clear o4
  obtain ⟨A0, c0, hc0, j1, j2, _⟩ := hM.row0 HG0.out
  rw [hrl] at hc0 j1
  go_wp2_with fail
  refine (impl_StaircaseOf l C _ _ _ _ hL).mono ?_
  rintro e w5 ⟨u5, rfl, o5, b5⟩
  have s5 := B4.size
  have B5 := B4.trans (b5.mono s5)
  replace hM := hM.new b5
  replace hL := hL.new b5
  replace hK := hK.new b5
  replace hB := hB.new b5
  clear B4 b5 s5
  have hS := o5.rd
  obtain ⟨AhS, chS, rfl, q5, p5⟩ := hS.form
  clear o5
  clear hc0 j1 j2
  obtain ⟨A0, c0, hc0, j1, j2, _⟩ := hM.row0 HG0.out
  rw [hrl] at hc0 j1
  go_wp2_with fail
  clear hc0 j1 j2
  refine (total_walk k _ _ _ _ hK K7.out).mono ?_
  rw [K5.out]
  rintro e w6 ⟨rfl, h6⟩
  have b6 := eq_below h6
  clear h6
  have s6 := B5.size
  have B6 := B5.trans (b6.mono s6)
  replace hM := hM.new b6
  replace hL := hL.new b6
  replace hK := hK.new b6
  replace hB := hB.new b6
  replace hS := hS.new b6
  clear B5 b6 s6
  go_wp2_with fail
  refine (total_walk l _ _ _ _ hL K6.out).mono ?_
  rintro e w7 ⟨rfl, h7⟩
  have b7 := eq_below h7
  clear h7
  have s7 := B6.size
  have B7 := B6.trans (b7.mono s7)
  replace hM := hM.new b7
  replace hL := hL.new b7
  replace hK := hK.new b7
  replace hB := hB.new b7
  replace hS := hS.new b7
  clear B6 b7 s7
  go_wp2_with fail
  refine (impl_SortedDown l _ _ _ _ hL (by omega)).mono ?_
  rintro e w8 ⟨u8, rfl, o8, b8⟩
  have s8 := B7.size
  have B8 := B7.trans (b8.mono s8)
  replace hM := hM.new b8
  replace hL := hL.new b8
  replace hK := hK.new b8
  replace hB := hB.new b8
  replace hS := hS.new b8
  clear B7 b8 s8
  have hD := o8.rdI
  obtain ⟨AhD, chD, rfl, q8, p8⟩ := hD.form
  rw [s2] at hD q8 ⊢
  clear o8
  go_wp2_with fail
  refine (same_walk (sortD l) _ _ _ _ _ _ _ hB hD).mono ?_
  rintro e w9 ⟨rfl, d9⟩
  have b9 := d9.below w8.heap.size
  clear d9
  have s9 := B8.size
  have B9 := B8.trans (b9.mono s9)
  replace hM := hM.new b9
  replace hL := hL.new b9
  replace hK := hK.new b9
  replace hB := hB.new b9
  replace hS := hS.new b9
  replace hD := hD.new b9
  clear B8 b9 s9
  go_wp2_with fail
  refine (impl_IsStaircase _ _ _ _ _ hS).mono ?_
  rw [S1.out]
  rintro e w10 ⟨rfl, d10⟩
  have b10 := d10.below w9.heap.size
  clear d10
  have s10 := B9.size
  have B10 := B9.trans (b10.mono s10)
  replace hM := hM.new b10
  replace hL := hL.new b10
  replace hK := hK.new b10
  replace hB := hB.new b10
  replace hS := hS.new b10
  replace hD := hD.new b10
  clear B9 b10 s10
  go_wp2_with fail
  refine (impl_RowSums _ _ _ _ _ hS).mono ?_
  rintro e w11 ⟨u11, rfl, o11, b11⟩
  rw [S2.out] at o11
  have s11 := B10.size
  have B11 := B10.trans (b11.mono s11)
  replace hM := hM.new b11
  replace hL := hL.new b11
  replace hK := hK.new b11
  replace hB := hB.new b11
  replace hS := hS.new b11
  replace hD := hD.new b11
  clear B10 b11 s11
  have hT := o11.rdI
  obtain ⟨AhT, chT, rfl, q11, p11⟩ := hT.form
  rw [f1] at hT q11 ⊢
  clear o11
  go_wp2_with fail
  refine (same_walk l _ _ _ _ _ _ _ hT hL).mono ?_
  rintro e w12 ⟨rfl, d12⟩
  have b12 := d12.below w11.heap.size
  clear d12
  have s12 := B11.size
  have B12 := B11.trans (b12.mono s12)
  replace hM := hM.new b12
  replace hL := hL.new b12
  replace hK := hK.new b12
  replace hB := hB.new b12
  replace hS := hS.new b12
  replace hD := hD.new b12
  replace hT := hT.new b12
  clear B11 b12 s12
  go_wp2_with fail
  refine (impl_ColSums _ _ _ _ _ hS).mono ?_
  rintro e w13 ⟨u13, rfl, o13, b13⟩
  rw [S3.out] at o13
  have s13 := B12.size
  have B13 := B12.trans (b13.mono s13)
  replace hM := hM.new b13
  replace hL := hL.new b13
  replace hK := hK.new b13
  replace hB := hB.new b13
  replace hS := hS.new b13
  replace hD := hD.new b13
  replace hT := hT.new b13
  clear B12 b13 s13
  have hU := o13.rdI
  obtain ⟨AhU, chU, rfl, q13, p13⟩ := hU.form
  rw [k2] at hU q13 ⊢
  clear o13
  go_wp2_with fail
  refine (same_walk k _ _ _ _ _ _ _ hU hK).mono ?_
  rintro e w14 ⟨rfl, d14⟩
  have b14 := d14.below w13.heap.size
  clear d14
  have s14 := B13.size
  have B14 := B13.trans (b14.mono s14)
  replace hM := hM.new b14
  replace hL := hL.new b14
  replace hK := hK.new b14
  replace hB := hB.new b14
  replace hS := hS.new b14
  replace hD := hD.new b14
  replace hT := hT.new b14
  replace hU := hU.new b14
  clear B13 b14 s14
  go_wp2_with fail
  refine (impl_IsUnique _ _ _ _ _ hS).mono ?_
  rw [S4.out]
  rintro e w15 ⟨rfl, b15⟩
  have s15 := B14.size
  have B15 := B14.trans (b15.mono s15)
  replace hM := hM.new b15
  replace hL := hL.new b15
  replace hK := hK.new b15
  replace hB := hB.new b15
  replace hS := hS.new b15
  replace hD := hD.new b15
  replace hT := hT.new b15
  replace hU := hU.new b15
  clear B14 b15 s15
  go_wp2_with fail
  go_ret
  exact ⟨rfl, B15⟩
end Go.Proofs.Ytibnhecfgaoblaa
