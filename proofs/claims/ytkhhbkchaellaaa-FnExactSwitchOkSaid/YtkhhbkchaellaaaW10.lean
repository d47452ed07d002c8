/- The walks of the laws over images: ImageOk, CellAt, CountBlack, EmptyImage, RowSums. -/
import Derived.Test.YtkhhbkchaellaaaProg
import Derived.Test.YtkhhbkchaellaaaW1
import Derived.Test.YtkhhbkchaellaaaW3
import Derived.Test.YtkhhbkchaellaaaW4
import Derived.Test.YtkhhbkchaellaaaW6
import Derived.Test.YtkhhbkchaellaaaW8
import Derived.Test.YtkhhbkchaellaaaW9
import Derived.Test.YtkhhbkchaellaaaMem
import Derived.WalkKit
import Derived.WalkSpells
import Derived.WalkLawsBesides
import Derived.KernelRfl
import Derived.Lib.Hide
namespace Go.Proofs.Ytkhhbkchaellaaa
open Go.RowKit
set_option linter.unusedVariables false
set_option linter.unusedSimpArgs false

theorem eqIntSS_b (g h : List (List Int)) (v u : Value) (w : World) (a b a' b' : Nat) (hr : RdG w a b v g) (hs : RdG w a' b' u h) :
    Calls Try.prog 17 #[v, u] w fun e w' => e = .returned (.bool (eqG g h)) ∧ Below w.heap.size w w' :=
  (eqIntSS_walk g h v u w a b a' b' hr hs).mono fun _ _ ⟨h1, h2⟩ => ⟨h1, h2.below _⟩
theorem short_total {g : List (List Int)} (h : imgOk g = true) : total g ≤ 25 := by
  obtain ⟨h1, h2, h3, h4, h5⟩ := imgOk_in h
  have key : ∀ m : List (List Int), (∀ r ∈ m, r.length ≤ 5) → total m ≤ 5 * m.length := by
    intro m
    induction m with
    | nil => intro _; simp [total]
    | cons r t ih =>
      intro hm
      have e1 := hm r (by simp)
      have e2 := ih (fun s hs => hm s (by simp [hs]))
      simp only [total, List.map_cons, List.sum_cons, List.length_cons] at e2 ⊢
      omega
  have := key g (fun r hr => by rw [(h5 r hr).1]; omega)
  omega
/-- What fits the laws' bound has few cells. -/
theorem sz_total {g : List (List Int)} {left q : Int} (h : q = szG g left) (h0 : 0 ≤ q) (h1 : left ≤ 1048576) : total g ≤ 1048576 := by
  unfold szG at h
  split at h <;> omega
theorem zeros_total (r c : Nat) : total (zeros r c) = r * c := by simp [total, zeros]
theorem emptyF_total (rows cols : Int) : total (emptyF rows cols) ≤ 25 := by
  unfold emptyF
  split
  · rename_i h
    rw [zeros_total]
    have h2 : inB rows 1 5 = true ∧ inB cols 1 5 = true := by simpa [sizeOk] using h
    have e1 := inB_true h2.1
    have e2 := inB_true h2.2
    have : rows.toNat * cols.toNat ≤ 5 * 5 := Nat.mul_le_mul (by omega) (by omega)
    omega
  · simp [total]
theorem rowSumsR_len (g : List (List Int)) : (rowSumsR g).length ≤ 5 := by
  unfold rowSumsR
  split
  · rename_i h; have := imgOk_in h; simp; omega
  · simp

set_option maxRecDepth 100000 in
set_option maxHeartbeats 2000000 in
theorem fnExactImageOk_walk (vp : Value) (p : List (List Int)) (w : World) (hp : RdG w 0 w.heap.size vp p) :
    Calls Try.prog 4 #[vp] w fun e w' => e = .returned (.bool true) ∧ Below w.heap.size w w' := by
  obtain ⟨Ap, kp, rfl, _, _⟩ := hp.form
  obtain ⟨qp, hqp⟩ : ∃ q, q = szG p 1048576 := ⟨_, rfl⟩
  have cp := szG_cases p 1048576 (by omega)
  rw [← hqp] at cp
  have Hqp := Lib.hid hqp; clear hqp
  rcases cp with cp | ⟨cp, dp, Shp⟩
  · have np : qp < 0 := by omega
    clear cp
    go_enter Try.func4, Try.ntmps4
    go_wp2_with fail
    refine (szIntSS_walk _ _ _ _ _ _ hp (by omega) (by omega)).mono ?_
    rw [← Hqp.out]
    rintro e wx ⟨rfl, rfl⟩
    go_wp2_with fail
    go_ret
    exact ⟨rfl, Below.refl _ _⟩
  have np : ¬ qp < 0 := by omega
  have HSp := Lib.hid Shp; clear Shp
  have Ep := eqG_self p
  go_enter Try.func4, Try.ntmps4
  have B0 : Below w.heap.size w w := Below.refl _ _
  go_wp2_with fail
  refine (szIntSS_walk _ _ _ _ _ _ hp (by omega) (by omega)).mono ?_
  rw [← Hqp.out]
  rintro e wx ⟨rfl, rfl⟩
  go_wp2_with fail
  refine (toIntSS_walk _ _ _ _ _ hp HSp.out).mono ?_
  rintro e w1 ⟨t0, rfl, ot0, b1⟩
  have s1 := b1.size
  replace hp := hp.new b1
  replace B0 := B0.trans (b1.mono (by omega))
  go_wp2_with fail
  refine (spec_ImageOk _ _ _ _ _ ot0.rd).mono ?_
  rintro e wx ⟨rfl, rfl⟩
  clear ot0
  go_wp2_with fail
  refine (toIntSS_walk _ _ _ _ _ hp HSp.out).mono ?_
  rintro e w2 ⟨x0, rfl, ox0, b2⟩
  have s2 := b2.size
  replace hp := hp.new b2
  replace B0 := B0.trans (b2.mono (by omega))
  go_wp2_with fail
  refine (impl_ImageOk _ _ _ _ _ ox0.rd).mono ?_
  rintro e wx ⟨rfl, rfl⟩
  go_wp2_with fail
  refine (toIntSS_walk _ _ _ _ _ hp HSp.out).mono ?_
  rintro e w3 ⟨c0, rfl, oc0, b3⟩
  have s3 := b3.size
  replace hp := hp.new b3
  replace ox0 := ox0.new b3
  replace B0 := B0.trans (b3.mono (by omega))
  go_wp2_with fail
  refine (eqIntSS_b _ _ _ _ _ _ _ _ _ ox0.rd oc0.rd).mono ?_
  rintro e w4 ⟨rfl, b4⟩
  have s4 := b4.size
  replace hp := hp.new b4
  replace ox0 := ox0.new b4
  replace oc0 := oc0.new b4
  replace B0 := B0.trans (b4.mono (by omega))
  clear oc0
  go_wp2_with fail
  go_ret
  exact ⟨rfl, B0⟩

set_option maxRecDepth 100000 in
set_option maxHeartbeats 2000000 in
theorem fnExactCellAt_walk (vp : Value) (p : List (List Int)) (y : Int) (x : Int) (w : World) (hp : RdG w 0 w.heap.size vp p) (hy : (Lit.int .i64 y).wf = true) (hx : (Lit.int .i64 x).wf = true) :
    Calls Try.prog 6 #[vp, .int .i64 y, .int .i64 x] w fun e w' => e = .returned (.bool true) ∧ Below w.heap.size w w' := by
  clear hy
  clear hx
  obtain ⟨Ap, kp, rfl, _, _⟩ := hp.form
  obtain ⟨qp, hqp⟩ : ∃ q, q = szG p 1048576 := ⟨_, rfl⟩
  have cp := szG_cases p 1048576 (by omega)
  rw [← hqp] at cp
  have Hqp := Lib.hid hqp; clear hqp
  rcases cp with cp | ⟨cp, dp, Shp⟩
  · have np : qp < 0 := by omega
    clear cp
    go_enter Try.func6, Try.ntmps6
    go_wp2_with fail
    refine (szIntSS_walk _ _ _ _ _ _ hp (by omega) (by omega)).mono ?_
    rw [← Hqp.out]
    rintro e wx ⟨rfl, rfl⟩
    go_wp2_with fail
    go_ret
    exact ⟨rfl, Below.refl _ _⟩
  have np : ¬ qp < 0 := by omega
  have HSp := Lib.hid Shp; clear Shp
  have Ep := eqG_self p
  go_enter Try.func6, Try.ntmps6
  have B0 : Below w.heap.size w w := Below.refl _ _
  go_wp2_with fail
  refine (szIntSS_walk _ _ _ _ _ _ hp (by omega) (by omega)).mono ?_
  rw [← Hqp.out]
  rintro e wx ⟨rfl, rfl⟩
  go_wp2_with fail
  refine (toIntSS_walk _ _ _ _ _ hp HSp.out).mono ?_
  rintro e w1 ⟨t0, rfl, ot0, b1⟩
  have s1 := b1.size
  replace hp := hp.new b1
  replace B0 := B0.trans (b1.mono (by omega))
  go_wp2_with fail
  refine (spec_CellAt _ _ _ _ _ _ _ ot0.rd).mono ?_
  rintro e wx ⟨rfl, rfl⟩
  clear ot0
  go_wp2_with fail
  refine (toIntSS_walk _ _ _ _ _ hp HSp.out).mono ?_
  rintro e w2 ⟨x0, rfl, ox0, b2⟩
  have s2 := b2.size
  replace hp := hp.new b2
  replace B0 := B0.trans (b2.mono (by omega))
  go_wp2_with fail
  refine (impl_CellAt _ _ _ _ _ _ _ ox0.rd).mono ?_
  rintro e wx ⟨rfl, rfl⟩
  go_wp2_with fail
  refine (toIntSS_walk _ _ _ _ _ hp HSp.out).mono ?_
  rintro e w3 ⟨c0, rfl, oc0, b3⟩
  have s3 := b3.size
  replace hp := hp.new b3
  replace ox0 := ox0.new b3
  replace B0 := B0.trans (b3.mono (by omega))
  go_wp2_with fail
  refine (eqIntSS_b _ _ _ _ _ _ _ _ _ ox0.rd oc0.rd).mono ?_
  rintro e w4 ⟨rfl, b4⟩
  have s4 := b4.size
  replace hp := hp.new b4
  replace ox0 := ox0.new b4
  replace oc0 := oc0.new b4
  replace B0 := B0.trans (b4.mono (by omega))
  clear oc0
  go_wp2_with fail
  go_ret
  exact ⟨rfl, B0⟩

set_option maxRecDepth 100000 in
set_option maxHeartbeats 2000000 in
theorem fnExactCountBlack_walk (vp : Value) (p : List (List Int)) (w : World) (hp : RdG w 0 w.heap.size vp p) :
    Calls Try.prog 9 #[vp] w fun e w' => e = .returned (.bool true) ∧ Below w.heap.size w w' := by
  obtain ⟨Ap, kp, rfl, _, _⟩ := hp.form
  obtain ⟨qp, hqp⟩ : ∃ q, q = szG p 1048576 := ⟨_, rfl⟩
  have cp := szG_cases p 1048576 (by omega)
  rw [← hqp] at cp
  have Hqp := Lib.hid hqp; clear hqp
  rcases cp with cp | ⟨cp, dp, Shp⟩
  · have np : qp < 0 := by omega
    clear cp
    go_enter Try.func9, Try.ntmps9
    go_wp2_with fail
    refine (szIntSS_walk _ _ _ _ _ _ hp (by omega) (by omega)).mono ?_
    rw [← Hqp.out]
    rintro e wx ⟨rfl, rfl⟩
    go_wp2_with fail
    go_ret
    exact ⟨rfl, Below.refl _ _⟩
  have np : ¬ qp < 0 := by omega
  have HSp := Lib.hid Shp; clear Shp
  have Ep := eqG_self p
  go_enter Try.func9, Try.ntmps9
  have B0 : Below w.heap.size w w := Below.refl _ _
  go_wp2_with fail
  refine (szIntSS_walk _ _ _ _ _ _ hp (by omega) (by omega)).mono ?_
  rw [← Hqp.out]
  rintro e wx ⟨rfl, rfl⟩
  go_wp2_with fail
  refine (toIntSS_walk _ _ _ _ _ hp HSp.out).mono ?_
  rintro e w1 ⟨t0, rfl, ot0, b1⟩
  have s1 := b1.size
  replace hp := hp.new b1
  replace B0 := B0.trans (b1.mono (by omega))
  go_wp2_with fail
  refine (spec_CountBlack _ _ _ _ _ ot0.rd).mono ?_
  rintro e wx ⟨rfl, rfl⟩
  clear ot0
  go_wp2_with fail
  refine (toIntSS_walk _ _ _ _ _ hp HSp.out).mono ?_
  rintro e w2 ⟨x0, rfl, ox0, b2⟩
  have s2 := b2.size
  replace hp := hp.new b2
  replace B0 := B0.trans (b2.mono (by omega))
  go_wp2_with fail
  refine (impl_CountBlack _ _ _ _ _ ox0.rd).mono ?_
  rintro e wx ⟨rfl, rfl⟩
  go_wp2_with fail
  refine (toIntSS_walk _ _ _ _ _ hp HSp.out).mono ?_
  rintro e w3 ⟨c0, rfl, oc0, b3⟩
  have s3 := b3.size
  replace hp := hp.new b3
  replace ox0 := ox0.new b3
  replace B0 := B0.trans (b3.mono (by omega))
  go_wp2_with fail
  refine (eqIntSS_b _ _ _ _ _ _ _ _ _ ox0.rd oc0.rd).mono ?_
  rintro e w4 ⟨rfl, b4⟩
  have s4 := b4.size
  replace hp := hp.new b4
  replace ox0 := ox0.new b4
  replace oc0 := oc0.new b4
  replace B0 := B0.trans (b4.mono (by omega))
  clear oc0
  go_wp2_with fail
  go_ret
  exact ⟨rfl, B0⟩

set_option maxRecDepth 100000 in
set_option maxHeartbeats 2000000 in
theorem fnExactEmptyImage_walk (r : Int) (c : Int) (w : World) (hr : (Lit.int .i64 r).wf = true) (hc : (Lit.int .i64 c).wf = true) :
    Calls Try.prog 3 #[.int .i64 r, .int .i64 c] w fun e w' => e = .returned (.bool true) ∧ Below w.heap.size w w' := by
  clear hr
  clear hc
  have Er := eqG_self (emptyF r c)
  have Hr := heldG_mark (emptyF r c) 1
  have Tr := emptyF_total r c
  go_enter Try.func3, Try.ntmps3
  have B0 : Below w.heap.size w w := Below.refl _ _
  go_wp2_with fail
  refine (spec_EmptyImage _ _ _).mono ?_
  rintro e w1 ⟨r0, rfl, or0, b1⟩
  have s1 := b1.size
  replace B0 := B0.trans (b1.mono (by omega))
  go_wp2_with fail
  refine (impl_EmptyImage _ _ _).mono ?_
  rintro e w2 ⟨g0, rfl, og0, b2⟩
  have s2 := b2.size
  replace or0 := or0.new b2
  replace B0 := B0.trans (b2.mono (by omega))
  go_wp2_with fail
  refine (eqIntSS_b _ _ _ _ _ _ _ _ _ og0.rd or0.rd).mono ?_
  rintro e w3 ⟨rfl, b3⟩
  have s3 := b3.size
  replace or0 := or0.new b3
  replace og0 := og0.new b3
  replace B0 := B0.trans (b3.mono (by omega))
  go_wp2_with fail
  refine (markIntSS_walk _ _ _ _ _ _ og0 (by omega) (by omega) (by omega)).mono ?_
  rintro e w4 ⟨rfl, mog0, b4⟩
  have s4 := b4.size
  replace or0 := or0.chg b4 (by omega)
  clear og0
  have og0 := mog0; clear mog0
  replace B0 := B0.trans (b4.below (by omega) (by omega))
  go_wp2_with fail
  refine (heldIntSS_walk _ _ _ _ _ _ og0.rd (by rw [markG_total]; omega) (by omega) (by omega)).mono ?_
  rintro e wx ⟨rfl, rfl⟩
  go_wp2_with fail
  refine (impl_EmptyImage _ _ _).mono ?_
  rintro e w5 ⟨h0, rfl, oh0, b5⟩
  have s5 := b5.size
  replace or0 := or0.new b5
  replace og0 := og0.new b5
  replace B0 := B0.trans (b5.mono (by omega))
  go_wp2_with fail
  refine (eqIntSS_b _ _ _ _ _ _ _ _ _ oh0.rd or0.rd).mono ?_
  rintro e w6 ⟨rfl, b6⟩
  have s6 := b6.size
  replace or0 := or0.new b6
  replace og0 := og0.new b6
  replace oh0 := oh0.new b6
  replace B0 := B0.trans (b6.mono (by omega))
  go_wp2_with fail
  refine (heldIntSS_walk _ _ _ _ _ _ og0.rd (by rw [markG_total]; omega) (by omega) (by omega)).mono ?_
  rintro e wx ⟨rfl, rfl⟩
  go_wp2_with fail
  go_ret
  exact ⟨rfl, B0⟩

set_option maxRecDepth 100000 in
set_option maxHeartbeats 2000000 in
theorem fnExactRowSums_walk (vp : Value) (p : List (List Int)) (w : World) (hp : RdG w 0 w.heap.size vp p) :
    Calls Try.prog 12 #[vp] w fun e w' => e = .returned (.bool true) ∧ Below w.heap.size w w' := by
  have Er := eqI_self (rowSumsR p)
  have Hr := heldF_mark (rowSumsR p).length 1
  have lr : (rowSumsR p).length ≤ 5 := rowSumsR_len p
  obtain ⟨Ap, kp, rfl, _, _⟩ := hp.form
  have tp := @sz_total p 1048576 _ rfl
  obtain ⟨qp, hqp⟩ : ∃ q, q = szG p 1048576 := ⟨_, rfl⟩
  have cp := szG_cases p 1048576 (by omega)
  rw [← hqp] at cp
  have Hqp := Lib.hid hqp; clear hqp
  rcases cp with cp | ⟨cp, dp, Shp⟩
  · have np : qp < 0 := by omega
    clear cp
    go_enter Try.func12, Try.ntmps12
    go_wp2_with fail
    refine (szIntSS_walk _ _ _ _ _ _ hp (by omega) (by omega)).mono ?_
    rw [← Hqp.out]
    rintro e wx ⟨rfl, rfl⟩
    go_wp2_with fail
    go_ret
    exact ⟨rfl, Below.refl _ _⟩
  have np : ¬ qp < 0 := by omega
  have HSp := Lib.hid Shp; clear Shp
  have tp2 : total p ≤ 1048576 := sz_total Hqp.out (by omega) (by omega)
  clear tp
  have Ep := eqG_self p
  go_enter Try.func12, Try.ntmps12
  have B0 : Below w.heap.size w w := Below.refl _ _
  go_wp2_with fail
  refine (szIntSS_walk _ _ _ _ _ _ hp (by omega) (by omega)).mono ?_
  rw [← Hqp.out]
  rintro e wx ⟨rfl, rfl⟩
  go_wp2_with fail
  refine (toIntSS_walk _ _ _ _ _ hp HSp.out).mono ?_
  rintro e w1 ⟨t1, rfl, ot1, b1⟩
  have s1 := b1.size
  replace hp := hp.new b1
  replace B0 := B0.trans (b1.mono (by omega))
  go_wp2_with fail
  refine (spec_RowSums _ _ _ _ _ ot1.rd).mono ?_
  rintro e w2 ⟨r0, rfl, or0, b2⟩
  have s2 := b2.size
  replace hp := hp.new b2
  replace ot1 := ot1.new b2
  replace B0 := B0.trans (b2.mono (by omega))
  go_wp2_with fail
  refine (toIntSS_walk _ _ _ _ _ hp HSp.out).mono ?_
  rintro e w3 ⟨x0, rfl, ox0, b3⟩
  have s3 := b3.size
  replace hp := hp.new b3
  replace ot1 := ot1.new b3
  replace or0 := or0.new b3
  replace B0 := B0.trans (b3.mono (by omega))
  go_wp2_with fail
  refine (impl_RowSums _ _ _ _ _ ox0.rd).mono ?_
  rintro e w4 ⟨g0, rfl, og0, b4⟩
  have s4 := b4.size
  replace hp := hp.new b4
  replace ot1 := ot1.new b4
  replace or0 := or0.new b4
  replace ox0 := ox0.new b4
  replace B0 := B0.trans (b4.mono (by omega))
  go_wp2_with fail
  refine (eqIntS_b _ _ _ _ _ _ _ _ _ og0.rdI or0.rdI).mono ?_
  rintro e w5 ⟨rfl, b5⟩
  have s5 := b5.size
  replace hp := hp.new b5
  replace ot1 := ot1.new b5
  replace or0 := or0.new b5
  replace ox0 := ox0.new b5
  replace og0 := og0.new b5
  replace B0 := B0.trans (b5.mono (by omega))
  go_wp2_with fail
  refine (toIntSS_walk _ _ _ _ _ hp HSp.out).mono ?_
  rintro e w6 ⟨t3, rfl, ot3, b6⟩
  have s6 := b6.size
  replace hp := hp.new b6
  replace ot1 := ot1.new b6
  replace or0 := or0.new b6
  replace ox0 := ox0.new b6
  replace og0 := og0.new b6
  replace B0 := B0.trans (b6.mono (by omega))
  go_wp2_with fail
  refine (eqIntSS_b _ _ _ _ _ _ _ _ _ ox0.rd ot3.rd).mono ?_
  rintro e w7 ⟨rfl, b7⟩
  have s7 := b7.size
  replace hp := hp.new b7
  replace ot1 := ot1.new b7
  replace or0 := or0.new b7
  replace ox0 := ox0.new b7
  replace og0 := og0.new b7
  replace ot3 := ot3.new b7
  replace B0 := B0.trans (b7.mono (by omega))
  clear ot3 ot1
  go_wp2_with fail
  refine (markIntSS_walk _ _ _ _ _ _ ox0 (by omega) (by omega) (by omega)).mono ?_
  rintro e w8 ⟨rfl, mox0, b8⟩
  have s8 := b8.size
  replace hp := hp.chg b8 (by omega)
  replace or0 := or0.chg b8 (by omega)
  replace og0 := og0.chg b8 (by omega)
  clear ox0
  have ox0 := mox0; clear mox0
  replace B0 := B0.trans (b8.below (by omega) (by omega))
  go_wp2_with fail
  refine (eqIntS_b _ _ _ _ _ _ _ _ _ og0.rdI or0.rdI).mono ?_
  rintro e w9 ⟨rfl, b9⟩
  have s9 := b9.size
  replace hp := hp.new b9
  replace or0 := or0.new b9
  replace ox0 := ox0.new b9
  replace og0 := og0.new b9
  replace B0 := B0.trans (b9.mono (by omega))
  go_wp2_with fail
  refine (markIntS_c _ _ _ _ _ _ og0 (by omega) (by omega) (by omega)).mono ?_
  rintro e w10 ⟨rfl, mog0, b10⟩
  have s10 := b10.size
  replace hp := hp.chg b10 (by omega)
  replace or0 := or0.chg b10 (by omega)
  replace ox0 := ox0.chg b10 (by omega)
  clear og0
  have og0 := mog0; clear mog0
  replace B0 := B0.trans (b10.below (by omega) (by omega))
  go_wp2_with fail
  refine (heldIntS_walk _ _ _ _ _ _ og0.rdI (by rw [markL_len]; omega) (by omega) (by omega)).mono ?_
  rintro e wx ⟨rfl, rfl⟩
  go_wp2_with fail
  refine (toIntSS_walk _ _ _ _ _ hp HSp.out).mono ?_
  rintro e w11 ⟨t5, rfl, ot5, b11⟩
  have s11 := b11.size
  replace hp := hp.new b11
  replace or0 := or0.new b11
  replace ox0 := ox0.new b11
  replace og0 := og0.new b11
  replace B0 := B0.trans (b11.mono (by omega))
  go_wp2_with fail
  refine (impl_RowSums _ _ _ _ _ ot5.rd).mono ?_
  rintro e w12 ⟨h0, rfl, oh0, b12⟩
  have s12 := b12.size
  replace hp := hp.new b12
  replace or0 := or0.new b12
  replace ox0 := ox0.new b12
  replace og0 := og0.new b12
  replace ot5 := ot5.new b12
  replace B0 := B0.trans (b12.mono (by omega))
  go_wp2_with fail
  refine (eqIntS_b _ _ _ _ _ _ _ _ _ oh0.rdI or0.rdI).mono ?_
  rintro e w13 ⟨rfl, b13⟩
  have s13 := b13.size
  replace hp := hp.new b13
  replace or0 := or0.new b13
  replace ox0 := ox0.new b13
  replace og0 := og0.new b13
  replace ot5 := ot5.new b13
  replace oh0 := oh0.new b13
  replace B0 := B0.trans (b13.mono (by omega))
  go_wp2_with fail
  refine (heldIntS_walk _ _ _ _ _ _ og0.rdI (by rw [markL_len]; omega) (by omega) (by omega)).mono ?_
  rintro e wx ⟨rfl, rfl⟩
  go_wp2_with fail
  go_ret
  exact ⟨rfl, B0⟩
end Go.Proofs.Ytkhhbkchaellaaa
