/- Walks: SameSums. -/
import Derived.Test.YtpjlgcohafbbdaaProg
import Derived.Test.YtpjlgcohafbbdaaW1
import Derived.Test.YtpjlgcohafbbdaaW2
import Derived.Test.YtpjlgcohafbbdaaW3
import Derived.Test.YtpjlgcohafbbdaaW4
import Derived.Test.YtpjlgcohafbbdaaW6
import Derived.Test.YtpjlgcohafbbdaaW8
import Derived.Test.YtpjlgcohafbbdaaW9
import Derived.Test.YtpjlgcohafbbdaaW11
import Derived.Test.YtpjlgcohafbbdaaW13
import Derived.Test.YtpjlgcohafbbdaaW19
import Derived.Test.YtpjlgcohafbbdaaMem
import Derived.Test.YtpjlgcohafbbdaaPoke
import Derived.WalkKit
import Derived.WalkSpells
import Derived.WalkLawsBesides
import Derived.KernelRfl
import Derived.Lib.Hide
import Derived.Deep.QuietTactic
import Derived.BigQuiet
import Derived.Sort.AtCall
namespace Go.Proofs.Ytpjlgcohafbbdaa
open Go.RowKit
set_option linter.unusedVariables false
set_option linter.unusedSimpArgs false

def sumsF (g h : List (List Int)) : Bool := sameF g h && eqI (rowSumsR g) (rowSumsR h) && eqI (rowSumsR (transR g)) (rowSumsR (transR h))
theorem sumsF_1 {g h : List (List Int)} (e : sameF g h = false) : sumsF g h = false := by simp [sumsF, e]
theorem sumsF_2 {g h : List (List Int)} (e : eqI (rowSumsR g) (rowSumsR h) = false) : sumsF g h = false := by simp [sumsF, e]
theorem sumsF_3 {g h : List (List Int)} (e1 : sameF g h = true) (e2 : eqI (rowSumsR g) (rowSumsR h) = true) : sumsF g h = eqI (rowSumsR (transR g)) (rowSumsR (transR h)) := by simp [sumsF, e1, e2]
theorem distR_neg {g h : List (List Int)} (e : sameF g h = false) : distR g h < 0 := by rw [distR_no e]; decide
theorem distR_pos {g h : List (List Int)} (e : sameF g h = true) : ¬ distR g h < 0 := by
  rw [distR_yes e]
  have := dAll_bd g h (hd g).length (imgOk_in (sameF_in e).1).2.2.2.1 g.length
  omega

set_option maxRecDepth 100000 in
set_option maxHeartbeats 1000000 in
theorem impl_SameSums (g h : List (List Int)) (v u : Value) (w : World) (a b a' b' : Nat) (hr : RdG w a b v g) (hs : RdG w a' b' u h) :
    Calls Try.prog 8 #[v, u] w fun e w' => e = .returned (.bool (sumsF g h)) ∧ Below w.heap.size w w' := by
  replace hr := hr.clip
  replace hs := hs.clip
  by_cases g1 : sameF g h = true
  rotate_left
  · have g1 : sameF g h = false := by simpa using g1
    have GS := Lib.hid (sumsF_1 g1)
    go_enter Try.func8, Try.ntmps8
    go_wp2_with fail
    refine (impl_sameSize _ _ _ _ _ _ _ _ _ hr hs).mono ?_
    rintro e w1 ⟨rfl, d1⟩
    go_wp2_with fail
    go_ret
    exact ⟨ret_bool GS.out.symm, d1.below _⟩
  by_cases g2 : eqI (rowSumsR g) (rowSumsR h) = true
  rotate_left
  · have g2 : eqI (rowSumsR g) (rowSumsR h) = false := by simpa using g2
    have GS := Lib.hid (sumsF_2 g2)
    go_enter Try.func8, Try.ntmps8
    go_wp2_with fail
    refine (impl_sameSize _ _ _ _ _ _ _ _ _ hr hs).mono ?_
    rintro e w1 ⟨rfl, d1⟩
    have B1 := d1.below w.heap.size
    have s1 := B1.size
    go_wp2_with fail
    refine (impl_RowSums _ _ _ _ _ (d1.rdG hr)).mono ?_
    rintro e w2 ⟨u, rfl, ou, bu⟩
    have B2 := B1.trans (bu.mono s1)
    have s2 := bu.size
    go_wp2_with fail
    refine (impl_RowSums _ _ _ _ _ ((d1.rdG hs).new bu)).mono ?_
    rintro e w3 ⟨v, rfl, ov, bv⟩
    have B3 := B2.trans (bv.mono (by omega))
    have s3 := bv.size
    go_wp2_with fail
    refine (slices_Equal _ _ _ _ _ _ _ _ _ (ou.new bv).rdI ov.rdI).mono ?_
    rintro e w4 ⟨rfl, dw4⟩
    have B4 := B3.trans (dw4.below w.heap.size)
    have s4 := (dw4.below w3.heap.size).size
    go_wp2_with fail
    go_ret
    exact ⟨ret_bool GS.out.symm, B4⟩
  have GS := Lib.hid (sumsF_3 g1 g2)
  go_enter Try.func8, Try.ntmps8
  go_wp2_with fail
  refine (impl_sameSize _ _ _ _ _ _ _ _ _ hr hs).mono ?_
  rintro e w1 ⟨rfl, d1⟩
  have B1 := d1.below w.heap.size
  have s1 := B1.size
  go_wp2_with fail
  refine (impl_RowSums _ _ _ _ _ (d1.rdG hr)).mono ?_
  rintro e w2 ⟨u, rfl, ou, bu⟩
  have B2 := B1.trans (bu.mono s1)
  have s2 := bu.size
  go_wp2_with fail
  refine (impl_RowSums _ _ _ _ _ ((d1.rdG hs).new bu)).mono ?_
  rintro e w3 ⟨v, rfl, ov, bv⟩
  have B3 := B2.trans (bv.mono (by omega))
  have s3 := bv.size
  go_wp2_with fail
  refine (slices_Equal _ _ _ _ _ _ _ _ _ (ou.new bv).rdI ov.rdI).mono ?_
  rintro e w4 ⟨rfl, dw4⟩
  have B4 := B3.trans (dw4.below w.heap.size)
  have s4 := (dw4.below w3.heap.size).size
  go_wp2_with fail
  refine (impl_ColSums _ _ _ _ _ (dw4.rdG (((d1.rdG hr).new bu).new bv))).mono ?_
  rintro e w5 ⟨x, rfl, ox, bx⟩
  have B5 := B4.trans (bx.mono (by omega))
  have s5 := bx.size
  go_wp2_with fail
  refine (impl_ColSums _ _ _ _ _ ((dw4.rdG (((d1.rdG hs).new bu).new bv)).new bx)).mono ?_
  rintro e w6 ⟨y, rfl, oy, by_⟩
  have B6 := B5.trans (by_.mono (by omega))
  go_wp2_with fail
  refine (slices_Equal _ _ _ _ _ _ _ _ _ (ox.new by_).rdI oy.rdI).mono ?_
  rintro e w7 ⟨rfl, dw7⟩
  go_wp2_with fail
  go_ret
  exact ⟨ret_bool GS.out.symm, B6.trans (dw7.below w.heap.size)⟩

set_option maxRecDepth 100000 in
set_option maxHeartbeats 1000000 in
theorem spec_SameSums (g h : List (List Int)) (v u : Value) (w : World) (a b a' b' : Nat) (hr : RdG w a b v g) (hs : RdG w a' b' u h) :
    Calls Try.prog 43 #[v, u] w fun e w' => e = .returned (.bool (sumsF g h)) ∧ Below w.heap.size w w' := by
  replace hr := hr.clip
  replace hs := hs.clip
  by_cases g1 : sameF g h = true
  rotate_left
  · have g1 : sameF g h = false := by simpa using g1
    have GS := Lib.hid (sumsF_1 g1)
    have Q := distR_neg g1
    go_enter Try.func43, Try.ntmps43
    go_wp2_with fail
    refine (spec_DistanceOf _ _ _ _ _ _ _ _ _ hr hs).mono ?_
    rintro e w1 ⟨rfl, d1⟩
    go_wp2_with fail
    go_ret
    exact ⟨ret_bool GS.out.symm, d1.below _⟩
  have Q := distR_pos g1
  by_cases g2 : eqI (rowSumsR g) (rowSumsR h) = true
  rotate_left
  · have g2 : eqI (rowSumsR g) (rowSumsR h) = false := by simpa using g2
    have GS := Lib.hid (sumsF_2 g2)
    go_enter Try.func43, Try.ntmps43
    go_wp2_with fail
    refine (spec_DistanceOf _ _ _ _ _ _ _ _ _ hr hs).mono ?_
    rintro e w1 ⟨rfl, d1⟩
    have B1 := d1.below w.heap.size
    have s1 := B1.size
    go_wp2_with fail
    refine (spec_RowSums _ _ _ _ _ (d1.rdG hr)).mono ?_
    rintro e w2 ⟨u, rfl, ou, bu⟩
    have B2 := B1.trans (bu.mono s1)
    have s2 := bu.size
    go_wp2_with fail
    refine (spec_RowSums _ _ _ _ _ ((d1.rdG hs).new bu)).mono ?_
    rintro e w3 ⟨v, rfl, ov, bv⟩
    have B3 := B2.trans (bv.mono (by omega))
    have s3 := bv.size
    go_wp2_with fail
    refine (spec_l02Same _ _ _ _ _ _ _ _ _ (ou.new bv).rdI ov.rdI).mono ?_
    rintro e wx ⟨rfl, rfl⟩
    have B4 := B3
    have s4 := Nat.le_refl w3.heap.size
    go_wp2_with fail
    go_ret
    exact ⟨ret_bool GS.out.symm, B4⟩
  have GS := Lib.hid (sumsF_3 g1 g2)
  go_enter Try.func43, Try.ntmps43
  go_wp2_with fail
  refine (spec_DistanceOf _ _ _ _ _ _ _ _ _ hr hs).mono ?_
  rintro e w1 ⟨rfl, d1⟩
  have B1 := d1.below w.heap.size
  have s1 := B1.size
  go_wp2_with fail
  refine (spec_RowSums _ _ _ _ _ (d1.rdG hr)).mono ?_
  rintro e w2 ⟨u, rfl, ou, bu⟩
  have B2 := B1.trans (bu.mono s1)
  have s2 := bu.size
  go_wp2_with fail
  refine (spec_RowSums _ _ _ _ _ ((d1.rdG hs).new bu)).mono ?_
  rintro e w3 ⟨v, rfl, ov, bv⟩
  have B3 := B2.trans (bv.mono (by omega))
  have s3 := bv.size
  go_wp2_with fail
  refine (spec_l02Same _ _ _ _ _ _ _ _ _ (ou.new bv).rdI ov.rdI).mono ?_
  rintro e wx ⟨rfl, rfl⟩
  have B4 := B3
  have s4 := Nat.le_refl w3.heap.size
  go_wp2_with fail
  refine (spec_ColSums _ _ _ _ _ (((d1.rdG hr).new bu).new bv)).mono ?_
  rintro e w5 ⟨x, rfl, ox, bx⟩
  have B5 := B4.trans (bx.mono (by omega))
  have s5 := bx.size
  go_wp2_with fail
  refine (spec_ColSums _ _ _ _ _ ((((d1.rdG hs).new bu).new bv).new bx)).mono ?_
  rintro e w6 ⟨y, rfl, oy, by_⟩
  have B6 := B5.trans (by_.mono (by omega))
  go_wp2_with fail
  refine (spec_l02Same _ _ _ _ _ _ _ _ _ (ox.new by_).rdI oy.rdI).mono ?_
  rintro e wx ⟨rfl, rfl⟩
  go_wp2_with fail
  go_ret
  exact ⟨ret_bool GS.out.symm, B6⟩

end Go.Proofs.Ytpjlgcohafbbdaa
