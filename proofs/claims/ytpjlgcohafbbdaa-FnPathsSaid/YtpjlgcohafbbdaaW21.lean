/- Walks: SwitchOk. -/
import Derived.Test.YtpjlgcohafbbdaaProg
import Derived.Test.YtpjlgcohafbbdaaW1
import Derived.Test.YtpjlgcohafbbdaaW2
import Derived.Test.YtpjlgcohafbbdaaW3
import Derived.Test.YtpjlgcohafbbdaaW4
import Derived.Test.YtpjlgcohafbbdaaW6
import Derived.Test.YtpjlgcohafbbdaaW8
import Derived.Test.YtpjlgcohafbbdaaMem
import Derived.Test.YtpjlgcohafbbdaaPoke
import Derived.WalkKit
import Derived.WalkSpells
import Derived.WalkLawsBesides
import Derived.KernelRfl
import Derived.Lib.Hide
import Derived.Deep.QuietTactic
import Derived.BigQuiet
namespace Go.Proofs.Ytpjlgcohafbbdaa
open Go.RowKit
set_option linter.unusedVariables false
set_option linter.unusedSimpArgs false

/-- A switch: rows a, b; columns c, d. -/
def swOk (g : List (List Int)) (a b c d : Int) : Bool :=
  hasF g a c && hasF g b d && decide (a < b) && decide (c < d) && decide (cellN g a.toNat c.toNat = cellN g b.toNat d.toNat) && decide (cellN g a.toNat d.toNat = cellN g b.toNat c.toNat) && decide (cellN g a.toNat c.toNat ≠ cellN g a.toNat d.toNat)
theorem swOk_1 {g : List (List Int)} {a b c d : Int} (h : hasF g a c = false) : swOk g a b c d = false := by simp [swOk, h]
theorem swOk_2 {g : List (List Int)} {a b c d : Int} (h : hasF g b d = false) : swOk g a b c d = false := by simp [swOk, h]
theorem swOk_3 {g : List (List Int)} {a b c d : Int} (h : b ≤ a) : swOk g a b c d = false := by
  have : ¬ a < b := by omega
  simp [swOk, this]
theorem swOk_4 {g : List (List Int)} {a b c d : Int} (h : d ≤ c) : swOk g a b c d = false := by
  have : ¬ c < d := by omega
  simp [swOk, this]
theorem swOk_5 {g : List (List Int)} {a b c d : Nat} {p q r s : Int} (hp : cellN g a c = p) (hq : cellN g a d = q) (hr : cellN g b c = r) (hs : cellN g b d = s) (h1 : hasF g a c = true) (h2 : hasF g b d = true) (h3 : (a : Int) < b) (h4 : (c : Int) < d) :
    swOk g a b c d = (decide (p = s) && decide (q = r) && decide (p ≠ q)) := by
  subst hp hq hr hs
  simp only [swOk, h1, h2, h3, h4, Int.toNat_natCast, decide_true, Bool.true_and]
theorem al {w : World} (o : Obj) : Below w.heap.size w (w.alloc o) := (Below.refl _ _).alloc (Nat.le_refl _) _

set_option maxRecDepth 100000 in
set_option maxHeartbeats 2000000 in
theorem impl_SwitchOk (g : List (List Int)) (y1 y2 x1 x2 : Int) (v : Value) (w : World) (a b : Nat) (hr : RdG w a b v g) :
    Calls Try.prog 36 #[v, .agg #[.int .i64 y1, .int .i64 y2, .int .i64 x1, .int .i64 x2]] w fun e w' => e = .returned (.bool (swOk g y1 y2 x1 x2)) ∧ Below w.heap.size w w' := by
  obtain ⟨A, c, rfl, h1, h2⟩ := hr.form
  replace hr := hr.clip
  by_cases g1 : hasF g y1 x1 = true
  rotate_left
  · have g1 : hasF g y1 x1 = false := by simpa using g1
    have GS := Lib.hid (swOk_1 (b := y2) (d := x2) g1)
    go_enter Try.func36, Try.ntmps36
    go_wp2_with (go_at_call 54; refine (impl_hasCell _ _ _ _ _ _ _ (hr.new (al _))).mono ?_; rintro e w' ⟨rfl, rfl⟩)
    go_ret
    exact ⟨ret_bool GS.out.symm, al _⟩
  by_cases g2 : hasF g y2 x2 = true
  rotate_left
  · have g2 : hasF g y2 x2 = false := by simpa using g2
    have GS := Lib.hid (swOk_2 (a := y1) (c := x1) g2)
    go_enter Try.func36, Try.ntmps36
    go_wp2_with (go_at_call 54; refine (impl_hasCell _ _ _ _ _ _ _ (hr.new (al _))).mono ?_; rintro e w' ⟨rfl, rfl⟩)
    go_ret
    exact ⟨ret_bool GS.out.symm, al _⟩
  by_cases g3 : y2 ≤ y1
  · have GS := Lib.hid (swOk_3 (g := g) (c := x1) (d := x2) g3)
    go_enter Try.func36, Try.ntmps36
    go_wp2_with (go_at_call 54; refine (impl_hasCell _ _ _ _ _ _ _ (hr.new (al _))).mono ?_; rintro e w' ⟨rfl, rfl⟩)
    go_ret
    exact ⟨ret_bool GS.out.symm, al _⟩
  by_cases g4 : x2 ≤ x1
  · have GS := Lib.hid (swOk_4 (g := g) (a := y1) (b := y2) g4)
    go_enter Try.func36, Try.ntmps36
    go_wp2_with (go_at_call 54; refine (impl_hasCell _ _ _ _ _ _ _ (hr.new (al _))).mono ?_; rintro e w' ⟨rfl, rfl⟩)
    go_ret
    exact ⟨ret_bool GS.out.symm, al _⟩
  obtain ⟨g5, l1, l2, l3, l4⟩ := hasF_in g1
  obtain ⟨_, m1, m2, m3, m4⟩ := hasF_in g2
  obtain ⟨y1, rfl⟩ := Int.eq_ofNat_of_zero_le l1
  obtain ⟨y2, rfl⟩ := Int.eq_ofNat_of_zero_le m1
  obtain ⟨x1, rfl⟩ := Int.eq_ofNat_of_zero_le l3
  obtain ⟨x2, rfl⟩ := Int.eq_ofNat_of_zero_le m3
  have Sh := img_shape g5
  obtain ⟨r, hx, hrl⟩ := shape_row Sh (y := y1) (by omega)
  obtain ⟨s, hy, hsl⟩ := shape_row Sh (y := y2) (by omega)
  obtain ⟨b0, o0, rfl, _, hb0⟩ := hr.some_ (by omega)
  obtain ⟨A1, c1, hc1, t1, t2, hrow⟩ := hr.row hx
  obtain ⟨A2, c2, hc2, t3, t4, hsow⟩ := hr.row hy
  obtain ⟨b1, o1, rfl, _, hb1⟩ := hrow.some_ (by omega)
  obtain ⟨b2, o2, rfl, _, hb2⟩ := hsow.some_ (by omega)
  obtain ⟨p, hp⟩ := get_of_lt r x1 (by omega)
  obtain ⟨q, hq⟩ := get_of_lt r x2 (by omega)
  obtain ⟨rr, hrr⟩ := get_of_lt s x1 (by omega)
  obtain ⟨z, hz⟩ := get_of_lt s x2 (by omega)
  have d1 := hrow.cell hp
  have d2 := hrow.cell hq
  have d3 := hsow.cell hrr
  have d4 := hsow.cell hz
  have i1 : (y1 : Int) < (g.length : Int) := by omega
  have i2 : (y2 : Int) < (g.length : Int) := by omega
  have i3 : (x1 : Int) < (r.length : Int) := by omega
  have i4 : (x2 : Int) < (r.length : Int) := by omega
  have i5 : (x1 : Int) < (s.length : Int) := by omega
  have i6 : (x2 : Int) < (s.length : Int) := by omega
  have GS := Lib.hid (swOk_5 (cellN_get hx hp) (cellN_get hx hq) (cellN_get hy hrr) (cellN_get hy hz) g1 g2 (by omega) (by omega))
  have P1 := img_cell01 g5 (y := y1) (x := x1) (by omega) (by omega)
  rw [cellN_get hx hp] at P1
  have P2 := img_cell01 g5 (y := y1) (x := x2) (by omega) (by omega)
  rw [cellN_get hx hq] at P2
  have P3 := img_cell01 g5 (y := y2) (x := x1) (by omega) (by omega)
  rw [cellN_get hy hrr] at P3
  have RL := Lib.hid hrl; have SL := Lib.hid hsl
  clear Sh hx hy hp hq hrr hz hrl hsl
  by_cases e1 : p = z
  rotate_left
  · have f1 : (p == z) = false := by simpa using e1
    have E := Lib.hid e1; clear e1
    have G := Lib.hid (show swOk g y1 y2 x1 x2 = false by rw [GS.out]; simp [E.out])
    go_enter Try.func36, Try.ntmps36
    go_wp2_with (go_at_call 54; refine (impl_hasCell _ _ _ _ _ _ _ (hr.new (al _))).mono ?_; rintro e w' ⟨rfl, rfl⟩)
    go_quiet (fail)
    go_wp2_with fail
    go_ret
    exact ⟨ret_bool G.out.symm, below_drewN (al _) _⟩
  by_cases e2 : q = rr
  rotate_left
  · have f1 : (p == z) = true := by simpa using e1
    have f2 : (q == rr) = false := by simpa using e2
    have G := Lib.hid (show swOk g y1 y2 x1 x2 = false by rw [GS.out]; simp [e2])
    clear e1 e2
    skip
    go_enter Try.func36, Try.ntmps36
    go_wp2_with (go_at_call 54; refine (impl_hasCell _ _ _ _ _ _ _ (hr.new (al _))).mono ?_; rintro e w' ⟨rfl, rfl⟩)
    go_quiet (fail)
    go_wp2_with fail
    go_ret
    exact ⟨ret_bool G.out.symm, below_drewN (al _) _⟩
  have f1 : (p == z) = true := by simpa using e1
  have f2 : (q == rr) = true := by simpa using e2
  have G := Lib.hid (show swOk g y1 y2 x1 x2 = (p != q) by rw [GS.out]; simp [e1, e2, bne, BEq.beq])
  clear e1 e2
  skip
  go_enter Try.func36, Try.ntmps36
  go_wp2_with (go_at_call 54; refine (impl_hasCell _ _ _ _ _ _ _ (hr.new (al _))).mono ?_; rintro e w' ⟨rfl, rfl⟩)
  go_quiet (fail)
  go_wp2_with fail
  go_ret
  exact ⟨ret_bool G.out.symm, below_drewN (al _) _⟩

set_option maxRecDepth 100000 in
set_option maxHeartbeats 2000000 in
theorem spec_SwitchOk (g : List (List Int)) (y1 y2 x1 x2 : Int) (v : Value) (w : World) (a b : Nat) (hr : RdG w a b v g) :
    Calls Try.prog 51 #[v, .agg #[.int .i64 y1, .int .i64 y2, .int .i64 x1, .int .i64 x2]] w fun e w' => e = .returned (.bool (swOk g y1 y2 x1 x2)) ∧ Below w.heap.size w w' := by
  obtain ⟨A, c, rfl, h1, h2⟩ := hr.form
  replace hr := hr.clip
  by_cases g1 : hasF g y1 x1 = true
  rotate_left
  · have g1 : hasF g y1 x1 = false := by simpa using g1
    have GS := Lib.hid (swOk_1 (b := y2) (d := x2) g1)
    go_enter Try.func51, Try.ntmps51
    go_wp2_with (go_at_call 63; refine (spec_l02In _ _ _ _ _ _ _ (hr.new (al _))).mono ?_; rintro e w' ⟨rfl, rfl⟩)
    go_ret
    exact ⟨ret_bool GS.out.symm, al _⟩
  by_cases g2 : hasF g y2 x2 = true
  rotate_left
  · have g2 : hasF g y2 x2 = false := by simpa using g2
    have GS := Lib.hid (swOk_2 (a := y1) (c := x1) g2)
    go_enter Try.func51, Try.ntmps51
    go_wp2_with (go_at_call 63; refine (spec_l02In _ _ _ _ _ _ _ (hr.new (al _))).mono ?_; rintro e w' ⟨rfl, rfl⟩)
    go_ret
    exact ⟨ret_bool GS.out.symm, al _⟩
  by_cases g3 : y2 ≤ y1
  · have GS := Lib.hid (swOk_3 (g := g) (c := x1) (d := x2) g3)
    go_enter Try.func51, Try.ntmps51
    go_wp2_with (go_at_call 63; refine (spec_l02In _ _ _ _ _ _ _ (hr.new (al _))).mono ?_; rintro e w' ⟨rfl, rfl⟩)
    go_ret
    exact ⟨ret_bool GS.out.symm, al _⟩
  by_cases g4 : x2 ≤ x1
  · have GS := Lib.hid (swOk_4 (g := g) (a := y1) (b := y2) g4)
    go_enter Try.func51, Try.ntmps51
    go_wp2_with (go_at_call 63; refine (spec_l02In _ _ _ _ _ _ _ (hr.new (al _))).mono ?_; rintro e w' ⟨rfl, rfl⟩)
    go_ret
    exact ⟨ret_bool GS.out.symm, al _⟩
  obtain ⟨g5, l1, l2, l3, l4⟩ := hasF_in g1
  obtain ⟨_, m1, m2, m3, m4⟩ := hasF_in g2
  obtain ⟨y1, rfl⟩ := Int.eq_ofNat_of_zero_le l1
  obtain ⟨y2, rfl⟩ := Int.eq_ofNat_of_zero_le m1
  obtain ⟨x1, rfl⟩ := Int.eq_ofNat_of_zero_le l3
  obtain ⟨x2, rfl⟩ := Int.eq_ofNat_of_zero_le m3
  have Sh := img_shape g5
  obtain ⟨r, hx, hrl⟩ := shape_row Sh (y := y1) (by omega)
  obtain ⟨s, hy, hsl⟩ := shape_row Sh (y := y2) (by omega)
  obtain ⟨b0, o0, rfl, _, hb0⟩ := hr.some_ (by omega)
  obtain ⟨A1, c1, hc1, t1, t2, hrow⟩ := hr.row hx
  obtain ⟨A2, c2, hc2, t3, t4, hsow⟩ := hr.row hy
  obtain ⟨b1, o1, rfl, _, hb1⟩ := hrow.some_ (by omega)
  obtain ⟨b2, o2, rfl, _, hb2⟩ := hsow.some_ (by omega)
  obtain ⟨p, hp⟩ := get_of_lt r x1 (by omega)
  obtain ⟨q, hq⟩ := get_of_lt r x2 (by omega)
  obtain ⟨rr, hrr⟩ := get_of_lt s x1 (by omega)
  obtain ⟨z, hz⟩ := get_of_lt s x2 (by omega)
  have d1 := hrow.cell hp
  have d2 := hrow.cell hq
  have d3 := hsow.cell hrr
  have d4 := hsow.cell hz
  have i1 : (y1 : Int) < (g.length : Int) := by omega
  have i2 : (y2 : Int) < (g.length : Int) := by omega
  have i3 : (x1 : Int) < (r.length : Int) := by omega
  have i4 : (x2 : Int) < (r.length : Int) := by omega
  have i5 : (x1 : Int) < (s.length : Int) := by omega
  have i6 : (x2 : Int) < (s.length : Int) := by omega
  have GS := Lib.hid (swOk_5 (cellN_get hx hp) (cellN_get hx hq) (cellN_get hy hrr) (cellN_get hy hz) g1 g2 (by omega) (by omega))
  have P1 := img_cell01 g5 (y := y1) (x := x1) (by omega) (by omega)
  rw [cellN_get hx hp] at P1
  have P2 := img_cell01 g5 (y := y1) (x := x2) (by omega) (by omega)
  rw [cellN_get hx hq] at P2
  have P3 := img_cell01 g5 (y := y2) (x := x1) (by omega) (by omega)
  rw [cellN_get hy hrr] at P3
  have RL := Lib.hid hrl; have SL := Lib.hid hsl
  clear Sh hx hy hp hq hrr hz hrl hsl
  have P1l := P1.1; have P1r := P1.2
  by_cases e1 : p = z
  rotate_left
  · have f1 : (z == p) = false := by simpa using fun h : z = p => e1 h.symm
    have E := Lib.hid e1; clear e1
    have G := Lib.hid (show swOk g y1 y2 x1 x2 = false by rw [GS.out]; simp [E.out])
    go_enter Try.func51, Try.ntmps51
    go_wp2_with (go_at_call 63; refine (spec_l02In _ _ _ _ _ _ _ (hr.new (al _))).mono ?_; rintro e w' ⟨rfl, rfl⟩)
    go_quiet (fail)
    go_wp2_with fail
    go_quiet (fail)
    go_wp2_with fail
    go_ret
    exact ⟨ret_bool G.out.symm, below_drewN (below_drewN (al _) _) _⟩
  by_cases e2 : q = 1 - p
  rotate_left
  · have f1 : (z == p) = true := by simp [e1]
    have f2 : (q == 1 - p) = false := by simpa using e2
    have e3 : p = q := by omega
    have G := Lib.hid (show swOk g y1 y2 x1 x2 = false by rw [GS.out]; simp [e3])
    clear e1 e2 e3
    skip
    go_enter Try.func51, Try.ntmps51
    go_wp2_with (go_at_call 63; refine (spec_l02In _ _ _ _ _ _ _ (hr.new (al _))).mono ?_; rintro e w' ⟨rfl, rfl⟩)
    go_quiet (fail)
    go_wp2_with fail
    go_quiet (fail)
    go_wp2_with fail
    go_ret
    exact ⟨ret_bool G.out.symm, below_drewN (below_drewN (al _) _) _⟩
  have f1 : (z == p) = true := by simp [e1]
  have f2 : (q == 1 - p) = true := by simpa using e2
  have e3 : p ≠ q := by omega
  have G := Lib.hid (show swOk g y1 y2 x1 x2 = (rr == 1 - p) by
    rw [GS.out, show decide (p = z) = true by simp [e1], show decide (p ≠ q) = true by simp [e3], e2, Bool.true_and, Bool.and_true]
    by_cases h : rr = 1 - p
    · simp [h]
    · rw [decide_eq_false (fun c => h c.symm)]; simpa using h)
  clear e1 e2 e3
  skip
  go_enter Try.func51, Try.ntmps51
  go_wp2_with (go_at_call 63; refine (spec_l02In _ _ _ _ _ _ _ (hr.new (al _))).mono ?_; rintro e w' ⟨rfl, rfl⟩)
  go_quiet (fail)
  go_wp2_with fail
  go_quiet (fail)
  go_wp2_with fail
  go_ret
  exact ⟨ret_bool G.out.symm, below_drewN (below_drewN (al _) _) _⟩

end Go.Proofs.Ytpjlgcohafbbdaa
