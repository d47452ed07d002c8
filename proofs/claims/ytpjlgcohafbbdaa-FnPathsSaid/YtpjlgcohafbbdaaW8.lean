/- Walks: images: ImageOk, CellAt, EmptyImage, CountBlack, SameImage, DistanceOf, RowSums, IsStaircase, StaircaseOf, PutCell. -/
import Derived.Test.YtpjlgcohafbbdaaProg
import Derived.Test.YtpjlgcohafbbdaaW1
import Derived.Test.YtpjlgcohafbbdaaW3
import Derived.Test.YtpjlgcohafbbdaaW2
import Derived.Test.YtpjlgcohafbbdaaW4
import Derived.Test.YtpjlgcohafbbdaaW6
import Derived.Test.YtpjlgcohafbbdaaMem
import Derived.WalkKit
import Derived.WalkSpells
import Derived.WalkLawsBesides
import Derived.KernelRfl
import Derived.Lib.Hide
import Derived.Deep.QuietTactic
import Derived.BigQuiet
namespace Go.Proofs.Ytpjlgcohafbbdaa
open Go.RowKit
set_option linter.unusedVariables false
set_option linter.unusedSimpArgs false

def rowOk (m : Nat) (lo hi : Int) (r : List Int) : Bool := decide (r.length = m) && r.all (inB · lo hi)
def hd (g : List (List Int)) : List Int := g.headD []
def gridOkF (g : List (List Int)) (lo hi : Int) : Bool := inB g.length 1 5 && inB (hd g).length 1 5 && g.all (rowOk (hd g).length lo hi)
def imgOk (g : List (List Int)) : Bool := gridOkF g 0 1
theorem hd_get {g : List (List Int)} (h : 0 < g.length) : g[0]? = some (hd g) := by
  cases g with
  | nil => simp at h
  | cons r t => rfl
theorem hd_mem {g : List (List Int)} (h : 0 < g.length) : hd g ∈ g := List.mem_of_getElem? (hd_get h)
def rowOk' (m : Nat) (lo hi : Int) (r : List Int) : Bool := decide (r.length = m) && inB r.length 1 5 && r.all (inB · lo hi)
theorem gridOk_1 {g : List (List Int)} {lo hi : Int} (h : inB g.length 1 5 = false) : gridOkF g lo hi = false := by simp [gridOkF, h]
theorem gridOk_2 {g : List (List Int)} {lo hi : Int} (h : inB (hd g).length 1 5 = false) : gridOkF g lo hi = false := by simp [gridOkF, h]
theorem gridOk_3 {g : List (List Int)} {lo hi : Int} {k : Nat} {r : List Int} (hx : g[k]? = some r) (h : r.length ≠ (hd g).length) : gridOkF g lo hi = false := by
  have := all_take_bad (p := rowOk (hd g).length lo hi) hx (by simp [rowOk, h])
  simp [gridOkF, this]
theorem gridOk_4 {g : List (List Int)} {lo hi : Int} {k : Nat} {r : List Int} (hx : g[k]? = some r) (h : r.length = (hd g).length) (hb : inB r.length 1 5 = false) : gridOkF g lo hi = false :=
  gridOk_2 (by rw [← h]; exact hb)
theorem gridOk_5 {g : List (List Int)} {lo hi : Int} {k : Nat} {r : List Int} (hx : g[k]? = some r) (h : r.all (inB · lo hi) = false) : gridOkF g lo hi = false := by
  have := all_take_bad (p := rowOk (hd g).length lo hi) hx (by simp only [rowOk, h, Bool.and_false])
  simp [gridOkF, this]
theorem gridOk_fin {g : List (List Int)} {lo hi : Int} (h1 : inB g.length 1 5 = true) (h : g.all (rowOk' (hd g).length lo hi) = true) : gridOkF g lo hi = true := by
  have hl := (inB_true h1).1
  have h2 := List.all_eq_true.1 h
  have h3 := h2 _ (hd_mem (g := g) (by omega))
  simp only [rowOk', Bool.and_eq_true] at h3
  simp only [gridOkF, h1, h3.1.2, Bool.true_and]
  rw [List.all_eq_true]
  intro r hr
  have := h2 r hr
  simp only [rowOk', Bool.and_eq_true] at this
  simp only [rowOk, this.1.1, this.2, Bool.and_self]
theorem gridOk_fin2 {g : List (List Int)} {lo hi : Int} (h1 : inB g.length 1 5 = true) (h2 : inB (hd g).length 1 5 = true) (h : g.all (rowOk (hd g).length lo hi) = true) : gridOkF g lo hi = true := by
  simp [gridOkF, h1, h2, h]

set_option maxRecDepth 100000 in
set_option maxHeartbeats 1000000 in
theorem impl_gridOk (g : List (List Int)) (lo hi : Int) (v : Value) (w : World) (a b : Nat) (hr : RdG w a b v g) :
    Calls Try.prog 56 #[v, .int .i64 lo, .int .i64 hi] w fun e w' => e = .returned (.bool (gridOkF g lo hi)) ∧ w = w' := by
  obtain ⟨A, c, rfl, h1, h2⟩ := hr.form
  by_cases g1 : inB g.length 1 5 = true
  rotate_left
  · have g1 : inB g.length 1 5 = false := by simpa using g1
    go_enter Try.func56, Try.ntmps56
    go_wp2_with (go_at_call 65; refine (impl_within _ _ _ _).mono ?_; rintro e w' ⟨rfl, rfl⟩)
    go_ret
    exact ⟨ret_bool (gridOk_1 g1).symm, rfl⟩
  obtain ⟨l1, l2⟩ := inB_true g1
  obtain ⟨b0, o0, rfl, _, _⟩ := hr.some_ (by omega)
  obtain ⟨A0, c0, hc0, _, _, hrow0⟩ := hr.row0 (hd_get (by omega))
  have hpos : (0 : Int) < (g.length : Int) := by omega
  go_enter Try.func56, Try.ntmps56
  go_wp2_with (go_at_call 65; refine (impl_within _ _ _ _).mono ?_; rintro e w' ⟨rfl, rfl⟩)
  go_loop [15] (fun i => ∃ k : Nat, k ≤ g.length ∧ i = .int .i64 k ∧ (g.take k).all (rowOk' (hd g).length lo hi) = true) (fun i => g.length - (intOf i).toNat)
  case atStart => exact ⟨0, Nat.zero_le _, rfl, by simp⟩
  case round =>
    obtain ⟨k, hk, rfl, hd'⟩ := hrel
    have Hd := Lib.hid hd'; clear hd'
    by_cases hlt : k < g.length
    · obtain ⟨r, hx⟩ := get_of_lt g k hlt
      obtain ⟨A1, c1, hc1, _, _, hrow1⟩ := hr.row hx
      have Hx := Lib.hid hx; clear hx
      by_cases e1 : r.length = (hd g).length
      rotate_left
      · have n1 : ((r.length : Int) != ((hd g).length : Int)) = true := by simp; omega
        have E1 := Lib.hid e1; clear e1
        go_wp2_with fail
        go_ret
        exact ⟨ret_bool (gridOk_3 Hx.out E1.out).symm, rfl⟩
      have n1 : ((r.length : Int) != ((hd g).length : Int)) = false := by simp [e1]
      have E1 := Lib.hid e1; clear e1
      by_cases e2 : inB r.length 1 5 = true
      rotate_left
      · have e2 : inB r.length 1 5 = false := by simpa using e2
        go_wp2_with (go_at_call 65; refine (impl_within _ _ _ _).mono ?_; rintro e w' ⟨rfl, rfl⟩)
        go_ret
        exact ⟨ret_bool (gridOk_4 Hx.out E1.out e2).symm, rfl⟩
      by_cases e3 : r.all (inB · lo hi) = true
      rotate_left
      · have e3 : r.all (inB · lo hi) = false := by simpa using e3
        go_wp2_with (first
          | (go_at_call 65; refine (impl_within _ _ _ _).mono ?_; rintro e w' ⟨rfl, rfl⟩)
          | (go_at_call 66; refine (impl_allWithin _ _ _ _ _ _ _ hrow1).mono ?_; rintro e w' ⟨rfl, rfl⟩))
        go_ret
        exact ⟨ret_bool (gridOk_5 Hx.out e3).symm, rfl⟩
      · have hok : rowOk' (hd g).length lo hi r = true := by simp only [rowOk', E1.out, decide_true, Bool.true_and, e3, Bool.and_true]; rw [← E1.out]; exact e2
        have Hok := Lib.hid hok; clear hok
        go_wp2_with (first
          | (go_at_call 65; refine (impl_within _ _ _ _).mono ?_; rintro e w' ⟨rfl, rfl⟩)
          | (go_at_call 66; refine (impl_allWithin _ _ _ _ _ _ _ hrow1).mono ?_; rintro e w' ⟨rfl, rfl⟩))
        go_round
        case rel => exact ⟨k + 1, by omega, by go_num, all_take_ok Hx.out Hok.out Hd.out⟩
        case measure => simp [intOf]; omega
    · have h6 := Hd.out
      rw [take_all hlt] at h6
      have GD := Lib.hid (gridOk_fin g1 h6); clear h6
      go_wp2_with fail
      go_ret
      exact ⟨ret_bool GD.out.symm, rfl⟩

theorem impl_ImageOk (g : List (List Int)) (v : Value) (w : World) (a b : Nat) (hr : RdG w a b v g) :
    Calls Try.prog 38 #[v] w fun e w' => e = .returned (.bool (imgOk g)) ∧ w = w' := by
  have hI := impl_gridOk g 0 1 v w a b hr
  obtain ⟨A, c, rfl, h1, h2⟩ := hr.form
  go_enter Try.func38, Try.ntmps38
  go_wp2_with (go_at_call 56; refine (impl_gridOk _ _ _ _ _ _ _ hr).mono ?_; rintro e w' ⟨rfl, rfl⟩)
  go_ret
  exact ⟨rfl, rfl⟩

set_option maxRecDepth 100000 in
set_option maxHeartbeats 1000000 in
theorem spec_ImageOk (g : List (List Int)) (v : Value) (w : World) (a b : Nat) (hr : RdG w a b v g) :
    Calls Try.prog 50 #[v] w fun e w' => e = .returned (.bool (imgOk g)) ∧ w = w' := by
  obtain ⟨A, c, rfl, h1, h2⟩ := hr.form
  unfold imgOk
  by_cases g1 : inB g.length 1 5 = true
  rotate_left
  · have g1 : inB g.length 1 5 = false := by simpa using g1
    go_enter Try.func50, Try.ntmps50
    go_wp2_with (go_at_call 62; refine (spec_l01In _ _ _ _).mono ?_; rintro e w' ⟨rfl, rfl⟩)
    go_ret
    exact ⟨ret_bool (gridOk_1 g1).symm, rfl⟩
  obtain ⟨l1, l2⟩ := inB_true g1
  obtain ⟨b0, o0, rfl, _, _⟩ := hr.some_ (by omega)
  obtain ⟨A0, c0, hc0, _, _, hrow0⟩ := hr.row0 (hd_get (by omega))
  have hpos : (0 : Int) < (g.length : Int) := by omega
  by_cases g2 : inB (hd g).length 1 5 = true
  rotate_left
  · have g2 : inB (hd g).length 1 5 = false := by simpa using g2
    go_enter Try.func50, Try.ntmps50
    go_wp2_with (go_at_call 62; refine (spec_l01In _ _ _ _).mono ?_; rintro e w' ⟨rfl, rfl⟩)
    go_ret
    exact ⟨ret_bool (gridOk_2 g2).symm, rfl⟩
  go_enter Try.func50, Try.ntmps50
  go_wp2_with (go_at_call 62; refine (spec_l01In _ _ _ _).mono ?_; rintro e w' ⟨rfl, rfl⟩)
  go_loop [21] (fun i => ∃ k : Nat, k ≤ g.length ∧ i = .int .i64 k ∧ (g.take k).all (rowOk (hd g).length 0 1) = true) (fun i => g.length - (intOf i).toNat)
  case atStart => exact ⟨0, Nat.zero_le _, rfl, by simp⟩
  case round =>
    obtain ⟨k, hk, rfl, hd'⟩ := hrel
    have Hd := Lib.hid hd'; clear hd'
    by_cases hlt : k < g.length
    · obtain ⟨r, hx⟩ := get_of_lt g k hlt
      obtain ⟨A1, c1, hc1, _, _, hrow1⟩ := hr.row hx
      have Hx := Lib.hid hx; clear hx
      by_cases e1 : r.length = (hd g).length
      rotate_left
      · have n1 : ((r.length : Int) != ((hd g).length : Int)) = true := by simp; omega
        have E1 := Lib.hid e1; clear e1
        go_wp2_with fail
        go_ret
        exact ⟨ret_bool (gridOk_3 Hx.out E1.out).symm, rfl⟩
      have n1 : ((r.length : Int) != ((hd g).length : Int)) = false := by simp [e1]
      have E1 := Lib.hid e1; clear e1
      go_wp2_with fail
      go_loop [34] (fun i => ∃ j : Nat, j ≤ r.length ∧ i = .int .i64 j ∧ (r.take j).all (inB · 0 1) = true) (fun i => r.length - (intOf i).toNat)
      case atStart => exact ⟨0, Nat.zero_le _, rfl, by simp⟩
      case round =>
        obtain ⟨j, hj, rfl, hd2⟩ := hrel
        have Hd2 := Lib.hid hd2; clear hd2
        by_cases hlt2 : j < r.length
        · obtain ⟨x, hy⟩ := get_of_lt r j hlt2
          obtain ⟨b2, o2, rfl, _, _, _, hc2⟩ := hrow1.at_ hy
          have Hy := Lib.hid hy; clear hy
          by_cases x0 : x = 0
          · subst x0
            go_wp2_with fail
            go_round
            case rel => exact ⟨j + 1, by omega, by go_num, all_take_ok Hy.out (by rfl) Hd2.out⟩
            case measure => simp [intOf]; omega
          by_cases x1 : x = 1
          · subst x1
            go_wp2_with fail
            go_round
            case rel => exact ⟨j + 1, by omega, by go_num, all_take_ok Hy.out (by rfl) Hd2.out⟩
            case measure => simp [intOf]; omega
          · have hb : inB x 0 1 = false := by
              cases h : inB x 0 1 with
              | false => rfl
              | true => have := inB_true h; omega
            have y0 : (x != 0) = true := by simpa using x0
            have y1 : (x != 1) = true := by simpa using x1
            clear x0 x1
            have HB := Lib.hid hb; clear hb
            go_wp2_with fail
            go_ret
            exact ⟨ret_bool (gridOk_5 Hx.out (all_take_bad Hy.out HB.out)).symm, rfl⟩
        · have h6 := Hd2.out
          rw [take_all hlt2] at h6
          have Hok : Hid (rowOk (hd g).length 0 1 r = true) := by
            have : rowOk (hd g).length 0 1 r = true := by simp only [rowOk, E1.out, decide_true, Bool.true_and]; exact h6
            exact this
          clear h6
          go_wp2_with fail
          go_round
          case rel => exact ⟨k + 1, by omega, by go_num, all_take_ok Hx.out Hok.out Hd.out⟩
          case measure => simp [intOf]; omega
    · have h6 := Hd.out
      rw [take_all hlt] at h6
      have GD := Lib.hid (gridOk_fin2 g1 g2 h6); clear h6
      go_wp2_with fail
      go_ret
      exact ⟨ret_bool GD.out.symm, rfl⟩

theorem imgOk_in {g : List (List Int)} (h : imgOk g = true) : 1 ≤ g.length ∧ g.length ≤ 5 ∧ 1 ≤ (hd g).length ∧ (hd g).length ≤ 5 ∧ ∀ r ∈ g, r.length = (hd g).length ∧ ∀ x ∈ r, 0 ≤ x ∧ x ≤ 1 := by
  simp only [imgOk, gridOkF, Bool.and_eq_true] at h
  obtain ⟨⟨h1, h2⟩, h3⟩ := h
  have := inB_true h1; have := inB_true h2
  refine ⟨by omega, by omega, by omega, by omega, fun r hr => ?_⟩
  have h4 := List.all_eq_true.1 h3 r hr
  simp only [rowOk, Bool.and_eq_true, decide_eq_true_eq] at h4
  exact ⟨h4.1, fun x hx => inB_true (List.all_eq_true.1 h4.2 x hx)⟩
theorem imgOk_short {g : List (List Int)} (h : imgOk g = true) : shortG g := by
  obtain ⟨h1, h2, h3, h4, h5⟩ := imgOk_in h
  exact ⟨by omega, fun r hr => by rw [(h5 r hr).1]; omega⟩
def hasF (g : List (List Int)) (y x : Int) : Bool := imgOk g && inB y 0 ((g.length : Int) - 1) && inB x 0 (((hd g).length : Int) - 1)
theorem hasF_1 {g : List (List Int)} {y x : Int} (h : imgOk g = false) : hasF g y x = false := by simp [hasF, h]
theorem hasF_2 {g : List (List Int)} {y x : Int} (h : inB y 0 ((g.length : Int) - 1) = false) : hasF g y x = false := by simp [hasF, h]
theorem hasF_3 {g : List (List Int)} {y x : Int} (h : imgOk g = true) (h2 : inB y 0 ((g.length : Int) - 1) = true) : hasF g y x = inB x 0 (((hd g).length : Int) - 1) := by simp [hasF, h, h2]
theorem hasF_in {g : List (List Int)} {y x : Int} (h : hasF g y x = true) : imgOk g = true ∧ 0 ≤ y ∧ y < g.length ∧ 0 ≤ x ∧ x < (hd g).length := by
  simp only [hasF, Bool.and_eq_true] at h
  have := inB_true h.1.2; have := inB_true h.2
  exact ⟨h.1.1, by omega, by omega, by omega, by omega⟩

set_option maxRecDepth 100000 in
set_option maxHeartbeats 1000000 in
theorem impl_hasCell (g : List (List Int)) (y x : Int) (v : Value) (w : World) (a b : Nat) (hr : RdG w a b v g) :
    Calls Try.prog 54 #[v, .int .i64 y, .int .i64 x] w fun e w' => e = .returned (.bool (hasF g y x)) ∧ w = w' := by
  obtain ⟨A, c, rfl, h1, h2⟩ := hr.form
  by_cases g1 : imgOk g = true
  rotate_left
  · have g1 : imgOk g = false := by simpa using g1
    go_enter Try.func54, Try.ntmps54
    go_wp2_with (go_at_call 38; refine (impl_ImageOk _ _ _ _ _ hr).mono ?_; rintro e w' ⟨rfl, rfl⟩)
    go_ret
    exact ⟨ret_bool (hasF_1 g1).symm, rfl⟩
  obtain ⟨l1, l2, l3, l4, l5⟩ := imgOk_in g1
  have L5 := Lib.hid l5; clear l5
  obtain ⟨b0, o0, rfl, _, _⟩ := hr.some_ (by omega)
  obtain ⟨A0, c0, hc0, _, _, hrow0⟩ := hr.row0 (hd_get (by omega))
  have hpos : (0 : Int) < (g.length : Int) := by omega
  by_cases g2 : inB y 0 ((g.length : Int) - 1) = true
  rotate_left
  · have g2 : inB y 0 ((g.length : Int) - 1) = false := by simpa using g2
    go_enter Try.func54, Try.ntmps54
    go_wp2_with (first
      | (go_at_call 38; refine (impl_ImageOk _ _ _ _ _ hr).mono ?_; rintro e w' ⟨rfl, rfl⟩)
      | (go_at_call 65; refine (impl_within _ _ _ _).mono ?_; rintro e w' ⟨rfl, rfl⟩))
    go_ret
    exact ⟨ret_bool (hasF_2 g2).symm, rfl⟩
  have GD := Lib.hid (hasF_3 (x := x) g1 g2)
  go_enter Try.func54, Try.ntmps54
  go_wp2_with (first
      | (go_at_call 38; refine (impl_ImageOk _ _ _ _ _ hr).mono ?_; rintro e w' ⟨rfl, rfl⟩)
      | (go_at_call 65; refine (impl_within _ _ _ _).mono ?_; rintro e w' ⟨rfl, rfl⟩))
  go_ret
  exact ⟨ret_bool GD.out.symm, rfl⟩

set_option maxRecDepth 100000 in
set_option maxHeartbeats 1000000 in
theorem spec_l02In (g : List (List Int)) (y x : Int) (v : Value) (w : World) (a b : Nat) (hr : RdG w a b v g) :
    Calls Try.prog 63 #[v, .int .i64 y, .int .i64 x] w fun e w' => e = .returned (.bool (hasF g y x)) ∧ w = w' := by
  obtain ⟨A, c, rfl, h1, h2⟩ := hr.form
  by_cases g1 : imgOk g = true
  rotate_left
  · have g1 : imgOk g = false := by simpa using g1
    go_enter Try.func63, Try.ntmps63
    go_wp2_with (go_at_call 50; refine (spec_ImageOk _ _ _ _ _ hr).mono ?_; rintro e w' ⟨rfl, rfl⟩)
    go_ret
    exact ⟨ret_bool (hasF_1 g1).symm, rfl⟩
  obtain ⟨l1, l2, l3, l4, l5⟩ := imgOk_in g1
  have L5 := Lib.hid l5; clear l5
  obtain ⟨b0, o0, rfl, _, _⟩ := hr.some_ (by omega)
  obtain ⟨A0, c0, hc0, _, _, hrow0⟩ := hr.row0 (hd_get (by omega))
  have hpos : (0 : Int) < (g.length : Int) := by omega
  by_cases g2 : inB y 0 ((g.length : Int) - 1) = true
  rotate_left
  · have g2 : inB y 0 ((g.length : Int) - 1) = false := by simpa using g2
    go_enter Try.func63, Try.ntmps63
    go_wp2_with (first
      | (go_at_call 50; refine (spec_ImageOk _ _ _ _ _ hr).mono ?_; rintro e w' ⟨rfl, rfl⟩)
      | (go_at_call 62; refine (spec_l01In _ _ _ _).mono ?_; rintro e w' ⟨rfl, rfl⟩))
    go_ret
    exact ⟨ret_bool (hasF_2 g2).symm, rfl⟩
  have GD := Lib.hid (hasF_3 (x := x) g1 g2)
  go_enter Try.func63, Try.ntmps63
  go_wp2_with (first
      | (go_at_call 50; refine (spec_ImageOk _ _ _ _ _ hr).mono ?_; rintro e w' ⟨rfl, rfl⟩)
      | (go_at_call 62; refine (spec_l01In _ _ _ _).mono ?_; rintro e w' ⟨rfl, rfl⟩))
  go_ret
  exact ⟨ret_bool GD.out.symm, rfl⟩

/-- The cell (y, x). -/
def cellN (g : List (List Int)) (y x : Nat) : Int := (g.getD y []).getD x 0
theorem cellN_get {g : List (List Int)} {y x : Nat} {r : List Int} {z : Int} (h1 : g[y]? = some r) (h2 : r[x]? = some z) : cellN g y x = z := by
  simp [cellN, h1, h2]
def cellR (g : List (List Int)) (y x : Int) : Int := if hasF g y x = true then cellN g y.toNat x.toNat else -1
theorem img_cell {g : List (List Int)} (h : imgOk g = true) {y x : Nat} (hy : y < g.length) (hx : x < (hd g).length) : ∃ r z, g[y]? = some r ∧ r[x]? = some z ∧ r.length = (hd g).length ∧ cellN g y x = z ∧ (z = 0 ∨ z = 1) := by
  obtain ⟨_, _, _, _, h5⟩ := imgOk_in h
  obtain ⟨r, hr⟩ := get_of_lt g y hy
  obtain ⟨e1, e2⟩ := h5 r (List.mem_of_getElem? hr)
  obtain ⟨z, hz⟩ := get_of_lt r x (by omega)
  have := e2 z (List.mem_of_getElem? hz)
  exact ⟨r, z, hr, hz, e1, cellN_get hr hz, by omega⟩

def emptyF (rows cols : Int) : List (List Int) := if sizeOk rows cols = true then zeros rows.toNat cols.toNat else []
theorem emptyF_no {rows cols : Int} (h : sizeOk rows cols = false) : emptyF rows cols = [] := by simp [emptyF, h]
theorem emptyF_yes {rows cols : Nat} (h : sizeOk rows cols = true) : emptyF rows cols = zeros rows cols := by simp [emptyF, h]
theorem RetG_nil {w : World} {g : List (List Int)} (h : g = []) : RetG w g (.returned (.slice none 0 0)) w := by
  subst h; exact ⟨_, rfl, OwG.nil _ _ _ _ _, Below.refl _ _⟩

/-! ### CountBlack -/
def blackF (g : List (List Int)) : Int := (g.map List.sum).sum
theorem blackF_snoc (g : List (List Int)) (r : List Int) : blackF (g ++ [r]) = blackF g + r.sum := by simp [blackF]
def blackR (g : List (List Int)) : Int := if imgOk g = true then blackF g else -1
theorem row01 {r : List Int} (h : ∀ x ∈ r, 0 ≤ x ∧ x ≤ 1) (k : Nat) : 0 ≤ (r.take k).sum ∧ (r.take k).sum ≤ k := by
  have g : ∀ m : List Int, (∀ x ∈ m, 0 ≤ x ∧ x ≤ 1) → 0 ≤ m.sum ∧ m.sum ≤ m.length := by
    intro m
    induction m with
    | nil => intro _; simp
    | cons x t ih =>
      intro hm
      have h1 := hm x (by simp)
      have h2 := ih (fun y hy => hm y (by simp [hy]))
      simp only [List.sum_cons, List.length_cons]
      omega
  have h1 := g (r.take k) (fun x hx => h x (List.mem_of_mem_take hx))
  have h2 : (r.take k).length ≤ k := List.length_take_le _ _
  omega
theorem black_bd {g : List (List Int)} (h : imgOk g = true) (k : Nat) : 0 ≤ blackF (g.take k) ∧ blackF (g.take k) ≤ 5 * k := by
  obtain ⟨_, _, h3, h4, h5⟩ := imgOk_in h
  induction k with
  | zero => simp [blackF]
  | succ k ih =>
    by_cases hk : k < g.length
    · obtain ⟨r, hr⟩ := get_of_lt g k hk
      rw [take_snoc hr, blackF_snoc]
      have e := h5 r (List.mem_of_getElem? hr)
      have := row01 e.2 r.length
      rw [List.take_length] at this
      omega
    · rw [take_all hk] at ih; rw [take_all (by omega)]; omega
theorem small_row {r : List Int} {n : Nat} (hl : r.length = n) (hn : n ≤ 5) (h : ∀ x ∈ r, 0 ≤ x ∧ x ≤ 1) : small r := ⟨by omega, fun x hx => by have := h x hx; omega⟩

end Go.Proofs.Ytpjlgcohafbbdaa
