/- Walks that fill grids: TransposeOf, MirrorOf, InvertOf, PutCell, StaircaseOf. -/
import Derived.Test.YtpjlgcohafbbdaaProg
import Derived.Test.YtpjlgcohafbbdaaW1
import Derived.Test.YtpjlgcohafbbdaaW2
import Derived.Test.YtpjlgcohafbbdaaW3
import Derived.Test.YtpjlgcohafbbdaaW4
import Derived.Test.YtpjlgcohafbbdaaW6
import Derived.Test.YtpjlgcohafbbdaaW8
import Derived.Test.YtpjlgcohafbbdaaW9
import Derived.Test.YtpjlgcohafbbdaaMem
import Derived.Test.YtpjlgcohafbbdaaPoke
import Derived.WalkKit
import Derived.WalkSpells
import Derived.WalkLawsBesides
import Derived.KernelRfl
import Derived.Lib.Hide
import Derived.Deep.QuietTactic
import Derived.BigQuiet
namespace Go.Proofs.Ytpjlgcohafbbdaa
open Go.RowKit
set_option linter.unusedVariables false
set_option linter.unusedSimpArgs false

def ifImg (g h : List (List Int)) : List (List Int) := if imgOk g = true then h else []
theorem ifImg_yes {g h : List (List Int)} (e : imgOk g = true) : ifImg g h = h := if_pos e
theorem ifImg_no {g h : List (List Int)} (e : ¬ imgOk g = true) : ifImg g h = [] := if_neg e
def transR (g : List (List Int)) : List (List Int) := ifImg g (mkG (hd g).length g.length fun y x => cellN g x y)
def mirrR (g : List (List Int)) : List (List Int) := ifImg g (mkG g.length (hd g).length fun y x => cellN g y ((hd g).length - 1 - x))
def invR (g : List (List Int)) : List (List Int) := ifImg g (mkG g.length (hd g).length fun y x => 1 - cellN g y x)
theorem setCell_size (w : World) (p : Addr) (u : Value) : (w.setCell p u).heap.size = w.heap.size := by simp [World.setCell]

set_option maxRecDepth 100000 in
set_option maxHeartbeats 1000000 in
theorem impl_TransposeOf (g : List (List Int)) (v : Value) (w : World) (a b : Nat) (hr : RdG w a b v g) :
    Calls Try.prog 53 #[v] w (RetG w (transR g)) := by
  obtain ⟨A, c, rfl, h1, h2⟩ := hr.form
  replace hr := hr.clip
  by_cases g1 : imgOk g = true
  rotate_left
  · have GD : Hid (transR g = []) := Lib.hid (ifImg_no g1)
    have g1 : imgOk g = false := by simpa using g1
    go_enter Try.func53, Try.ntmps53
    go_wp2_with (go_at_call 38; refine (impl_ImageOk _ _ _ _ _ hr).mono ?_; rintro e w' ⟨rfl, rfl⟩)
    go_ret
    exact RetG_nil GD.out
  obtain ⟨l1, l2, l3, l4, _⟩ := imgOk_in g1
  have Sh := Lib.hid (img_shape g1)
  obtain ⟨S, hS⟩ : ∃ S : Nat → Nat → Nat × Nat, S = fun y x => (x, y) := ⟨_, rfl⟩
  obtain ⟨F, hF⟩ : ∃ F : Nat → Nat → Int, F = fun y x => cellN g x y := ⟨_, rfl⟩
  have HS := Lib.hid hS; clear hS
  have GD : Hid (transR g = mkG (hd g).length g.length F) := Lib.hid (by rw [hF]; exact ifImg_yes g1)
  have HF := Lib.hid hF; clear hF
  have G1 := Lib.hid g1
  obtain ⟨b0, o0, rfl, _, _⟩ := hr.some_ (by omega)
  obtain ⟨A0, c0, hc0, q1, q2, hrow0⟩ := hr.row0 (hd_get (by omega))
  have hpos : (0 : Int) < (g.length : Int) := by omega
  go_enter Try.func53, Try.ntmps53
  go_wp2_with (first
    | (go_at_call 38; refine (impl_ImageOk _ _ _ _ _ hr).mono ?_; rintro e w' ⟨rfl, rfl⟩)
    | (go_at_call 64; refine (impl_newGrid _ _ _ (by omega) (by omega)).mono ?_; rintro e w1 ⟨u, rfl, hu, hb⟩))
  obtain ⟨n1, hn1⟩ : ∃ n, n = w1.heap.size := ⟨_, rfl⟩
  rw [← hn1] at hu
  have hr1 := hr.new hb
  clear hr hrow0 hc0
  go_loopw [20] (fun i wr => ∃ (k : Nat) (G : List (List Int)), k ≤ g.length ∧ i = .int .i64 k ∧ OwG wr w.heap.size n1 50 3 u G ∧ Hid (Prog G (hd g).length g.length S F k 0) ∧ RdG wr a w.heap.size (.slice (some ⟨b0, o0, none⟩) g.length c) g ∧ Below w.heap.size w wr ∧ Hid (wr.heap.size = n1)) (fun i _ => g.length - (intOf i).toNat)
  case atStart => exact ⟨0, _, Nat.zero_le _, rfl, hu, Lib.hid (Prog.start _ _ _ _), hr1, hb, Lib.hid hn1.symm⟩
  case round =>
    clear hu hr1 hb hn1
    obtain ⟨k, G, hk, rfl, hu, HP, hr, hb, Hsz⟩ := hrel
    by_cases hlt : k < g.length
    · obtain ⟨r, hx, hrl⟩ := shape_row Sh.out hlt
      obtain ⟨A1, c1, hc1, t1, t2, hrow⟩ := hr.row hx
      have Hx := Lib.hid hx; clear hx
      have hkr : (k : Int) < (g.length : Int) := by omega
      obtain ⟨b1, o1, rfl, _, _⟩ := hrow.some_ (by omega)
      go_wp2_with fail
      go_loopw [27] (fun i wr => ∃ (j : Nat) (G : List (List Int)), j ≤ r.length ∧ i = .int .i64 j ∧ OwG wr w.heap.size n1 50 3 u G ∧ Hid (Prog G (hd g).length g.length S F k j) ∧ RdG wr a w.heap.size (.slice (some ⟨b0, o0, none⟩) g.length c) g ∧ RdI wr a w.heap.size (.slice (some ⟨b1, o1, none⟩) r.length c1) r ∧ Below w.heap.size w wr ∧ Hid (wr.heap.size = n1)) (fun i _ => r.length - (intOf i).toNat)
      case atStart => exact ⟨0, _, Nat.zero_le _, rfl, hu, HP, hr, hrow, hb, Hsz⟩
      case round =>
        clear hu hr hb hrow hc1
        obtain ⟨j, G, hj, rfl, hu, HP, hr, hrow, hb, Hsz⟩ := hrel
        by_cases hlt2 : j < r.length
        · obtain ⟨z, hz⟩ := get_of_lt r j hlt2
          have hzc := cellN_get Hx.out hz
          obtain ⟨y1, y2⟩ := img_cell01 G1.out (y := k) (x := j) hlt (by omega)
          rw [hzc] at y1 y2
          have hcz := hrow.cell hz
          have Hz := Lib.hid hzc; clear hzc hz
          obtain ⟨bb, cap, cc, ccap, rfl, p1, p2, p3, p4, p5, p6, p7, p8, p9, p10⟩ := hu.poke RI HP.out.1 (y := j) (x := k) (by omega) (by omega)
          have i1 : (j : Int) < (r.length : Int) := by omega
          have i2 : ((j : Nat) : Int) < (((hd g).length : Nat) : Int) := by omega
          have i3 : ((k : Nat) : Int) < ((g.length : Nat) : Int) := by omega
          go_wp2_with fail
          go_roundw
          case rel =>
            refine ⟨j + 1, _, by omega, by go_num, p10.out _, Lib.hid (HP.out.step (by omega) (by omega) ?_ ?_ ?_), hr.far p8 _, hrow.far p8 _, hb.setCell p8 _, Lib.hid (by rw [setCell_size]; exact Hsz.out)⟩
            · rw [HS.out]; try (ext <;> (simp <;> (try omega)))
            · intro y x h1 h2 h3; rw [HS.out] at h3; simp only [Prod.mk.injEq] at h3; omega
            · rw [HF.out]; exact Hz.out.symm
          case measure => simp [intOf]; omega
        · have e : j = r.length := by omega
          go_wp2_with fail
          go_roundw
          case rel => exact ⟨k + 1, _, by omega, by go_num, hu, Lib.hid (HP.out.next (fun y x h1 h2 => by rw [HS.out]; simp only []; omega)), hr, hb, Hsz⟩
          case measure => simp [intOf]; omega
    · go_wp2_with fail
      go_ret
      exact ⟨_, rfl, by rw [GD.out, ← HP.out.fin (fun y x h1 h2 => by rw [HS.out]; simp only []; omega)]; exact hu.mono (Nat.le_refl _) (by rw [Hsz.out]; exact Nat.le_refl _), hb⟩

set_option maxRecDepth 100000 in
set_option maxHeartbeats 1000000 in
theorem spec_TransposeOf (g : List (List Int)) (v : Value) (w : World) (a b : Nat) (hr : RdG w a b v g) :
    Calls Try.prog 67 #[v] w (RetG w (transR g)) := by
  obtain ⟨A, c, rfl, h1, h2⟩ := hr.form
  replace hr := hr.clip
  by_cases g1 : imgOk g = true
  rotate_left
  · have GD : Hid (transR g = []) := Lib.hid (ifImg_no g1)
    have g1 : imgOk g = false := by simpa using g1
    go_enter Try.func67, Try.ntmps67
    go_wp2_with (go_at_call 50; refine (spec_ImageOk _ _ _ _ _ hr).mono ?_; rintro e w' ⟨rfl, rfl⟩)
    go_ret
    exact RetG_nil GD.out
  obtain ⟨l1, l2, l3, l4, _⟩ := imgOk_in g1
  have Sh := Lib.hid (img_shape g1)
  obtain ⟨S, hS⟩ : ∃ S : Nat → Nat → Nat × Nat, S = fun y x => (x, y) := ⟨_, rfl⟩
  obtain ⟨F, hF⟩ : ∃ F : Nat → Nat → Int, F = fun y x => cellN g x y := ⟨_, rfl⟩
  have HS := Lib.hid hS; clear hS
  have GD : Hid (transR g = mkG (hd g).length g.length F) := Lib.hid (by rw [hF]; exact ifImg_yes g1)
  have HF := Lib.hid hF; clear hF
  have G1 := Lib.hid g1
  obtain ⟨b0, o0, rfl, _, _⟩ := hr.some_ (by omega)
  obtain ⟨A0, c0, hc0, q1, q2, hrow0⟩ := hr.row0 (hd_get (by omega))
  have hpos : (0 : Int) < (g.length : Int) := by omega
  go_enter Try.func67, Try.ntmps67
  go_wp2_with (first
    | (go_at_call 50; refine (spec_ImageOk _ _ _ _ _ hr).mono ?_; rintro e w' ⟨rfl, rfl⟩)
    | (go_at_call 48; refine (spec_l02Empty _ _ _ (by omega) (by omega)).mono ?_; rintro e w1 ⟨u, rfl, hu, hb⟩))
  obtain ⟨n1, hn1⟩ : ∃ n, n = w1.heap.size := ⟨_, rfl⟩
  rw [← hn1] at hu
  have hr1 := hr.new hb
  clear hr hrow0 hc0
  go_loopw [20] (fun i wr => ∃ (k : Nat) (G : List (List Int)), k ≤ g.length ∧ i = .int .i64 k ∧ OwG wr w.heap.size n1 50 3 u G ∧ Hid (Prog G (hd g).length g.length S F k 0) ∧ RdG wr a w.heap.size (.slice (some ⟨b0, o0, none⟩) g.length c) g ∧ Below w.heap.size w wr ∧ Hid (wr.heap.size = n1)) (fun i _ => g.length - (intOf i).toNat)
  case atStart => exact ⟨0, _, Nat.zero_le _, rfl, hu, Lib.hid (Prog.start _ _ _ _), hr1, hb, Lib.hid hn1.symm⟩
  case round =>
    clear hu hr1 hb hn1
    obtain ⟨k, G, hk, rfl, hu, HP, hr, hb, Hsz⟩ := hrel
    by_cases hlt : k < g.length
    · obtain ⟨r, hx, hrl⟩ := shape_row Sh.out hlt
      obtain ⟨A1, c1, hc1, t1, t2, hrow⟩ := hr.row hx
      have Hx := Lib.hid hx; clear hx
      have hkr : (k : Int) < (g.length : Int) := by omega
      obtain ⟨b1, o1, rfl, _, _⟩ := hrow.some_ (by omega)
      go_wp2_with fail
      go_loopw [27] (fun i wr => ∃ (j : Nat) (G : List (List Int)), j ≤ r.length ∧ i = .int .i64 j ∧ OwG wr w.heap.size n1 50 3 u G ∧ Hid (Prog G (hd g).length g.length S F k j) ∧ RdG wr a w.heap.size (.slice (some ⟨b0, o0, none⟩) g.length c) g ∧ RdI wr a w.heap.size (.slice (some ⟨b1, o1, none⟩) r.length c1) r ∧ Below w.heap.size w wr ∧ Hid (wr.heap.size = n1)) (fun i _ => r.length - (intOf i).toNat)
      case atStart => exact ⟨0, _, Nat.zero_le _, rfl, hu, HP, hr, hrow, hb, Hsz⟩
      case round =>
        clear hu hr hb hrow hc1
        obtain ⟨j, G, hj, rfl, hu, HP, hr, hrow, hb, Hsz⟩ := hrel
        by_cases hlt2 : j < r.length
        · obtain ⟨z, hz⟩ := get_of_lt r j hlt2
          have hzc := cellN_get Hx.out hz
          obtain ⟨y1, y2⟩ := img_cell01 G1.out (y := k) (x := j) hlt (by omega)
          rw [hzc] at y1 y2
          have hcz := hrow.cell hz
          have Hz := Lib.hid hzc; clear hzc hz
          obtain ⟨bb, cap, cc, ccap, rfl, p1, p2, p3, p4, p5, p6, p7, p8, p9, p10⟩ := hu.poke RI HP.out.1 (y := j) (x := k) (by omega) (by omega)
          have i1 : (j : Int) < (r.length : Int) := by omega
          have i2 : ((j : Nat) : Int) < (((hd g).length : Nat) : Int) := by omega
          have i3 : ((k : Nat) : Int) < ((g.length : Nat) : Int) := by omega
          go_wp2_with fail
          go_roundw
          case rel =>
            refine ⟨j + 1, _, by omega, by go_num, p10.out _, Lib.hid (HP.out.step (by omega) (by omega) ?_ ?_ ?_), hr.far p8 _, hrow.far p8 _, hb.setCell p8 _, Lib.hid (by rw [setCell_size]; exact Hsz.out)⟩
            · rw [HS.out]; try (ext <;> (simp <;> (try omega)))
            · intro y x h1 h2 h3; rw [HS.out] at h3; simp only [Prod.mk.injEq] at h3; omega
            · rw [HF.out]; exact Hz.out.symm
          case measure => simp [intOf]; omega
        · have e : j = r.length := by omega
          go_wp2_with fail
          go_roundw
          case rel => exact ⟨k + 1, _, by omega, by go_num, hu, Lib.hid (HP.out.next (fun y x h1 h2 => by rw [HS.out]; simp only []; omega)), hr, hb, Hsz⟩
          case measure => simp [intOf]; omega
    · go_wp2_with fail
      go_ret
      exact ⟨_, rfl, by rw [GD.out, ← HP.out.fin (fun y x h1 h2 => by rw [HS.out]; simp only []; omega)]; exact hu.mono (Nat.le_refl _) (by rw [Hsz.out]; exact Nat.le_refl _), hb⟩

end Go.Proofs.Ytpjlgcohafbbdaa
