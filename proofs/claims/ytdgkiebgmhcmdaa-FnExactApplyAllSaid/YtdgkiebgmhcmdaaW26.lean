/- The walk of the law ApplySwitch. -/
import Derived.Test.YtdgkiebgmhcmdaaProg
import Derived.Test.YtdgkiebgmhcmdaaW1
import Derived.Test.YtdgkiebgmhcmdaaW3
import Derived.Test.YtdgkiebgmhcmdaaW4
import Derived.Test.YtdgkiebgmhcmdaaW6
import Derived.Test.YtdgkiebgmhcmdaaW8
import Derived.Test.YtdgkiebgmhcmdaaW9
import Derived.Test.YtdgkiebgmhcmdaaW10
import Derived.Test.YtdgkiebgmhcmdaaPoke
import Derived.Test.YtdgkiebgmhcmdaaW16
import Derived.Test.YtdgkiebgmhcmdaaW18
import Derived.Test.YtdgkiebgmhcmdaaW21
import Derived.Test.YtdgkiebgmhcmdaaW22
import Derived.Test.YtdgkiebgmhcmdaaW25
import Derived.Test.YtdgkiebgmhcmdaaMem
import Derived.WalkKit
import Derived.WalkSpells
import Derived.WalkLawsBesides
import Derived.KernelRfl
import Derived.Lib.Hide
import Derived.Deep.RegionHeld3
namespace Go.Proofs.Ytdgkiebgmhcmdaa
open Go.RowKit
set_option linter.unusedVariables false
set_option linter.unusedSimpArgs false

theorem flips_total {g : List (List Int)} {y1 y2 x1 x2 : Nat} : ∀ n, total (flips g y1 y2 x1 x2 n) = total g
  | 0 => rfl
  | n + 1 => by rw [flips, set_total, flips_total n]
theorem swR_total (g : List (List Int)) (a b c d : Int) : total (swR g a b c d) ≤ 25 := by
  unfold swR
  split
  · rename_i h
    rw [flips_total]
    exact short_total (hasF_in (swOk_in h).1).1
  · simp [total]

set_option maxRecDepth 100000 in
set_option maxHeartbeats 2000000 in
theorem fnExactApplySwitch_walk (vp : Value) (p : List (List Int)) (sw sx sy sz : Int) (w : World) (hp : RdG w 0 w.heap.size vp p) (hs : (Lit.int .i64 sw).wf = true ∧ (Lit.int .i64 sx).wf = true ∧ (Lit.int .i64 sy).wf = true ∧ (Lit.int .i64 sz).wf = true) :
    Calls Try.prog 7 #[vp, .agg #[.int .i64 sw, .int .i64 sx, .int .i64 sy, .int .i64 sz]] w fun e w' => e = .returned (.bool true) ∧ Below w.heap.size w w' := by
  clear hs
  have Er := eqG_self (swR p sw sx sy sz)
  have Hr := heldG_mark (swR p sw sx sy sz) 1
  have lr : total (swR p sw sx sy sz) ≤ 25 := swR_total _ _ _ _ _
  have eb : ((swOk p sw sx sy sz) != (swOk p sw sx sy sz)) = false := by simp
  obtain ⟨Ap, kp, rfl, _, _⟩ := hp.form
  obtain ⟨qp, hqp⟩ : ∃ q, q = szG p 1048576 := ⟨_, rfl⟩
  have cp := szG_cases p 1048576 (by omega)
  rw [← hqp] at cp
  have Hqp := Lib.hid hqp; clear hqp
  rcases cp with cp | ⟨cp, dp, Shp⟩
  · have np : qp < 0 := by omega
    clear cp
    go_enter Try.func7, Try.ntmps7
    go_wp2_with fail
    refine (szIntSS_walk _ _ _ _ _ _ (hp.new (al _)) (by omega) (by omega)).mono ?_
    rw [← Hqp.out]
    rintro e wx ⟨rfl, rfl⟩
    go_wp2_with fail
    go_ret
    exact ⟨rfl, al _⟩
  have np : ¬ qp < 0 := by omega
  have HSp := Lib.hid Shp; clear Shp
  have tp2 : total p ≤ 1048576 := sz_total Hqp.out (by omega) (by omega)
  have Ep := eqG_self p
  go_enter Try.func7, Try.ntmps7
  go_wp2_with fail
  refine (szIntSS_walk _ _ _ _ _ _ (hp.new (al _)) (by omega) (by omega)).mono ?_
  rw [← Hqp.out]
  rintro e wx ⟨rfl, rfl⟩
  generalize hwb : World.alloc w _ = wb
  have B0 : Below w.heap.size w wb := by rw [← hwb]; exact al _
  have e0 : wb.cell? ⟨w.heap.size, 0, none⟩ = some (.int .i64 sw) := by rw [← hwb]; simp
  have e1 : wb.cell? ⟨w.heap.size, 1, none⟩ = some (.int .i64 sx) := by rw [← hwb]; simp
  have e2 : wb.cell? ⟨w.heap.size, 2, none⟩ = some (.int .i64 sy) := by rw [← hwb]; simp
  have e3 : wb.cell? ⟨w.heap.size, 3, none⟩ = some (.int .i64 sz) := by rw [← hwb]; simp
  have z0 : w.heap.size < wb.heap.size := by rw [← hwb]; simp
  replace hp := hp.new B0
  clear hwb
  go_wp2_with fail
  go_region_held3 (fun w' => w'.cell? ⟨w.heap.size, 0, none⟩ = some (.int .i64 sw) ∧ w'.cell? ⟨w.heap.size, 1, none⟩ = some (.int .i64 sx) ∧ w'.cell? ⟨w.heap.size, 2, none⟩ = some (.int .i64 sy) ∧ w'.cell? ⟨w.heap.size, 3, none⟩ = some (.int .i64 sz)) (go_keep)
    (first
    | (go_at_call 17
       replace hp := hp.drew1
       replace B0 := B0.drew
       replace e0 : wb.drew.cell? ⟨w.heap.size, 0, none⟩ = some (.int .i64 sw) := e0
       replace e1 : wb.drew.cell? ⟨w.heap.size, 1, none⟩ = some (.int .i64 sx) := e1
       replace e2 : wb.drew.cell? ⟨w.heap.size, 2, none⟩ = some (.int .i64 sy) := e2
       replace e3 : wb.drew.cell? ⟨w.heap.size, 3, none⟩ = some (.int .i64 sz) := e3
       replace z0 : w.heap.size < wb.drew.heap.size := by show w.heap.size < wb.heap.size; omega
       refine (toIntSS_walk _ _ _ _ _ hp HSp.out).mono ?_
       rintro e w1 ⟨t1, rfl, ot1, b1⟩
       have s1 := b1.size
       replace hp := hp.new b1
       replace B0 := B0.trans (b1.mono (by omega))
       replace e0 := ((bcell b1).1 _ _ (by omega)).trans e0
       replace e1 := ((bcell b1).1 _ _ (by omega)).trans e1
       replace e2 := ((bcell b1).1 _ _ (by omega)).trans e2
       replace e3 := ((bcell b1).1 _ _ (by omega)).trans e3)
    | (go_at_call 32
       refine (toSwitch_walk _ _ _ _ _).mono ?_
       rintro e w2 ⟨rfl, b2⟩
       have s2 := b2.size
       replace hp := hp.new b2
       replace ot1 := ot1.new b2
       replace B0 := B0.trans (b2.mono (by omega))
       replace e0 := ((bcell b2).1 _ _ (by omega)).trans e0
       replace e1 := ((bcell b2).1 _ _ (by omega)).trans e1
       replace e2 := ((bcell b2).1 _ _ (by omega)).trans e2
       replace e3 := ((bcell b2).1 _ _ (by omega)).trans e3)
    | (go_at_call 31
       refine (spec_ApplySwitch _ _ _ _ _ _ _ _ _ ot1.rd).mono ?_
       rintro e w3 ⟨r0, rfl, or0, b3⟩
       have s3 := b3.size
       replace hp := hp.new b3
       replace ot1 := ot1.new b3
       replace B0 := B0.trans (b3.mono (by omega))
       replace e0 := ((bcell b3).1 _ _ (by omega)).trans e0
       replace e1 := ((bcell b3).1 _ _ (by omega)).trans e1
       replace e2 := ((bcell b3).1 _ _ (by omega)).trans e2
       replace e3 := ((bcell b3).1 _ _ (by omega)).trans e3))
  clear ot1
  go_wp2_with fail
  refine (toIntSS_walk _ _ _ _ _ hp HSp.out).mono ?_
  rintro e w4 ⟨x0, rfl, ox0, b4⟩
  have s4 := b4.size
  replace hp := hp.new b4
  replace or0 := or0.new b4
  replace B0 := B0.trans (b4.mono (by omega))
  replace e0 := ((bcell b4).1 _ _ (by omega)).trans e0
  replace e1 := ((bcell b4).1 _ _ (by omega)).trans e1
  replace e2 := ((bcell b4).1 _ _ (by omega)).trans e2
  replace e3 := ((bcell b4).1 _ _ (by omega)).trans e3
  go_wp2_with fail
  refine (toSwitch_walk _ _ _ _ _).mono ?_
  rintro e w5 ⟨rfl, b5⟩
  have s5 := b5.size
  replace hp := hp.new b5
  replace or0 := or0.new b5
  replace ox0 := ox0.new b5
  replace B0 := B0.trans (b5.mono (by omega))
  replace e0 := ((bcell b5).1 _ _ (by omega)).trans e0
  replace e1 := ((bcell b5).1 _ _ (by omega)).trans e1
  replace e2 := ((bcell b5).1 _ _ (by omega)).trans e2
  replace e3 := ((bcell b5).1 _ _ (by omega)).trans e3
  go_wp2_with fail
  refine (impl_ApplySwitch _ _ _ _ _ _ _ _ _ ox0.rd).mono ?_
  rintro e w6 ⟨g0, rfl, og0, b6⟩
  have s6 := b6.size
  replace hp := hp.new b6
  replace or0 := or0.new b6
  replace ox0 := ox0.new b6
  replace B0 := B0.trans (b6.mono (by omega))
  replace e0 := ((bcell b6).1 _ _ (by omega)).trans e0
  replace e1 := ((bcell b6).1 _ _ (by omega)).trans e1
  replace e2 := ((bcell b6).1 _ _ (by omega)).trans e2
  replace e3 := ((bcell b6).1 _ _ (by omega)).trans e3
  go_wp2_with fail
  refine (eqIntSS_b _ _ _ _ _ _ _ _ _ og0.rd or0.rd).mono ?_
  rintro e w7 ⟨rfl, b7⟩
  have s7 := b7.size
  replace hp := hp.new b7
  replace or0 := or0.new b7
  replace ox0 := ox0.new b7
  replace og0 := og0.new b7
  replace B0 := B0.trans (b7.mono (by omega))
  replace e0 := ((bcell b7).1 _ _ (by omega)).trans e0
  replace e1 := ((bcell b7).1 _ _ (by omega)).trans e1
  replace e2 := ((bcell b7).1 _ _ (by omega)).trans e2
  replace e3 := ((bcell b7).1 _ _ (by omega)).trans e3
  go_wp2_with fail
  refine (toIntSS_walk _ _ _ _ _ hp HSp.out).mono ?_
  rintro e w8 ⟨t3, rfl, ot3, b8⟩
  have s8 := b8.size
  replace hp := hp.new b8
  replace or0 := or0.new b8
  replace ox0 := ox0.new b8
  replace og0 := og0.new b8
  replace B0 := B0.trans (b8.mono (by omega))
  replace e0 := ((bcell b8).1 _ _ (by omega)).trans e0
  replace e1 := ((bcell b8).1 _ _ (by omega)).trans e1
  replace e2 := ((bcell b8).1 _ _ (by omega)).trans e2
  replace e3 := ((bcell b8).1 _ _ (by omega)).trans e3
  go_wp2_with fail
  refine (eqIntSS_b _ _ _ _ _ _ _ _ _ ox0.rd ot3.rd).mono ?_
  rintro e w9 ⟨rfl, b9⟩
  have s9 := b9.size
  replace hp := hp.new b9
  replace or0 := or0.new b9
  replace ox0 := ox0.new b9
  replace og0 := og0.new b9
  replace ot3 := ot3.new b9
  replace B0 := B0.trans (b9.mono (by omega))
  replace e0 := ((bcell b9).1 _ _ (by omega)).trans e0
  replace e1 := ((bcell b9).1 _ _ (by omega)).trans e1
  replace e2 := ((bcell b9).1 _ _ (by omega)).trans e2
  replace e3 := ((bcell b9).1 _ _ (by omega)).trans e3
  clear ot3
  go_wp2_with fail
  refine (markIntSS_walk _ _ _ _ _ _ ox0 (by omega) (by omega) (by omega)).mono ?_
  rintro e w10 ⟨rfl, mox0, b10⟩
  have s10 := b10.size
  replace hp := hp.chg b10 (by omega)
  replace or0 := or0.chg b10 (by omega)
  replace og0 := og0.chg b10 (by omega)
  clear ox0
  have ox0 := mox0; clear mox0
  replace B0 := B0.trans (b10.below (by omega) (by omega))
  replace e0 := ((b10).below (B := w.heap.size + 1) (by omega) (by omega)).cell (p := ⟨w.heap.size, 0, none⟩) (Nat.lt_succ_self _) |>.trans e0
  replace e1 := ((b10).below (B := w.heap.size + 1) (by omega) (by omega)).cell (p := ⟨w.heap.size, 1, none⟩) (Nat.lt_succ_self _) |>.trans e1
  replace e2 := ((b10).below (B := w.heap.size + 1) (by omega) (by omega)).cell (p := ⟨w.heap.size, 2, none⟩) (Nat.lt_succ_self _) |>.trans e2
  replace e3 := ((b10).below (B := w.heap.size + 1) (by omega) (by omega)).cell (p := ⟨w.heap.size, 3, none⟩) (Nat.lt_succ_self _) |>.trans e3
  go_wp2_with fail
  refine (eqIntSS_b _ _ _ _ _ _ _ _ _ og0.rd or0.rd).mono ?_
  rintro e w11 ⟨rfl, b11⟩
  have s11 := b11.size
  replace hp := hp.new b11
  replace or0 := or0.new b11
  replace ox0 := ox0.new b11
  replace og0 := og0.new b11
  replace B0 := B0.trans (b11.mono (by omega))
  replace e0 := ((bcell b11).1 _ _ (by omega)).trans e0
  replace e1 := ((bcell b11).1 _ _ (by omega)).trans e1
  replace e2 := ((bcell b11).1 _ _ (by omega)).trans e2
  replace e3 := ((bcell b11).1 _ _ (by omega)).trans e3
  go_wp2_with fail
  refine (markIntSS_walk _ _ _ _ _ _ og0 (by omega) (by omega) (by omega)).mono ?_
  rintro e w12 ⟨rfl, mog0, b12⟩
  have s12 := b12.size
  replace hp := hp.chg b12 (by omega)
  replace or0 := or0.chg b12 (by omega)
  replace ox0 := ox0.chg b12 (by omega)
  clear og0
  have og0 := mog0; clear mog0
  replace B0 := B0.trans (b12.below (by omega) (by omega))
  replace e0 := ((b12).below (B := w.heap.size + 1) (by omega) (by omega)).cell (p := ⟨w.heap.size, 0, none⟩) (Nat.lt_succ_self _) |>.trans e0
  replace e1 := ((b12).below (B := w.heap.size + 1) (by omega) (by omega)).cell (p := ⟨w.heap.size, 1, none⟩) (Nat.lt_succ_self _) |>.trans e1
  replace e2 := ((b12).below (B := w.heap.size + 1) (by omega) (by omega)).cell (p := ⟨w.heap.size, 2, none⟩) (Nat.lt_succ_self _) |>.trans e2
  replace e3 := ((b12).below (B := w.heap.size + 1) (by omega) (by omega)).cell (p := ⟨w.heap.size, 3, none⟩) (Nat.lt_succ_self _) |>.trans e3
  go_wp2_with fail
  refine (heldIntSS_walk _ _ _ _ _ _ og0.rd (by rw [markG_total]; omega) (by omega) (by omega)).mono ?_
  rintro e wx ⟨rfl, rfl⟩
  go_wp2_with fail
  go_region_held3 (fun w' => w'.cell? ⟨w.heap.size, 0, none⟩ = some (.int .i64 sw) ∧ w'.cell? ⟨w.heap.size, 1, none⟩ = some (.int .i64 sx) ∧ w'.cell? ⟨w.heap.size, 2, none⟩ = some (.int .i64 sy) ∧ w'.cell? ⟨w.heap.size, 3, none⟩ = some (.int .i64 sz)) (go_keep)
    (first
    | (go_at_call 17
       replace hp := hp.drew1
       replace or0 := or0.drew1
       replace ox0 := ox0.drew1
       replace og0 := og0.drew1
       replace B0 := B0.drew
       replace e0 : w12.drew.cell? ⟨w.heap.size, 0, none⟩ = some (.int .i64 sw) := e0
       replace e1 : w12.drew.cell? ⟨w.heap.size, 1, none⟩ = some (.int .i64 sx) := e1
       replace e2 : w12.drew.cell? ⟨w.heap.size, 2, none⟩ = some (.int .i64 sy) := e2
       replace e3 : w12.drew.cell? ⟨w.heap.size, 3, none⟩ = some (.int .i64 sz) := e3
       replace z0 : w.heap.size < w12.drew.heap.size := by show w.heap.size < w12.heap.size; omega
       refine (toIntSS_walk _ _ _ _ _ hp HSp.out).mono ?_
       rintro e w13 ⟨t5, rfl, ot5, b13⟩
       have s13 := b13.size
       replace hp := hp.new b13
       replace or0 := or0.new b13
       replace ox0 := ox0.new b13
       replace og0 := og0.new b13
       replace B0 := B0.trans (b13.mono (by omega))
       replace e0 := ((bcell b13).1 _ _ (by omega)).trans e0
       replace e1 := ((bcell b13).1 _ _ (by omega)).trans e1
       replace e2 := ((bcell b13).1 _ _ (by omega)).trans e2
       replace e3 := ((bcell b13).1 _ _ (by omega)).trans e3)
    | (go_at_call 32
       refine (toSwitch_walk _ _ _ _ _).mono ?_
       rintro e w14 ⟨rfl, b14⟩
       have s14 := b14.size
       replace hp := hp.new b14
       replace or0 := or0.new b14
       replace ox0 := ox0.new b14
       replace og0 := og0.new b14
       replace ot5 := ot5.new b14
       replace B0 := B0.trans (b14.mono (by omega))
       replace e0 := ((bcell b14).1 _ _ (by omega)).trans e0
       replace e1 := ((bcell b14).1 _ _ (by omega)).trans e1
       replace e2 := ((bcell b14).1 _ _ (by omega)).trans e2
       replace e3 := ((bcell b14).1 _ _ (by omega)).trans e3)
    | (go_at_call 33
       refine (impl_ApplySwitch _ _ _ _ _ _ _ _ _ ot5.rd).mono ?_
       rintro e w15 ⟨h0, rfl, oh0, b15⟩
       have s15 := b15.size
       replace hp := hp.new b15
       replace or0 := or0.new b15
       replace ox0 := ox0.new b15
       replace og0 := og0.new b15
       replace ot5 := ot5.new b15
       replace B0 := B0.trans (b15.mono (by omega))
       replace e0 := ((bcell b15).1 _ _ (by omega)).trans e0
       replace e1 := ((bcell b15).1 _ _ (by omega)).trans e1
       replace e2 := ((bcell b15).1 _ _ (by omega)).trans e2
       replace e3 := ((bcell b15).1 _ _ (by omega)).trans e3))
  go_wp2_with fail
  refine (eqIntSS_b _ _ _ _ _ _ _ _ _ oh0.rd or0.rd).mono ?_
  rintro e w16 ⟨rfl, b16⟩
  have s16 := b16.size
  replace hp := hp.new b16
  replace or0 := or0.new b16
  replace ox0 := ox0.new b16
  replace og0 := og0.new b16
  replace ot5 := ot5.new b16
  replace oh0 := oh0.new b16
  replace B0 := B0.trans (b16.mono (by omega))
  replace e0 := ((bcell b16).1 _ _ (by omega)).trans e0
  replace e1 := ((bcell b16).1 _ _ (by omega)).trans e1
  replace e2 := ((bcell b16).1 _ _ (by omega)).trans e2
  replace e3 := ((bcell b16).1 _ _ (by omega)).trans e3
  go_wp2_with fail
  refine (heldIntSS_walk _ _ _ _ _ _ og0.rd (by rw [markG_total]; omega) (by omega) (by omega)).mono ?_
  rintro e wx ⟨rfl, rfl⟩
  go_wp2_with fail
  go_ret
  exact ⟨rfl, B0⟩
end Go.Proofs.Ytdgkiebgmhcmdaa
