/- The walk of the law LineSums. -/
import Derived.Test.YtdgkiebgmhcmdaaProg
import Derived.Test.YtdgkiebgmhcmdaaW1
import Derived.Test.YtdgkiebgmhcmdaaW3
import Derived.Test.YtdgkiebgmhcmdaaW4
import Derived.Test.YtdgkiebgmhcmdaaW6
import Derived.Test.YtdgkiebgmhcmdaaW8
import Derived.Test.YtdgkiebgmhcmdaaW9
import Derived.Test.YtdgkiebgmhcmdaaW10
import Derived.Test.YtdgkiebgmhcmdaaW2
import Derived.Test.YtdgkiebgmhcmdaaW28
import Derived.Test.YtdgkiebgmhcmdaaMem
import Derived.WalkKit
import Derived.WalkSpells
import Derived.WalkLawsBesides
import Derived.KernelRfl
import Derived.Lib.Hide
import Derived.Deep.RegionHeld3
namespace Go.Proofs.Ytdgkiebgmhcmdaa
open Go.RowKit
set_option linter.unusedVariables false
set_option linter.unusedSimpArgs false

theorem RdG.drew2 {w : World} {lo hi : Nat} {v : Value} {g : List (List Int)} (h : RdG w lo hi v g) : RdG w.drew lo hi v g := h
theorem OwG.drew2 {w : World} {lo hi : Nat} {T I : TypeId} {v : Value} {g : List (List Int)} (h : OwG w lo hi T I v g) : OwG w.drew lo hi T I v g := h
theorem Ow.drew2 {w : World} {lo hi : Nat} {T : TypeId} {v : Value} {xs : List Value} (h : Ow w lo hi T v xs) : Ow w.drew lo hi T v xs := h
theorem lineSumsR_len (g : List (List Int)) (a b : Int) : (lineSumsR g a b).length ≤ 100 := by
  unfold lineSumsR
  split
  · rename_i h
    obtain ⟨l1, l2, l3, l4, _⟩ := imgOk_in h.1
    have hlf : linesF g.length (hd g).length a b = true := by
      simp only [linesF, sizeOk, inB, h.2, Bool.and_true, Bool.and_eq_true, decide_eq_true_eq]; omega
    have := count_bd hlf
    rw [lsAll_len]; omega
  · simp

set_option maxRecDepth 100000 in
set_option maxHeartbeats 2000000 in
theorem fnExactLineSums_walk (vp : Value) (p : List (List Int)) (sx sy : Int) (w : World) (hp : RdG w 0 w.heap.size vp p) (hs : (Lit.int .i64 sx).wf = true ∧ (Lit.int .i64 sy).wf = true) :
    Calls Try.prog 8 #[vp, .agg #[.int .i64 sx, .int .i64 sy]] w fun e w' => e = .returned (.bool true) ∧ Below w.heap.size w w' := by
  clear hs
  have Er := eqI_self (lineSumsR p sx sy)
  have Hr := heldF_mark (lineSumsR p sx sy).length 1
  have lr : (lineSumsR p sx sy).length ≤ 100 := lineSumsR_len _ _ _
  obtain ⟨Ap, kp, rfl, _, _⟩ := hp.form
  obtain ⟨qp, hqp⟩ : ∃ q, q = szG p 1048576 := ⟨_, rfl⟩
  have cp := szG_cases p 1048576 (by omega)
  rw [← hqp] at cp
  have Hqp := Lib.hid hqp; clear hqp
  rcases cp with cp | ⟨cp, dp, Shp⟩
  · have np : qp < 0 := by omega
    clear cp
    go_enter Try.func8, Try.ntmps8
    go_wp2_with fail
    refine (szIntSS_walk _ _ _ _ _ _ (hp.new (al1 _)) (by omega) (by omega)).mono ?_
    rw [← Hqp.out]
    rintro e wx ⟨rfl, rfl⟩
    go_wp2_with fail
    go_ret
    exact ⟨rfl, al1 _⟩
  have np : ¬ qp < 0 := by omega
  have HSp := Lib.hid Shp; clear Shp
  have tp2 : total p ≤ 1048576 := sz_total Hqp.out (by omega) (by omega)
  have Ep := eqG_self p
  go_enter Try.func8, Try.ntmps8
  go_wp2_with fail
  refine (szIntSS_walk _ _ _ _ _ _ (hp.new (al1 _)) (by omega) (by omega)).mono ?_
  rw [← Hqp.out]
  rintro e wx ⟨rfl, rfl⟩
  generalize hwb : World.alloc w _ = wb
  have B0 : Below w.heap.size w wb := by rw [← hwb]; exact al1 _
  have e0 : wb.cell? ⟨w.heap.size, 0, none⟩ = some (.int .i64 sx) := by rw [← hwb]; simp
  have e1 : wb.cell? ⟨w.heap.size, 1, none⟩ = some (.int .i64 sy) := by rw [← hwb]; simp
  have z0 : w.heap.size < wb.heap.size := by rw [← hwb]; simp
  replace hp := hp.new B0
  clear hwb
  go_wp2_with fail
  go_region_held3 (fun w' => w'.cell? ⟨w.heap.size, 0, none⟩ = some (.int .i64 sx) ∧ w'.cell? ⟨w.heap.size, 1, none⟩ = some (.int .i64 sy)) (go_keep)
    (first
    | (go_at_call 17
       replace hp := hp.drew2
       replace B0 := B0.drew
       replace e0 : wb.drew.cell? ⟨w.heap.size, 0, none⟩ = some (.int .i64 sx) := e0
       replace e1 : wb.drew.cell? ⟨w.heap.size, 1, none⟩ = some (.int .i64 sy) := e1
       replace z0 : w.heap.size < wb.drew.heap.size := by show w.heap.size < wb.heap.size; omega
       refine (toIntSS_walk _ _ _ _ _ hp HSp.out).mono ?_
       rintro e w1 ⟨t1, rfl, ot1, b1⟩
       have s1 := b1.size
       replace hp := hp.new b1
       replace B0 := B0.trans (b1.mono (by omega))
       replace e0 := ((bcell b1).1 _ _ (by omega)).trans e0
       replace e1 := ((bcell b1).1 _ _ (by omega)).trans e1)
    | (go_at_call 35
       refine (toDirection_walk _ _ _).mono ?_
       rintro e w2 ⟨rfl, b2⟩
       have s2 := b2.size
       replace hp := hp.new b2
       replace ot1 := ot1.new b2
       replace B0 := B0.trans (b2.mono (by omega))
       replace e0 := ((bcell b2).1 _ _ (by omega)).trans e0
       replace e1 := ((bcell b2).1 _ _ (by omega)).trans e1)
    | (go_at_call 34
       refine (spec_LineSums _ _ _ _ _ _ _ ot1.rd).mono ?_
       rintro e w3 ⟨r0, rfl, or0, b3⟩
       have s3 := b3.size
       replace hp := hp.new b3
       replace ot1 := ot1.new b3
       replace B0 := B0.trans (b3.mono (by omega))
       replace e0 := ((bcell b3).1 _ _ (by omega)).trans e0
       replace e1 := ((bcell b3).1 _ _ (by omega)).trans e1))
  clear ot1
  go_wp2_with fail
  refine (toIntSS_walk _ _ _ _ _ hp HSp.out).mono ?_
  rintro e w4 ⟨x0, rfl, ox0, b4⟩
  have s4 := b4.size
  replace hp := hp.new b4
  replace or0 := or0.new b4
  replace B0 := B0.trans (b4.mono (by omega))
  replace e0 := ((bcell b4).1 _ _ (by omega)).trans e0
  replace e1 := ((bcell b4).1 _ _ (by omega)).trans e1
  go_wp2_with fail
  refine (toDirection_walk _ _ _).mono ?_
  rintro e w5 ⟨rfl, b5⟩
  have s5 := b5.size
  replace hp := hp.new b5
  replace or0 := or0.new b5
  replace ox0 := ox0.new b5
  replace B0 := B0.trans (b5.mono (by omega))
  replace e0 := ((bcell b5).1 _ _ (by omega)).trans e0
  replace e1 := ((bcell b5).1 _ _ (by omega)).trans e1
  go_wp2_with fail
  refine (impl_LineSums _ _ _ _ _ _ _ ox0.rd).mono ?_
  rintro e w6 ⟨g0, rfl, og0, b6⟩
  have s6 := b6.size
  replace hp := hp.new b6
  replace or0 := or0.new b6
  replace ox0 := ox0.new b6
  replace B0 := B0.trans (b6.mono (by omega))
  replace e0 := ((bcell b6).1 _ _ (by omega)).trans e0
  replace e1 := ((bcell b6).1 _ _ (by omega)).trans e1
  go_wp2_with fail
  refine (eqIntS_b _ _ _ _ _ _ _ _ _ og0.rdI or0.rdI).mono ?_
  rintro e w7 ⟨rfl, b7⟩
  have s7 := b7.size
  replace hp := hp.new b7
  replace or0 := or0.new b7
  replace ox0 := ox0.new b7
  replace og0 := og0.new b7
  replace B0 := B0.trans (b7.mono (by omega))
  replace e0 := ((bcell b7).1 _ _ (by omega)).trans e0
  replace e1 := ((bcell b7).1 _ _ (by omega)).trans e1
  go_wp2_with fail
  refine (toIntSS_walk _ _ _ _ _ hp HSp.out).mono ?_
  rintro e w8 ⟨t3, rfl, ot3, b8⟩
  have s8 := b8.size
  replace hp := hp.new b8
  replace or0 := or0.new b8
  replace ox0 := ox0.new b8
  replace og0 := og0.new b8
  replace B0 := B0.trans (b8.mono (by omega))
  replace e0 := ((bcell b8).1 _ _ (by omega)).trans e0
  replace e1 := ((bcell b8).1 _ _ (by omega)).trans e1
  go_wp2_with fail
  refine (eqIntSS_b _ _ _ _ _ _ _ _ _ ox0.rd ot3.rd).mono ?_
  rintro e w9 ⟨rfl, b9⟩
  have s9 := b9.size
  replace hp := hp.new b9
  replace or0 := or0.new b9
  replace ox0 := ox0.new b9
  replace og0 := og0.new b9
  replace ot3 := ot3.new b9
  replace B0 := B0.trans (b9.mono (by omega))
  replace e0 := ((bcell b9).1 _ _ (by omega)).trans e0
  replace e1 := ((bcell b9).1 _ _ (by omega)).trans e1
  clear ot3
  go_wp2_with fail
  refine (markIntSS_walk _ _ _ _ _ _ ox0 (by omega) (by omega) (by omega)).mono ?_
  rintro e w10 ⟨rfl, mox0, b10⟩
  have s10 := b10.size
  replace hp := hp.chg b10 (by omega)
  replace or0 := or0.chg b10 (by omega)
  replace og0 := og0.chg b10 (by omega)
  clear ox0
  have ox0 := mox0; clear mox0
  replace B0 := B0.trans (b10.below (by omega) (by omega))
  replace e0 := ((b10).below (B := w.heap.size + 1) (by omega) (by omega)).cell (p := ⟨w.heap.size, 0, none⟩) (Nat.lt_succ_self _) |>.trans e0
  replace e1 := ((b10).below (B := w.heap.size + 1) (by omega) (by omega)).cell (p := ⟨w.heap.size, 1, none⟩) (Nat.lt_succ_self _) |>.trans e1
  go_wp2_with fail
  refine (eqIntS_b _ _ _ _ _ _ _ _ _ og0.rdI or0.rdI).mono ?_
  rintro e w11 ⟨rfl, b11⟩
  have s11 := b11.size
  replace hp := hp.new b11
  replace or0 := or0.new b11
  replace ox0 := ox0.new b11
  replace og0 := og0.new b11
  replace B0 := B0.trans (b11.mono (by omega))
  replace e0 := ((bcell b11).1 _ _ (by omega)).trans e0
  replace e1 := ((bcell b11).1 _ _ (by omega)).trans e1
  go_wp2_with fail
  refine (markIntS_c _ _ _ _ _ _ og0 (by omega) (by omega) (by omega)).mono ?_
  rintro e w12 ⟨rfl, mog0, b12⟩
  have s12 := b12.size
  replace hp := hp.chg b12 (by omega)
  replace or0 := or0.chg b12 (by omega)
  replace ox0 := ox0.chg b12 (by omega)
  clear og0
  have og0 := mog0; clear mog0
  replace B0 := B0.trans (b12.below (by omega) (by omega))
  replace e0 := ((b12).below (B := w.heap.size + 1) (by omega) (by omega)).cell (p := ⟨w.heap.size, 0, none⟩) (Nat.lt_succ_self _) |>.trans e0
  replace e1 := ((b12).below (B := w.heap.size + 1) (by omega) (by omega)).cell (p := ⟨w.heap.size, 1, none⟩) (Nat.lt_succ_self _) |>.trans e1
  go_wp2_with fail
  refine (heldIntS_walk _ _ _ _ _ _ og0.rdI (by rw [markL_len]; omega) (by omega) (by omega)).mono ?_
  rintro e wx ⟨rfl, rfl⟩
  go_wp2_with fail
  go_region_held3 (fun w' => w'.cell? ⟨w.heap.size, 0, none⟩ = some (.int .i64 sx) ∧ w'.cell? ⟨w.heap.size, 1, none⟩ = some (.int .i64 sy)) (go_keep)
    (first
    | (go_at_call 17
       replace hp := hp.drew2
       replace or0 := or0.drew2
       replace ox0 := ox0.drew2
       replace og0 := og0.drew2
       replace B0 := B0.drew
       replace e0 : w12.drew.cell? ⟨w.heap.size, 0, none⟩ = some (.int .i64 sx) := e0
       replace e1 : w12.drew.cell? ⟨w.heap.size, 1, none⟩ = some (.int .i64 sy) := e1
       replace z0 : w.heap.size < w12.drew.heap.size := by show w.heap.size < w12.heap.size; omega
       refine (toIntSS_walk _ _ _ _ _ hp HSp.out).mono ?_
       rintro e w13 ⟨t5, rfl, ot5, b13⟩
       have s13 := b13.size
       replace hp := hp.new b13
       replace or0 := or0.new b13
       replace ox0 := ox0.new b13
       replace og0 := og0.new b13
       replace B0 := B0.trans (b13.mono (by omega))
       replace e0 := ((bcell b13).1 _ _ (by omega)).trans e0
       replace e1 := ((bcell b13).1 _ _ (by omega)).trans e1)
    | (go_at_call 35
       refine (toDirection_walk _ _ _).mono ?_
       rintro e w14 ⟨rfl, b14⟩
       have s14 := b14.size
       replace hp := hp.new b14
       replace or0 := or0.new b14
       replace ox0 := ox0.new b14
       replace og0 := og0.new b14
       replace ot5 := ot5.new b14
       replace B0 := B0.trans (b14.mono (by omega))
       replace e0 := ((bcell b14).1 _ _ (by omega)).trans e0
       replace e1 := ((bcell b14).1 _ _ (by omega)).trans e1)
    | (go_at_call 36
       refine (impl_LineSums _ _ _ _ _ _ _ ot5.rd).mono ?_
       rintro e w15 ⟨h0, rfl, oh0, b15⟩
       have s15 := b15.size
       replace hp := hp.new b15
       replace or0 := or0.new b15
       replace ox0 := ox0.new b15
       replace og0 := og0.new b15
       replace ot5 := ot5.new b15
       replace B0 := B0.trans (b15.mono (by omega))
       replace e0 := ((bcell b15).1 _ _ (by omega)).trans e0
       replace e1 := ((bcell b15).1 _ _ (by omega)).trans e1))
  go_wp2_with fail
  refine (eqIntS_b _ _ _ _ _ _ _ _ _ oh0.rdI or0.rdI).mono ?_
  rintro e w16 ⟨rfl, b16⟩
  have s16 := b16.size
  replace hp := hp.new b16
  replace or0 := or0.new b16
  replace ox0 := ox0.new b16
  replace og0 := og0.new b16
  replace ot5 := ot5.new b16
  replace oh0 := oh0.new b16
  replace B0 := B0.trans (b16.mono (by omega))
  replace e0 := ((bcell b16).1 _ _ (by omega)).trans e0
  replace e1 := ((bcell b16).1 _ _ (by omega)).trans e1
  go_wp2_with fail
  refine (heldIntS_walk _ _ _ _ _ _ og0.rdI (by rw [markL_len]; omega) (by omega) (by omega)).mono ?_
  rintro e wx ⟨rfl, rfl⟩
  go_wp2_with fail
  go_ret
  exact ⟨rfl, B0⟩
end Go.Proofs.Ytdgkiebgmhcmdaa
