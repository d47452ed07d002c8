/- The walk of the law SwitchOk. -/
import Derived.Test.YtkhhbkchaellaaaProg
import Derived.Test.YtkhhbkchaellaaaW1
import Derived.Test.YtkhhbkchaellaaaW3
import Derived.Test.YtkhhbkchaellaaaW4
import Derived.Test.YtkhhbkchaellaaaW6
import Derived.Test.YtkhhbkchaellaaaW8
import Derived.Test.YtkhhbkchaellaaaW9
import Derived.Test.YtkhhbkchaellaaaW10
import Derived.Test.YtkhhbkchaellaaaW21
import Derived.Test.YtkhhbkchaellaaaMem
import Derived.WalkKit
import Derived.WalkSpells
import Derived.WalkLawsBesides
import Derived.KernelRfl
import Derived.Lib.Hide
import Derived.Deep.RegionHeld3
namespace Go.Proofs.Ytkhhbkchaellaaa
open Go.RowKit
set_option linter.unusedVariables false
set_option linter.unusedSimpArgs false

theorem RdG.drew1 {w : World} {lo hi : Nat} {v : Value} {g : List (List Int)} (h : RdG w lo hi v g) : RdG w.drew lo hi v g := h
theorem OwG.drew1 {w : World} {lo hi : Nat} {T I : TypeId} {v : Value} {g : List (List Int)} (h : OwG w lo hi T I v g) : OwG w.drew lo hi T I v g := h

set_option maxRecDepth 100000 in
theorem toSwitch_walk (a b c d : Int) (w : World) :
    Calls Try.prog 31 #[.agg #[.int .i64 a, .int .i64 b, .int .i64 c, .int .i64 d]] w fun e w' => e = .returned (.agg #[.int .i64 a, .int .i64 b, .int .i64 c, .int .i64 d]) ∧ Below w.heap.size w w' := by
  go_enter Try.func31, Try.ntmps31
  go_wp2_with fail
  refine bodyPost_ret (v := .agg #[.int .i64 a, .int .i64 b, .int .i64 c, .int .i64 d]) (by simp [results, Try.results31, go_sem]) rfl ⟨rfl, ?_⟩
  exact (((Below.refl _ _).alloc (Nat.le_refl _) _).alloc (by simp) _).alloc (by simp; omega) _

set_option maxRecDepth 100000 in
set_option maxHeartbeats 2000000 in
theorem fnExactSwitchOk_walk (vp : Value) (p : List (List Int)) (sw sx sy sz : Int) (w : World) (hp : RdG w 0 w.heap.size vp p) (hs : (Lit.int .i64 sw).wf = true ∧ (Lit.int .i64 sx).wf = true ∧ (Lit.int .i64 sy).wf = true ∧ (Lit.int .i64 sz).wf = true) :
    Calls Try.prog 8 #[vp, .agg #[.int .i64 sw, .int .i64 sx, .int .i64 sy, .int .i64 sz]] w fun e w' => e = .returned (.bool true) ∧ Below w.heap.size w w' := by
  clear hs
  obtain ⟨Ap, kp, rfl, _, _⟩ := hp.form
  obtain ⟨qp, hqp⟩ : ∃ q, q = szG p 1048576 := ⟨_, rfl⟩
  have cp := szG_cases p 1048576 (by omega)
  rw [← hqp] at cp
  have Hqp := Lib.hid hqp; clear hqp
  rcases cp with cp | ⟨cp, dp, Shp⟩
  · have np : qp < 0 := by omega
    clear cp
    go_enter Try.func8, Try.ntmps8
    go_wp2_with fail
    refine (szIntSS_walk _ _ _ _ _ _ (hp.new (al _)) (by omega) (by omega)).mono ?_
    rw [← Hqp.out]
    rintro e wx ⟨rfl, rfl⟩
    go_wp2_with fail
    go_ret
    exact ⟨rfl, al _⟩
  have np : ¬ qp < 0 := by omega
  have HSp := Lib.hid Shp; clear Shp
  have tp2 : total p ≤ 1048576 := sz_total Hqp.out (by omega) (by omega)
  have Ep := eqG_self p
  go_enter Try.func8, Try.ntmps8
  go_wp2_with fail
  refine (szIntSS_walk _ _ _ _ _ _ (hp.new (al _)) (by omega) (by omega)).mono ?_
  rw [← Hqp.out]
  rintro e wx ⟨rfl, rfl⟩
  generalize hwb : World.alloc w _ = wb
  have B0 : Below w.heap.size w wb := by rw [← hwb]; exact al _
  have e0 : wb.cell? ⟨w.heap.size, 0, none⟩ = some (.int .i64 sw) := by rw [← hwb]; simp
  have e1 : wb.cell? ⟨w.heap.size, 1, none⟩ = some (.int .i64 sx) := by rw [← hwb]; simp
  have e2 : wb.cell? ⟨w.heap.size, 2, none⟩ = some (.int .i64 sy) := by rw [← hwb]; simp
  have e3 : wb.cell? ⟨w.heap.size, 3, none⟩ = some (.int .i64 sz) := by rw [← hwb]; simp
  have z0 : w.heap.size < wb.heap.size := by rw [← hwb]; simp
  replace hp := hp.new B0
  clear hwb
  go_wp2_with fail
  go_region_held3 (fun w' => w'.cell? ⟨w.heap.size, 0, none⟩ = some (.int .i64 sw) ∧ w'.cell? ⟨w.heap.size, 1, none⟩ = some (.int .i64 sx) ∧ w'.cell? ⟨w.heap.size, 2, none⟩ = some (.int .i64 sy) ∧ w'.cell? ⟨w.heap.size, 3, none⟩ = some (.int .i64 sz)) (go_keep)
    (first
    | (go_at_call 22
       replace hp := hp.drew1
       replace B0 := B0.drew
       replace e0 : wb.drew.cell? ⟨w.heap.size, 0, none⟩ = some (.int .i64 sw) := e0
       replace e1 : wb.drew.cell? ⟨w.heap.size, 1, none⟩ = some (.int .i64 sx) := e1
       replace e2 : wb.drew.cell? ⟨w.heap.size, 2, none⟩ = some (.int .i64 sy) := e2
       replace e3 : wb.drew.cell? ⟨w.heap.size, 3, none⟩ = some (.int .i64 sz) := e3
       replace z0 : w.heap.size < wb.drew.heap.size := z0
       refine (toIntSS_walk _ _ _ _ _ hp HSp.out).mono ?_
       rintro e w1 ⟨t1, rfl, ot1, b1⟩
       have s1 := b1.size
       replace hp := hp.new b1
       replace B0 := B0.trans (b1.mono (by omega))
       replace e0 := ((bcell b1).1 _ _ (by omega)).trans e0
       replace e1 := ((bcell b1).1 _ _ (by omega)).trans e1
       replace e2 := ((bcell b1).1 _ _ (by omega)).trans e2
       replace e3 := ((bcell b1).1 _ _ (by omega)).trans e3)
    | (go_at_call 31
       refine (toSwitch_walk _ _ _ _ _).mono ?_
       rintro e w2 ⟨rfl, b2⟩
       have s2 := b2.size
       replace hp := hp.new b2
       replace ot1 := ot1.new b2
       replace B0 := B0.trans (b2.mono (by omega))
       replace e0 := ((bcell b2).1 _ _ (by omega)).trans e0
       replace e1 := ((bcell b2).1 _ _ (by omega)).trans e1
       replace e2 := ((bcell b2).1 _ _ (by omega)).trans e2
       replace e3 := ((bcell b2).1 _ _ (by omega)).trans e3)
    | (go_at_call 30
       refine (spec_SwitchOk _ _ _ _ _ _ _ _ _ ot1.rd).mono ?_
       rintro e w3 ⟨rfl, b3⟩
       have s3 := b3.size
       replace hp := hp.new b3
       replace ot1 := ot1.new b3
       replace B0 := B0.trans (b3.mono (by omega))
       replace e0 := ((bcell b3).1 _ _ (by omega)).trans e0
       replace e1 := ((bcell b3).1 _ _ (by omega)).trans e1
       replace e2 := ((bcell b3).1 _ _ (by omega)).trans e2
       replace e3 := ((bcell b3).1 _ _ (by omega)).trans e3))
  go_wp2_with fail
  refine (toIntSS_walk _ _ _ _ _ hp HSp.out).mono ?_
  rintro e w4 ⟨x0, rfl, ox0, b4⟩
  have s4 := b4.size
  replace hp := hp.new b4
  replace ot1 := ot1.new b4
  replace B0 := B0.trans (b4.mono (by omega))
  replace e0 := ((bcell b4).1 _ _ (by omega)).trans e0
  replace e1 := ((bcell b4).1 _ _ (by omega)).trans e1
  replace e2 := ((bcell b4).1 _ _ (by omega)).trans e2
  replace e3 := ((bcell b4).1 _ _ (by omega)).trans e3
  go_wp2_with fail
  refine (toSwitch_walk _ _ _ _ _).mono ?_
  rintro e w5 ⟨rfl, b5⟩
  have s5 := b5.size
  replace hp := hp.new b5
  replace ot1 := ot1.new b5
  replace ox0 := ox0.new b5
  replace B0 := B0.trans (b5.mono (by omega))
  replace e0 := ((bcell b5).1 _ _ (by omega)).trans e0
  replace e1 := ((bcell b5).1 _ _ (by omega)).trans e1
  replace e2 := ((bcell b5).1 _ _ (by omega)).trans e2
  replace e3 := ((bcell b5).1 _ _ (by omega)).trans e3
  go_wp2_with fail
  refine (impl_SwitchOk _ _ _ _ _ _ _ _ _ ox0.rd).mono ?_
  rintro e w6 ⟨rfl, b6⟩
  have s6 := b6.size
  replace hp := hp.new b6
  replace ot1 := ot1.new b6
  replace ox0 := ox0.new b6
  replace B0 := B0.trans (b6.mono (by omega))
  replace e0 := ((bcell b6).1 _ _ (by omega)).trans e0
  replace e1 := ((bcell b6).1 _ _ (by omega)).trans e1
  replace e2 := ((bcell b6).1 _ _ (by omega)).trans e2
  replace e3 := ((bcell b6).1 _ _ (by omega)).trans e3
  go_wp2_with fail
  refine (toIntSS_walk _ _ _ _ _ hp HSp.out).mono ?_
  rintro e w7 ⟨c0, rfl, oc0, b7⟩
  have s7 := b7.size
  replace hp := hp.new b7
  replace ot1 := ot1.new b7
  replace ox0 := ox0.new b7
  replace B0 := B0.trans (b7.mono (by omega))
  replace e0 := ((bcell b7).1 _ _ (by omega)).trans e0
  replace e1 := ((bcell b7).1 _ _ (by omega)).trans e1
  replace e2 := ((bcell b7).1 _ _ (by omega)).trans e2
  replace e3 := ((bcell b7).1 _ _ (by omega)).trans e3
  go_wp2_with fail
  refine (eqIntSS_b _ _ _ _ _ _ _ _ _ ox0.rd oc0.rd).mono ?_
  rintro e w8 ⟨rfl, b8⟩
  have s8 := b8.size
  replace hp := hp.new b8
  replace ot1 := ot1.new b8
  replace ox0 := ox0.new b8
  replace oc0 := oc0.new b8
  replace B0 := B0.trans (b8.mono (by omega))
  replace e0 := ((bcell b8).1 _ _ (by omega)).trans e0
  replace e1 := ((bcell b8).1 _ _ (by omega)).trans e1
  replace e2 := ((bcell b8).1 _ _ (by omega)).trans e2
  replace e3 := ((bcell b8).1 _ _ (by omega)).trans e3
  go_wp2_with fail
  go_ret
  exact ⟨rfl, B0⟩
end Go.Proofs.Ytkhhbkchaellaaa
