/- The walk of the law NextTo. -/
import Derived.Test.YtpjlgcohafbbdaaProg
import Derived.Test.YtpjlgcohafbbdaaW1
import Derived.Test.YtpjlgcohafbbdaaW3
import Derived.Test.YtpjlgcohafbbdaaW4
import Derived.Test.YtpjlgcohafbbdaaW6
import Derived.Test.YtpjlgcohafbbdaaW8
import Derived.Test.YtpjlgcohafbbdaaW9
import Derived.Test.YtpjlgcohafbbdaaW10
import Derived.Test.YtpjlgcohafbbdaaW14
import Derived.Test.YtpjlgcohafbbdaaW21
import Derived.Test.YtpjlgcohafbbdaaW30
import Derived.Test.YtpjlgcohafbbdaaW31
import Derived.Test.YtpjlgcohafbbdaaSw
import Derived.Test.YtpjlgcohafbbdaaN8
import Derived.Test.YtpjlgcohafbbdaaN13
import Derived.Test.YtpjlgcohafbbdaaN15
import Derived.Test.YtpjlgcohafbbdaaMem
import Derived.WalkKit
import Derived.WalkSpells
import Derived.WalkLawsBesides
import Derived.KernelRfl
import Derived.Lib.Hide
namespace Go.Proofs.Ytpjlgcohafbbdaa
open Go.RowKit
set_option linter.unusedVariables false
set_option linter.unusedSimpArgs false
theorem nx_as {P : Program} {f : Nat} {xs : Array Value} {w : World} {s s' : Sw} {ok : Bool} (h : s = s') (hc : Calls P f xs w (RetNx w s' ok)) : Calls P f xs w (RetNx w s ok) := by subst h; exact hc
/-- A switch lies at block p. -/
def Bx (w : World) (p : Nat) (s : Sw) : Prop := w.cell? ⟨p, 0, none⟩ = some (.int .i64 s.1) ∧ w.cell? ⟨p, 1, none⟩ = some (.int .i64 s.2.1) ∧ w.cell? ⟨p, 2, none⟩ = some (.int .i64 s.2.2.1) ∧ w.cell? ⟨p, 3, none⟩ = some (.int .i64 s.2.2.2)
theorem Bx.new {w w' : World} {p : Nat} {s : Sw} (h : Bx w p s) (hb : Below w.heap.size w w') : Bx w' p s := ⟨cell_keep h.1 hb, cell_keep h.2.1 hb, cell_keep h.2.2.1 hb, cell_keep h.2.2.2 hb⟩
theorem Bx.mk (w : World) (x y z u : Int) (t : TypeId) : Bx (w.alloc (.cells #[.int .i64 x, .int .i64 y, .int .i64 z, .int .i64 u] t)) w.heap.size (x, y, z, u) := by
  refine ⟨?_, ?_, ?_, ?_⟩ <;> simp

set_option maxRecDepth 100000 in
set_option maxHeartbeats 2000000 in
theorem fnExactNextTo_walk (vp : Value) (p : List (List Int)) (vt : Value) (t : List (List Int)) (w : World) (hp : RdG w 0 w.heap.size vp p) (ht : RdG w 0 w.heap.size vt t) :
    Calls Try.prog 4 #[vp, vt] w fun e w' => e = .returned (.bool true) ∧ Below w.heap.size w w' := by
  have eb : ((nextOk p t) != (nextOk p t)) = false := by simp
  obtain ⟨⟨y1, y2, y3, y4⟩, hsw⟩ : ∃ s : Sw, s = nextC p t := ⟨_, rfl⟩
  have HSW := Lib.hid hsw; clear hsw
  obtain ⟨Ap, kp, rfl, _, _⟩ := hp.form
  obtain ⟨At, kt, rfl, _, _⟩ := ht.form
  obtain ⟨qp, hqp⟩ : ∃ q, q = szG p 1048576 := ⟨_, rfl⟩
  have cp := szG_cases p 1048576 (by omega)
  rw [← hqp] at cp
  have Hqp := Lib.hid hqp; clear hqp
  rcases cp with cp | ⟨cp, dp, Shp⟩
  · have np : qp < 0 := by omega
    clear cp
    go_enter Try.func4, Try.ntmps4
    go_wp2_with fail
    refine (szIntSS_walk _ _ _ _ _ _ hp (by omega) (by omega)).mono ?_
    rw [← Hqp.out]
    rintro e wx ⟨rfl, rfl⟩
    go_wp2_with fail
    go_ret
    exact ⟨rfl, Below.refl _ _⟩
  have np : ¬ qp < 0 := by omega
  have HSp := Lib.hid Shp; clear Shp
  obtain ⟨qt, hqt⟩ : ∃ q, q = szG t qp := ⟨_, rfl⟩
  have ct := szG_cases t qp (by omega)
  rw [← hqt] at ct
  have Hqt := Lib.hid hqt; clear hqt
  rcases ct with ct | ⟨ct, dt, Sht⟩
  · have nt : qt < 0 := by omega
    clear ct
    go_enter Try.func4, Try.ntmps4
    go_wp2_with fail
    refine (szIntSS_walk _ _ _ _ _ _ hp (by omega) (by omega)).mono ?_
    rw [← Hqp.out]
    rintro e wx ⟨rfl, rfl⟩
    go_wp2_with fail
    refine (szIntSS_walk _ _ _ _ _ _ ht (by omega) (by omega)).mono ?_
    rw [← Hqt.out]
    rintro e wx ⟨rfl, rfl⟩
    go_wp2_with fail
    go_ret
    exact ⟨rfl, Below.refl _ _⟩
  have nt : ¬ qt < 0 := by omega
  have HSt := Lib.hid Sht; clear Sht
  have Ep := eqG_self p
  have Et := eqG_self t
  go_enter Try.func4, Try.ntmps4
  have B0 : Below w.heap.size w w := Below.refl _ _
  go_wp2_with fail
  refine (szIntSS_walk _ _ _ _ _ _ hp (by omega) (by omega)).mono ?_
  rw [← Hqp.out]
  rintro e wx ⟨rfl, rfl⟩
  go_wp2_with fail
  refine (szIntSS_walk _ _ _ _ _ _ ht (by omega) (by omega)).mono ?_
  rw [← Hqt.out]
  rintro e wx ⟨rfl, rfl⟩
  go_wp2_with fail
  refine (toIntSS_walk _ _ _ _ _ hp HSp.out).mono ?_
  rintro e w1 ⟨t1, rfl, ot1, b1⟩
  have s1 := b1.size
  replace hp := hp.new b1
  replace ht := ht.new b1
  replace B0 := B0.trans (b1.mono (by omega))
  go_wp2_with fail
  refine (toIntSS_walk _ _ _ _ _ ht HSt.out).mono ?_
  rintro e w2 ⟨t2, rfl, ot2, b2⟩
  have s2 := b2.size
  replace hp := hp.new b2
  replace ht := ht.new b2
  replace ot1 := ot1.new b2
  replace B0 := B0.trans (b2.mono (by omega))
  go_wp2_with fail
  refine (nx_as HSW.out (spec_NextTo p t _ _ _ _ _ _ _ ot1.rd ot2.rd)).mono ?_
  rintro e w3 ⟨rfl, b3⟩
  have s3 := b3.size
  replace hp := hp.new b3
  replace ht := ht.new b3
  replace ot1 := ot1.new b3
  replace ot2 := ot2.new b3
  replace B0 := B0.trans (b3.mono (by omega))
  clear ot1 ot2
  go_wp2_with fail
  have bxa := al (w := w3) (.cells #[.int .i64 y1, .int .i64 y2, .int .i64 y3, .int .i64 y4] 32)
  have s4 := bxa.size
  replace hp := hp.new bxa
  replace ht := ht.new bxa
  replace B0 := B0.trans (bxa.mono (by omega))
  have Xa := Bx.mk w3 y1 y2 y3 y4 32
  refine (toIntSS_walk _ _ _ _ _ hp HSp.out).mono ?_
  rintro e w5 ⟨x0, rfl, ox0, b5⟩
  have s5 := b5.size
  replace hp := hp.new b5
  replace ht := ht.new b5
  replace Xa := Xa.new b5
  replace B0 := B0.trans (b5.mono (by omega))
  go_wp2_with fail
  refine (toIntSS_walk _ _ _ _ _ ht HSt.out).mono ?_
  rintro e w6 ⟨x1, rfl, ox1, b6⟩
  have s6 := b6.size
  replace hp := hp.new b6
  replace ht := ht.new b6
  replace Xa := Xa.new b6
  replace ox0 := ox0.new b6
  replace B0 := B0.trans (b6.mono (by omega))
  go_wp2_with fail
  refine (nx_as HSW.out (impl_NextTo p t _ _ _ _ _ _ _ ox0.rd ox1.rd)).mono ?_
  rintro e w7 ⟨rfl, b7⟩
  have s7 := b7.size
  replace hp := hp.new b7
  replace ht := ht.new b7
  replace Xa := Xa.new b7
  replace ox0 := ox0.new b7
  replace ox1 := ox1.new b7
  replace B0 := B0.trans (b7.mono (by omega))
  obtain ⟨c0, c1, c2, c3⟩ := Xa.new (al (w := w7) (.cells #[.int .i64 y1, .int .i64 y2, .int .i64 y3, .int .i64 y4] 32))
  dsimp only at c0 c1 c2 c3
  go_wp2_with fail
  have bxb := al (w := w7) (.cells #[.int .i64 y1, .int .i64 y2, .int .i64 y3, .int .i64 y4] 32)
  have s8 := bxb.size
  replace hp := hp.new bxb
  replace ht := ht.new bxb
  replace Xa := Xa.new bxb
  replace ox0 := ox0.new bxb
  replace ox1 := ox1.new bxb
  replace B0 := B0.trans (bxb.mono (by omega))
  have Xb := Bx.mk w7 y1 y2 y3 y4 32
  clear c0 c1 c2 c3
  clear Xa Xb
  refine (eqSwitch_walk y1 y2 y3 y4 _).mono ?_
  rintro e w9 ⟨rfl, b9⟩
  have s9 := b9.size
  replace hp := hp.new b9
  replace ht := ht.new b9
  replace ox0 := ox0.new b9
  replace ox1 := ox1.new b9
  replace B0 := B0.trans (b9.mono (by omega))
  go_wp2_with fail
  refine (toIntSS_walk _ _ _ _ _ hp HSp.out).mono ?_
  rintro e w10 ⟨t3, rfl, ot3, b10⟩
  have s10 := b10.size
  replace hp := hp.new b10
  replace ht := ht.new b10
  replace ox0 := ox0.new b10
  replace ox1 := ox1.new b10
  replace B0 := B0.trans (b10.mono (by omega))
  go_wp2_with fail
  refine (eqIntSS_b _ _ _ _ _ _ _ _ _ ox0.rd ot3.rd).mono ?_
  rintro e w11 ⟨rfl, b11⟩
  have s11 := b11.size
  replace hp := hp.new b11
  replace ht := ht.new b11
  replace ox0 := ox0.new b11
  replace ox1 := ox1.new b11
  replace ot3 := ot3.new b11
  replace B0 := B0.trans (b11.mono (by omega))
  clear ot3
  go_wp2_with fail
  refine (toIntSS_walk _ _ _ _ _ ht HSt.out).mono ?_
  rintro e w12 ⟨t4, rfl, ot4, b12⟩
  have s12 := b12.size
  replace hp := hp.new b12
  replace ht := ht.new b12
  replace ox0 := ox0.new b12
  replace ox1 := ox1.new b12
  replace B0 := B0.trans (b12.mono (by omega))
  go_wp2_with fail
  refine (eqIntSS_b _ _ _ _ _ _ _ _ _ ox1.rd ot4.rd).mono ?_
  rintro e w13 ⟨rfl, b13⟩
  have s13 := b13.size
  replace hp := hp.new b13
  replace ht := ht.new b13
  replace ox0 := ox0.new b13
  replace ox1 := ox1.new b13
  replace ot4 := ot4.new b13
  replace B0 := B0.trans (b13.mono (by omega))
  go_wp2_with fail
  go_ret
  exact ⟨rfl, B0⟩
end Go.Proofs.Ytpjlgcohafbbdaa
