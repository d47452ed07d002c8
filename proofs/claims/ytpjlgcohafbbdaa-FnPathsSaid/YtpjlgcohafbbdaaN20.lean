/- The walk of the law Paths. -/
import Derived.Test.YtpjlgcohafbbdaaProg
import Derived.Test.YtpjlgcohafbbdaaW1
import Derived.Test.YtpjlgcohafbbdaaW3
import Derived.Test.YtpjlgcohafbbdaaW6
import Derived.Test.YtpjlgcohafbbdaaW8
import Derived.Test.YtpjlgcohafbbdaaW16
import Derived.Test.YtpjlgcohafbbdaaW19
import Derived.Test.YtpjlgcohafbbdaaW21
import Derived.Test.YtpjlgcohafbbdaaW23
import Derived.Test.YtpjlgcohafbbdaaW25
import Derived.Test.YtpjlgcohafbbdaaW30
import Derived.Test.YtpjlgcohafbbdaaW33
import Derived.Test.YtpjlgcohafbbdaaSw
import Derived.Test.YtpjlgcohafbbdaaR1
import Derived.Test.YtpjlgcohafbbdaaR3
import Derived.Test.YtpjlgcohafbbdaaL2
import Derived.Test.YtpjlgcohafbbdaaN1
import Derived.Test.YtpjlgcohafbbdaaN2
import Derived.Test.YtpjlgcohafbbdaaN3
import Derived.Test.YtpjlgcohafbbdaaN8
import Derived.Test.YtpjlgcohafbbdaaN13
import Derived.Test.YtpjlgcohafbbdaaN15
import Derived.Test.YtpjlgcohafbbdaaN16
import Derived.Test.YtpjlgcohafbbdaaN17
import Derived.Test.YtpjlgcohafbbdaaN18
import Derived.Test.YtpjlgcohafbbdaaN19
import Derived.Test.YtpjlgcohafbbdaaMem
import Derived.WalkKit
import Derived.WalkSpells
import Derived.WalkLawsBesides
import Derived.KernelRfl
import Derived.Lib.Hide
namespace Go.Proofs.Ytpjlgcohafbbdaa
open Go.RowKit
set_option linter.unusedVariables false
set_option linter.unusedSimpArgs false

theorem drop_at {α : Type} {l : List α} {k : Nat} {s : α} (h : l[k]? = some s) : l.drop k = s :: l.drop (k + 1) := by
  obtain ⟨h1, h2⟩ := List.getElem?_eq_some_iff.1 h
  rw [List.drop_eq_getElem_cons h1, h2]
theorem fun_same (g : Img) (R C : Nat) : SameN g g R C := ⟨fun _ _ => rfl, fun _ _ => rfl⟩
theorem drew_below {w w1 : World} (h : Drew w w1) : Below w.heap.size w w1 := h.below _
theorem path_at {g t : Img} {p : List Sw} {v u : Value} {w : World} {a b a' b' : Nat} (hk : okP g t = true) (hp : pathC g t = p) (hr : RdG w a b v g) (hs : RdG w a' b' u t) :
    Calls Try.prog 7 #[v, u] w (RetSB w p true) := by
  have h := impl_PathTo' g t v u w a b a' b' hr hs
  rw [hk, hp] at h; exact h
theorem next_at {g t : Img} {s : Sw} {l : List Sw} {v u : Value} {w : World} {a b a' b' : Nat} (hp : pathC g t = s :: l) (hr : RdG w a b v g) (hs : RdG w a' b' u t) :
    Calls Try.prog 10 #[v, u] w (RetNx w s true) := by
  have h := impl_NextTo g t v u w a b a' b' hr hs
  unfold nextC nextOk at h
  rw [hp] at h; exact h
theorem next_none {g t : Img} {v u : Value} {w : World} {a b a' b' : Nat} (hp : pathC g t = []) (hr : RdG w a b v g) (hs : RdG w a' b' u t) :
    Calls Try.prog 10 #[v, u] w (RetNx w (0, 0, 0, 0) false) := by
  have h := impl_NextTo g t v u w a b a' b' hr hs
  unfold nextC nextOk at h
  rw [hp] at h; exact h
theorem sums_at {g t : Img} {v u : Value} {w : World} {a b a' b' : Nat} (hk : sumsF g t = true) (hr : RdG w a b v g) (hs : RdG w a' b' u t) :
    Calls Try.prog 8 #[v, u] w fun e w' => e = .returned (.bool true) ∧ Below w.heap.size w w' := by
  have h := impl_SameSums g t v u w a b a' b' hr hs
  rw [hk] at h; exact h
theorem dist_at {g t : Img} {v u : Value} {w : World} {a b a' b' : Nat} {D : Int} (hk : distR g t = D) (hr : RdG w a b v g) (hs : RdG w a' b' u t) :
    Calls Try.prog 9 #[v, u] w fun e w' => e = .returned (.int .i64 D) ∧ Below w.heap.size w w' :=
  (impl_DistanceOf g t v u w a b a' b' hr hs).mono fun e w' h => ⟨by rw [← hk]; exact h.1, drew_below h.2⟩
theorem all_at {g G : Img} {l : List Sw} {v u : Value} {w : World} {a b a' b' : Nat} (h1 : allOk g l = true) (h2 : allR g l = G) (hr : RdG w a b v g) (hs : RdS w a' b' u l) :
    Calls Try.prog 12 #[v, u] w (RetGB w G true) := by
  have h := impl_ApplyAll g l v u w a b a' b' hr hs
  rw [h1, h2] at h; exact h
theorem alike_at {g : Img} {v u : Value} {w : World} {a b a' b' : Nat} (hr : RdG w a b v g) (hs : RdG w a' b' u g) :
    Calls Try.prog 13 #[v, u] w fun e w' => e = .returned (.bool true) ∧ Below w.heap.size w w' :=
  (alike_walk g v u w a b a' b' hr hs).mono fun e w' h => ⟨h.1, drew_below h.2⟩

set_option maxRecDepth 100000 in
set_option maxHeartbeats 8000000 in
theorem fnPaths_walk (v : Value) (code : List UInt8) (W : World) (hr : Rd W 0 W.heap.size v (bytesV code)) :
    Calls Try.prog 3 #[v] W fun e w' => e = .returned (.bool true) ∧ Below W.heap.size W w' := by
  have hc : code.length ≤ 9223372036854775807 := by
    have := hr.len
    rw [bytesV_len] at this
    unfold maxLen at this
    omega
  go_enter Try.func3, Try.ntmps3
  go_wp2_with fail
  refine (MakePair_walk code _ _ _ _ hr hc).mono ?_
  rintro e w1 ⟨vg, vb, g, t, R, C, hg, ht, hst, h4, h5, rfl, hM, hB, BB⟩
  clear hr hc
  obtain ⟨AM, cM, rfl, m1, m2⟩ := hM.form
  obtain ⟨AB, cB, rfl, m3, m4⟩ := hB.form
  obtain ⟨p, hp⟩ : ∃ p, pathC g t = p := ⟨_, rfl⟩
  obtain ⟨q, hq⟩ : ∃ q, pathC t g = q := ⟨_, rfl⟩
  obtain ⟨N, hN⟩ : ∃ N, p.length = N := ⟨_, rfl⟩
  obtain ⟨D, hD⟩ : ∃ D, distR g t = D := ⟨_, rfl⟩
  have hw := way_start hg ht hst h4 h5
  have h8 := path_short g t
  obtain ⟨l1, l2, l3⟩ := paths_len hg ht hst h4 h5
  have hal := way_all hg hst hw h8
  rw [hp] at hw h8 l1 l2 l3 hal
  rw [hq] at l1
  rw [hN] at h8 l1 l2 l3
  rw [hD] at l2 l3
  have HG := Lib.hid hg
  have HT := Lib.hid ht
  have HST := Lib.hid hst
  have HP := Lib.hid hp
  have HQ := Lib.hid hq
  have HN := Lib.hid hN
  have HLQ := Lib.hid l1
  have HD := Lib.hid hD
  have HW := Lib.hid hw
  have HAL := Lib.hid hal
  have HK := Lib.hid (ok_mk hg ht hst h4 h5)
  have HK2 := Lib.hid (ok_mk ht hg hst.symm h4 h5)
  have HSM := Lib.hid (sums_mk hg ht hst)
  clear hg ht hst hp hq hN l1 hD hw hal
  go_wp2_with fail
  refine (path_at HK.out HP.out hM hB).mono ?_
  rintro e w2 ⟨v2, rfl, o2, b2⟩
  replace BB := BB.trans (b2.mono BB.size)
  replace hM := hM.new b2
  replace hB := hB.new b2
  have hL := o2.rd
  obtain ⟨AL, cL, rfl, m5, m6⟩ := hL.form
  rw [HN.out] at hL m5 ⊢
  clear o2 b2
  go_wp2_with fail
  refine (path_at HK2.out HQ.out hB hM).mono ?_
  rintro e w3 ⟨v3, rfl, o3, b3⟩
  replace BB := BB.trans (b3.mono BB.size)
  replace hM := hM.new b3
  replace hB := hB.new b3
  replace hL := hL.new b3
  obtain ⟨AQ, cQ, rfl, m7, m8⟩ := o3.rd.form
  rw [HLQ.out] at m7 ⊢
  clear o3 b3
  have f2 : IntKind.i64.wrap (2 * (N : Int)) = 2 * (N : Int) := by rw [IntKind.wrap_i64]; omega
  have f4 : IntKind.i64.wrap (4 * (N : Int)) = 4 * (N : Int) := by rw [IntKind.wrap_i64]; omega
  have g2 : ¬ D < 2 * (N : Int) := by omega
  have g4 : ¬ 4 * (N : Int) < D := by omega
  have g6 : ¬ (60 : Int) < (N : Int) := by omega
  have g7 : ((N : Int) != (N : Int)) = false := by simp
  clear l2 l3
  go_wp2_with fail
  refine (sums_at HSM.out hM hB).mono ?_
  rintro e w4 ⟨rfl, b4⟩
  replace BB := BB.trans (b4.mono BB.size)
  replace hM := hM.new b4
  replace hB := hB.new b4
  replace hL := hL.new b4
  clear b4
  go_wp2_with fail
  refine (dist_at HD.out hM hB).mono ?_
  rintro e w5 ⟨rfl, b5⟩
  replace BB := BB.trans (b5.mono BB.size)
  replace hM := hM.new b5
  replace hB := hB.new b5
  replace hL := hL.new b5
  clear b5
  go_wp2_with fail
  refine (dist_at HD.out hM hB).mono ?_
  rintro e w6 ⟨rfl, b6⟩
  replace BB := BB.trans (b6.mono BB.size)
  replace hM := (hM.new b6).clip
  replace hB := (hB.new b6).clip
  replace hL := (hL.new b6).clip
  clear b6
  go_wp2_with fail
  clear f2 f4 g2 g4 g6 g7
  go_loopw [9, 84] (fun o i wr => ∃ (k : Nat) (x : Img) (u : Value), k ≤ N ∧ i = .int .i64 k ∧ u = o ∧ Hid (WayP x t (p.drop k) ∧ Good x R C ∧ SameN x t R C) ∧ RdG wr 0 wr.heap.size u x ∧ RdG wr 0 wr.heap.size (.slice AB t.length cB) t ∧ RdG wr 0 wr.heap.size (.slice AM g.length cM) g ∧ RdS wr w1.heap.size wr.heap.size (.slice AL N cL) p ∧ Below W.heap.size W wr) (fun _ i _ => N - (intOf i).toNat)
  case atStart => exact ⟨0, g, _, Nat.zero_le _, rfl, rfl, Lib.hid ⟨HW.out, HG.out, HST.out⟩, hM, hB, hM, hL, BB⟩
  case round =>
    clear hM hB hL BB
    obtain ⟨k, x, u, hk, rfl, rfl, HX, hX, hB, hM, hL, BB⟩ := hrel
    obtain ⟨AX, cX, rfl, m9, m10⟩ := hX.form
    by_cases hlt : k < N
    rotate_left
    · have hkN : k = N := by omega
      subst hkN
      have hx1 := HX.out.1
      rw [← HN.out, List.drop_length] at hx1
      have hxt := way_nil hx1
      subst hxt
      have HE := Lib.hid (path_yes (ok_mk HT.out HT.out (fun_same _ _ _) h4 h5) hx1)
      clear hx1
      go_wp2_with fail
      refine (all_at HAL.out.1 HAL.out.2 hM hL).mono ?_
      rintro e w7 ⟨u7, rfl, o7, b7⟩
      replace BB := BB.trans (b7.mono BB.size)
      replace hB := hB.new b7
      replace hX := hX.new b7
      have hZ := o7.rd
      clear b7 o7 hM hL
      go_wp2_with fail
      refine (next_none HE.out hX hB).mono ?_
      rintro e w8 ⟨rfl, b8⟩
      replace BB := BB.trans (b8.mono BB.size)
      replace hB := hB.new b8
      replace hX := hX.new b8
      replace hZ := hZ.new b8
      clear b8
      go_wp2_with fail
      have ba := al (w := w8) (.cells #[.int .i64 0, .int .i64 0, .int .i64 0, .int .i64 0] 32)
      replace BB := BB.trans (ba.mono BB.size)
      replace hB := hB.new ba
      replace hX := hX.new ba
      replace hZ := hZ.new ba
      clear ba
      refine (alike_at hX hB).mono ?_
      rintro e w9 ⟨rfl, b9⟩
      replace BB := BB.trans (b9.mono BB.size)
      replace hB := hB.new b9
      replace hZ := hZ.new b9
      clear b9
      go_wp2_with fail
      refine (alike_at hZ hB).mono ?_
      rintro e w10 ⟨rfl, b10⟩
      replace BB := BB.trans (b10.mono BB.size)
      clear b10
      go_wp2_with fail
      go_ret
      exact ⟨rfl, BB⟩
    obtain ⟨⟨s1, s2, s3, s4⟩, hs⟩ := get_of_lt p k (by rw [HN.out]; exact hlt)
    have hd := drop_at hs
    have hwx := HX.out.1
    rw [hd] at hwx
    obtain ⟨y1, y2, y3, y4⟩ := way_next HX.out.2.1 HX.out.2.2 hwx
    have HO := Lib.hid y1
    have HY := Lib.hid (And.intro y2 (And.intro y3 y4))
    have HPX := Lib.hid (next_cons HX.out.2.1 HT.out HX.out.2.2 h4 h5 hwx)
    have HPY := Lib.hid (path_yes (ok_mk y3 HT.out y4 h4 h5) y2)
    have HKY := Lib.hid (ok_mk y3 HT.out y4 h4 h5)
    obtain ⟨n, hn⟩ : ∃ n, (p.drop (k + 1)).length = n := ⟨_, rfl⟩
    have HLY := Lib.hid hn
    have hn2 : n + k + 1 = N := by rw [← hn, List.length_drop, HN.out]; omega
    obtain ⟨bL, oL, rfl, _, _, r1, c0, c1, c2, c3⟩ := hL.at_ hs
    dsimp only at c0 c1 c2 c3
    have j1 : (k : Int) < (N : Int) := by omega
    clear hs hd hwx y1 y2 y3 y4 hn
    go_wp2_with fail
    have ba := al (w := wr) (.cells #[.int .i64 s1, .int .i64 s2, .int .i64 s3, .int .i64 s4] 32)
    have X1 := Bx.mk wr s1 s2 s3 s4 32
    replace BB := BB.trans (ba.mono BB.size)
    replace hM := hM.new ba
    replace hB := hB.new ba
    replace hX := hX.new ba
    replace hL := hL.new ba
    clear c0 c1 c2 c3 ba
    refine (next_at HPX.out hX hB).mono ?_
    rintro e w2 ⟨rfl, b2⟩
    replace BB := BB.trans (b2.mono BB.size)
    replace hM := hM.new b2
    replace hB := hB.new b2
    replace hX := hX.new b2
    replace hL := hL.new b2
    replace X1 := X1.new b2
    clear b2
    obtain ⟨c0, c1, c2, c3⟩ := X1.new (al (w := w2) (.cells #[.int .i64 s1, .int .i64 s2, .int .i64 s3, .int .i64 s4] 32))
    dsimp only at c0 c1 c2 c3
    go_wp2_with fail
    have ba := al (w := w2) (.cells #[.int .i64 s1, .int .i64 s2, .int .i64 s3, .int .i64 s4] 32)
    have X2 := Bx.mk w2 s1 s2 s3 s4 32
    replace BB := BB.trans (ba.mono BB.size)
    replace hM := hM.new ba
    replace hB := hB.new ba
    replace hX := hX.new ba
    replace hL := hL.new ba
    replace X1 := X1.new ba
    clear c0 c1 c2 c3 ba
    refine (apply_yes x s1 s2 s3 s4 _ _ _ _ hX HO.out).mono ?_
    rintro e w3 ⟨u3, rfl, o3, b3⟩
    replace BB := BB.trans (b3.mono BB.size)
    replace hM := hM.new b3
    replace hB := hB.new b3
    replace hL := hL.new b3
    replace X1 := X1.new b3
    replace X2 := X2.new b3
    have hY := o3.rd
    clear b3 o3 hX
    go_wp2_with fail
    refine (path_at HKY.out HPY.out hY hB).mono ?_
    rintro e w4 ⟨u4, rfl, o4, b4⟩
    replace BB := BB.trans (b4.mono BB.size)
    replace hM := (hM.new b4).clip
    replace hB := (hB.new b4).clip
    replace hL := (hL.new b4).clip
    replace hY := (hY.new b4).clip
    replace X1 := X1.new b4
    replace X2 := X2.new b4
    obtain ⟨A4, C4, rfl, m11, m12⟩ := o4.rd.form
    rw [HLY.out] at m11 ⊢
    clear b4 o4
    obtain ⟨c0, c1, c2, c3⟩ := X1
    obtain ⟨e0, e1, e2, e3⟩ := X2
    dsimp only at c0 c1 c2 c3 e0 e1 e2 e3
    have f1 : IntKind.i64.wrap ((N : Int) - 1) = (N : Int) - 1 := by rw [IntKind.wrap_i64]; omega
    have f2 : IntKind.i64.wrap ((N : Int) - 1 - (k : Int)) = (n : Int) := by rw [IntKind.wrap_i64]; omega
    have g1 : ((n : Int) != (n : Int)) = false := by simp
    go_wp2_with fail
    go_roundw
    case rel => exact ⟨k + 1, _, _, by omega, by go_num, rfl, HY, hY.mono (Nat.zero_le _) (Nat.le_refl _), hB, hM, hL, BB⟩
    case measure => simp [intOf]; omega
end Go.Proofs.Ytpjlgcohafbbdaa
