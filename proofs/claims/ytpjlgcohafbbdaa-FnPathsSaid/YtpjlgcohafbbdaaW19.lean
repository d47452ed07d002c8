/- Walks: sameSize, DistanceOf, ColSums, SameSums. -/
import Derived.Test.YtpjlgcohafbbdaaProg
import Derived.Test.YtpjlgcohafbbdaaW1
import Derived.Test.YtpjlgcohafbbdaaW2
import Derived.Test.YtpjlgcohafbbdaaW3
import Derived.Test.YtpjlgcohafbbdaaW4
import Derived.Test.YtpjlgcohafbbdaaW6
import Derived.Test.YtpjlgcohafbbdaaW8
import Derived.Test.YtpjlgcohafbbdaaW9
import Derived.Test.YtpjlgcohafbbdaaW11
import Derived.Test.YtpjlgcohafbbdaaW13
import Derived.Test.YtpjlgcohafbbdaaMem
import Derived.Test.YtpjlgcohafbbdaaPoke
import Derived.WalkKit
import Derived.WalkSpells
import Derived.WalkLawsBesides
import Derived.KernelRfl
import Derived.Lib.Hide
import Derived.Deep.QuietTactic
import Derived.BigQuiet
import Derived.Sort.AtCall
namespace Go.Proofs.Ytpjlgcohafbbdaa
open Go.RowKit
set_option linter.unusedVariables false
set_option linter.unusedSimpArgs false

def sameF (g h : List (List Int)) : Bool := imgOk g && imgOk h && decide (g.length = h.length) && decide ((hd g).length = (hd h).length)
theorem sameF_1 {g h : List (List Int)} (e : imgOk g = false) : sameF g h = false := by simp [sameF, e]
theorem sameF_2 {g h : List (List Int)} (e : imgOk h = false) : sameF g h = false := by simp [sameF, e]
theorem sameF_3 {g h : List (List Int)} (e : g.length ≠ h.length) : sameF g h = false := by simp [sameF, e]
theorem sameF_4 {g h : List (List Int)} (e : (hd g).length ≠ (hd h).length) : sameF g h = false := by simp [sameF, e]
theorem sameF_5 {g h : List (List Int)} (e1 : imgOk g = true) (e2 : imgOk h = true) (e3 : g.length = h.length) (e4 : (hd g).length = (hd h).length) : sameF g h = true := by simp [sameF, e1, e2, e3, e4]
theorem sameF_in {g h : List (List Int)} (e : sameF g h = true) : imgOk g = true ∧ imgOk h = true ∧ g.length = h.length ∧ (hd g).length = (hd h).length := by
  simp only [sameF, Bool.and_eq_true, decide_eq_true_eq] at e
  exact ⟨e.1.1.1, e.1.1.2, e.1.2, e.2⟩

set_option maxRecDepth 100000 in
set_option maxHeartbeats 1000000 in
theorem impl_sameSize (g h : List (List Int)) (v u : Value) (w : World) (a b a' b' : Nat) (hr : RdG w a b v g) (hs : RdG w a' b' u h) :
    Calls Try.prog 32 #[v, u] w fun e w' => e = .returned (.bool (sameF g h)) ∧ Drew w w' := by
  obtain ⟨A, c, rfl, h1, h2⟩ := hr.form
  obtain ⟨A', c', rfl, h1', h2'⟩ := hs.form
  by_cases g1 : imgOk g = true
  rotate_left
  · have g1 : imgOk g = false := by simpa using g1
    have GS := Lib.hid (sameF_1 (h := h) g1)
    have cg := fun n => impl_ImageOk g _ _ _ _ (RdG.drewN hr n); simp only [g1] at cg
    have ch := cg
    go_enter Try.func32, Try.ntmps32
    go_wp2_with fail
    go_quiet (first | (go_at_call_has 38 (Value.slice A g.length c); exact quiet_l (cg _)) | (go_at_call 38; exact quiet_l (ch _)))
    go_wp2_with fail
    go_ret
    exact ⟨ret_bool GS.out.symm, (Drew.refl _).drewN _⟩
  by_cases g2 : imgOk h = true
  rotate_left
  · have g2 : imgOk h = false := by simpa using g2
    have GS := Lib.hid (sameF_2 (g := g) g2)
    have cg := fun n => impl_ImageOk g _ _ _ _ (RdG.drewN hr n); simp only [g1] at cg
    have ch := fun n => impl_ImageOk h _ _ _ _ (RdG.drewN hs n); simp only [g2] at ch
    go_enter Try.func32, Try.ntmps32
    go_wp2_with fail
    go_quiet (first | (go_at_call_has 38 (Value.slice A g.length c); exact quiet_l (cg _)) | (go_at_call 38; exact quiet_l (ch _)))
    go_wp2_with fail
    go_ret
    exact ⟨ret_bool GS.out.symm, (Drew.refl _).drewN _⟩
  have cg := fun n => impl_ImageOk g _ _ _ _ (RdG.drewN hr n); simp only [g1] at cg
  have ch := fun n => impl_ImageOk h _ _ _ _ (RdG.drewN hs n); simp only [g2] at ch
  obtain ⟨l1, l2, l3, l4, _⟩ := imgOk_in g1
  obtain ⟨m1, m2, m3, m4, _⟩ := imgOk_in g2
  by_cases g3 : g.length = h.length
  rotate_left
  · have e3 : ((g.length : Int) == (h.length : Int)) = false := by simp; omega
    have GS := Lib.hid (sameF_3 g3)
    clear g3
    go_enter Try.func32, Try.ntmps32
    go_wp2_with fail
    go_quiet (first | (go_at_call_has 38 (Value.slice A g.length c); exact quiet_l (cg _)) | (go_at_call 38; exact quiet_l (ch _)))
    go_wp2_with fail
    go_ret
    exact ⟨ret_bool GS.out.symm, (Drew.refl _).drewN _⟩
  obtain ⟨b0, o0, rfl, _, _⟩ := hr.some_ (by omega)
  obtain ⟨A0, c0, hc0, q1, q2, _⟩ := hr.row0 (hd_get (by omega))
  obtain ⟨b0', o0', rfl, _, _⟩ := hs.some_ (by omega)
  obtain ⟨A0', c0', hc0', q1', q2', _⟩ := hs.row0 (hd_get (by omega))
  have p1 : (0 : Int) < (g.length : Int) := by omega
  have p2 : (0 : Int) < (h.length : Int) := by omega
  have e3 : ((g.length : Int) == (h.length : Int)) = true := by simp [g3]
  have G3 := Lib.hid g3
  clear g3
  by_cases g4 : (hd g).length = (hd h).length
  rotate_left
  · have e4 : (((hd g).length : Int) == ((hd h).length : Int)) = false := by simp; omega
    have GS := Lib.hid (sameF_4 g4)
    clear g4
    go_enter Try.func32, Try.ntmps32
    go_wp2_with fail
    go_quiet (first | (go_at_call_has 38 (Value.slice (some ⟨b0, o0, none⟩) g.length c); exact quiet_l (cg _)) | (go_at_call 38; exact quiet_l (ch _)))
    go_wp2_with fail
    go_ret
    exact ⟨ret_bool GS.out.symm, (Drew.refl _).drewN _⟩
  have e4 : (((hd g).length : Int) == ((hd h).length : Int)) = true := by simp [g4]
  have GS := Lib.hid (sameF_5 g1 g2 G3.out g4)
  have G4 := Lib.hid g4
  clear g4
  go_enter Try.func32, Try.ntmps32
  go_wp2_with fail
  go_quiet (first | (go_at_call_has 38 (Value.slice (some ⟨b0, o0, none⟩) g.length c); exact quiet_l (cg _)) | (go_at_call 38; exact quiet_l (ch _)))
  go_wp2_with fail
  go_ret
  exact ⟨ret_bool GS.out.symm, (Drew.refl _).drewN _⟩

def dRow (g h : List (List Int)) (y j : Nat) : Int := ((List.range j).map fun x => if cellN g y x = cellN h y x then (0 : Int) else 1).sum
def dAll (g h : List (List Int)) (k C : Nat) : Int := ((List.range k).map fun y => dRow g h y C).sum
def distR (g h : List (List Int)) : Int := if sameF g h = true then dAll g h g.length (hd g).length else -1
theorem distR_no {g h : List (List Int)} (e : sameF g h = false) : distR g h = -1 := by simp [distR, e]
theorem distR_yes {g h : List (List Int)} (e : sameF g h = true) : distR g h = dAll g h g.length (hd g).length := by simp [distR, e]
theorem dRow_same {g h : List (List Int)} {y j : Nat} {a b : Int} (ha : cellN g y j = a) (hb : cellN h y j = b) (e : a = b) : dRow g h y (j + 1) = dRow g h y j := by
  unfold dRow; rw [List.range_succ, List.map_append, List.sum_append]; simp [ha, hb, e]
theorem dRow_diff {g h : List (List Int)} {y j : Nat} {a b : Int} (ha : cellN g y j = a) (hb : cellN h y j = b) (e : a ≠ b) : dRow g h y (j + 1) = dRow g h y j + 1 := by
  unfold dRow; rw [List.range_succ, List.map_append, List.sum_append]; simp [ha, hb, e]
theorem dAll_succ (g h : List (List Int)) (k C : Nat) : dAll g h (k + 1) C = dAll g h k C + dRow g h k C := by
  unfold dAll; rw [List.range_succ, List.map_append, List.sum_append]; simp
theorem dRow_bd (g h : List (List Int)) (y : Nat) : ∀ j : Nat, 0 ≤ dRow g h y j ∧ dRow g h y j ≤ j
  | 0 => by simp [dRow]
  | j + 1 => by
    have ih := dRow_bd g h y j
    by_cases e : cellN g y j = cellN h y j
    · rw [dRow_same rfl rfl e]; omega
    · rw [dRow_diff rfl rfl e]; omega
theorem dAll_bd (g h : List (List Int)) (C : Nat) (hC : C ≤ 5) : ∀ k : Nat, 0 ≤ dAll g h k C ∧ dAll g h k C ≤ 5 * k
  | 0 => by simp [dAll]
  | k + 1 => by
    have ih := dAll_bd g h C hC k
    have := dRow_bd g h k C
    rw [dAll_succ]; omega

set_option maxRecDepth 100000 in
set_option maxHeartbeats 1000000 in
theorem impl_DistanceOf (g h : List (List Int)) (v u : Value) (w : World) (a b a' b' : Nat) (hr : RdG w a b v g) (hs : RdG w a' b' u h) :
    Calls Try.prog 9 #[v, u] w fun e w' => e = .returned (.int .i64 (distR g h)) ∧ Drew w w' := by
  by_cases gs : sameF g h = true
  rotate_left
  · have gs : sameF g h = false := by simpa using gs
    have GD := Lib.hid (distR_no gs)
    go_enter Try.func9, Try.ntmps9
    go_wp2_with (go_at_call 32; refine (impl_sameSize _ _ _ _ _ _ _ _ _ hr hs).mono ?_; rintro e w1 ⟨rfl, hd1⟩)
    go_ret
    exact ⟨ret_int GD.out.symm, hd1⟩
  have GS := Lib.hid gs
  obtain ⟨g1, g2, g3, g4⟩ := sameF_in gs
  obtain ⟨l1, l2, l3, l4, _⟩ := imgOk_in g1
  have Sg := Lib.hid (img_shape g1)
  have Sh := Lib.hid (img_shape g2)
  have G3 := Lib.hid g3; have G4 := Lib.hid g4
  obtain ⟨A, c, rfl, h1, h2⟩ := hr.form
  obtain ⟨A', c', rfl, h1', h2'⟩ := hs.form
  obtain ⟨b0, o0, rfl, _, _⟩ := hr.some_ (by omega)
  obtain ⟨b0', o0', rfl, _, _⟩ := hs.some_ (by omega)
  clear g3 g4
  go_enter Try.func9, Try.ntmps9
  go_wp2_with (go_at_call 32; refine (impl_sameSize _ _ _ _ _ _ _ _ _ hr hs).mono ?_; rintro e w1 ⟨rfl, hd1⟩)
  go_loopw [5, 16] (fun n i wr => ∃ (k : Nat) (d : Int), k ≤ g.length ∧ i = .int .i64 k ∧ n = .int .i64 d ∧ Hid (d = dAll g h k (hd g).length) ∧ RdG wr a b (.slice (some ⟨b0, o0, none⟩) g.length c) g ∧ RdG wr a' b' (.slice (some ⟨b0', o0', none⟩) h.length c') h ∧ Drew w wr) (fun _ i _ => g.length - (intOf i).toNat)
  case atStart => exact ⟨0, 0, Nat.zero_le _, rfl, rfl, Lib.hid rfl, hd1.rdG hr, hd1.rdG hs, hd1⟩
  case round =>
    clear hr hs hd1
    obtain ⟨k, d, hk, rfl, rfl, HD, hr, hs, hb⟩ := hrel
    have bd := dAll_bd g h (hd g).length l4 k
    rw [← HD.out] at bd
    by_cases hlt : k < g.length
    · obtain ⟨r, hx, hrl⟩ := shape_row Sg.out hlt
      obtain ⟨s, hy, hsl⟩ := shape_row Sh.out (y := k) (by have := G3.out; omega)
      obtain ⟨A1, c1, hc1, t1, t2, hrow⟩ := hr.row hx
      obtain ⟨A2, c2, hc2, t3, t4, hsow⟩ := hs.row hy
      obtain ⟨b1, o1, rfl, _, _⟩ := hrow.some_ (by omega)
      obtain ⟨b2, o2, rfl, _, _⟩ := hsow.some_ (by have := G4.out; omega)
      have X := Lib.hid hx; clear hx
      have Y := Lib.hid hy; clear hy
      have i1 : (k : Int) < (g.length : Int) := by omega
      have i2 : (k : Int) < (h.length : Int) := by have := G3.out; omega
      have RL := Lib.hid hrl; have SL := Lib.hid hsl
      have r5 : r.length ≤ 5 := by omega
      clear hrl hsl
      go_wp2_with fail
      go_loop [5, 23] (fun n i => ∃ (j : Nat) (d' : Int), j ≤ r.length ∧ i = .int .i64 j ∧ n = .int .i64 d' ∧ Hid (d' = d + dRow g h k j)) (fun _ i => r.length - (intOf i).toNat)
      case atStart => exact ⟨0, d, Nat.zero_le _, rfl, rfl, Lib.hid (by simp [dRow])⟩
      case round =>
        obtain ⟨j, d', hj, rfl, rfl, HD'⟩ := hrel
        have bd' := dRow_bd g h k j
        have bd2 : 0 ≤ d' ∧ d' ≤ 1000 := by have := HD'.out; omega
        obtain ⟨bd3, bd4⟩ := bd2
        clear bd'
        by_cases hlt2 : j < r.length
        · obtain ⟨z, hz⟩ := get_of_lt r j hlt2
          obtain ⟨z', hz'⟩ := get_of_lt s j (by have := RL.out; have := SL.out; have := G4.out; omega)
          have hcz := hrow.cell hz
          have hcz' := hsow.cell hz'
          have Z := Lib.hid (cellN_get X.out hz)
          have Z' := Lib.hid (cellN_get Y.out hz')
          clear hz hz'
          have i3 : (j : Int) < (r.length : Int) := by omega
          have i4 : (j : Int) < (s.length : Int) := by have := RL.out; have := SL.out; have := G4.out; omega
          by_cases e : z = z'
          · have e1 : (z != z') = false := by simp [e]
            have E := Lib.hid e; clear e
            go_wp2_with fail
            go_round
            case rel => exact ⟨j + 1, d', by omega, by go_num, rfl, Lib.hid (by rw [dRow_same Z.out Z'.out E.out]; exact HD'.out)⟩
            case measure => simp [intOf]; omega
          · have e1 : (z != z') = true := by simpa using e
            have E := Lib.hid e; clear e
            go_wp2_with fail
            go_round
            case rel => exact ⟨j + 1, d' + 1, by omega, by go_num, rfl, Lib.hid (by rw [dRow_diff Z.out Z'.out E.out, HD'.out]; omega)⟩
            case measure => simp [intOf]; omega
        · have ej : j = r.length := by omega
          go_wp2_with fail
          go_round
          case rel => exact ⟨k + 1, d', by omega, by go_num, rfl, Lib.hid (by rw [dAll_succ, ← HD.out, HD'.out, ej, RL.out]), hr, hs, hb⟩
          case measure => simp [intOf]; omega
    · have ek : k = g.length := by omega
      go_wp2_with fail
      go_ret
      exact ⟨ret_int (by rw [distR_yes GS.out, HD.out, ek]), hb⟩

set_option maxRecDepth 100000 in
set_option maxHeartbeats 1000000 in
theorem spec_DistanceOf (g h : List (List Int)) (v u : Value) (w : World) (a b a' b' : Nat) (hr : RdG w a b v g) (hs : RdG w a' b' u h) :
    Calls Try.prog 57 #[v, u] w fun e w' => e = .returned (.int .i64 (distR g h)) ∧ Drew w w' := by
  obtain ⟨A, c, rfl, h1, h2⟩ := hr.form
  obtain ⟨A', c', rfl, h1', h2'⟩ := hs.form
  by_cases g1 : imgOk g = true
  rotate_left
  · have g1 : imgOk g = false := by simpa using g1
    have GS := Lib.hid (sameF_1 (h := h) g1)
    have cg := fun n => spec_ImageOk g _ _ _ _ (RdG.drewN hr n); simp only [g1] at cg
    have ch := cg
    go_enter Try.func57, Try.ntmps57
    go_wp2_with fail
    go_quiet (first | (go_at_call_has 50 (Value.slice A g.length c); exact quiet_l (cg _)) | (go_at_call 50; exact quiet_l (ch _)))
    go_wp2_with fail
    go_ret
    exact ⟨ret_int (distR_no GS.out).symm, (Drew.refl _).drewN _⟩
  by_cases g2 : imgOk h = true
  rotate_left
  · have g2 : imgOk h = false := by simpa using g2
    have GS := Lib.hid (sameF_2 (g := g) g2)
    have cg := fun n => spec_ImageOk g _ _ _ _ (RdG.drewN hr n); simp only [g1] at cg
    have ch := fun n => spec_ImageOk h _ _ _ _ (RdG.drewN hs n); simp only [g2] at ch
    go_enter Try.func57, Try.ntmps57
    go_wp2_with fail
    go_quiet (first | (go_at_call_has 50 (Value.slice A g.length c); exact quiet_l (cg _)) | (go_at_call 50; exact quiet_l (ch _)))
    go_wp2_with fail
    go_ret
    exact ⟨ret_int (distR_no GS.out).symm, (Drew.refl _).drewN _⟩
  have cg := fun n => spec_ImageOk g _ _ _ _ (RdG.drewN hr n); simp only [g1] at cg
  have ch := fun n => spec_ImageOk h _ _ _ _ (RdG.drewN hs n); simp only [g2] at ch
  obtain ⟨l1, l2, l3, l4, _⟩ := imgOk_in g1
  obtain ⟨m1, m2, m3, m4, _⟩ := imgOk_in g2
  by_cases g3 : g.length = h.length
  rotate_left
  · have e3 : ((g.length : Int) != (h.length : Int)) = true := by simp; omega
    have GS := Lib.hid (sameF_3 g3)
    clear g3
    go_enter Try.func57, Try.ntmps57
    go_wp2_with fail
    go_quiet (first | (go_at_call_has 50 (Value.slice A g.length c); exact quiet_l (cg _)) | (go_at_call 50; exact quiet_l (ch _)))
    go_wp2_with fail
    go_ret
    exact ⟨ret_int (distR_no GS.out).symm, (Drew.refl _).drewN _⟩
  obtain ⟨b0, o0, rfl, _, _⟩ := hr.some_ (by omega)
  obtain ⟨A0, c0, hc0, q1, q2, _⟩ := hr.row0 (hd_get (by omega))
  obtain ⟨b0', o0', rfl, _, _⟩ := hs.some_ (by omega)
  obtain ⟨A0', c0', hc0', q1', q2', _⟩ := hs.row0 (hd_get (by omega))
  have p1 : (0 : Int) < (g.length : Int) := by omega
  have p2 : (0 : Int) < (h.length : Int) := by omega
  have e3 : ((g.length : Int) != (h.length : Int)) = false := by simp [g3]
  have G3 := Lib.hid g3
  clear g3
  by_cases g4 : (hd g).length = (hd h).length
  rotate_left
  · have e4 : (((hd g).length : Int) != ((hd h).length : Int)) = true := by simp; omega
    have GS := Lib.hid (sameF_4 g4)
    clear g4
    go_enter Try.func57, Try.ntmps57
    go_wp2_with fail
    go_quiet (first | (go_at_call_has 50 (Value.slice (some ⟨b0, o0, none⟩) g.length c); exact quiet_l (cg _)) | (go_at_call 50; exact quiet_l (ch _)))
    go_wp2_with fail
    go_ret
    exact ⟨ret_int (distR_no GS.out).symm, (Drew.refl _).drewN _⟩
  have e4 : (((hd g).length : Int) != ((hd h).length : Int)) = false := by simp [g4]
  have GS := Lib.hid (sameF_5 g1 g2 G3.out g4)
  have G4 := Lib.hid g4
  clear g4
  have Sg := Lib.hid (img_shape g1)
  have Sh := Lib.hid (img_shape g2)
  go_enter Try.func57, Try.ntmps57
  go_wp2_with fail
  go_quiet (first | (go_at_call_has 50 (Value.slice (some ⟨b0, o0, none⟩) g.length c); exact quiet_l (cg _)) | (go_at_call 50; exact quiet_l (ch _)))
  go_wp2_with fail
  go_loopw [5, 38] (fun n i wr => ∃ (k : Nat) (d : Int), k ≤ g.length ∧ i = .int .i64 k ∧ n = .int .i64 d ∧ Hid (d = dAll g h k (hd g).length) ∧ RdG wr a b (.slice (some ⟨b0, o0, none⟩) g.length c) g ∧ RdG wr a' b' (.slice (some ⟨b0', o0', none⟩) h.length c') h ∧ Drew w wr) (fun _ i _ => g.length - (intOf i).toNat)
  case atStart => exact ⟨0, 0, Nat.zero_le _, rfl, rfl, Lib.hid rfl, hr.drewN _, hs.drewN _, (Drew.refl _).drewN _⟩
  case round =>
    clear hr hs hc0 hc0' cg ch
    obtain ⟨k, d, hk, rfl, rfl, HD, hr, hs, hb⟩ := hrel
    have bd := dAll_bd g h (hd g).length l4 k
    rw [← HD.out] at bd
    by_cases hlt : k < g.length
    · obtain ⟨r, hx, hrl⟩ := shape_row Sg.out hlt
      obtain ⟨s, hy, hsl⟩ := shape_row Sh.out (y := k) (by have := G3.out; omega)
      obtain ⟨A1, c1, hc1, t1, t2, hrow⟩ := hr.row hx
      obtain ⟨A2, c2, hc2, t3, t4, hsow⟩ := hs.row hy
      obtain ⟨b1, o1, rfl, _, _⟩ := hrow.some_ (by omega)
      obtain ⟨b2, o2, rfl, _, _⟩ := hsow.some_ (by have := G4.out; omega)
      have X := Lib.hid hx; clear hx
      have Y := Lib.hid hy; clear hy
      have i1 : (k : Int) < (g.length : Int) := by omega
      have i2 : (k : Int) < (h.length : Int) := by have := G3.out; omega
      have RL := Lib.hid hrl; have SL := Lib.hid hsl
      have r5 : r.length ≤ 5 := by omega
      clear hrl hsl
      go_wp2_with fail
      go_loop [5, 45] (fun n i => ∃ (j : Nat) (d' : Int), j ≤ r.length ∧ i = .int .i64 j ∧ n = .int .i64 d' ∧ Hid (d' = d + dRow g h k j)) (fun _ i => r.length - (intOf i).toNat)
      case atStart => exact ⟨0, d, Nat.zero_le _, rfl, rfl, Lib.hid (by simp [dRow])⟩
      case round =>
        obtain ⟨j, d', hj, rfl, rfl, HD'⟩ := hrel
        have bd' := dRow_bd g h k j
        have bd2 : 0 ≤ d' ∧ d' ≤ 1000 := by have := HD'.out; omega
        obtain ⟨bd3, bd4⟩ := bd2
        clear bd'
        by_cases hlt2 : j < r.length
        · obtain ⟨z, hz⟩ := get_of_lt r j hlt2
          obtain ⟨z', hz'⟩ := get_of_lt s j (by have := RL.out; have := SL.out; have := G4.out; omega)
          have hcz := hrow.cell hz
          have hcz' := hsow.cell hz'
          have Z := Lib.hid (cellN_get X.out hz)
          have Z' := Lib.hid (cellN_get Y.out hz')
          clear hz hz'
          have i3 : (j : Int) < (r.length : Int) := by omega
          have i4 : (j : Int) < (s.length : Int) := by have := RL.out; have := SL.out; have := G4.out; omega
          by_cases e : z = z'
          · have e1 : (z != z') = false := by simp [e]
            have E := Lib.hid e; clear e
            go_wp2_with fail
            go_round
            case rel => exact ⟨j + 1, d', by omega, by go_num, rfl, Lib.hid (by rw [dRow_same Z.out Z'.out E.out]; exact HD'.out)⟩
            case measure => simp [intOf]; omega
          · have e1 : (z != z') = true := by simpa using e
            have E := Lib.hid e; clear e
            go_wp2_with fail
            go_round
            case rel => exact ⟨j + 1, d' + 1, by omega, by go_num, rfl, Lib.hid (by rw [dRow_diff Z.out Z'.out E.out, HD'.out]; omega)⟩
            case measure => simp [intOf]; omega
        · have ej : j = r.length := by omega
          go_wp2_with fail
          go_round
          case rel => exact ⟨k + 1, d', by omega, by go_num, rfl, Lib.hid (by rw [dAll_succ, ← HD.out, HD'.out, ej, RL.out]), hr, hs, hb⟩
          case measure => simp [intOf]; omega
    · have ek : k = g.length := by omega
      go_wp2_with fail
      go_ret
      exact ⟨ret_int (by rw [distR_yes GS.out, HD.out, ek]), hb⟩

set_option maxRecDepth 100000 in
set_option maxHeartbeats 1000000 in
theorem impl_ColSums (g : List (List Int)) (v : Value) (w : World) (a b : Nat) (hr : RdG w a b v g) :
    Calls Try.prog 35 #[v] w (RetI w (rowSumsR (transR g))) := by
  go_enter Try.func35, Try.ntmps35
  go_wp2_with (first
    | (go_at_call 53; refine (impl_TransposeOf _ _ _ _ _ hr).mono ?_; rintro e w1 ⟨u, rfl, hu, hb⟩)
    | (go_at_call 34; refine (impl_RowSums _ _ _ _ _ hu.rd).mono ?_; rintro e w2 ⟨r, rfl, ho, hb2⟩))
  go_ret
  exact ⟨_, rfl, ho.mono hb.size (Nat.le_refl _), hb.trans (hb2.mono hb.size)⟩

set_option maxRecDepth 100000 in
set_option maxHeartbeats 1000000 in
theorem spec_ColSums (g : List (List Int)) (v : Value) (w : World) (a b : Nat) (hr : RdG w a b v g) :
    Calls Try.prog 60 #[v] w (RetI w (rowSumsR (transR g))) := by
  go_enter Try.func60, Try.ntmps60
  go_wp2_with (first
    | (go_at_call 67; refine (spec_TransposeOf _ _ _ _ _ hr).mono ?_; rintro e w1 ⟨u, rfl, hu, hb⟩)
    | (go_at_call 59; refine (spec_RowSums _ _ _ _ _ hu.rd).mono ?_; rintro e w2 ⟨r, rfl, ho, hb2⟩))
  go_ret
  exact ⟨_, rfl, ho.mono hb.size (Nat.le_refl _), hb.trans (hb2.mono hb.size)⟩

end Go.Proofs.Ytpjlgcohafbbdaa
