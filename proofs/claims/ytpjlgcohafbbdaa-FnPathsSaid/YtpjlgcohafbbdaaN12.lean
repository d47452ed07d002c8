/- Walks: PathTo, NextTo of spec; NextTo of impl. -/
import Derived.Test.YtpjlgcohafbbdaaProg
import Derived.Test.YtpjlgcohafbbdaaW1
import Derived.Test.YtpjlgcohafbbdaaW3
import Derived.Test.YtpjlgcohafbbdaaW4
import Derived.Test.YtpjlgcohafbbdaaW6
import Derived.Test.YtpjlgcohafbbdaaW8
import Derived.Test.YtpjlgcohafbbdaaW23
import Derived.Test.YtpjlgcohafbbdaaW30
import Derived.Test.YtpjlgcohafbbdaaSw
import Derived.Test.YtpjlgcohafbbdaaN1
import Derived.Test.YtpjlgcohafbbdaaN2
import Derived.Test.YtpjlgcohafbbdaaN3
import Derived.Test.YtpjlgcohafbbdaaN4
import Derived.Test.YtpjlgcohafbbdaaN7
import Derived.Test.YtpjlgcohafbbdaaN8
import Derived.Test.YtpjlgcohafbbdaaN9
import Derived.Test.YtpjlgcohafbbdaaN10
import Derived.Test.YtpjlgcohafbbdaaMem
import Derived.WalkKit
import Derived.WalkSpells
import Derived.WalkLawsBesides
import Derived.KernelRfl
import Derived.Lib.Hide
import Derived.Deep.QuietTactic
import Derived.BigQuiet
namespace Go.Proofs.Ytpjlgcohafbbdaa
open Go.RowKit
set_option linter.unusedVariables false
set_option linter.unusedSimpArgs false

/-- The post of PathTo of spec: whatever goes down to t by the first lower neighbour is the way. -/
def RetX (w : World) (g t : Img) (e : Ending) (w' : World) : Prop := ∃ v p, e = .returned (.tuple #[v, .bool (okP g t)]) ∧ (okP g t = true → ∀ (S : Img → Prop) (D : Img → Nat), FarB nbI t S D → S g → p = grB nbI D (D g) g) ∧ (okP g t = false → p = []) ∧ RdS w' 0 w'.heap.size v p ∧ p.length ≤ 65536 ∧ Below w.heap.size w w'
theorem RetX_no {w w' : World} {g t : Img} (h : okP g t = false) (hb : Below w.heap.size w w') : RetX w g t (.returned (.tuple #[.slice none 0 0, .bool false])) w' :=
  ⟨.slice none 0 0, [], (by rw [h]), (fun h2 => by rw [h] at h2; cases h2), (fun _ => rfl), (OwS.nil w' 0 w'.heap.size 32).rd, by simp, hb⟩
set_option maxRecDepth 100000 in
set_option maxHeartbeats 1000000 in
theorem spec_PathTo (g t : Img) (v u : Value) (w : World) (a b a' b' : Nat) (hr : RdG w a b v g) (hs : RdG w a' b' u t) :
    Calls Try.prog 19 #[v, u] w (RetX w g t) := by
  replace hr := hr.clip
  replace hs := hs.clip
  by_cases g1 : sumsF g t = true
  rotate_left
  · have g1 : sumsF g t = false := by simpa using g1
    have GO := Lib.hid (okP_1 g1)
    have GS := Lib.hid g1; clear g1
    go_enter Try.func19, Try.ntmps19
    go_wp2_with (go_at_call 43; refine (spec_SameSums _ _ _ _ _ _ _ _ _ hr hs).mono ?_; rw [GS.out]; rintro e w1 ⟨rfl, hb⟩)
    go_ret2
    exact RetX_no GO.out hb
  obtain ⟨hg, ht, hsame⟩ := sums_same g1
  have GS := Lib.hid g1; clear g1
  have himg := hg.img
  by_cases g2 : smallS g = true
  rotate_left
  · have g2 : smallS g = false := by simpa using g2
    have GO : Hid (okP g t = false) := Lib.hid (by unfold okP; rw [show smallF g = smallS g from rfl, g2, Bool.and_false])
    have G2 := Lib.hid g2; clear g2
    have HI := Lib.hid himg; clear himg hg ht hsame
    go_enter Try.func19, Try.ntmps19
    go_wp2_with (first
      | (go_at_call 43; refine (spec_SameSums _ _ _ _ _ _ _ _ _ hr hs).mono ?_; rw [GS.out]; rintro e w1 ⟨rfl, hb⟩; have hr1 := hr.new hb)
      | (go_at_call 44; refine (spec_l06Small _ _ _ _ _ hr1 HI.out).mono ?_; rw [G2.out]; rintro e w' ⟨rfl, rfl⟩))
    go_ret2
    exact RetX_no GO.out hb
  have GO : Hid (okP g t = true) := Lib.hid (by unfold okP; rw [show smallF g = smallS g from rfl, g2, GS.out]; rfl)
  have hsm := g2
  simp only [smallS, Bool.and_eq_true, decide_eq_true_eq] at hsm
  obtain ⟨k4, k5⟩ := hsm
  have G2 := Lib.hid g2; clear g2
  have HI := Lib.hid himg; clear himg
  obtain ⟨R, hR⟩ : ∃ R, R = g.length := ⟨_, rfl⟩
  obtain ⟨C, hC⟩ : ∃ C, C = (hd g).length := ⟨_, rfl⟩
  rw [← hR, ← hC] at hg ht hsame
  rw [← hR] at k4
  rw [← hC] at k5
  have HG := Lib.hid hg; clear hg
  have HT := Lib.hid ht; clear ht
  have HSM := Lib.hid hsame; clear hsame hR hC
  go_enter Try.func19, Try.ntmps19
  go_upto_region 4 with (first
    | (go_at_call 43; refine (spec_SameSums _ _ _ _ _ _ _ _ _ hr hs).mono ?_; rw [GS.out]; rintro e w1 ⟨rfl, hb⟩; have hr1 := hr.new hb; have hs1 := hs.new hb)
    | (go_at_call 44; refine (spec_l06Small _ _ _ _ _ hr1 HI.out).mono ?_; rw [G2.out]; rintro e w' ⟨rfl, rfl⟩)
    | (go_at_call 45; refine (spec_l06Visit (R := R) (C := C) _ _ _ _ _ hr1 HG.out k4 k5).mono ?_; rintro e w2 ⟨Q, W, us, ws, L, rfl, hI, hS, hLb, hb2⟩))
  have hFar := hI.far (sym_of hS.good)
  obtain ⟨n0, hn0, hreach⟩ := joined (dN g t R C).toNat g t HG.out HT.out HSM.out (by have := dN_nonneg g t R C; omega)
  obtain ⟨kt, vt, hkt, hvt⟩ := reach_in hFar hreach ⟨0, _, hI.start, rfl⟩
  have hfind := find_yes (L.map Vx.x) us t kt Q u w2 _ _ hS.list (hs1.new hb2) (by rw [List.getElem?_map, hkt]; simp [hvt]) (fun q x hq hx e => by
    rw [List.getElem?_map] at hx
    cases hqv : L[q]? with
    | none => rw [hqv] at hx; simp at hx
    | some v2 =>
      rw [hqv] at hx; simp at hx
      have := hI.nodup q kt v2 vt hqv hkt (by rw [hx, e, hvt])
      omega)
  have HFI := Lib.hid hfind; clear hfind
  obtain ⟨yk, hyk⟩ := get_of_lt ws kt (by rw [hS.lW]; exact get_lt hkt)
  have hwy := hS.wl kt yk vt hyk hkt
  obtain ⟨AW, cW, rfl, n7, n8⟩ := hS.hW.form'
  obtain ⟨yc, rfl, _, _, _, hcy, _⟩ := hS.hW.at_ hyk
  have hwl := dist_tail hI (kt + 1) kt vt (Nat.lt_succ_self _) hkt
  have hktl := get_lt hkt
  have hsl := hS.lW
  have i1 : (kt : Int) < (ws.length : Int) := by omega
  have i0 : ¬ ((kt : Int) < 0) := by omega
  have i2 : kt < ws.length := by omega
  have HW : Hid (∀ (S : Img → Prop) (D : Img → Nat), FarB nbI t S D → S g → vt.w = grB nbI D (D g) g) := Lib.hid (fun S D F hSg => hI.way F hSg hkt hvt)
  have hwr := hwy.rd
  clear hFar hreach hn0 hI hkt hvt hwy hS hyk
  go_wp2_with (go_at_call 46; refine HFI.out.mono ?_; rintro e w' ⟨rfl, rfl⟩)
  go_ret2
  exact ⟨yk, vt.w, (by rw [GO.out]; rfl), (fun _ => HW.out), (fun h => by rw [GO.out] at h; cases h), hwr, by omega, hb.trans (hb2.mono hb.size)⟩
end Go.Proofs.Ytpjlgcohafbbdaa
