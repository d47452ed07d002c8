/- The walk of the closure of AllImages. -/
import Derived.Test.YtkjhodeajipihaaProg
import Derived.Test.YtkjhodeajipihaaW1
import Derived.Test.YtkjhodeajipihaaW3
import Derived.Test.YtkjhodeajipihaaW4
import Derived.Test.YtkjhodeajipihaaW6
import Derived.Test.YtkjhodeajipihaaPoke
import Derived.Test.YtkjhodeajipihaaC1
import Derived.Test.YtkjhodeajipihaaC3
import Derived.Test.YtkjhodeajipihaaC4
import Derived.Test.YtkjhodeajipihaaC7
import Derived.Test.YtkjhodeajipihaaMem
import Derived.WalkKit
import Derived.WalkSpells
import Derived.WalkLawsBesides
import Derived.KernelRfl
import Derived.Lib.Hide
import Derived.Deep.RegionHeld3
import Derived.Deep.RegionLaw
import Derived.Deep.Cut
import Derived.Deep.QuietTactic
import Derived.BigQuiet
namespace Go.Proofs.Ytkjhodeajipihaa
open Go.RowKit
set_option linter.unusedVariables false
set_option linter.unusedSimpArgs false

/-- How far a cell is from the end. -/
def muP (R C y x : Nat) : Nat := (R - 1 - y) * (C + 1) + (C - x)
theorem muP_next {R C y x n : Nat} (h : muP R C y x < n + 1) (hx : x < C) : muP R C y (x + 1) < n := by unfold muP at *; omega
theorem muP_wrap {R C y n : Nat} (h : muP R C y C < n) (hy : y + 1 < R) : muP R C (y + 1) 0 < n := by
  unfold muP at *
  have : R - 1 - y = (R - 1 - (y + 1)) + 1 := by omega
  rw [this, Nat.add_mul, Nat.one_mul] at h
  omega
/-- The post of the closure. -/
def RetP (e : PEnv) (w : World) (n : Nat) (L : List Int) (en : Ending) (w' : World) : Prop := en = .returned (.tuple #[]) ∧ ∃ O os G, PutS e w' O os G L ∧ os.length = n ∧ Below e.a0 w w'
theorem below_dN (B : Nat) (w : World) (m : Nat) : Below B w (w.drewN m) := ⟨rfl, rfl, rfl, Nat.le_refl _, fun _ _ => rfl⟩
theorem PutS.drewN {e : PEnv} {w : World} {O : Value} {os : List Value} {G : List (List Int)} {L : List Int} (h : PutS e w O os G L) (m : Nat) : PutS e (w.drewN m) O os G L :=
  ⟨h.cC, h.cR, h.cM, h.cL, h.cP, h.cO, h.fO, h.hG, h.sh, h.hL, h.hO, h.rR, h.sz⟩

set_option maxRecDepth 100000 in
set_option maxHeartbeats 8000000 in
theorem put_any (e : PEnv) (hl : LayP e) : ∀ (n y x need : Nat) (w : World) (O : Value) (os : List Value) (G : List (List Int)) (L : List Int), PutS e w O os G L → L.length = e.C → y < e.R → x ≤ e.C → muP e.R e.C y x < n → BdP e.R L y x →
    need ≤ 5 → os.length + cntP e.rows L y x need ≤ 1099511627776 →
    Calls Try.prog 16 #[.int .i64 y, .int .i64 x, .int .i64 need, .pointer (some ⟨e.bc, 0, none⟩), .pointer (some ⟨e.br, 0, none⟩), .pointer (some ⟨e.bo, 0, none⟩), .pointer (some ⟨e.bm, 0, none⟩), .pointer (some ⟨e.bl, 0, none⟩), .pointer (some ⟨e.bp, 0, none⟩)] w (RetP e w (os.length + cntP e.rows L y x need) L) := by
  intro n
  induction n with
  | zero => intro y x need w O os G L hS hLl hy hx hmu; omega
  | succ n ih =>
    intro y x need w O os G L hS hLl hy hx hmu hbd hn5 hcb
    have IH := Lib.hid ih; clear ih
    have HS := Lib.hid hS
    obtain ⟨cC, cR, cM, cL, cP, cO, fO, hG, sh, hL, hO, rR, sz⟩ := hS
    have HL := Lib.hid hl
    obtain ⟨p1, p2, p3, p4, p5, p6, p7, p8, p9, p10, p11, q1, q2, q3, q4, q5, q6, q7, q8, q9, q10⟩ := hl
    have HBD := Lib.hid hbd; clear hbd
    have HCB := Lib.hid hcb; clear hcb
    have HLL := Lib.hid hLl; clear hLl
    have Q6 := Lib.hid q6; clear q6
    have Q5 := Lib.hid q5; clear q5
    have hGr := hG.rd
    clear hL
    go_enter Try.func16, Try.ntmps16
    go_upto_if 15 with fail
    go_cut [0, 1, 2] from 12 (fun s0 s1 s2 wc => ∃ y' x' need' : Nat, s0 = .int .i64 y' ∧ s1 = .int .i64 x' ∧ s2 = .int .i64 need' ∧ wc = w ∧ y' < e.R ∧ x' < e.C ∧ muP e.R e.C y' x' < n + 1 ∧ Hid (BdP e.R L y' x') ∧ need' ≤ 5 ∧ Hid (cntP e.rows L y x need = cntP e.rows L y' x' need'))
    case first =>
      by_cases hxC : x < e.C
      · have hxn : ((x : Int) == (e.C : Int)) = false := by simp; omega
        go_wp2_with fail
        go_meet
        case rel => exact ⟨y, x, need, rfl, rfl, rfl, rfl, hy, hxC, hmu, HBD, hn5, Lib.hid rfl⟩
      · obtain rfl : x = e.C := by omega
        have hxe : ((e.C : Int) == (e.C : Int)) = true := by simp
        by_cases hnd : 0 < need
        · have HC0 : Hid (cntP e.rows L y e.C need = 0) := Lib.hid (by rw [← HLL.out]; exact cntP_end (by omega))
          have hni : (0 : Int) < (need : Int) := by omega
          go_wp2_with fail
          go_end0
          exact ⟨rfl, O, os, G, HS.out, (by rw [HC0.out]; rfl), Below.refl _ _⟩
        obtain rfl : need = 0 := by omega
        by_cases hyR : y + 1 < e.R
        · obtain ⟨r, hr⟩ := get_of_lt e.rows (y + 1) (by rw [Q5.out]; exact hyR)
          obtain ⟨b1, o1, e1, _, _, _, hcr⟩ := rR.at_ hr
          injection e1 with e1; injection e1 with e1 e2
          rw [← e1, ← e2] at hcr
          clear e1 e2
          obtain ⟨r0, r5⟩ := Q6.out r (List.mem_of_getElem? hr)
          obtain ⟨m, rfl⟩ := Int.eq_ofNat_of_zero_le r0
          have HC1 : Hid (cntP e.rows L y e.C 0 = cntP e.rows L (y + 1) 0 m) := Lib.hid (by rw [← HLL.out]; exact cntP_wrap hr)
          have HR := Lib.hid hr; clear hr
          have hB1 : Hid (BdP e.R L (y + 1) 0) := Lib.hid (BdP.wrap (by rw [HLL.out]; exact HBD.out))
          have hyn : (((y : Int) + 1) == (e.R : Int)) = false := by simp; omega
          have hyi : (y : Int) + 1 < (e.R : Int) := by omega
          go_wp2_with fail
          go_meet
          case rel => exact ⟨y + 1, 0, m, by go_num, rfl, by go_num, rfl, hyR, by omega, muP_wrap hmu hyR, hB1, by omega, HC1⟩
        · have hyR1 : y + 1 = e.R := by omega
          have HC1 : Hid (cntP e.rows L y e.C 0 = 1) := Lib.hid (by rw [← HLL.out]; exact cntP_last (by rw [Q5.out]; exact hyR1) (by rw [Q5.out, HLL.out]; exact HBD.out))
          have hye : (((y : Int) + 1) == (e.R : Int)) = true := by simp; omega
          obtain ⟨k0, hk0, kz0, kz1, kz2⟩ := info_parts grid_info
          have hosn : os.length + 1 ≤ 1099511627776 := by have := HCB.out; rw [HC1.out] at this; exact this
          have cO' : w.drew.cell? ⟨e.bo, 0, none⟩ = some O := cO
          have cM' : w.drew.cell? ⟨e.bm, 0, none⟩ = some (.slice (some ⟨e.mb, 0, none⟩) e.R e.mc) := cM
          have hGr' : RdG w.drew e.g1 e.g2 (.slice (some ⟨e.mb, 0, none⟩) e.R e.mc) G := hGr
          have hshort : Hid (shortG G) := Lib.hid ⟨by have := sh.1; omega, fun r hr => by
            obtain ⟨k, hk, rfl⟩ := List.mem_iff_getElem.1 hr
            have := sh.2 k _ (List.getElem?_eq_getElem hk); omega⟩
          have hO' : Ow w.drew e.B0 w.drew.heap.size 30 O os := hO
          have HO := Lib.hid hO'; clear hO'
          have HSH := Lib.hid sh
          clear sh hG hO hGr
          go_upto_region 4 with fail
          clear cC cR cL cP rR
          go_region_law (first
            | (refine step_call rfl 17 _ _ rfl #[.slice (some ⟨e.mb, 0, none⟩) e.R e.mc] (by kernel_rfl) (impl_copyGrid G _ _ _ _ hGr' hshort.out) (fun e w' h => by obtain ⟨v, h, _⟩ := h; exact ⟨v, h⟩) ?_; rintro vcp w4 ⟨vcp', hvv, hcp, hb4⟩; injection hvv with hvv; subst hvv; obtain ⟨Acp, ccp, rfl, _, _⟩ := hcp.form'; have hs4 := hb4.size; have hb5 : Below e.B0 w w4 := ((Below.refl e.B0 w).drew).trans (hb4.mono sz); have cO4 := cell_below cO hb5 (by simp only; omega); have fO4 : w4.frozen? ⟨e.bo, 0, none⟩ = false := (by rw [← fO]; exact World.frozen?_of_block (hb5.block _ (by simp only; omega))); have cO5 : (w4.alloc (.cells #[.slice Acp G.length ccp] 30)).cell? ⟨e.bo, 0, none⟩ = some O := cell_below cO4 ((Below.refl w4.heap.size w4).alloc (Nat.le_refl _) _) (World.block_lt_of_cell? _ _ cO4); have hO4 : Ow (w4.alloc (.cells #[.slice Acp G.length ccp] 30)) e.B0 w.drew.heap.size 30 O os := (HO.out.new hb4).alloc _)
            | (refine step_append_rd rfl (.tmp 24) (.tmp 27) 26 rfl e.B0 30 k0 (.slice none 0 0) 24 Try.underlying26 hk0 kz0 kz1 kz2 rfl O os.length os rfl hO4.1 (some ⟨w4.heap.size, 0, none⟩) 1 1 [.slice Acp G.length ccp] rfl (Ow.of_top (own_one w4 0 30 (.slice Acp G.length ccp) (Nat.zero_le _))).rd (by simp [Value.oneCell']) (by unfold maxLen; omega) (by omega) (by have := hs4; simp at this; simp; omega) ?_; intro v6 w6 hown6 hg6 _; have hV6 := Ow.of_top hown6; obtain ⟨A6, c6, rfl, _, _⟩ := hV6.form'; simp only [List.length_append, List.length_singleton] at hV6; have hb6 : Below e.B0 w w6 := (hb5.alloc (by have := hs4; simp at this; omega) _).grown hg6 (by have := hs4; simp at this; simp; omega) (fun k hk => (hO4.blk hk).1); have cO6 := cell_below cO hb6 (by simp only; omega); have fO6 : w6.frozen? ⟨e.bo, 0, none⟩ = false := (by rw [← fO]; exact World.frozen?_of_block (hb6.block _ (by simp only; omega)))))
          all_goals (go_wp2_with fail)
          all_goals go_end0
          all_goals exact ⟨rfl, _, os ++ [.slice Acp G.length ccp], G, PutS.pushed HL.out HS.out hb6 hV6, by rw [HC1.out]; simp, (hb6.mono (by omega)).setCell (by simp only; omega) _⟩
    case rest =>
      obtain ⟨y', x', need', rfl, rfl, rfl, rfl, hy', hx', hmu', HBD', hn', HC⟩ := hcut
      obtain ⟨z, hz⟩ := get_of_lt L x' (by rw [HLL.out]; exact hx')
      obtain ⟨z0, z1, _⟩ := HBD'.out x' z hz
      have hLcell := HS.out.hL.at_ (k := x') (u := .int .i64 z) (by rw [ints_get, hz]; rfl)
      obtain ⟨lb', el, _, _, _, hcl, hfl⟩ := hLcell
      injection el with el; injection el with el
      rw [← el] at hcl hfl
      clear el
      have HZ := Lib.hid hz; clear hz
      have HST := Lib.hid (cntP_step (rows := e.rows) (y := y') (need := need') HZ.out)
      have fz1 : IntKind.i64.wrap ((e.C : Int) - (x' : Int)) = (e.C : Int) - (x' : Int) := by rw [IntKind.wrap_i64]; omega
      have fz2 : IntKind.i64.wrap ((e.C : Int) - (x' : Int) - 1) = (e.C : Int) - (x' : Int) - 1 := by rw [IntKind.wrap_i64]; omega
      have fz3 : IntKind.i64.wrap ((e.R : Int) - (y' : Int)) = (e.R : Int) - (y' : Int) := by rw [IntKind.wrap_i64]; omega
      have fz4 : IntKind.i64.wrap ((e.R : Int) - (y' : Int) - 1) = (e.R : Int) - (y' : Int) - 1 := by rw [IntKind.wrap_i64]; omega
      obtain ⟨g1', hg1'⟩ : ∃ b : Bool, b = decide ((need' : Int) ≤ (e.C : Int) - (x' : Int) - 1) := ⟨_, rfl⟩
      obtain ⟨g2', hg2'⟩ : ∃ b : Bool, b = decide (z ≤ (e.R : Int) - (y' : Int) - 1) := ⟨_, rfl⟩
      have HG1 := Lib.hid hg1'; clear hg1'
      have HG2 := Lib.hid hg2'; clear hg2'
      have hxi : (x' : Int) < (e.C : Int) := by omega
      go_upto_region 6 with fail
      go_cut [51] from 33 (fun s51 wd => ∃ m, wd = wc.drewN m ∧ s51 = .bool (g1' && g2'))
      case first =>
        cases g1' with
        | false =>
          have hd1 := HG1.out.symm
          go_quiet (fail)
          go_wp2_with fail
          go_meet
          case rel => exact ⟨_, rfl, rfl⟩
        | true =>
          have hd1 := HG1.out.symm
          have hd1' := of_decide_eq_true hd1
          cases g2' with
          | false =>
            have hd2 := HG2.out.symm
            go_quiet (fail)
            go_wp2_with fail
            go_meet
            case rel => exact ⟨_, rfl, rfl⟩
          | true =>
            have hd2 := HG2.out.symm
            have hd2' := of_decide_eq_true hd2
            go_quiet (fail)
            go_wp2_with fail
            go_meet
            case rel => exact ⟨_, rfl, rfl⟩
      case rest =>
        obtain ⟨m, rfl, rfl⟩ := hcut
        have HS2 := Lib.hid (HS.out.drewN m)
        have cP2 : (wc.drewN m).cell? ⟨e.bp, 0, none⟩ = some (.func (.func 16) #[] #[.pointer (some ⟨e.bc, 0, none⟩), .pointer (some ⟨e.br, 0, none⟩), .pointer (some ⟨e.bo, 0, none⟩), .pointer (some ⟨e.bm, 0, none⟩), .pointer (some ⟨e.bl, 0, none⟩), .pointer (some ⟨e.bp, 0, none⟩)]) := cP
        have HSTB : Hid (os.length + cntP e.rows L y' x' need' ≤ 1099511627776) := Lib.hid (by rw [← HC.out]; exact HCB.out)
        have HMU := Lib.hid (muP_next hmu' hx')
        go_upto_if 51 with fail
        go_cut [] from 33 (fun wd => ∃ O1 os1 G1, PutS e wd O1 os1 G1 L ∧ Hid (os1.length = os.length + cntP e.rows L y' (x' + 1) need') ∧ Below e.a0 wc wd)
        case first =>
          cases hgg : (g1' && g2') with
          | true =>
            obtain ⟨rfl, rfl⟩ : g1' = true ∧ g2' = true := by simpa using hgg
            have hle := of_decide_eq_true HG2.out.symm
            have hH := IH.out y' (x' + 1) need' (wc.drewN m) O os G L HS2.out HLL.out hy' (by omega) HMU.out (HBD'.out.next HZ.out hle) hn' (by have := HSTB.out; rw [HST.out] at this; omega)
            push_cast at hH
            have HH := Lib.hid hH; clear hH hgg
            have hxw : IntKind.i64.wrap ((x' : Int) + 1) = (x' : Int) + 1 := by rw [IntKind.wrap_i64]; omega
            go_wp2_with (go_at_call 16; refine HH.out.mono ?_; rintro en w3 ⟨rfl, O1, os1, G1, hS1, hos1, hb1⟩)
            go_meet
            case rel => exact ⟨O1, os1, G1, hS1, Lib.hid hos1, (below_dN _ _ m).trans hb1⟩
          | false =>
            have h0 : cntP e.rows L y' (x' + 1) need' = 0 := by
              refine cntP_no HZ.out (by rw [Q5.out]; exact hy') ?_
              rw [Q5.out, HLL.out]
              cases g1' with
              | false => have := of_decide_eq_false HG1.out.symm; left; omega
              | true =>
                have : g2' = false := by simpa using hgg
                subst this
                have := of_decide_eq_false HG2.out.symm
                right; omega
            have H0 := Lib.hid h0; clear h0
            go_wp2_with fail
            go_meet
            case rel => exact ⟨O, os, G, HS2.out, Lib.hid (by rw [H0.out]; rfl), below_dN _ _ m⟩
        case rest =>
          obtain ⟨O1, os1, G1, hS1, HOS1, hb1⟩ := hcut
          clear cC cR cM cL cP cO fO rR sz hcl hfl cP2 HS2 hGr
          have cL1 := hS1.cL
          obtain ⟨lb1, el, _, _, _, hcl, hfl⟩ := hS1.hL.at_ (k := x') (u := .int .i64 z) (by rw [ints_get, HZ.out]; rfl)
          injection el with el; injection el with el
          rw [← el] at hcl hfl
          clear el
          have HS1 := Lib.hid hS1
          by_cases hn0 : 0 < need'
          rotate_left
          · have hni : ¬ ((0 : Int) < (need' : Int)) := by omega
            have H0 : Hid (cntP e.rows L y' x' need' = cntP e.rows L y' (x' + 1) need') := Lib.hid (by rw [HST.out, if_neg (fun h => hn0 h.1)]; rfl)
            clear hS1
            go_wp2_with fail
            go_end0
            exact ⟨rfl, O1, os1, G1, HS1.out, by rw [HOS1.out, HC.out, H0.out], hb1⟩
          have hni : (0 : Int) < (need' : Int) := by omega
          by_cases hz0 : 0 < z
          rotate_left
          · have H0 : Hid (cntP e.rows L y' x' need' = cntP e.rows L y' (x' + 1) need') := Lib.hid (by rw [HST.out, if_neg (fun h => hz0 h.2)]; rfl)
            clear hS1
            go_wp2_with fail
            go_end0
            exact ⟨rfl, O1, os1, G1, HS1.out, by rw [HOS1.out, HC.out, H0.out], hb1⟩
          have H0 : Hid (cntP e.rows L y' x' need' = cntP e.rows L y' (x' + 1) need' + cntP e.rows (L.set x' (z - 1)) y' (x' + 1) (need' - 1)) := Lib.hid (by rw [HST.out, if_pos ⟨hn0, hz0⟩])
          have cM1 := hS1.cM
          obtain ⟨b, cap, c, cc, eb, hcm, hc1, hc2, hbc, hcell, hfr, hrange, hput⟩ := hS1.hG.poke2 RI hS1.sh hy' hx'
          injection eb with eb _ ec; injection eb with eb; injection eb with eb
          subst eb
          have hput1 := hput 1
          rw [← ec] at hput1
          clear hput ec
          have S2 := PutS.grid HL.out hS1 hrange hput1 (shape_put hS1.sh _ _)
          have cL2 := S2.cL
          obtain ⟨lb2, el, _, _, _, hcl2, hfl2⟩ := S2.hL.at_ (k := x') (u := .int .i64 z) (by rw [ints_get, HZ.out]; rfl)
          injection el with el; injection el with el
          rw [← el] at hcl2 hfl2
          clear el
          have S3 := PutS.left HL.out S2 x' (z - 1)
          have cP3 : ((wc.setCell ⟨c, x', none⟩ (.int .i64 1)).setCell ⟨e.lb, x', none⟩ (.int .i64 (z - 1))).cell? ⟨e.bp, 0, none⟩ = some (.func (.func 16) #[] #[.pointer (some ⟨e.bc, 0, none⟩), .pointer (some ⟨e.br, 0, none⟩), .pointer (some ⟨e.bo, 0, none⟩), .pointer (some ⟨e.bm, 0, none⟩), .pointer (some ⟨e.bl, 0, none⟩), .pointer (some ⟨e.bp, 0, none⟩)]) := S3.cP
          have fz : IntKind.i64.wrap (z - 1) = z - 1 := by rw [IntKind.wrap_i64]; omega
          have fz' : IntKind.i64.wrap (z - 1 + 1) = z := by rw [IntKind.wrap_i64]; omega
          have fn : IntKind.i64.wrap ((need' : Int) - 1) = ((need' - 1 : Nat) : Int) := by rw [IntKind.wrap_i64]; omega
          have hH := IH.out y' (x' + 1) (need' - 1) _ O1 os1 _ _ S3 (by rw [List.length_set]; exact HLL.out) hy' (by omega) HMU.out (HBD'.out.dec HZ.out hz0) (by omega) (by have := HSTB.out; rw [H0.out] at this; have := HOS1.out; omega)
          rw [show ((x' + 1 : Nat) : Int) = (x' : Int) + 1 from by push_cast; rfl] at hH
          have HH := Lib.hid hH; clear hH
          have hzx : (L.set x' (z - 1))[x']? = some (z - 1) := List.getElem?_set_self (by rw [HLL.out]; exact hx')
          have HZX := Lib.hid hzx; clear hzx
          have hss : (L.set x' (z - 1)).set x' z = L := by
            rw [List.set_set]
            obtain ⟨hh, hz'⟩ := List.getElem?_eq_some_iff.1 HZ.out
            rw [← hz', List.set_getElem_self]
          have HSS := Lib.hid hss; clear hss
          have hyi : (y' : Int) < (e.R : Int) := by omega
          have B3 : Below e.a0 wc ((wc.setCell ⟨c, x', none⟩ (.int .i64 1)).setCell ⟨e.lb, x', none⟩ (.int .i64 (z - 1))) := ((Below.refl _ _).setCell (by simp only; omega) _).setCell (by have := (hS1.hL.blk (k := e.lb) rfl).1; simp only; omega) _
          clear hS1 S2 S3 hput1
          go_wp2_with (go_at_call 16; refine HH.out.mono ?_; rintro en w4 ⟨rfl, O2, os2, G2, hS4, hos2, hb4⟩; have cL4 := hS4.cL; obtain ⟨lb4, el, hlo4, _, _, hcl4, hfl4⟩ := hS4.hL.at_ (k := x') (u := .int .i64 (z - 1)) (by rw [ints_get, HZX.out]; rfl); injection el with el; injection el with el; rw [← el] at hcl4 hfl4 hlo4; clear el; have S5 := PutS.left HL.out hS4 x' z; rw [HSS.out] at S5; have cM5 := S5.cM; obtain ⟨b5, cap5, c5, cc5, eb, hcm5, hc15, hc25, hbc5, hcell5, hfr5, hrange5, hput5⟩ := S5.hG.poke2 RI S5.sh hy' hx'; injection eb with eb _ ec; injection eb with eb; injection eb with eb; subst eb; have hput0 := hput5 0; rw [← ec] at hput0; clear hput5 ec; have S6 := Lib.hid (PutS.grid HL.out S5 hrange5 hput0 (shape_put S5.sh _ _)); have HOS2 := Lib.hid hos2; clear S5 hos2 hS4)
          go_end0
          exact ⟨rfl, O2, os2, _, S6.out, by rw [HOS2.out, HOS1.out, HC.out, H0.out]; omega, hb1.trans (B3.trans ((hb4.setCell (by simp only; omega) _).setCell (by simp only; omega) _))⟩
end Go.Proofs.Ytkjhodeajipihaa
