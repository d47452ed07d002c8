/- The walk of PathTo of impl. -/
import Derived.Test.YtpjlgcohafbbdaaProg
import Derived.Test.YtpjlgcohafbbdaaW1
import Derived.Test.YtpjlgcohafbbdaaW3
import Derived.Test.YtpjlgcohafbbdaaW4
import Derived.Test.YtpjlgcohafbbdaaW6
import Derived.Test.YtpjlgcohafbbdaaW8
import Derived.Test.YtpjlgcohafbbdaaW19
import Derived.Test.YtpjlgcohafbbdaaW23
import Derived.Test.YtpjlgcohafbbdaaW25
import Derived.Test.YtpjlgcohafbbdaaW30
import Derived.Test.YtpjlgcohafbbdaaW33
import Derived.Test.YtpjlgcohafbbdaaSw
import Derived.Test.YtpjlgcohafbbdaaPoke
import Derived.Test.YtpjlgcohafbbdaaR2
import Derived.Test.YtpjlgcohafbbdaaN1
import Derived.Test.YtpjlgcohafbbdaaN2
import Derived.Test.YtpjlgcohafbbdaaN3
import Derived.Test.YtpjlgcohafbbdaaN4
import Derived.Test.YtpjlgcohafbbdaaN5
import Derived.Test.YtpjlgcohafbbdaaN6
import Derived.Test.YtpjlgcohafbbdaaN7
import Derived.Test.YtpjlgcohafbbdaaMem
import Derived.WalkKit
import Derived.WalkSpells
import Derived.WalkLawsBesides
import Derived.KernelRfl
import Derived.Lib.Hide
import Derived.Deep.RegionHeld3
import Derived.Deep.RegionLaw
import Derived.Deep.Cut
import Derived.Deep.CutRange
import Derived.StillTailTactics
import Derived.Deep.QuietTactic
import Derived.BigQuiet
namespace Go.Proofs.Ytpjlgcohafbbdaa
open Go.RowKit Go.Maps
set_option linter.unusedVariables false
set_option linter.unusedSimpArgs false

def smallF (g : Img) : Bool := decide (g.length ≤ 4) && decide ((hd g).length ≤ 4)
def okP (g t : Img) : Bool := sumsF g t && smallF g
/-- p is a way from g to t: down by the first lower neighbour. -/
def WayP (g t : Img) (p : List Sw) : Prop := ∃ (S : Img → Prop) (D : Img → Nat), FarB nbI t S D ∧ S g ∧ p = grB nbI D (D g) g
/-- The post of PathTo. -/
def RetW (w : World) (g t : Img) (e : Ending) (w' : World) : Prop := ∃ v p, e = .returned (.tuple #[v, .bool (okP g t)]) ∧ (okP g t = true → WayP g t p) ∧ (okP g t = false → p = []) ∧ OwS w' w.heap.size w'.heap.size 32 v p ∧ Below w.heap.size w w'
theorem grid_info : (Try.prog.info? 23).map (fun i => (i.zero, i.size, i.bytes)) = some (some (.slice none 0 0), 1, 24) := by kernel_rfl
theorem RetW_no {w w' : World} {g t : Img} (h : okP g t = false) (hb : Below w.heap.size w w') : RetW w g t (.returned (.tuple #[.slice none 0 0, .bool false])) w' :=
  ⟨.slice none 0 0, [], (by rw [h]), (fun h2 => by rw [h] at h2; cases h2), (fun _ => rfl), OwS.nil _ _ _ _, hb⟩
theorem okP_1 {g t : Img} (h : sumsF g t = false) : okP g t = false := by simp [okP, h]
theorem okP_2 {g t : Img} (h : ¬ g.length ≤ 4) : okP g t = false := by simp [okP, smallF, h]
theorem okP_3 {g t : Img} (h : ¬ (hd g).length ≤ 4) : okP g t = false := by simp [okP, smallF, h]
theorem okP_4 {g t : Img} (h1 : sumsF g t = true) (h2 : g.length ≤ 4) (h3 : (hd g).length ≤ 4) : okP g t = true := by simp [okP, smallF, h1, h2, h3]
theorem FarM.store0 {w : World} {B : Nat} {t : Img} (h : FarM w B 0 []) (hb : 0 ≤ keyR t ∧ keyR t < 1000000) :
    ∃ w', (Instr.mapUpdate 52 (.map (some B)) (.int .i64 (keyR t)) (.int .i64 0)).run Try.prog w = .ok () w' ∧ FarM w' B 1 [⟨t, [], 0, 0⟩] ∧ w.grownBy w' (some B) := by
  obtain ⟨w', h1, h2, h3⟩ := h.store (x := ⟨t, [], 0, 0⟩) (fun k v hv => by simp at hv) hb (by omega) (by simp)
  exact ⟨w', h1, h2, h3⟩
theorem key_small {g : Img} {R C : Nat} (hg : Good g R C) (h4 : R ≤ 4) (h5 : C ≤ 4) : 0 ≤ keyR g ∧ keyR g < 1000000 := by have := key_bd hg h4 h5; omega

theorem own_oneN (w : World) (base : Nat) (e : TypeId) (u : Value) (hb : base ≤ w.heap.size) : (w.alloc (.cells #[u] e)).ownsRow base e 1 (.slice (some ⟨w.heap.size, 0, none⟩) 1 1) 1 [u] :=
  World.ownsRow_lit w #[u] 1 hb (by unfold maxLen; omega) rfl
theorem RdG.grownB {w w' : World} {lo hi B : Nat} {v : Value} {g : Img} (h : RdG w lo hi v g) (hg : w.grownBy w' (some B)) (hB : hi ≤ B) : RdG w' lo hi v g :=
  h.chg ((Chg.refl B (B + 1) w).grown hg (fun k e => by injection e with e; subst e; exact .inl ⟨Nat.le_refl _, Nat.lt_succ_self _⟩)) (.inl hB)
theorem BfsS.begin {w2 : World} {B R C lo : Nat} {t : Img} {vt : Value} (hF : FarM w2 B 1 [⟨t, [], 0, 0⟩]) (hr : RdG w2 lo B vt t) (hg : Good t R C) : BfsS (w2.alloc (.cells #[vt] 23)) B (.slice (some ⟨w2.heap.size, 0, none⟩) 1 1) [vt] [⟨t, [], 0, 0⟩] R C := by
  have hlt := hF.lt
  refine ⟨hF.alloc _, Ow.of_top (own_oneN w2 (B + 1) 23 vt (by omega)), rfl, fun k u v hu hv => ?_, fun k v hv => ?_⟩
  · match k, hu, hv with
    | 0, hu, hv =>
      simp at hu hv; subst hu; subst hv
      refine RdPG.of (hr.new ((Below.refl _ _).alloc (Nat.le_refl _) _)) (fun b h1 h2 h3 => ⟨by omega, ?_⟩)
      simp [Value.ownBlock]; omega
    | k + 1, hu, _ => simp at hu
  · match k, hv with
    | 0, hv => simp at hv; subst hv; exact hg
    | k + 1, hv => simp at hv
theorem nb_get {g : Img} {j : Nat} {s : Sw} (h : (swsR g)[j]? = some s) : (nbI g)[j]? = some (s, swR g s.1 s.2.1 s.2.2.1 s.2.2.2) := by unfold nbI; rw [List.getElem?_map, h]; rfl
theorem nb_len (g : Img) : (nbI g).length = (swsR g).length := by unfold nbI; rw [List.length_map]

theorem step_callN {P : Program} {ops : Array Oper} {o : Oper} {a : Act} {w : World} {K : Act → World → Prop} {Q : Exit → Act → World → Prop} {E : Prop} (hgd : o.guard = none) (f : FuncId) (args : Array Operand) (tys : Array TypeId)
    (ho : o.op = .call { callee := .value (.func f), args := args, argTypes := tys }) (vals : Array Value) (hrun : (execOp a.eval o).run P w = .ok (.enter f vals) w) {R : Ending → World → Prop} (hc : Calls P f vals w R)
    (hR : ∀ e w', R e w' → ∃ v, e = .returned v) (hK : ∀ v w', R (.returned v) w' → K (a.put o.dst v) w') : if Region.wanted o (yielded ops a.tmps) = true then Oper.wp P o a w K Q else E := by
  have hw : Region.wanted o (yielded ops a.tmps) = true := by simp [Region.wanted, hgd]
  rw [if_pos hw]
  unfold Oper.wp
  rw [hrun, Oper.upon_enter]
  refine hc.mono fun e w'' hh => ?_
  obtain ⟨v, rfl⟩ := hR _ _ hh
  exact hK _ _ hh
theorem low_first {α β : Type} {nb : α → List (β × α)} {D : α → Nat} {x : α} {j : Nat} {e : β × α} (h : (nb x)[j]? = some e) (hd : D e.2 < D x) (hmin : ∀ (j' : Nat) (e' : β × α), j' < j → (nb x)[j']? = some e' → ¬ D e'.2 < D x) : lowB nb D x = some e := by
  unfold lowB
  obtain ⟨e', he'⟩ := find_some (fun e : β × α => decide (D e.2 < D x)) h (by simpa using hd)
  obtain ⟨q, g1, g2, g3⟩ := find_idx _ _ _ he'
  have g2' : D e'.2 < D x := by simpa using g2
  have hq : q = j := by
    rcases Nat.lt_trichotomy q j with h1 | h1 | h1
    · exact absurd g2' (hmin q e' h1 g1)
    · exact h1
    · have := g3 j e h1 h
      simp at this; omega
  subst hq
  rw [g1] at h; injection h with h; subst h
  exact he'
def lenV : Value → Nat
  | .slice _ n _ => n
  | _ => 0
def XO (O : Value) (b : Nat) : Prop := O.ownBlock ≠ some b
theorem sym_of {L : List (Vx Img Sw)} {R C : Nat} (hg : ∀ (k : Nat) (v : Vx Img Sw), L[k]? = some v → Good v.x R C) (k q : Nat) (u : Vx Img Sw) (e : Sw × Img) (hk : L[k]? = some u) (he : (nbI u.x)[q]? = some e) : ∃ (q' : Nat) (e' : Sw × Img), (nbI e.2)[q']? = some e' ∧ e'.2 = u.x := by
  obtain ⟨q', h⟩ := List.mem_iff_getElem?.1 (nb_good (hg k u hk) (List.mem_of_getElem? he)).2.2
  exact ⟨q', _, h, rfl⟩
theorem cell_keep {w w' : World} {p : Addr} {u : Value} (h : w.cell? p = some u) (hb : Below w.heap.size w w') : w'.cell? p = some u := (World.cell?_of_block (hb.block p.block (World.block_lt_of_cell? w _ h))).trans h
theorem sws_ok {g : Img} {R C : Nat} (h : Good g R C) {j : Nat} {s : Sw} (hs : (swsR g)[j]? = some s) : swOk g s.1 s.2.1 s.2.2.1 s.2.2.2 = true := by
  have hm := List.mem_of_getElem? hs
  rw [sws_yes h.img] at hm
  obtain ⟨a, b, c, d, _, _, _, _, _, h6, rfl⟩ := (mem_sw1 _ (Nat.le_refl _)).1 hm
  exact h6

set_option maxRecDepth 100000 in
set_option maxHeartbeats 4000000 in
theorem impl_PathTo (g t : Img) (v u : Value) (w : World) (a b a' b' : Nat) (hr : RdG w a b v g) (hs : RdG w a' b' u t) :
    Calls Try.prog 7 #[v, u] w (RetW w g t) := by
  replace hr := hr.clip
  replace hs := hs.clip
  obtain ⟨A, c, rfl, h1, h2⟩ := hr.form
  obtain ⟨A', c', rfl, h1', h2'⟩ := hs.form
  by_cases g1 : sumsF g t = true
  rotate_left
  · have g1 : sumsF g t = false := by simpa using g1
    have GO := Lib.hid (okP_1 g1)
    have GS := Lib.hid g1; clear g1
    go_enter Try.func7, Try.ntmps7
    go_wp2_with (go_at_call 8; refine (impl_SameSums _ _ _ _ _ _ _ _ _ hr hs).mono ?_; rw [GS.out]; rintro e w1 ⟨rfl, hb⟩)
    go_ret2
    exact RetW_no GO.out hb
  obtain ⟨hg, ht, hsame⟩ := sums_same g1
  have GS := Lib.hid g1; clear g1
  by_cases g2 : g.length ≤ 4
  rotate_left
  · have GO := Lib.hid (okP_2 (t := t) g2)
    have g2' : (4 : Int) < (g.length : Int) := by omega
    go_enter Try.func7, Try.ntmps7
    go_wp2_with (go_at_call 8; refine (impl_SameSums _ _ _ _ _ _ _ _ _ hr hs).mono ?_; rw [GS.out]; rintro e w1 ⟨rfl, hb⟩)
    go_ret2
    exact RetW_no GO.out hb
  have r1 := hg.r1
  obtain ⟨bg, og, rfl, _, _⟩ := hr.some_ (by omega)
  have hhd : g[0]? = some (hd g) := hd_get (by omega)
  have g2' : ¬ (4 : Int) < (g.length : Int) := by omega
  have g0' : (0 : Int) < (g.length : Int) := by omega
  have g0'' : 0 < g.length := by omega
  by_cases g3 : (hd g).length ≤ 4
  rotate_left
  · have GO := Lib.hid (okP_3 (t := t) g3)
    have g3' : (4 : Int) < ((hd g).length : Int) := by omega
    have HHD := Lib.hid hhd; clear hhd hg ht hsame
    go_enter Try.func7, Try.ntmps7
    go_wp2_with (go_at_call 8; refine (impl_SameSums _ _ _ _ _ _ _ _ _ hr hs).mono ?_; rw [GS.out]; rintro e w1 ⟨rfl, hb⟩; have hr1 := hr.new hb; obtain ⟨A1, c1, hc1, _, _, _⟩ := hr1.row0 HHD.out)
    go_ret2
    exact RetW_no GO.out hb
  have GO := Lib.hid (okP_4 GS.out g2 g3)
  have g3' : ¬ (4 : Int) < ((hd g).length : Int) := by omega
  have HHD := Lib.hid hhd; clear hhd
  have HSM := Lib.hid hsame; clear hsame
  have HG := Lib.hid hg; clear hg
  have HT := Lib.hid ht; clear ht
  obtain ⟨R, hR⟩ : ∃ R, R = g.length := ⟨_, rfl⟩
  obtain ⟨C, hC⟩ : ∃ C, C = (hd g).length := ⟨_, rfl⟩
  rw [← hR, ← hC] at HG HT HSM
  have htl : t.length = R := HT.out.len
  rw [htl] at hs h1' ⊢
  have HTL := Lib.hid htl; clear htl
  have HKT := Lib.hid (key_small HT.out (by omega) (by omega))
  rw [← hR] at hr h1 g2 g2' g0' g0'' r1 ⊢
  have HR := Lib.hid hR; clear hR
  have HC := Lib.hid hC
  rw [← hC] at g3 g3'
  clear hC
  obtain ⟨j0, hj, jz0, jz1, jz2⟩ := info_parts grid_info
  obtain ⟨s0, hs0, sz0, sz1, sz2⟩ := info_parts sw_info
  have hmm := @run_makeMap Try.prog
  go_enter Try.func7, Try.ntmps7
  go_upto_region 3 with (go_at_call 8; refine (impl_SameSums _ _ _ _ _ _ _ _ _ hr hs).mono ?_; rw [GS.out]; rintro e w1 ⟨rfl, hb⟩; have hr1 := hr.new hb; obtain ⟨A1, c1, hc1, _, _, _⟩ := hr1.row0 HHD.out; rw [← HC.out] at hc1)
  have hs1 := (hs.new hb).new ((Below.refl _ _).alloc (Nat.le_refl w1.heap.size) (.map #[] 0))
  obtain ⟨w2, hrun2, hF2, hg2⟩ := (FarM.made w1).store0 HKT.out
  go_wp2_with (go_at_call 30; refine (impl_keyOf (R := R) (C := C) t _ _ _ _ hs1 HT.out (by omega) (by omega)).mono ?_; rintro e w' ⟨rfl, rfl⟩)
  have hs2 := hs1.grownB hg2 hb.size
  have hS0 := BfsS.begin hF2 (hs2.mono (Nat.le_refl _) hb.size) HT.out
  have sz2 := hg2.size
  have hb2 : Below w.heap.size w w2 := (hb.alloc hb.size (.map #[] 0)).grown hg2 (by have := hb.size; simp; omega) (fun k e => by injection e with e; subst e; exact hb.size)
  have hb3 := hb2.alloc (by have := hb.size; simp at sz2; omega) (.cells #[.slice A' R c'] 23)
  have hr3 := hr.below hb3 (Nat.le_refl _)
  obtain ⟨B, hB⟩ : ∃ B, B = w1.heap.size := ⟨_, rfl⟩
  have hBw : w.heap.size ≤ B := by rw [hB]; exact hb.size
  rw [← hB] at hS0 ⊢
  clear hF2 hg2 hrun2 hs1 hs2 hr1 sz2 hb hb2 hc1 hmm
  have HB := Lib.hid hB; clear hB
  go_loopw [7, 8] (fun q i wr => ∃ (k : Nat) (Q : Value) (us : List Value) (L : List (Vx Img Sw)), Q = q ∧ i = .int .i64 k ∧ k ≤ L.length ∧ Hid (InvB nbI t L k 0) ∧ BfsS wr B Q us L R C ∧ RdG wr a w.heap.size (.slice (some ⟨bg, og, none⟩) R c) g ∧ Below w.heap.size w wr) (fun _ i _ => 65537 - (intOf i).toNat)
  case atStart => exact ⟨0, _, _, _, rfl, rfl, Nat.zero_le _, Lib.hid (InvB.begin nbI t), hS0, hr3, hb3⟩
  case round =>
    clear hS0 hr3 hb3
    obtain ⟨k, Q, us, L, rfl, rfl, hk, HI, hS, hrg, hbw⟩ := hrel
    rename World => wr
    have hLb := found_bd HI.out.nodup hS.good (by omega) (by omega)
    by_cases hlt : k < L.length
    rotate_left
    · obtain rfl : k = L.length := by omega
      have hFar := HI.out.far (sym_of hS.good)
      obtain ⟨n0, hn0, hreach⟩ := joined (dN t g R C).toNat t g HT.out HG.out HSM.out.symm (by have := dN_nonneg t g R C; omega)
      have hSg := reach_in hFar hreach ⟨0, _, HI.out.start, rfl⟩
      have hDx : ∀ (k : Nat) (v : Vx Img Sw), L[k]? = some v → dOf L v.x = v.w.length := fun k v hk => dOf_get HI.out.nodup hk
      have hWl : ∀ (k : Nat) (v : Vx Img Sw), L[k]? = some v → v.w.length ≤ 65536 := fun k v hk => by
        have := dist_tail HI.out (k + 1) k v (Nat.lt_succ_self _) hk
        have := get_lt hk; omega
      obtain ⟨D, hD⟩ : ∃ D, D = dOf L := ⟨_, rfl⟩
      rw [← hD] at hFar hDx
      clear hD
      have HFar := Lib.hid hFar; clear hFar
      have HSg := Lib.hid hSg; clear hSg
      have HDx := Lib.hid hDx; clear hDx
      have HWl := Lib.hid hWl; clear hWl
      have hgood := hS.good
      have HGD := Lib.hid hgood; clear hgood
      have hFM := hS.far
      have hBr := hS.far.lt
      have hDg : D g ≤ 65536 := by obtain ⟨k, v, hk, rfl⟩ := HSg.out; rw [HDx.out k v hk]; exact HWl.out k v hk
      have hatP : RdPG (XO (.slice none 0 0)) wr (.slice (some ⟨bg, og, none⟩) R c) g := RdPG.of hrg (fun b _ _ _ => by simp [XO, Value.ownBlock])
      have hbw' := hbw
      have hul := hS.len
      obtain ⟨AQ, cQ, rfl, n1, n2⟩ := hS.hQ.form'
      rw [hul] at n1 ⊢
      clear hS hn0 hreach hlt hrg hul
      go_wp2_with fail
      go_loopw [15, 16] (fun o at_ wq => ∃ (O AT : Value) (pre : List Sw) (kx : Nat) (vx : Vx Img Sw), O = o ∧ AT = at_ ∧ Hid (L[kx]? = some vx) ∧ Hid (grB nbI D (D g) g = pre ++ grB nbI D vx.w.length vx.x) ∧ pre.length + vx.w.length = D g ∧ OwS wq (B + 1) wq.heap.size 32 O pre ∧ RdPG (XO O) wq AT vx.x ∧ FarM wq B L.length L ∧ Below w.heap.size w wq) (fun o _ _ => D g - lenV o)
      case atStart =>
        obtain ⟨kg, vg, hkg, hvg⟩ := HSg.out
        have hl := HDx.out kg vg hkg
        rw [hvg] at hl
        exact ⟨_, _, [], kg, vg, rfl, rfl, Lib.hid hkg, Lib.hid (by rw [hvg, ← hl]; rfl), by rw [← hl]; simp, OwS.nil _ _ _ _, by rw [hvg]; exact hatP, hFM, hbw'⟩
      case round =>
        clear hatP hFM hbw' hbw hBr
        obtain ⟨O, AT, pre, kx, vx, rfl, rfl, HKX, HGR, hpl, hO, hat, hFM, hbw⟩ := hrel
        rename World => wq
        have hgx := HGD.out kx vx HKX.out
        have hkeyx := key_small hgx (by omega) (by omega)
        have hlk := hFM.look HKX.out hkeyx
        have hwl := HWl.out kx vx HKX.out
        have hatr := hat.rd
        have hBq := hFM.lt
        obtain ⟨AO, cO, rfl, n1, n2⟩ := hO.form'
        have HGX := Lib.hid hgx; clear hgx
        by_cases hz : vx.w.length = 0
        · have hz' : ¬ (0 : Int) < (vx.w.length : Int) := by omega
          have HPRE : Hid (pre = grB nbI D (D g) g) := Lib.hid (by rw [HGR.out, hz]; simp [grB])
          go_wp2_with (go_at_call 30; refine (impl_keyOf (R := R) (C := C) vx.x _ _ _ _ hatr HGX.out (by omega) (by omega)).mono ?_; rintro e w' ⟨rfl, rfl⟩)
          go_ret2
          exact ⟨_, pre, (by rw [GO.out]; rfl), ⟨(fun _ => ⟨_, D, HFar.out, HSg.out, HPRE.out⟩), (fun h => by rw [GO.out] at h; cases h), hO.mono (by omega) (Nat.le_refl _), hbw⟩⟩
        have hz' : (0 : Int) < (vx.w.length : Int) := by omega
        have hDxx := HDx.out kx vx HKX.out
        obtain ⟨ql, el, hlow, hql, hDl, _, _⟩ := low_some HFar.out (x := vx.x) ⟨kx, vx, HKX.out, rfl⟩ (by rw [hDxx]; omega)
        rw [hDxx] at hDl
        have HQL := Lib.hid hql; clear hql hlow
        have HDL := Lib.hid hDl; clear hDl
        have HDXX := Lib.hid hDxx; clear hDxx
        go_wp2_with (first
          | (go_at_call 30; refine (impl_keyOf (R := R) (C := C) vx.x _ _ _ _ hatr HGX.out (by omega) (by omega)).mono ?_; rintro e w' ⟨rfl, rfl⟩)
          | (go_at_call 31; refine (impl_SwitchesOf _ _ _ _ _ hatr).mono ?_; rintro e w3 ⟨vs3, rfl, hsw, hb3⟩; obtain ⟨As, cs, rfl, _, _⟩ := hsw.form'))
        have hO3 := (hO.new hb3).mono (Nat.le_refl _) hb3.size
        have hat3 := hat.move (keep_new hb3)
        have hFM3 := hFM.new hb3
        have hbw3 := hbw.trans (hb3.mono hbw.size)
        have hsP : RdPS (XO (.slice AO pre.length cO)) w3 (.slice As (swsR vx.x).length cs) (swsR vx.x) :=
          RdPS.of hsw.rd (fun b h1 h2 h3 e => by have := (hO.blk e).2.2; omega)
        clear hO hat hFM hbw hatr hlk hsw
        go_wp2_with fail
        go_loopw [15, 16, 102] (fun o a_ i wz => ∃ (j : Nat), o = .slice AO pre.length cO ∧ AT = a_ ∧ i = .int .i64 j ∧ j ≤ (swsR vx.x).length ∧ Hid (∀ (j' : Nat) (e' : Sw × Img), j' < j → (nbI vx.x)[j']? = some e' → ¬ D e'.2 < D vx.x) ∧ OwS wz (B + 1) wz.heap.size 32 (.slice AO pre.length cO) pre ∧ RdPG (XO (.slice AO pre.length cO)) wz AT vx.x ∧ RdPS (XO (.slice AO pre.length cO)) wz (.slice As (swsR vx.x).length cs) (swsR vx.x) ∧ FarM wz B L.length L ∧ Below w.heap.size w wz) (fun _ _ i _ => (swsR vx.x).length - (intOf i).toNat)
        case atStart => exact ⟨0, rfl, rfl, rfl, Nat.zero_le _, Lib.hid (fun j' e' h => by omega), hO3, hat3, hsP, hFM3, hbw3⟩
        case round =>
          clear hO3 hat3 hsP hFM3 hbw3
          obtain ⟨j, rfl, rfl, rfl, hj', HNO, hO, hat, hsP, hFM, hbw⟩ := hrel
          rename World => wz
          by_cases hlj : j < (swsR vx.x).length
          rotate_left
          · exfalso
            have h1 := get_lt HQL.out
            rw [nb_len] at h1
            refine HNO.out ql el (by omega) HQL.out ?_
            have h2 := HDL.out
            rw [HDXX.out]; omega
          obtain ⟨⟨s1, s2, s3, s4⟩, hx⟩ := get_of_lt (swsR vx.x) j hlj
          obtain ⟨b1, o1, rfl, _, _, _, c0, c1, c2, c3⟩ := hsP.rd.at_ hx
          dsimp only at c0 c1 c2 c3
          have hok := sws_ok HGX.out hx
          dsimp only at hok
          have hnb := nb_get hx
          dsimp only at hnb
          have hgn := (nb_good HGX.out (List.mem_of_getElem? hnb)).1
          dsimp only at hgn
          obtain ⟨N, hN⟩ : ∃ N, N = swR vx.x s1 s2 s3 s4 := ⟨_, rfl⟩
          rw [← hN] at hgn hnb
          have happ := fun (u : Value) (w : World) (a b : Nat) (hr : RdG w a b u vx.x) => apply_yes vx.x s1 s2 s3 s4 u w a b hr hok
          rw [← hN] at happ
          have HAPP := Lib.hid happ; clear happ hN
          obtain ⟨⟨k1, v1, hk1, hv1⟩, hlip⟩ := HFar.out.lip vx.x j _ ⟨kx, vx, HKX.out, rfl⟩ hnb
          dsimp only at hv1 hlip
          have hd1 := HDx.out k1 v1 hk1
          rw [hv1] at hd1
          rw [HDXX.out, hd1] at hlip
          have hw1 := HWl.out k1 v1 hk1
          have hkeyN := key_small hgn (by omega) (by omega)
          have HX := Lib.hid hx; clear hx
          have HNB := Lib.hid hnb; clear hnb
          have HGN := Lib.hid hgn; clear hgn
          have HK1 := Lib.hid hk1; clear hk1
          have HV1 := Lib.hid hv1; clear hv1
          have HD1 := Lib.hid hd1; clear hd1
          have ba : Below wz.heap.size wz (wz.alloc (.cells #[.int .i64 s1, .int .i64 s2, .int .i64 s3, .int .i64 s4] 32)) := (Below.refl _ _).alloc (Nat.le_refl _) _
          have hata := (hat.move (keep_new ba)).rd
          have i3 : (j : Int) < ((swsR vx.x).length : Int) := by omega
          have hBz : B < wz.heap.size := hFM.lt
          go_upto_region 24 with (go_at_call 11; refine (HAPP.out _ _ _ _ hata).mono ?_; rintro e w4 ⟨u4, rfl, ho4, hb4⟩; obtain ⟨A4, c4, rfl, _, _⟩ := ho4.form')
          obtain ⟨x0, x1, x2, x3⟩ := box4 wz w4.drew s1 s2 s3 s4 _ (hb4.drew)
          have hbz : Below wz.heap.size wz w4 := ba.trans (hb4.mono (by simp))
          have s4z := hbz.size
          have ho4' := ho4.mono (lo' := wz.heap.size) (by simp) (Nat.le_refl _)
          have hO4 := (hO.new hbz).mono (Nat.le_refl _) s4z
          have hat4 := hat.move (keep_new hbz)
          have hsP4 := hsP.move (keep_new hbz) s4z
          have hFM4 := hFM.new hbz
          have hbw4 := hbw.trans (hbz.mono hbw.size)
          have h4P : RdPG (XO (.slice AO pre.length cO)) w4 (.slice A4 N.length c4) N := RdPG.of ho4'.rd (fun b h1 h2 h3 e => by have := (hO.blk e).2.2; omega)
          have h4d : RdG w4.drew 0 w4.drew.heap.size (.slice A4 N.length c4) N := h4P.rd
          have hxd : RdG w4.drew 0 w4.drew.heap.size AT vx.x := hat4.rd
          have hlk1 := hFM4.drew.look HK1.out (by rw [HV1.out]; exact hkeyN)
          rw [HV1.out] at hlk1
          have hlk2 := hFM4.drew.look HKX.out hkeyx
          have hK1 : Calls Try.prog 30 #[.slice A4 N.length c4] w4.drew fun e w' => e = .returned (.int .i64 (keyR N)) ∧ w' = w4.drew := (impl_keyOf (R := R) (C := C) N _ _ _ _ h4d HGN.out (by omega) (by omega)).mono fun e w' h => ⟨h.1, h.2.symm⟩
          have hK2 : Calls Try.prog 30 #[AT] w4.drew fun e w' => e = .returned (.int .i64 (keyR vx.x)) ∧ w' = w4.drew := (impl_keyOf (R := R) (C := C) vx.x _ _ _ _ hxd HGX.out (by omega) (by omega)).mono fun e w' h => ⟨h.1, h.2.symm⟩
          have HKK1 := Lib.hid hK1; clear hK1
          have HKK2 := Lib.hid hK2; clear hK2
          clear hO hat hsP hFM hbw hata ho4 hb4 ba ho4'
          refine wp_region_still_lit (by kernel_rfl) (by kernel_rfl) ?_
          change wpStill _ _ (World.drew _) _ _ _
          still_step
          still_step
          still_call HKK1.out
          still_step
          still_step
          still_step
          still_call HKK2.out
          repeat still_step
          refine wpStill_nil ?_
          change Exit.then _ _ _ _ (World.drew w4)
          have hat5 : RdPG (XO (.slice AO pre.length cO)) w4.drew AT vx.x := hat4
          have hsP5 : RdPS (XO (.slice AO pre.length cO)) w4.drew (.slice (some ⟨b1, o1, none⟩) (swsR vx.x).length cs) (swsR vx.x) := hsP4
          have hFM5 := hFM4.drew
          have hbw5 := hbw4.drew
          have h4P5 : RdPG (XO (.slice AO pre.length cO)) w4.drew (.slice A4 N.length c4) N := h4P
          have s5z : wz.heap.size ≤ w4.drew.heap.size := s4z
          have hO5 : OwS w4.drew (B + 1) w4.drew.heap.size 32 (.slice AO pre.length cO) pre := hO4
          by_cases hdn : v1.w.length < vx.w.length
          rotate_left
          · have hdn' : ¬ (v1.w.length : Int) < (vx.w.length : Int) := by omega
            go_wp2_with fail
            go_roundw
            case rel => first
              | exact ⟨j + 1, rfl, rfl, by go_num, by omega, Lib.hid (fun j' e' hlt he => by
                  by_cases e : j' = j
                  · subst e; rw [HNB.out] at he; injection he with he; subst he; rw [HD1.out, HDXX.out]; exact hdn
                  · exact HNO.out j' e' (by omega) he), hO5, hat5, hsP5, hFM5, hbw5⟩
              | ((repeat apply Exists.intro); exact ⟨⟨j + 1, rfl, rfl, by go_num, by omega, Lib.hid (fun j' e' hlt he => by
                  by_cases e : j' = j
                  · subst e; rw [HNB.out] at he; injection he with he; subst he; rw [HD1.out, HDXX.out]; exact hdn
                  · exact HNO.out j' e' (by omega) he), hO5, hat5, hsP5, hFM5, hbw5⟩, rfl⟩)
            case measure => simp [intOf]; omega
          have hdn' : (v1.w.length : Int) < (vx.w.length : Int) := by omega
          have hlow := low_first HNB.out (D := D) (by dsimp only; rw [HD1.out, HDXX.out]; exact hdn) HNO.out
          have hn1 : vx.w.length = v1.w.length + 1 := by omega
          have HGR2 : Hid (grB nbI D (D g) g = (pre ++ [(s1, s2, s3, s4)]) ++ grB nbI D v1.w.length v1.x) := Lib.hid (by
            rw [HGR.out, hn1, grB, hlow, HV1.out]
            simp)
          have HN1 := Lib.hid hn1; clear hn1
          clear hlow
          have hOo := (hO5.alloc (.cells #[.int .i64 s1, .int .i64 s2, .int .i64 s3, .int .i64 s4] 32)).1
          have hpl2 : pre.length + 1 ≤ 65536 := by have := HN1.out; omega
          go_wp2_with (at_builtin; refine wpList_append_own_at _ rfl _ _ 26 rfl (B + 1) 32 s0 (.agg #[.int .i64 0, .int .i64 0, .int .i64 0, .int .i64 0]) 4 32 Try.underlying26 hs0 sz0 sz1 sz2 rfl (by decide) _ _ _ rfl hOo ⟨w4.drew.heap.size, 0, none⟩ 1 1 (swCells (s1, s2, s3, s4)) rfl rfl (cell_sw_new w4.drew (s1, s2, s3, s4) _) (by simp [swCells, Value.oneCell']) (by unfold maxLen; omega) (by omega) (by have := hFM5.lt; simp at this ⊢; omega) ?_; intro v6 w6 hown6 hg6 _ hnew6)
          have hV6 : OwS w6 (B + 1) w6.heap.size 32 v6 (pre ++ [(s1, s2, s3, s4)]) := OwS.of_top hown6 (by rw [swFlat_app, swFlat_one])
          obtain ⟨A6, c6, e6, _, _⟩ := hV6.form'
          have sal : (w4.drew.alloc (.cells #[.int .i64 s1, .int .i64 s2, .int .i64 s3, .int .i64 s4] 32)).heap.size = w4.drew.heap.size + 1 := by simp
          have sal2 : (w4.alloc (.cells #[.int .i64 s1, .int .i64 s2, .int .i64 s3, .int .i64 s4] 32)).drew.heap.size = w4.drew.heap.size + 1 := sal
          replace hg6 : (w4.drew.alloc (.cells #[.int .i64 s1, .int .i64 s2, .int .i64 s3, .int .i64 s4] 32)).grownBy w6 (Value.slice AO pre.length cO).ownBlock := ⟨hg6.os, hg6.tape, hg6.output, hg6.size, hg6.block⟩
          have hk6 : KeepP (XO (.slice AO pre.length cO)) (XO v6) w4.drew w6 := fun b hb hx => by
            have e2 := ((Below.refl w4.drew.heap.size w4.drew).alloc (Nat.le_refl _) (.cells #[.int .i64 s1, .int .i64 s2, .int .i64 s3, .int .i64 s4] 32)).block b hb
            have e3 := hg6.block b (by omega) (fun e => hx e.symm)
            refine ⟨e3.trans e2, ?_⟩
            unfold XO at hx ⊢
            rcases hnew6 with e | e
            · rw [e]; exact hx
            · rw [e]; intro hh; injection hh with hh; omega
          have hF6 := (hFM5.alloc (.cells #[.int .i64 s1, .int .i64 s2, .int .i64 s3, .int .i64 s4] 32)).kept hg6 (fun e => by have := (hO5.blk e.symm).1; omega)
          have hb6 := (hbw5.alloc hbw5.size (.cells #[.int .i64 s1, .int .i64 s2, .int .i64 s3, .int .i64 s4] 32)).grown hg6 (by have := hbw5.size; omega) (fun q hq => by have := (hO5.blk hq).1; omega)
          refine ⟨⟨v6, _, pre ++ [(s1, s2, s3, s4)], k1, v1, rfl, rfl, HK1, HGR2, by rw [List.length_append, List.length_singleton]; have := HN1.out; omega, hV6, by rw [HV1.out]; exact h4P5.move hk6, hF6, hb6⟩, ?_⟩
          rw [e6]
          simp only [lenV, List.length_append, List.length_singleton]
          omega
    obtain ⟨v, hv⟩ := get_of_lt L k hlt
    obtain ⟨uk, huk⟩ := get_of_lt us k (by rw [hS.len]; exact hlt)
    have hrd := hS.el k uk v huk hv
    have hgv := hS.good k v hv
    obtain ⟨AQ, cQ, rfl, n1, n2⟩ := hS.hQ.form'
    obtain ⟨qb, rfl, _, _, _, hcq, _⟩ := hS.hQ.at_ huk
    have hul := hS.len
    rw [hul] at n1 hS ⊢
    have HUL := Lib.hid hul; clear hul
    have HV := Lib.hid hv; clear hv
    have HUK := Lib.hid huk; clear huk
    have HGV := Lib.hid hgv; clear hgv
    have i1 : (k : Int) < (L.length : Int) := by omega
    go_wp2_with (go_at_call 31; refine (impl_SwitchesOf _ _ _ _ _ hrd.rd).mono ?_; rintro e w3 ⟨vs, rfl, hsw, hb3⟩; obtain ⟨As, cs, rfl, _, _⟩ := hsw.form')
    have hS3 := hS.new hb3
    have hs3 := hb3.size
    have hBr : B < wr.heap.size := hS.far.lt
    have hbs := hbw.size
    have hsP : RdPS (XQ B (.slice (some ⟨qb, 0, none⟩) L.length cQ)) w3 (.slice As (swsR v.x).length cs) (swsR v.x) :=
      RdPS.of hsw.rd (fun b h1 h2 h3 => ⟨by omega, fun e => by have := (hS.hQ.blk e).2.2; omega⟩)
    have hrg3 := hrg.new hb3
    have hbw3 := hbw.trans (hb3.mono hbs)
    clear hsw hrd hS hcq hrg
    go_wp2_with fail
    go_loopw [7, 55] (fun q i wq => ∃ (j : Nat) (Q : Value) (us : List Value) (L : List (Vx Img Sw)), Q = q ∧ i = .int .i64 j ∧ j ≤ (swsR v.x).length ∧ Hid (InvB nbI t L k j) ∧ Hid (L[k]? = some v) ∧ BfsS wq B Q us L R C ∧ RdPS (XQ B Q) wq (.slice As (swsR v.x).length cs) (swsR v.x) ∧ RdG wq a w.heap.size (.slice (some ⟨bg, og, none⟩) R c) g ∧ Below w.heap.size w wq) (fun _ i _ => (swsR v.x).length - (intOf i).toNat)
    case atStart => exact ⟨0, _, us, L, rfl, rfl, Nat.zero_le _, HI, HV, hS3, hsP, hrg3, hbw3⟩
    case round =>
      clear hS3 hsP hrg3 hbw3
      obtain ⟨j, Q, vs, M, rfl, rfl, hj', HJ, HVM, hS, hsP, hrg, hbq⟩ := hrel
      rename World => wq
      by_cases hlj : j < (swsR v.x).length
      rotate_left
      · have HN := Lib.hid (HJ.out.next HVM.out (by rw [nb_len]; omega))
        have hkM := get_lt HVM.out
        go_wp2_with fail
        go_roundw
        case rel => first
          | exact ⟨k + 1, Q, vs, M, rfl, by go_num, by omega, HN, hS, hrg, hbq⟩
          | ((repeat apply Exists.intro); exact ⟨⟨k + 1, Q, vs, M, rfl, by go_num, by omega, HN, hS, hrg, hbq⟩, rfl⟩)
        case measure => simp [intOf]; omega
      obtain ⟨⟨s1, s2, s3, s4⟩, hx⟩ := get_of_lt (swsR v.x) j hlj
      obtain ⟨b1, o1, rfl, _, _, _, c0, c1, c2, c3⟩ := hsP.rd.at_ hx
      dsimp only at c0 c1 c2 c3
      have hok := sws_ok HGV.out hx
      dsimp only at hok
      have hnb := nb_get hx
      dsimp only at hnb
      have hgn := (nb_good HGV.out (List.mem_of_getElem? hnb)).1
      dsimp only at hgn
      obtain ⟨N, hN⟩ : ∃ N, N = swR v.x s1 s2 s3 s4 := ⟨_, rfl⟩
      rw [← hN] at hgn hnb
      have happ := fun (u : Value) (w : World) (a b : Nat) (hr : RdG w a b u v.x) => apply_yes v.x s1 s2 s3 s4 u w a b hr hok
      rw [← hN] at happ
      have HAPP := Lib.hid happ; clear happ hN
      have HOK := Lib.hid hok; clear hok
      have HX := Lib.hid hx; clear hx
      have HNB := Lib.hid hnb; clear hnb
      have HGN := Lib.hid hgn; clear hgn
      have hkey := key_small HGN.out (by omega) (by omega)
      have hkM := get_lt HVM.out
      obtain ⟨uq, huq⟩ := get_of_lt vs k (by rw [hS.len]; exact hkM)
      have hrdq := hS.el k uq v huq HVM.out
      have hLbM := found_bd HJ.out.nodup hS.good (by omega) (by omega)
      obtain ⟨AQ, cQ2, rfl, n3, n4⟩ := hS.hQ.form'
      obtain ⟨qc, rfl, _, _, _, hcq, _⟩ := hS.hQ.at_ huq
      have hul := hS.len
      rw [hul] at n3 hS hrdq hsP ⊢
      have HUL2 := Lib.hid hul; clear hul
      have HUQ := Lib.hid huq; clear huq
      have ba : Below wq.heap.size wq (wq.alloc (.cells #[.int .i64 s1, .int .i64 s2, .int .i64 s3, .int .i64 s4] 32)) := (Below.refl _ _).alloc (Nat.le_refl _) _
      have hSa := hS.new ba
      have hrda := (hrdq.move (keep_new ba)).rd
      have hcqa := cell_keep hcq ba
      have i2 : (k : Int) < (M.length : Int) := by omega
      have i3 : (j : Int) < ((swsR v.x).length : Int) := by omega
      have hBq : B < wq.heap.size := hS.far.lt
      go_upto_region 11 with fail
      have hcqd : (World.drew (wq.alloc (.cells #[.int .i64 s1, .int .i64 s2, .int .i64 s3, .int .i64 s4] 32))).cell? ⟨qc, k, none⟩ = some uq := hcqa
      have hrdd : RdG (World.drew (wq.alloc (.cells #[.int .i64 s1, .int .i64 s2, .int .i64 s3, .int .i64 s4] 32))) 0 _ uq v.x := hrda
      go_cut [11] from 56 to 92 (fun s11 wc => ∃ A4 c4, s11 = .slice A4 N.length c4 ∧ OwG wc wq.heap.size wc.heap.size 50 3 s11 N ∧ Below wq.heap.size wq wc)
      case first =>
        go_region_law (first
          | (refine step_callN rfl 11 _ _ rfl #[uq, .agg #[.int .i64 s1, .int .i64 s2, .int .i64 s3, .int .i64 s4]] (by kernel_rfl) (HAPP.out uq _ _ _ hrdd) (fun e w' h => by obtain ⟨v, h, _⟩ := h; exact ⟨_, h⟩) ?_; rintro r4 w4 ⟨u4, hvv, ho4, hb4⟩; injection hvv with hvv; subst hvv; obtain ⟨A4, c4, rfl, _, _⟩ := ho4.form'))
        all_goals (go_wp2_with fail)
        all_goals go_meet
        all_goals (case rel => exact ⟨A4, c4, rfl, ho4.mono (by simp) (Nat.le_refl _), (ba.drew).trans (hb4.mono (by simp))⟩)
      case rest =>
        obtain ⟨A4, c4, rfl, ho4, hb4⟩ := hcut
        have hSc := hS.new hb4
        have hsPc := hsP.move (keep_new hb4) hb4.size
        have hrgc := hrg.new hb4
        have hbc := hbq.trans (hb4.mono hbq.size)
        have hs4 := hb4.size
        have h4P : RdPG (XQ B (.slice (some ⟨qc, 0, none⟩) M.length cQ2)) wc (.slice A4 N.length c4) N :=
          RdPG.of ho4.rd (fun b h1 h2 h3 => ⟨by omega, fun e => by have := (hS.hQ.blk e).2.2; omega⟩)
        have hcqc := cell_keep hcq hb4
        clear hcqd hrdd hrda hcqa hSa ba hcq hrdq ho4 hS hsP hrg hb4
        have h4r := h4P.rd
        by_cases hmem : ∃ (k' : Nat) (v' : Vx Img Sw), M[k']? = some v' ∧ v'.x = N
        · obtain ⟨k', v', hk', hv'⟩ := hmem
          have hlk := hSc.far.look_yes hk' (by rw [hv']; exact hkey)
          rw [hv'] at hlk
          have HSE := Lib.hid (HJ.out.seen HVM.out HNB.out ⟨k', v', hk', hv'⟩)
          clear hk' hv'
          go_wp2_with (go_at_call 30; refine (impl_keyOf (R := R) (C := C) N _ _ _ _ h4r HGN.out (by omega) (by omega)).mono ?_; rintro e w' ⟨rfl, rfl⟩)
          go_roundw
          case rel => first
            | exact ⟨j + 1, _, vs, M, rfl, by go_num, by omega, HSE, HVM, hSc, hsPc, hrgc, hbc⟩
            | ((repeat apply Exists.intro); exact ⟨⟨j + 1, _, vs, M, rfl, by go_num, by omega, HSE, HVM, hSc, hsPc, hrgc, hbc⟩, rfl⟩)
          case measure => simp [intOf]; omega
        have hne : ∀ (k' : Nat) (v' : Vx Img Sw), M[k']? = some v' → keyR v'.x ≠ keyR N := fun k' v' hk' e => hmem ⟨k', v', hk', key_inj (hSc.good k' v' hk') HGN.out e⟩
        obtain ⟨cx, hlk⟩ := hSc.far.look_no hne hkey
        have hkv := key_small HGV.out (by omega) (by omega)
        have hvl := dist_tail HJ.out (k + 1) k v (Nat.lt_succ_self _) HVM.out
        have hxl : (v.w ++ [(s1, s2, s3, s4)]).length = v.w.length + 1 := by simp
        obtain ⟨w5, hrun5, hF5, hg5⟩ := hSc.far.drew.store (x := ⟨N, v.w ++ [(s1, s2, s3, s4)], k, j⟩) hne hkey (by omega) (by dsimp only; omega)
        dsimp only at hrun5
        rw [hxl, show ((v.w.length + 1 : Nat) : Int) = (v.w.length : Int) + 1 from by push_cast; rfl] at hrun5
        have hlk2 := hSc.far.drew.look HVM.out hkv
        have hcqd : wc.drew.cell? ⟨qc, k, none⟩ = some uq := hcqc
        have h4d : RdG wc.drew 0 wc.drew.heap.size (.slice A4 N.length c4) N := h4r
        have hvd : RdG wc.drew 0 wc.drew.heap.size uq v.x := (hSc.el k uq v HUQ.out HVM.out).rd
        have hK1 : Calls Try.prog 30 #[.slice A4 N.length c4] wc.drew fun e w' => e = .returned (.int .i64 (keyR N)) ∧ w' = wc.drew := (impl_keyOf (R := R) (C := C) N _ _ _ _ h4d HGN.out (by omega) (by omega)).mono fun e w' h => ⟨h.1, h.2.symm⟩
        have hK2 : Calls Try.prog 30 #[uq] wc.drew fun e w' => e = .returned (.int .i64 (keyR v.x)) ∧ w' = wc.drew := (impl_keyOf (R := R) (C := C) v.x _ _ _ _ hvd HGV.out (by omega) (by omega)).mono fun e w' h => ⟨h.1, h.2.symm⟩
        have hg5' : wc.grownBy w5 (some B) := ⟨hg5.os, hg5.tape, hg5.output, hg5.size, hg5.block⟩
        have hBc := hSc.far.lt
        have s5 := hg5'.size
        have hQ5 := (hSc.hQ.grown hg5' (fun q hq e => by injection e with e; have := (hSc.hQ.blk hq).1; omega)).mono (Nat.le_refl _) s5
        have hQo := (hQ5.alloc (.cells #[.slice A4 N.length c4] 23)).1
        rw [HUL2.out] at hQo
        have f1 : IntKind.i64.wrap ((v.w.length : Int) + 1) = (v.w.length : Int) + 1 := by rw [IntKind.wrap_i64]; omega
        have HK1 := Lib.hid hK1; clear hK1
        have HK2 := Lib.hid hK2; clear hK2
        have HNE := Lib.hid hne; clear hne
        have HAD := Lib.hid (HJ.out.add HVM.out HNB.out (fun k' v' hk' e => hmem ⟨k', v', hk', e⟩))
        clear hmem hxl
        have hHQ := hSc.hQ
        go_upto_region 14 with (go_at_call 30; refine (impl_keyOf (R := R) (C := C) N _ _ _ _ h4r HGN.out (by omega) (by omega)).mono ?_; rintro e w' ⟨rfl, rfl⟩)
        refine wp_region_still_tail 11 (by kernel_rfl) (by kernel_rfl) ?_
        simp only [List.take_succ_cons, List.take_zero, List.drop_succ_cons, List.drop_zero]
        change wpStill _ _ (World.drew _) _ _ _
        still_step
        still_step
        still_call HK1.out
        repeat still_step
        still_call HK2.out
        repeat still_step
        refine wpStill_nil ?_
        go_wp2_with (at_builtin; refine wpList_append_rd rfl _ _ 53 rfl (B + 1) 23 j0 (.slice none 0 0) 24 Try.underlying53 hj jz0 jz1 jz2 rfl (.slice (some ⟨qc, 0, none⟩) M.length cQ2) M.length vs rfl hQo (some ⟨w5.heap.size, 0, none⟩) 1 1 [.slice A4 N.length c4] rfl (Ow.of_top (own_oneN w5 0 23 (.slice A4 N.length c4) (Nat.zero_le _))).rd (by simp [Value.oneCell']) (by unfold maxLen; omega) (by omega) (by simp; omega) ?_; intro v6 w6 hown6 hg6 hnew6)
        obtain ⟨hS6, hk6⟩ := hSc.push (x := ⟨N, v.w ++ [(s1, s2, s3, s4)], k, j⟩) h4P HGN.out hF5 hg5' hown6 hg6 hnew6
        have b5 : Below w.heap.size wc w5 := (Below.refl _ _).grown hg5' (by omega) (fun q e => by injection e with e; subst e; exact hBw)
        have b6 : Below w.heap.size wc w6 := (b5.alloc (by omega) _).grown hg6 (by simp; omega) (fun q hq => by have := (hHQ.blk hq).1; omega)
        have s6 : wc.heap.size ≤ w6.heap.size := b6.size
        go_roundw
        case rel => first
          | exact ⟨j + 1, v6, _, _, rfl, by go_num, by omega, HAD, Lib.hid (get_old HVM.out), hS6, hsPc.move hk6 s6, hrgc.below b6 (Nat.le_refl _), hbc.trans b6⟩
          | ((repeat apply Exists.intro); exact ⟨⟨j + 1, v6, _, _, rfl, by go_num, by omega, HAD, Lib.hid (get_old HVM.out), hS6, hsPc.move hk6 s6, hrgc.below b6 (Nat.le_refl _), hbc.trans b6⟩, rfl⟩)
        case measure => simp [intOf]; omega
end Go.Proofs.Ytpjlgcohafbbdaa
