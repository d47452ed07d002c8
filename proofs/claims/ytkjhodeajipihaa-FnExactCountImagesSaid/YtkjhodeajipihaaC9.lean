/- Walks: AllImages and CountImages of impl. -/
import Derived.Test.YtkjhodeajipihaaProg
import Derived.Test.YtkjhodeajipihaaW1
import Derived.Test.YtkjhodeajipihaaW3
import Derived.Test.YtkjhodeajipihaaW4
import Derived.Test.YtkjhodeajipihaaW6
import Derived.Test.YtkjhodeajipihaaPoke
import Derived.Test.YtkjhodeajipihaaS3
import Derived.Test.YtkjhodeajipihaaC1
import Derived.Test.YtkjhodeajipihaaC3
import Derived.Test.YtkjhodeajipihaaC4
import Derived.Test.YtkjhodeajipihaaC7
import Derived.Test.YtkjhodeajipihaaC8
import Derived.Test.YtkjhodeajipihaaMem
import Derived.WalkKit
import Derived.WalkSpells
import Derived.WalkLawsBesides
import Derived.KernelRfl
import Derived.Lib.Hide
import Derived.Deep.RegionHeld3
import Derived.Deep.RegionLaw
import Derived.Deep.Cut
import Derived.Deep.QuietTactic
import Derived.BigQuiet
import Derived.Laws.EntriesVeiled
namespace Go.Proofs.Ytkjhodeajipihaa
open Go.RowKit
set_option linter.unusedVariables false
set_option linter.unusedSimpArgs false

/-- What CountImages answers. -/
def countR (rows cols : List Int) : Int := if sumsOk rows cols = true then (cntN rows cols : Int) else -1
theorem count_no {rows cols : List Int} (h : sumsOk rows cols = false) : countR rows cols = -1 := by simp [countR, h]
theorem count_yes {rows cols : List Int} (h : sumsOk rows cols = true) : countR rows cols = (cntN rows cols : Int) := by simp [countR, h]
theorem cntN_bd {rows cols : List Int} (h : sumsOk rows cols = true) : cntN rows cols ≤ 33554432 := by
  rw [← cnt_top h]
  have h' := h
  simp only [sumsOk, Bool.and_eq_true] at h'
  obtain ⟨⟨⟨⟨h1, h2⟩, h3⟩, h4⟩, h5⟩ := h'
  have q1 := inB_true h1
  have q2 := inB_true h2
  split
  · have h6 := cntS_bd rows cols (by omega)
    have : 32 ^ rows.length ≤ 32 ^ 5 := Nat.pow_le_pow_right (by omega) (by omega)
    omega
  · omega
/-- The post of AllImages. -/
def RetM (w : World) (ok : Bool) (n : Nat) (e : Ending) (w' : World) : Prop := ∃ v os, e = .returned (.tuple #[v, .bool ok]) ∧ (ok = true → os.length = n) ∧ Ow w' w.heap.size w'.heap.size 30 v os ∧ Below w.heap.size w w'
theorem sums_in {rows cols : List Int} (h : sumsOk rows cols = true) : 1 ≤ rows.length ∧ rows.length ≤ 5 ∧ 1 ≤ cols.length ∧ cols.length ≤ 5 ∧ (∀ n ∈ rows, 0 ≤ n ∧ n ≤ 5) ∧ ∀ z ∈ cols, 0 ≤ z ∧ z ≤ rows.length := by
  simp only [sumsOk, Bool.and_eq_true] at h
  obtain ⟨⟨⟨⟨h1, h2⟩, h3⟩, h4⟩, h5⟩ := h
  have q1 := inB_true h1
  have q2 := inB_true h2
  refine ⟨by omega, by omega, by omega, by omega, fun x hx => ?_, fun x hx => ?_⟩
  · have := inB_true (List.all_eq_true.1 h3 x hx); omega
  · have := inB_true (List.all_eq_true.1 h4 x hx); omega

theorem zeros_len' (r c : Nat) : (zeros r c).length = r := by simp [zeros]
theorem cell_alloc {w : World} {p : Addr} {u : Value} (h : w.cell? p = some u) (o : Obj) : (w.alloc o).cell? p = some u := cell_below h ((Below.refl w.heap.size w).alloc (Nat.le_refl _) _) (World.block_lt_of_cell? _ _ h)
theorem box_new (w : World) (v : Value) (t : TypeId) : (w.alloc (.cells #[v] t)).cell? ⟨w.heap.size, 0, none⟩ = some v ∧ (w.alloc (.cells #[v] t)).frozen? ⟨w.heap.size, 0, none⟩ = false := by
  obtain ⟨g, e, _, _, _, h1, h2⟩ := (Ow.of_top (own_one w 0 t v (Nat.zero_le _))).at_ (k := 0) (u := v) rfl
  injection e with e; injection e with e; subst e
  exact ⟨h1, h2⟩
theorem PutS.drew {e : PEnv} {w : World} {O : Value} {os : List Value} {G : List (List Int)} {L : List Int} (h : PutS e w O os G L) : PutS e w.drew O os G L :=
  ⟨h.cC, h.cR, h.cM, h.cL, h.cP, h.cO, h.fO, h.hG, h.sh, h.hL, h.hO, h.rR, h.sz⟩
theorem cntP_top {rows L : List Int} {r : Int} (h : rows[0]? = some r) : cntP rows L 0 0 r.toNat = cntN rows L := by
  cases rows with
  | nil => simp at h
  | cons x rs =>
    simp at h; subst h
    rfl
theorem step_enter {P : Program} {ops : Array Oper} {o : Oper} {a : Act} {w : World} {K : Act → World → Prop} {Q : Exit → Act → World → Prop} {E : Prop} (hgd : o.guard = none) (f : FuncId) (vals : Array Value) (hrun : (execOp a.eval o).run P w = .ok (.enter f vals) w) {R : Ending → World → Prop} (hc : Calls P f vals w R)
    (hR : ∀ e w', R e w' → ∃ v, e = .returned v) (hK : ∀ v w', R (.returned v) w' → K (a.put o.dst v) w') : if Region.wanted o (yielded ops a.tmps) = true then Oper.wp P o a w K Q else E := by
  have hw : Region.wanted o (yielded ops a.tmps) = true := by simp [Region.wanted, hgd]
  rw [if_pos hw]
  unfold Oper.wp
  rw [hrun, Oper.upon_enter]
  refine hc.mono fun e w'' hh => ?_
  obtain ⟨v, rfl⟩ := hR _ _ hh
  exact hK _ _ hh
theorem BdP.start {R : Nat} {L : List Int} (h : ∀ z ∈ L, 0 ≤ z ∧ z ≤ (R : Int)) : BdP R L 0 0 := by
  intro i z hz
  obtain ⟨h1, h2⟩ := h z (List.mem_of_getElem? hz)
  exact ⟨h1, by omega, fun h => by omega⟩

set_option maxRecDepth 100000 in
set_option maxHeartbeats 400000 in
theorem impl_AllImages (rows cols : List Int) (v u : Value) (w : World) (a b a' b' : Nat) (hr : RdI w a b v rows) (hs : RdI w a' b' u cols) :
    Calls Try.prog 9 #[v, u] w (RetM w (sumsOk rows cols) (cntN rows cols)) := by
  obtain ⟨A, c, rfl, h1, h2⟩ := hr.form
  obtain ⟨A', c', rfl, h1', h2'⟩ := hs.form
  replace hr := hr.clip
  replace hs := hs.clip
  have s1 : (w.alloc (.cells #[.slice A rows.length c] 22)).heap.size = w.heap.size + 1 := by simp
  have b1 : Below w.heap.size w (w.alloc (.cells #[.slice A rows.length c] 22)) := (Below.refl _ _).alloc (Nat.le_refl _) _
  have b2 : Below w.heap.size w ((w.alloc (.cells #[.slice A rows.length c] 22)).alloc (.cells #[.slice A' cols.length c'] 22)) := b1.alloc (by omega) _
  have hr2 := hr.new b2
  have hs2 := hs.new b2
  by_cases hok : sumsOk rows cols = true
  rotate_left
  · have hok : sumsOk rows cols = false := by simpa using hok
    rw [hok]
    have GD := Lib.hid hok; clear hok
    go_enter Try.func9, Try.ntmps9
    go_wp2_with (go_at_call 13; refine (impl_SumsOk _ _ _ _ _ _ _ _ _ hr2 hs2).mono ?_; rw [GD.out]; rintro e w' ⟨rfl, rfl⟩)
    go_ret2
    exact ⟨_, [], rfl, ⟨(fun h => nomatch h), Ow.nil _ _ _ _, b2⟩⟩
  rw [hok]
  have GD := Lib.hid hok
  obtain ⟨k1, k2, k3, k4, k5, k6⟩ := sums_in hok
  clear hok
  have K5 := Lib.hid k5; clear k5
  have K6 := Lib.hid k6; clear k6
  go_enter Try.func9, Try.ntmps9
  go_wp2_with (go_at_call 13; refine (impl_SumsOk _ _ _ _ _ _ _ _ _ hr2 hs2).mono ?_; rw [GD.out]; rintro e w' ⟨rfl, rfl⟩)
  obtain ⟨r0, hr0⟩ := get_of_lt rows 0 (by omega)
  obtain ⟨rb, ro, rfl, _, _, _, hcr0⟩ := hr.at_ hr0
  clear hcr0
  obtain ⟨W1, hW1⟩ : ∃ W, W = w.alloc (.cells #[.slice (some ⟨rb, ro, none⟩) rows.length c] 22) := ⟨_, rfl⟩
  obtain ⟨W2, hW2⟩ : ∃ W, W = W1.alloc (.cells #[.slice A' cols.length c'] 22) := ⟨_, rfl⟩
  rw [← hW1] at s1 b1 b2 hr2 hs2 ⊢
  rw [← hW2] at b2 hr2 hs2 ⊢
  have s2 : W2.heap.size = w.heap.size + 2 := by rw [hW2]; simp; omega
  obtain ⟨W3, hW3⟩ : ∃ W, W = W2.alloc (.cells #[.slice none 0 0] 26) := ⟨_, rfl⟩
  rw [← hW3]
  have s3 : W3.heap.size = w.heap.size + 3 := by rw [hW3]; simp; omega
  have b3 : Below w.heap.size w W3 := by rw [hW3]; exact b2.alloc (by omega) _
  have cR1 : W1.cell? ⟨w.heap.size, 0, none⟩ = some (.slice (some ⟨rb, ro, none⟩) rows.length c) := by rw [hW1]; exact (box_new _ _ _).1
  have cC2 : W2.cell? ⟨w.heap.size + 1, 0, none⟩ = some (.slice A' cols.length c') := by rw [hW2, ← s1]; exact (box_new _ _ _).1
  have cO3 : W3.cell? ⟨w.heap.size + 1 + 1, 0, none⟩ = some (.slice none 0 0) ∧ W3.frozen? ⟨w.heap.size + 1 + 1, 0, none⟩ = false := by
    have := box_new W2 (.slice none 0 0) 26
    rw [s2] at this; rw [hW3]; exact this
  have cC3 : W3.cell? ⟨w.heap.size + 1, 0, none⟩ = some (.slice A' cols.length c') := by rw [hW3]; exact cell_alloc cC2 _
  have cR3 : W3.cell? ⟨w.heap.size, 0, none⟩ = some (.slice (some ⟨rb, ro, none⟩) rows.length c) := by rw [hW3, hW2]; exact cell_alloc (cell_alloc cR1 _) _
  have hr3 : RdI W3 a w.heap.size (.slice (some ⟨rb, ro, none⟩) rows.length c) rows := by rw [hW3]; exact hr2.new ((Below.refl _ _).alloc (Nat.le_refl _) _)
  have hs3 : RdI W3 a' w.heap.size (.slice A' cols.length c') cols := by rw [hW3]; exact hs2.new ((Below.refl _ _).alloc (Nat.le_refl _) _)
  clear hW1 hW2 hW3 cR1 cC2 hr2 hs2 s1 s2 b1 b2 hr hs
  refine (impl_newGrid rows.length cols.length W3 (by omega) (by omega)).mono ?_
  rintro e w4 ⟨vM, rfl, hG, hb4⟩
  obtain ⟨mb, mc, c0, cc0, rfl, _, _, _, _, _, _, _, _⟩ := hG.poke2 RI (shape_zeros rows.length cols.length) (show 0 < rows.length by omega) (show 0 < cols.length by omega)
  have hmc := hG.form'
  obtain ⟨_, _, em, m1, m2⟩ := hmc
  injection em with em1 em2 em3
  rw [← em2, ← em3] at m1
  rw [← em3] at m2
  clear em1 em2 em3
  have s4 := hb4.size
  have cC4 : w4.cell? ⟨w.heap.size + 1, 0, none⟩ = some (.slice A' cols.length c') := cell_below cC3 hb4 (by simp only; omega)
  have cR4 : w4.cell? ⟨w.heap.size, 0, none⟩ = some (.slice (some ⟨rb, ro, none⟩) rows.length c) := cell_below cR3 hb4 (by simp only; omega)
  have cO4 : w4.cell? ⟨w.heap.size + 1 + 1, 0, none⟩ = some (.slice none 0 0) := cell_below cO3.1 hb4 (by simp only; omega)
  have fO4 : w4.frozen? ⟨w.heap.size + 1 + 1, 0, none⟩ = false := by rw [← cO3.2]; exact World.frozen?_of_block (hb4.block _ (by simp only; omega))
  have cC5 := cell_alloc cC4 (.cells #[.slice (some ⟨mb, 0, none⟩) rows.length mc] 30)
  have hr5 := (hr3.new hb4).new ((Below.refl _ _).alloc (Nat.le_refl w4.heap.size) (.cells #[.slice (some ⟨mb, 0, none⟩) rows.length mc] 30))
  have hs5 := (hs3.new hb4).new ((Below.refl _ _).alloc (Nat.le_refl w4.heap.size) (.cells #[.slice (some ⟨mb, 0, none⟩) rows.length mc] 30))
  go_wp2_with fail
  obtain ⟨W5, hW5⟩ : ∃ W, W = w4.alloc (.cells #[.slice (some ⟨mb, 0, none⟩) rows.length mc] 30) := ⟨_, rfl⟩
  rw [← hW5] at cC5 hr5 hs5 ⊢
  have s5 : W5.heap.size = w4.heap.size + 1 := by rw [hW5]; simp
  have b5 : Below w.heap.size w W5 := by rw [hW5]; exact (b3.trans (hb4.mono (by omega))).alloc (by omega) _
  have cR5 : W5.cell? ⟨w.heap.size, 0, none⟩ = some (.slice (some ⟨rb, ro, none⟩) rows.length c) := by rw [hW5]; exact cell_alloc cR4 _
  have cO5 : W5.cell? ⟨w.heap.size + 1 + 1, 0, none⟩ = some (.slice none 0 0) := by rw [hW5]; exact cell_alloc cO4 _
  have fO5 : W5.frozen? ⟨w.heap.size + 1 + 1, 0, none⟩ = false := by rw [hW5, ← fO4]; exact World.frozen?_of_block (((Below.refl _ _).alloc (Nat.le_refl w4.heap.size) _).block _ (by simp only; omega))
  have cM5 : W5.cell? ⟨w4.heap.size, 0, none⟩ = some (.slice (some ⟨mb, 0, none⟩) rows.length mc) := by rw [hW5]; exact (box_new _ _ _).1
  have hG5 : OwG W5 W3.heap.size w4.heap.size 22 3 (.slice (some ⟨mb, 0, none⟩) rows.length mc) (zeros rows.length cols.length) := by rw [hW5]; exact hG.alloc _
  clear hW5 cC4 cR4 cO4 fO4 cC3 cR3 cO3 hG hr3 hs3 b3 hb4
  refine (impl_copyInts cols _ W5 _ _ hs5 (by omega)).mono ?_
  rintro e w6 ⟨vL, rfl, hL, hb6⟩
  have s6 := hb6.size
  obtain ⟨z0, hz0⟩ := get_of_lt cols 0 (by omega)
  obtain ⟨AL, lc, rfl, l1, l2⟩ := hL.form'
  rw [ints_len] at l1 hL ⊢
  obtain ⟨lb, rfl, _, _, _, _, _⟩ := hL.at_ (k := 0) (u := .int .i64 z0) (by rw [ints_get, hz0]; rfl)
  clear hz0
  have hr6 := hr5.new hb6
  have cC6 : w6.cell? ⟨w.heap.size + 1, 0, none⟩ = some (.slice A' cols.length c') := cell_below cC5 hb6 (by simp only; omega)
  have cR6 : w6.cell? ⟨w.heap.size, 0, none⟩ = some (.slice (some ⟨rb, ro, none⟩) rows.length c) := cell_below cR5 hb6 (by simp only; omega)
  have cO6 : w6.cell? ⟨w.heap.size + 1 + 1, 0, none⟩ = some (.slice none 0 0) := cell_below cO5 hb6 (by simp only; omega)
  have cM6 : w6.cell? ⟨w4.heap.size, 0, none⟩ = some (.slice (some ⟨mb, 0, none⟩) rows.length mc) := cell_below cM5 hb6 (by simp only; omega)
  have fO6 : w6.frozen? ⟨w.heap.size + 1 + 1, 0, none⟩ = false := by rw [← fO5]; exact World.frozen?_of_block (hb6.block _ (by simp only; omega))
  have hG6 := hG5.new hb6
  have hL7 := hL.alloc (.cells #[.slice (some ⟨lb, 0, none⟩) cols.length lc] 22)
  obtain ⟨W7, hW7⟩ : ∃ W, W = w6.alloc (.cells #[.slice (some ⟨lb, 0, none⟩) cols.length lc] 22) := ⟨_, rfl⟩
  have s7 : W7.heap.size = w6.heap.size + 1 := by rw [hW7]; simp
  have b67 : Below w6.heap.size w6 W7 := by rw [hW7]; exact (Below.refl _ _).alloc (Nat.le_refl _) _
  have cL7 : W7.cell? ⟨w6.heap.size, 0, none⟩ = some (.slice (some ⟨lb, 0, none⟩) cols.length lc) := by rw [hW7]; exact (box_new _ _ _).1
  have hbx := box_new W7 .nilFunc 32
  have b78 : Below W7.heap.size W7 (W7.alloc (.cells #[.nilFunc] 32)) := (Below.refl _ _).alloc (Nat.le_refl _) _
  rw [s7] at hbx b78
  rw [hW7] at hbx
  obtain ⟨cP8, fP8⟩ := hbx
  go_upto_region 8 with fail
  rw [← hW7]
  obtain ⟨W8, hW8⟩ : ∃ W, W = W7.alloc (.cells #[.func (.func 16) #[] #[.pointer (some ⟨w.heap.size + 1, 0, none⟩), .pointer (some ⟨w.heap.size, 0, none⟩), .pointer (some ⟨w.heap.size + 1 + 1, 0, none⟩), .pointer (some ⟨w4.heap.size, 0, none⟩), .pointer (some ⟨w6.heap.size, 0, none⟩), .pointer (some ⟨w6.heap.size + 1, 0, none⟩)]] 32) := ⟨_, rfl⟩
  rw [← hW8]
  have s8 : W8.heap.size = w6.heap.size + 2 := by rw [hW8]; simp; omega
  have b8 : Below w6.heap.size w6 W8 := by rw [hW8]; exact b67.alloc (by omega) _
  have cP : W8.cell? ⟨w6.heap.size + 1, 0, none⟩ = some (.func (.func 16) #[] #[.pointer (some ⟨w.heap.size + 1, 0, none⟩), .pointer (some ⟨w.heap.size, 0, none⟩), .pointer (some ⟨w.heap.size + 1 + 1, 0, none⟩), .pointer (some ⟨w4.heap.size, 0, none⟩), .pointer (some ⟨w6.heap.size, 0, none⟩), .pointer (some ⟨w6.heap.size + 1, 0, none⟩)]) := by rw [hW8, ← s7]; exact (box_new _ _ _).1
  have cL : W8.cell? ⟨w6.heap.size, 0, none⟩ = some (.slice (some ⟨lb, 0, none⟩) cols.length lc) := by rw [hW8]; exact cell_alloc cL7 _
  have cC := cell_below cC6 b8 (by simp only; omega)
  have cR := cell_below cR6 b8 (by simp only; omega)
  have cO := cell_below cO6 b8 (by simp only; omega)
  have cM := cell_below cM6 b8 (by simp only; omega)
  have fO : W8.frozen? ⟨w.heap.size + 1 + 1, 0, none⟩ = false := by rw [← fO6]; exact World.frozen?_of_block (b8.block _ (by simp only; omega))
  have hG8 := hG6.new b8
  have hL8 := hL.new b8
  have hr8 := hr6.new b8
  have hB8 : Below w.heap.size w W8 := b5.trans ((hb6.mono (by omega)).trans (b8.mono (by omega)))
  obtain ⟨r00, r05⟩ := K5.out r0 (List.mem_of_getElem? hr0)
  obtain ⟨m, rfl⟩ := Int.eq_ofNat_of_zero_le r00
  obtain ⟨rb', ro', e1, _, _, _, hcr⟩ := hr8.at_ hr0
  injection e1 with e1; injection e1 with e1 e2
  rw [← e1, ← e2, Nat.add_zero] at hcr
  clear e1 e2
  have HTOP : Hid (cntP rows cols 0 0 m = cntN rows cols) := Lib.hid (cntP_top hr0)
  have HR0 := Lib.hid hr0; clear hr0
  have hLay : LayP ⟨w.heap.size, w.heap.size + 1, w.heap.size, w.heap.size + 1 + 1, w4.heap.size, w6.heap.size, w6.heap.size + 1, W3.heap.size, w4.heap.size, W5.heap.size, w6.heap.size, w6.heap.size + 2, A', c', rb, ro, c, mb, mc, lb, lc, rows.length, cols.length, rows⟩ :=
    ⟨by simp only; omega, by simp only; omega, by simp only; omega, by simp only; omega, by simp only; omega, by simp only; omega, by simp only; omega, by simp only; omega, by simp only; omega, by simp only; omega, by simp only; omega,
     k2, k4, k3, k1, rfl, K5.out, ⟨m1, m2⟩, ⟨l1, l2⟩, ⟨h1, h2⟩, ⟨h1', h2'⟩⟩
  have hS : PutS ⟨w.heap.size, w.heap.size + 1, w.heap.size, w.heap.size + 1 + 1, w4.heap.size, w6.heap.size, w6.heap.size + 1, W3.heap.size, w4.heap.size, W5.heap.size, w6.heap.size, w6.heap.size + 2, A', c', rb, ro, c, mb, mc, lb, lc, rows.length, cols.length, rows⟩ W8 (.slice none 0 0) [] (zeros rows.length cols.length) cols :=
    ⟨cC, cR, cM, cL, cP, cO, fO, hG8, shape_zeros _ _, hL8, Ow.nil _ _ _ _, hr8.mono (Nat.zero_le _) (Nat.le_refl _), by rw [s8]; exact Nat.le_refl _⟩
  have hP := put_any _ hLay (muP rows.length cols.length 0 0 + 1) 0 0 m W8.drew (.slice none 0 0) [] (zeros rows.length cols.length) cols hS.drew rfl k1 (Nat.zero_le _) (Nat.lt_succ_self _) (BdP.start K6.out) (by omega) (by have h1 := HTOP.out; have h2 := cntN_bd GD.out; simp only [List.length_nil]; rw [h1]; omega)
  have HP : Hid (Calls Try.prog 16 #[.int .i64 0, .int .i64 0, .int .i64 m, .pointer (some ⟨w.heap.size + 1, 0, none⟩), .pointer (some ⟨w.heap.size, 0, none⟩), .pointer (some ⟨w.heap.size + 1 + 1, 0, none⟩), .pointer (some ⟨w4.heap.size, 0, none⟩), .pointer (some ⟨w6.heap.size, 0, none⟩), .pointer (some ⟨w6.heap.size + 1, 0, none⟩)] W8.drew (RetP ⟨w.heap.size, w.heap.size + 1, w.heap.size, w.heap.size + 1 + 1, w4.heap.size, w6.heap.size, w6.heap.size + 1, W3.heap.size, w4.heap.size, W5.heap.size, w6.heap.size, w6.heap.size + 2, A', c', rb, ro, c, mb, mc, lb, lc, rows.length, cols.length, rows⟩ W8.drew (cntN rows cols) cols)) := Lib.hid (by
    have h1 := HTOP.out
    rw [h1] at hP
    simpa using hP)
  clear hP
  clear hS hG8 hL8 hG6 hG5 hL hL7 hr8 hr6 hr5 hs5 cC cO cM cL fO cC6 cR6 cO6 cM6 fO6 cC5 cR5 cO5 cM5 fO5 cL7 cP8 fP8 hW8 hW7 b8 b67 b78 hb6 b5
  have cP9 : W8.drew.cell? ⟨w6.heap.size + 1, 0, none⟩ = some (.func (.func 16) #[] #[.pointer (some ⟨w.heap.size + 1, 0, none⟩), .pointer (some ⟨w.heap.size, 0, none⟩), .pointer (some ⟨w.heap.size + 1 + 1, 0, none⟩), .pointer (some ⟨w4.heap.size, 0, none⟩), .pointer (some ⟨w6.heap.size, 0, none⟩), .pointer (some ⟨w6.heap.size + 1, 0, none⟩)]) := cP
  have cR9 : W8.drew.cell? ⟨w.heap.size, 0, none⟩ = some (.slice (some ⟨rb, ro, none⟩) rows.length c) := cR
  have hcr9 : W8.drew.cell? ⟨rb, ro, none⟩ = some (.int .i64 m) := hcr
  have i1 : (0 : Int) < (rows.length : Int) := by omega
  have i2 : 0 < rows.length := by omega
  go_region_law (first
    | (refine step_enter rfl 16 #[.int .i64 0, .int .i64 0, .int .i64 m, .pointer (some ⟨w.heap.size + 1, 0, none⟩), .pointer (some ⟨w.heap.size, 0, none⟩), .pointer (some ⟨w.heap.size + 1 + 1, 0, none⟩), .pointer (some ⟨w4.heap.size, 0, none⟩), .pointer (some ⟨w6.heap.size, 0, none⟩), .pointer (some ⟨w6.heap.size + 1, 0, none⟩)] (by kernel_rfl) HP.out (fun e w' h => ⟨_, h.1⟩) ?_; rintro u w9 ⟨hu, O, os, G, hS9, hos, hb9⟩; have cO9 := hS9.cO; have HS9 := Lib.hid hS9; clear hS9))
  all_goals (go_wp2_with fail)
  all_goals go_ret2
  all_goals exact ⟨O, os, rfl, ⟨fun _ => hos, HS9.out.hO.mono (by simp only; omega) (Nat.le_refl _), hB8.trans (((Below.refl _ _).drew).trans hb9)⟩⟩

/-- The post of CountImages. -/
def RetCn (w : World) (n : Int) (e : Ending) (w' : World) : Prop := e = .returned (.int .i64 n) ∧ Below w.heap.size w w'
set_option maxRecDepth 100000 in
set_option maxHeartbeats 400000 in
theorem impl_CountImages (rows cols : List Int) (v u : Value) (w : World) (a b a' b' : Nat) (hr : RdI w a b v rows) (hs : RdI w a' b' u cols) :
    Calls Try.prog 6 #[v, u] w (RetCn w (countR rows cols)) := by
  by_cases hok : sumsOk rows cols = true
  rotate_left
  · have hok : sumsOk rows cols = false := by simpa using hok
    have GC := Lib.hid (count_no hok)
    have GD := Lib.hid hok; clear hok
    go_enter Try.func6, Try.ntmps6
    go_wp2_with (go_at_call 9; refine (impl_AllImages _ _ _ _ _ _ _ _ _ hr hs).mono ?_; rw [GD.out]; rintro e w' ⟨V, os, rfl, h1, h2, h3⟩)
    go_ret
    exact ⟨ret_int GC.out.symm, h3⟩
  · have GC := Lib.hid (count_yes hok)
    have GB := Lib.hid (cntN_bd hok)
    have GD := Lib.hid hok; clear hok
    go_enter Try.func6, Try.ntmps6
    go_wp2_with (go_at_call 9; refine (impl_AllImages _ _ _ _ _ _ _ _ _ hr hs).mono ?_; rw [GD.out]; rintro e w' ⟨V, os, rfl, h1, h2, h3⟩; obtain ⟨AV, cV, rfl, _, _⟩ := h2.form'; have HN := Lib.hid (h1 rfl))
    go_ret
    exact ⟨ret_int GC.out.symm, h3⟩
end Go.Proofs.Ytkjhodeajipihaa
