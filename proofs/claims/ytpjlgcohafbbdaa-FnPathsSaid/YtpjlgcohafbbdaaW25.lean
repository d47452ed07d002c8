/- Walks: ApplySwitch. -/
import Derived.Test.YtpjlgcohafbbdaaProg
import Derived.Test.YtpjlgcohafbbdaaW1
import Derived.Test.YtpjlgcohafbbdaaW2
import Derived.Test.YtpjlgcohafbbdaaW3
import Derived.Test.YtpjlgcohafbbdaaW4
import Derived.Test.YtpjlgcohafbbdaaW6
import Derived.Test.YtpjlgcohafbbdaaW8
import Derived.Test.YtpjlgcohafbbdaaW16
import Derived.Test.YtpjlgcohafbbdaaW21
import Derived.Test.YtpjlgcohafbbdaaMem
import Derived.Test.YtpjlgcohafbbdaaPoke
import Derived.WalkKit
import Derived.WalkSpells
import Derived.WalkLawsBesides
import Derived.KernelRfl
import Derived.Lib.Hide
import Derived.Deep.QuietTactic
import Derived.BigQuiet
namespace Go.Proofs.Ytpjlgcohafbbdaa
open Go.RowKit
set_option linter.unusedVariables false
set_option linter.unusedSimpArgs false

section
variable {g : List (List Int)} {y1 y2 x1 x2 : Nat}
def pick2 (a b n : Nat) : Nat := if n = 0 then a else b
/-- The grid with the first n of the four places of a switch turned. -/
def flips (g : List (List Int)) (y1 y2 x1 x2 : Nat) : Nat → List (List Int)
  | 0 => g
  | n + 1 => putN (flips g y1 y2 x1 x2 n) (pick2 y1 y2 (n / 2)) (pick2 x1 x2 (n % 2)) (1 - cellN g (pick2 y1 y2 (n / 2)) (pick2 x1 x2 (n % 2)))
theorem flips_shape {R C : Nat} (h : shape g R C) : ∀ n, shape (flips g y1 y2 x1 x2 n) R C
  | 0 => h
  | n + 1 => shape_put (flips_shape h n) _ _
theorem flips_next {k l : Nat} (hl : l < 2) : flips g y1 y2 x1 x2 (2 * k + (l + 1)) = putN (flips g y1 y2 x1 x2 (2 * k + l)) (pick2 y1 y2 k) (pick2 x1 x2 l) (1 - cellN g (pick2 y1 y2 k) (pick2 x1 x2 l)) := by
  have e1 : (2 * k + l) / 2 = k := by omega
  have e2 : (2 * k + l) % 2 = l := by omega
  show flips g y1 y2 x1 x2 (2 * k + l + 1) = _
  rw [flips, e1, e2]
theorem flips_cur {R C k l : Nat} (h : shape g R C) (hy1 : y1 < R) (hy2 : y2 < R) (hx1 : x1 < C) (hx2 : x2 < C) (hy : y1 < y2) (hx : x1 < x2) (hk : k < 2) (hl : l < 2) :
    cellN (flips g y1 y2 x1 x2 (2 * k + l)) (pick2 y1 y2 k) (pick2 x1 x2 l) = cellN g (pick2 y1 y2 k) (pick2 x1 x2 l) := by
  have hp : ∀ n, pick2 y1 y2 n < R := fun n => by unfold pick2; split <;> omega
  have hq : ∀ n, pick2 x1 x2 n < C := fun n => by unfold pick2; split <;> omega
  have key : ∀ n, n ≤ 2 * k + l → cellN (flips g y1 y2 x1 x2 n) (pick2 y1 y2 k) (pick2 x1 x2 l) = cellN g (pick2 y1 y2 k) (pick2 x1 x2 l) := by
    intro n
    induction n with
    | zero => intro _; rfl
    | succ n ih =>
      intro hn
      rw [flips, cell_put (flips_shape h n) (hp _) (hq _), if_neg, ih (by omega)]
      rintro ⟨e1, e2⟩
      have h1 : n / 2 = 0 ∨ n / 2 = 1 := by omega
      have h2 : n % 2 = 0 ∨ n % 2 = 1 := by omega
      have h3 : k = 0 ∨ k = 1 := by omega
      have h4 : l = 0 ∨ l = 1 := by omega
      unfold pick2 at e1 e2
      rcases h1 with h1 | h1 <;> rcases h2 with h2 | h2 <;> rcases h3 with h3 | h3 <;> rcases h4 with h4 | h4 <;> simp [h1, h2, h3, h4] at e1 e2 <;> omega
  exact key _ (Nat.le_refl _)
def swR (g : List (List Int)) (a b c d : Int) : List (List Int) := if swOk g a b c d = true then flips g a.toNat b.toNat c.toNat d.toNat 4 else []
theorem swR_no {a b c d : Int} (h : swOk g a b c d = false) : swR g a b c d = [] := by simp [swR, h]
theorem swR_yes {a b c d : Nat} (h : swOk g a b c d = true) : swR g a b c d = flips g a b c d 4 := by simp [swR, h]
theorem swOk_in {a b c d : Int} (h : swOk g a b c d = true) : hasF g a c = true ∧ hasF g b d = true ∧ a < b ∧ c < d := by
  simp only [swOk, Bool.and_eq_true, decide_eq_true_eq] at h
  exact ⟨h.1.1.1.1.1.1, h.1.1.1.1.1.2, h.1.1.1.1.2, h.1.1.1.2⟩
theorem two_cells {w : World} {b : Nat} {a c : Int} {k : Nat} (h0 : w.cell? ⟨b, 0, none⟩ = some (.int .i64 a)) (h1 : w.cell? ⟨b, 1, none⟩ = some (.int .i64 c)) (hk : k < 2) (z : Int) (hz : z = if k = 0 then a else c) : w.cell? ⟨b, k, none⟩ = some (.int .i64 z) := by
  have : k = 0 ∨ k = 1 := by omega
  rcases this with rfl | rfl
  · rw [h0, hz]; rfl
  · rw [h1, hz]; rfl
end
theorem OwG.blk_lt {w : World} {lo hi : Nat} {T I : TypeId} {G : List (List Int)} {R C y b n cap c m cc : Nat} (h : OwG w lo hi T I (.slice (some ⟨b, 0, none⟩) n cap) G) (hc : w.cell? ⟨b, y, none⟩ = some (.slice (some ⟨c, 0, none⟩) m cc)) (hs : shape G R C) (hy : y < R) : c < hi := by
  obtain ⟨r, hr, _⟩ := shape_row hs hy
  obtain ⟨b', u, e, _, _, _, q4, _, q6⟩ := h.at_ hr
  injection e with e; injection e with e; subst e
  rw [hc] at q4; injection q4 with q4; subst q4
  exact (q6.blk rfl).2.1

set_option maxRecDepth 100000 in
set_option maxHeartbeats 2000000 in
theorem impl_ApplySwitch (g : List (List Int)) (y1 y2 x1 x2 : Int) (v : Value) (w : World) (a b : Nat) (hr : RdG w a b v g) :
    Calls Try.prog 11 #[v, .agg #[.int .i64 y1, .int .i64 y2, .int .i64 x1, .int .i64 x2]] w (RetGB w (swR g y1 y2 x1 x2) (swOk g y1 y2 x1 x2)) := by
  by_cases g1 : swOk g y1 y2 x1 x2 = true
  rotate_left
  · have g1 : swOk g y1 y2 x1 x2 = false := by simpa using g1
    have GO := Lib.hid g1
    go_enter Try.func11, Try.ntmps11
    go_wp2_with (go_at_call 36; refine (impl_SwitchOk _ _ _ _ _ _ _ _ _ (hr.new (al _))).mono ?_; rintro e w1 ⟨rfl, b1⟩)
    go_ret2
    rw [swR_no GO.out, GO.out]
    exact ⟨_, rfl, OwG.nil _ _ _ _ _, (al _).trans (b1.mono (by simp))⟩
  have GO := Lib.hid g1
  obtain ⟨g2, g3, l1, l2⟩ := swOk_in g1
  obtain ⟨g4, l3, l4, l5, l6⟩ := hasF_in g2
  obtain ⟨_, m3, m4, m5, m6⟩ := hasF_in g3
  obtain ⟨y1, rfl⟩ := Int.eq_ofNat_of_zero_le l3
  obtain ⟨y2, rfl⟩ := Int.eq_ofNat_of_zero_le m3
  obtain ⟨x1, rfl⟩ := Int.eq_ofNat_of_zero_le l5
  obtain ⟨x2, rfl⟩ := Int.eq_ofNat_of_zero_le m5
  have Sh := Lib.hid (img_shape g4)
  have Sg := Lib.hid (imgOk_short g4)
  have G4 := Lib.hid g4
  have GD := Lib.hid (swR_yes g1)
  have n1 : y1 < g.length := by omega
  have n2 : y2 < g.length := by omega
  have n3 : x1 < (hd g).length := by omega
  have n4 : x2 < (hd g).length := by omega
  have n5 : y1 < y2 := by omega
  have n6 : x1 < x2 := by omega
  clear l1 l2 l3 l4 l5 l6 m3 m4 m5 m6 g2 g3 g4
  go_enter Try.func11, Try.ntmps11
  go_wp2_with fail
  generalize hwb : World.alloc w _ = wb
  have B0 : Below w.heap.size w wb := by rw [← hwb]; exact al _
  have e0 : wb.cell? ⟨w.heap.size, 0, none⟩ = some (.int .i64 (y1 : Nat)) := by rw [← hwb]; simp
  have e1 : wb.cell? ⟨w.heap.size, 1, none⟩ = some (.int .i64 (y2 : Nat)) := by rw [← hwb]; simp
  have e2 : wb.cell? ⟨w.heap.size, 2, none⟩ = some (.int .i64 (x1 : Nat)) := by rw [← hwb]; simp
  have e3 : wb.cell? ⟨w.heap.size, 3, none⟩ = some (.int .i64 (x2 : Nat)) := by rw [← hwb]; simp
  have z0 : w.heap.size < wb.heap.size := by rw [← hwb]; simp
  replace hr := hr.clip.new B0
  clear hwb
  refine (impl_SwitchOk _ _ _ _ _ _ _ _ _ hr).mono ?_
  rw [GO.out]
  rintro e w1 ⟨rfl, b1⟩
  have s1 := b1.size
  replace e0 := ((bcell b1).1 _ _ z0).trans e0; replace e1 := ((bcell b1).1 _ _ z0).trans e1; replace e2 := ((bcell b1).1 _ _ z0).trans e2; replace e3 := ((bcell b1).1 _ _ z0).trans e3
  go_wp2_with fail
  refine (impl_copyGrid _ _ _ _ _ (hr.new b1) Sg.out).mono ?_
  rintro e w2 ⟨u, rfl, hu, b2⟩
  have s2 := b2.size
  replace e0 := ((bcell b2).1 _ _ (by omega)).trans e0; replace e1 := ((bcell b2).1 _ _ (by omega)).trans e1; replace e2 := ((bcell b2).1 _ _ (by omega)).trans e2; replace e3 := ((bcell b2).1 _ _ (by omega)).trans e3
  have B2 := (B0.trans (b1.mono (by omega))).trans (b2.mono (by omega))
  clear hr
  go_wp2_with fail
  go_loopw [23] (fun i wr => ∃ k : Nat, k ≤ 2 ∧ i = .int .i64 k ∧ OwG wr w1.heap.size w2.heap.size 50 3 u (flips g y1 y2 x1 x2 (2 * k)) ∧ (wr.cell? ⟨w.heap.size, 0, none⟩ = some (.int .i64 (y1 : Nat)) ∧ wr.cell? ⟨w.heap.size, 1, none⟩ = some (.int .i64 (y2 : Nat)) ∧ wr.cell? ⟨w.heap.size, 2, none⟩ = some (.int .i64 (x1 : Nat)) ∧ wr.cell? ⟨w.heap.size, 3, none⟩ = some (.int .i64 (x2 : Nat))) ∧ wr.cell? ⟨w2.heap.size, 0, none⟩ = some (.int .i64 (y1 : Nat)) ∧ wr.cell? ⟨w2.heap.size, 1, none⟩ = some (.int .i64 (y2 : Nat)) ∧ Below w.heap.size w wr ∧ Hid (w2.heap.size < wr.heap.size)) (fun i _ => 2 - (intOf i).toNat)
  case atStart =>
    have c0 := fun o => bcell (al (w := w2) o)
    exact ⟨0, by omega, rfl, hu.alloc _, ⟨((c0 _).1 _ _ (by omega)).trans e0, ((c0 _).1 _ _ (by omega)).trans e1, ((c0 _).1 _ _ (by omega)).trans e2, ((c0 _).1 _ _ (by omega)).trans e3⟩, by simp, by simp, B2.alloc (by omega) _, Lib.hid (by simp)⟩
  case round =>
    clear hu B2 e0 e1 e2 e3
    obtain ⟨k, hk, rfl, hu, ⟨e0, e1, e2, e3⟩, f0, f1, hb, Hsz⟩ := hrel
    rename World => wo
    by_cases hlt : k < 2
    · have hcy := two_cells f0 f1 hlt ((pick2 y1 y2 k : Nat) : Int) (by unfold pick2; split <;> rfl)
      obtain ⟨yy, hyy⟩ : ∃ yy, yy = pick2 y1 y2 k := ⟨_, rfl⟩
      rw [← hyy] at hcy
      have ny : yy < g.length := by rw [hyy]; unfold pick2; split <;> omega
      have HY := Lib.hid hyy; clear hyy
      have k2 : (k : Int) < 2 := by omega
      have hso := Hsz.out
      have HS2 := Lib.hid hso; clear hso
      go_wp2_with fail
      go_loopw [33] (fun i wr => ∃ l : Nat, l ≤ 2 ∧ i = .int .i64 l ∧ OwG wr w1.heap.size w2.heap.size 50 3 u (flips g y1 y2 x1 x2 (2 * k + l)) ∧ (wr.cell? ⟨w.heap.size, 0, none⟩ = some (.int .i64 (y1 : Nat)) ∧ wr.cell? ⟨w.heap.size, 1, none⟩ = some (.int .i64 (y2 : Nat)) ∧ wr.cell? ⟨w.heap.size, 2, none⟩ = some (.int .i64 (x1 : Nat)) ∧ wr.cell? ⟨w.heap.size, 3, none⟩ = some (.int .i64 (x2 : Nat))) ∧ wr.cell? ⟨w2.heap.size, 0, none⟩ = some (.int .i64 (y1 : Nat)) ∧ wr.cell? ⟨w2.heap.size, 1, none⟩ = some (.int .i64 (y2 : Nat)) ∧ wr.cell? ⟨wo.heap.size, 0, none⟩ = some (.int .i64 (x1 : Nat)) ∧ wr.cell? ⟨wo.heap.size, 1, none⟩ = some (.int .i64 (x2 : Nat)) ∧ Below w.heap.size w wr ∧ Hid (w2.heap.size < wr.heap.size)) (fun i _ => 2 - (intOf i).toNat)
      case atStart =>
        have hso := Hsz.out
        have c0 := fun o => bcell (al (w := wo) o)
        exact ⟨0, by omega, rfl, hu.alloc _, ⟨((c0 _).1 _ _ (by omega)).trans e0, ((c0 _).1 _ _ (by omega)).trans e1, ((c0 _).1 _ _ (by omega)).trans e2, ((c0 _).1 _ _ (by omega)).trans e3⟩, ((c0 _).1 _ _ (by omega)).trans f0, ((c0 _).1 _ _ (by omega)).trans f1, by simp, by simp, hb.alloc (by omega) _, Lib.hid (by simp; omega)⟩
      case round =>
        clear hu hb e0 e1 e2 e3 f0 f1 hcy
        obtain ⟨l, hl, rfl, hu, ⟨e0, e1, e2, e3⟩, f0, f1, f2, f3, hb, Hs3⟩ := hrel
        by_cases hlt2 : l < 2
        · have hcx := two_cells f2 f3 hlt2 ((pick2 x1 x2 l : Nat) : Int) (by unfold pick2; split <;> rfl)
          obtain ⟨xx, hxx⟩ : ∃ xx, xx = pick2 x1 x2 l := ⟨_, rfl⟩
          rw [← hxx] at hcx
          have nx : xx < (hd g).length := by rw [hxx]; unfold pick2; split <;> omega
          have hcur := flips_cur Sh.out n1 n2 n3 n4 n5 n6 hlt hlt2
          have hnx := flips_next (g := g) (y1 := y1) (y2 := y2) (x1 := x1) (x2 := x2) (k := k) hlt2
          rw [← hxx, ← HY.out] at hcur hnx
          have fs := flips_shape (y1 := y1) (y2 := y2) (x1 := x1) (x2 := x2) Sh.out (2 * k + l)
          obtain ⟨bb, cap, cc, ccap, rfl, p1, p2, p3, p4, p5, p6, p7, p8, p9, p10⟩ := hu.poke RI fs ny nx
          have p11 := hu.blk_lt p3 fs ny
          obtain ⟨r1, r2⟩ := img_cell01 G4.out ny nx
          rw [hcur] at p6
          obtain ⟨z, hz⟩ : ∃ z, z = cellN g yy xx := ⟨_, rfl⟩
          rw [← hz] at p6 r1 r2 hnx
          have HN := Lib.hid hnx; clear hnx hcur hz fs hxx
          have l2 : (l : Int) < 2 := by omega
          have j1 : (yy : Int) < (g.length : Int) := by omega
          have j2 : (xx : Int) < ((hd g).length : Int) := by omega
          go_wp2_with fail
          go_region
          go_wp2_with fail
          go_roundw
          case rel =>
            have hso := HS2.out
            refine ⟨l + 1, by omega, by go_num, ?_, ⟨cell_far e0 (by simp only []; omega) _, cell_far e1 (by simp only []; omega) _, cell_far e2 (by simp only []; omega) _, cell_far e3 (by simp only []; omega) _⟩, cell_far f0 (by simp only []; omega) _, cell_far f1 (by simp only []; omega) _, cell_far f2 (by simp only []; omega) _, cell_far f3 (by simp only []; omega) _, (hb.setCell (by simp only []; omega) _).drew, Lib.hid (by have := Hs3.out; simpa [World.setCell, World.drew] using this)⟩
            rw [HN.out]
            exact p10.out _
          case measure => simp [intOf]; omega
        · obtain rfl : l = 2 := by omega
          go_wp2_with fail
          go_roundw
          case rel => exact ⟨k + 1, by omega, by go_num, by rw [show 2 * (k + 1) = 2 * k + 2 by omega]; exact hu, ⟨e0, e1, e2, e3⟩, f0, f1, hb, Hs3⟩
          case measure => simp [intOf]; omega
    · obtain rfl : k = 2 := by omega
      go_wp2_with fail
      go_ret2
      exact RetGB_yes GO.out (by rw [GD.out]; exact hu.mono (by omega) (Nat.le_of_lt Hsz.out)) hb

theorem RdG.drew1_ {w : World} {lo hi : Nat} {v : Value} {g : List (List Int)} (h : RdG w lo hi v g) : RdG w.drew lo hi v g := h

set_option maxRecDepth 100000 in
set_option maxHeartbeats 2000000 in
theorem spec_l06Apply (g : List (List Int)) (y1 y2 x1 x2 : Int) (v : Value) (w : World) (a b : Nat) (hr : RdG w a b v g) (g1 : swOk g y1 y2 x1 x2 = true) :
    Calls Try.prog 29 #[v, .agg #[.int .i64 y1, .int .i64 y2, .int .i64 x1, .int .i64 x2]] w (RetG w (swR g y1 y2 x1 x2)) := by
  have GO := Lib.hid g1
  obtain ⟨g2, g3, l1, l2⟩ := swOk_in g1
  obtain ⟨g4, l3, l4, l5, l6⟩ := hasF_in g2
  obtain ⟨_, m3, m4, m5, m6⟩ := hasF_in g3
  obtain ⟨y1, rfl⟩ := Int.eq_ofNat_of_zero_le l3
  obtain ⟨y2, rfl⟩ := Int.eq_ofNat_of_zero_le m3
  obtain ⟨x1, rfl⟩ := Int.eq_ofNat_of_zero_le l5
  obtain ⟨x2, rfl⟩ := Int.eq_ofNat_of_zero_le m5
  have Sh := Lib.hid (img_shape g4)
  have Sg := Lib.hid (imgOk_short g4)
  have G4 := Lib.hid g4
  have GD := Lib.hid (swR_yes g1)
  have n1 : y1 < g.length := by omega
  have n2 : y2 < g.length := by omega
  have n3 : x1 < (hd g).length := by omega
  have n4 : x2 < (hd g).length := by omega
  have n5 : y1 < y2 := by omega
  have n6 : x1 < x2 := by omega
  clear l1 l2 l3 l4 l5 l6 m3 m4 m5 m6 g2 g3 g4
  go_enter Try.func29, Try.ntmps29
  go_wp2_with fail
  generalize hwb : World.alloc w _ = wb
  have B0 : Below w.heap.size w wb := by rw [← hwb]; exact al _
  have e0 : wb.cell? ⟨w.heap.size, 0, none⟩ = some (.int .i64 (y1 : Nat)) := by rw [← hwb]; simp
  have e1 : wb.cell? ⟨w.heap.size, 1, none⟩ = some (.int .i64 (y2 : Nat)) := by rw [← hwb]; simp
  have e2 : wb.cell? ⟨w.heap.size, 2, none⟩ = some (.int .i64 (x1 : Nat)) := by rw [← hwb]; simp
  have e3 : wb.cell? ⟨w.heap.size, 3, none⟩ = some (.int .i64 (x2 : Nat)) := by rw [← hwb]; simp
  have z0 : w.heap.size < wb.heap.size := by rw [← hwb]; simp
  replace hr := hr.clip.new B0
  clear hwb
  refine (spec_l02Copy _ _ _ _ _ hr Sg.out).mono ?_
  rintro e w2 ⟨u, rfl, hu, b2⟩
  have s2 := b2.size
  replace e0 := ((bcell b2).1 _ _ (by omega)).trans e0; replace e1 := ((bcell b2).1 _ _ (by omega)).trans e1; replace e2 := ((bcell b2).1 _ _ (by omega)).trans e2; replace e3 := ((bcell b2).1 _ _ (by omega)).trans e3
  have B2 := (B0).trans (b2.mono (by omega))
  replace hr := hr.new b2
  go_wp2_with fail
  go_loopw [18] (fun i wr => ∃ k : Nat, k ≤ 2 ∧ i = .int .i64 k ∧ OwG wr wb.heap.size w2.heap.size 50 3 u (flips g y1 y2 x1 x2 (2 * k)) ∧ (wr.cell? ⟨w.heap.size, 0, none⟩ = some (.int .i64 (y1 : Nat)) ∧ wr.cell? ⟨w.heap.size, 1, none⟩ = some (.int .i64 (y2 : Nat)) ∧ wr.cell? ⟨w.heap.size, 2, none⟩ = some (.int .i64 (x1 : Nat)) ∧ wr.cell? ⟨w.heap.size, 3, none⟩ = some (.int .i64 (x2 : Nat))) ∧ wr.cell? ⟨w2.heap.size, 0, none⟩ = some (.int .i64 (y1 : Nat)) ∧ wr.cell? ⟨w2.heap.size, 1, none⟩ = some (.int .i64 (y2 : Nat)) ∧ RdG wr a w.heap.size v g ∧ Below w.heap.size w wr ∧ Hid (w2.heap.size < wr.heap.size)) (fun i _ => 2 - (intOf i).toNat)
  case atStart =>
    have c0 := fun o => bcell (al (w := w2) o)
    exact ⟨0, by omega, rfl, hu.alloc _, ⟨((c0 _).1 _ _ (by omega)).trans e0, ((c0 _).1 _ _ (by omega)).trans e1, ((c0 _).1 _ _ (by omega)).trans e2, ((c0 _).1 _ _ (by omega)).trans e3⟩, by simp, by simp, hr.new (al _), B2.alloc (by omega) _, Lib.hid (by simp)⟩
  case round =>
    clear hr hu B2 e0 e1 e2 e3
    obtain ⟨k, hk, rfl, hu, ⟨e0, e1, e2, e3⟩, f0, f1, hr, hb, Hsz⟩ := hrel
    rename World => wo
    by_cases hlt : k < 2
    · have hcy := two_cells f0 f1 hlt ((pick2 y1 y2 k : Nat) : Int) (by unfold pick2; split <;> rfl)
      obtain ⟨yy, hyy⟩ : ∃ yy, yy = pick2 y1 y2 k := ⟨_, rfl⟩
      rw [← hyy] at hcy
      have ny : yy < g.length := by rw [hyy]; unfold pick2; split <;> omega
      have HY := Lib.hid hyy; clear hyy
      have k2 : (k : Int) < 2 := by omega
      have hso := Hsz.out
      have HS2 := Lib.hid hso; clear hso
      go_wp2_with fail
      go_loopw [28] (fun i wr => ∃ l : Nat, l ≤ 2 ∧ i = .int .i64 l ∧ OwG wr wb.heap.size w2.heap.size 50 3 u (flips g y1 y2 x1 x2 (2 * k + l)) ∧ (wr.cell? ⟨w.heap.size, 0, none⟩ = some (.int .i64 (y1 : Nat)) ∧ wr.cell? ⟨w.heap.size, 1, none⟩ = some (.int .i64 (y2 : Nat)) ∧ wr.cell? ⟨w.heap.size, 2, none⟩ = some (.int .i64 (x1 : Nat)) ∧ wr.cell? ⟨w.heap.size, 3, none⟩ = some (.int .i64 (x2 : Nat))) ∧ wr.cell? ⟨w2.heap.size, 0, none⟩ = some (.int .i64 (y1 : Nat)) ∧ wr.cell? ⟨w2.heap.size, 1, none⟩ = some (.int .i64 (y2 : Nat)) ∧ wr.cell? ⟨wo.heap.size, 0, none⟩ = some (.int .i64 (x1 : Nat)) ∧ wr.cell? ⟨wo.heap.size, 1, none⟩ = some (.int .i64 (x2 : Nat)) ∧ RdG wr a w.heap.size v g ∧ Below w.heap.size w wr ∧ Hid (w2.heap.size < wr.heap.size)) (fun i _ => 2 - (intOf i).toNat)
      case atStart =>
        have hso := Hsz.out
        have c0 := fun o => bcell (al (w := wo) o)
        exact ⟨0, by omega, rfl, hu.alloc _, ⟨((c0 _).1 _ _ (by omega)).trans e0, ((c0 _).1 _ _ (by omega)).trans e1, ((c0 _).1 _ _ (by omega)).trans e2, ((c0 _).1 _ _ (by omega)).trans e3⟩, ((c0 _).1 _ _ (by omega)).trans f0, ((c0 _).1 _ _ (by omega)).trans f1, by simp, by simp, hr.new (al _), hb.alloc (by omega) _, Lib.hid (by simp; omega)⟩
      case round =>
        clear hr hu hb e0 e1 e2 e3 f0 f1 hcy
        obtain ⟨l, hl, rfl, hu, ⟨e0, e1, e2, e3⟩, f0, f1, f2, f3, hr, hb, Hs3⟩ := hrel
        by_cases hlt2 : l < 2
        · have hcx := two_cells f2 f3 hlt2 ((pick2 x1 x2 l : Nat) : Int) (by unfold pick2; split <;> rfl)
          obtain ⟨xx, hxx⟩ : ∃ xx, xx = pick2 x1 x2 l := ⟨_, rfl⟩
          rw [← hxx] at hcx
          have nx : xx < (hd g).length := by rw [hxx]; unfold pick2; split <;> omega
          have hnx := flips_next (g := g) (y1 := y1) (y2 := y2) (x1 := x1) (x2 := x2) (k := k) hlt2
          rw [← hxx, ← HY.out] at hnx
          have fs := flips_shape (y1 := y1) (y2 := y2) (x1 := x1) (x2 := x2) Sh.out (2 * k + l)
          obtain ⟨bb, cap, cc, ccap, rfl, p1, p2, p3, p4, p5, p6, p7, p8, p9, p10⟩ := hu.poke RI fs ny nx
          have p11 := hu.blk_lt p3 fs ny
          obtain ⟨r1, r2⟩ := img_cell01 G4.out ny nx
          obtain ⟨b5, o5, cap5, c5, q5, cc5, rfl, k1, k3, k4, k5, k6, k7⟩ := hr.peek Sh.out ny nx
          obtain ⟨z, hz⟩ : ∃ z, z = cellN g yy xx := ⟨_, rfl⟩
          rw [← hz] at k7 r1 r2 hnx
          have HN := Lib.hid hnx; clear hnx hz fs hxx
          have l2 : (l : Int) < 2 := by omega
          have j1 : (yy : Int) < (g.length : Int) := by omega
          have j2 : (xx : Int) < ((hd g).length : Int) := by omega
          go_wp2_with fail
          go_region
          go_wp2_with fail
          go_roundw
          case rel =>
            have hso := HS2.out
            refine ⟨l + 1, by omega, by go_num, ?_, ⟨cell_far e0 (by simp only []; omega) _, cell_far e1 (by simp only []; omega) _, cell_far e2 (by simp only []; omega) _, cell_far e3 (by simp only []; omega) _⟩, cell_far f0 (by simp only []; omega) _, cell_far f1 (by simp only []; omega) _, cell_far f2 (by simp only []; omega) _, cell_far f3 (by simp only []; omega) _, (hr.far (by simp only []; omega) _).drew1_, (hb.setCell (by simp only []; omega) _).drew, Lib.hid (by have := Hs3.out; simpa [World.setCell, World.drew] using this)⟩
            rw [HN.out]
            exact p10.out _
          case measure => simp [intOf]; omega
        · obtain rfl : l = 2 := by omega
          go_wp2_with fail
          go_roundw
          case rel => exact ⟨k + 1, by omega, by go_num, by rw [show 2 * (k + 1) = 2 * k + 2 by omega]; exact hu, ⟨e0, e1, e2, e3⟩, f0, f1, hr, hb, Hs3⟩
          case measure => simp [intOf]; omega
    · obtain rfl : k = 2 := by omega
      go_wp2_with fail
      go_ret
      exact ⟨_, rfl, by rw [GD.out]; exact hu.mono (by omega) (Nat.le_of_lt Hsz.out), hb⟩

end Go.Proofs.Ytpjlgcohafbbdaa
