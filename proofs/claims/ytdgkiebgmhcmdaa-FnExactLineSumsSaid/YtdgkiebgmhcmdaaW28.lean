/- Walks: LineSums. -/
import Derived.Test.YtdgkiebgmhcmdaaProg
import Derived.Test.YtdgkiebgmhcmdaaW1
import Derived.Test.YtdgkiebgmhcmdaaW2
import Derived.Test.YtdgkiebgmhcmdaaW3
import Derived.Test.YtdgkiebgmhcmdaaW4
import Derived.Test.YtdgkiebgmhcmdaaW6
import Derived.Test.YtdgkiebgmhcmdaaW8
import Derived.Test.YtdgkiebgmhcmdaaMem
import Derived.Test.YtdgkiebgmhcmdaaPoke
import Derived.WalkKit
import Derived.WalkSpells
import Derived.WalkLawsBesides
import Derived.KernelRfl
import Derived.Lib.Hide
import Derived.Deep.QuietTactic
import Derived.BigQuiet
import Derived.Deep.RegionHeld3
import Derived.Deep.OwnRows
namespace Go.Proofs.Ytdgkiebgmhcmdaa
open Go.RowKit
set_option linter.unusedVariables false
set_option linter.unusedSimpArgs false

theorem al1 {w : World} (o : Obj) : Below w.heap.size w (w.alloc o) := (Below.refl _ _).alloc (Nat.le_refl _) _
def addAt (L : List Int) (k : Nat) (c : Int) : List Int := L.set k (L.getD k 0 + c)
/-- The sums with the first j cells of row y added. -/
def lsRow (g : List (List Int)) (C : Nat) (a b : Int) (y : Nat) (L : List Int) : Nat → List Int
  | 0 => L
  | j + 1 => addAt (lsRow g C a b y L j) (lineF C a b y j).toNat (cellN g y j)
/-- The sums of the first k rows. -/
def lsAll (g : List (List Int)) (n C : Nat) (a b : Int) : Nat → List Int
  | 0 => List.replicate n 0
  | k + 1 => lsRow g C a b k (lsAll g n C a b k) C
def lineSumsR (g : List (List Int)) (a b : Int) : List Int := if imgOk g = true ∧ dirOk a b = true then lsAll g (countF g.length (hd g).length a b).toNat (hd g).length a b g.length else []
theorem lineSums_no1 {g : List (List Int)} {a b : Int} (h : imgOk g = false) : lineSumsR g a b = [] := by simp [lineSumsR, h]
theorem lineSums_no2 {g : List (List Int)} {a b : Int} (h : dirOk a b = false) : lineSumsR g a b = [] := by simp [lineSumsR, h]
theorem lineSums_yes {g : List (List Int)} {a b : Int} (h : imgOk g = true) (h2 : dirOk a b = true) : lineSumsR g a b = lsAll g (countF g.length (hd g).length a b).toNat (hd g).length a b g.length := by simp [lineSumsR, h, h2]
theorem addAt_len (L : List Int) (k : Nat) (c : Int) : (addAt L k c).length = L.length := by simp [addAt]
theorem lsRow_len (g : List (List Int)) (C : Nat) (a b : Int) (y : Nat) (L : List Int) : ∀ j, (lsRow g C a b y L j).length = L.length
  | 0 => rfl
  | j + 1 => by rw [lsRow, addAt_len, lsRow_len g C a b y L j]
theorem lsAll_len (g : List (List Int)) (n C : Nat) (a b : Int) : ∀ k, (lsAll g n C a b k).length = n
  | 0 => by simp [lsAll]
  | k + 1 => by rw [lsAll, lsRow_len, lsAll_len g n C a b k]
/-- Every entry lies between 0 and m. -/
def upTo (L : List Int) (m : Int) : Prop := ∀ (k : Nat) (x : Int), L[k]? = some x → 0 ≤ x ∧ x ≤ m
theorem upTo_add {L : List Int} {m : Int} (h : upTo L m) (k : Nat) {c : Int} (h0 : 0 ≤ c) (h1 : c ≤ 1) (hm : 0 ≤ m) : upTo (addAt L k c) (m + 1) := by
  intro i x hx
  unfold addAt at hx
  by_cases e : i = k
  · subst e
    have hl : i < L.length := by have := (List.getElem?_eq_some_iff.1 hx).1; simpa using this
    rw [List.getElem?_set_self hl] at hx
    injection hx with hx
    have := h i L[i] (List.getElem?_eq_getElem hl)
    rw [List.getD_eq_getElem?_getD, List.getElem?_eq_getElem hl] at hx
    simp at hx; omega
  · rw [List.getElem?_set_ne (fun c => e c.symm)] at hx
    have := h i x hx; omega
theorem lsRow_up {g : List (List Int)} {a b : Int} {y : Nat} {L : List Int} {m : Int} (hg : imgOk g = true) (hy : y < g.length) (h : upTo L m) (hm : 0 ≤ m) : ∀ j : Nat, j ≤ (hd g).length → upTo (lsRow g (hd g).length a b y L j) (m + j)
  | 0, _ => by simpa [lsRow] using h
  | j + 1, hj => by
    have ih := lsRow_up (a := a) (b := b) hg hy h hm j (by omega)
    have c := img_cell01 hg hy (x := j) (by omega)
    have := upTo_add ih (lineF (hd g).length a b y j).toNat c.1 c.2 (by omega)
    rw [lsRow]; intro i x hx; have := this i x hx; omega
theorem lsAll_up {g : List (List Int)} {a b : Int} (n : Nat) (hg : imgOk g = true) : ∀ k : Nat, k ≤ g.length → upTo (lsAll g n (hd g).length a b k) (5 * k)
  | 0, _ => by
    intro i x hx
    obtain ⟨_, rfl⟩ := List.getElem?_eq_some_iff.1 hx
    simp [lsAll]
  | k + 1, hk => by
    have ih := lsAll_up (a := a) (b := b) n hg k (by omega)
    have := lsRow_up (a := a) (b := b) hg (y := k) (by omega) ih (by omega) (hd g).length (Nat.le_refl _)
    obtain ⟨_, _, _, h5, _⟩ := imgOk_in hg
    rw [lsAll]; intro i x hx; have := this i x hx; omega
theorem line_in {R C : Nat} {a b : Int} {y x : Nat} (h : linesF R C a b = true) (hy : y < R) (hx : x < C) : 0 ≤ lineF C a b y x ∧ lineF C a b y x < countF R C a b := by
  obtain ⟨_, _, _, _, h5, h6, h7, h8⟩ := linesF_in h
  unfold countF
  rw [if_pos h]
  unfold lineF
  have ha : a = 0 ∨ a = 1 ∨ a = 2 ∨ a = 3 := by omega
  have hb : b = -3 ∨ b = -2 ∨ b = -1 ∨ b = 0 ∨ b = 1 ∨ b = 2 ∨ b = 3 := by omega
  rcases ha with rfl | rfl | rfl | rfl <;> rcases hb with rfl | rfl | rfl | rfl | rfl | rfl | rfl <;> omega
theorem count_bd {R C : Nat} {a b : Int} (h : linesF R C a b = true) : 1 ≤ countF R C a b ∧ countF R C a b ≤ 100 := by
  obtain ⟨_, _, _, _, h5, h6, h7, h8⟩ := linesF_in h
  unfold countF
  rw [if_pos h]
  unfold lineF
  have ha : a = 0 ∨ a = 1 ∨ a = 2 ∨ a = 3 := by omega
  have hb : b = -3 ∨ b = -2 ∨ b = -1 ∨ b = 0 ∨ b = 1 ∨ b = 2 ∨ b = 3 := by omega
  rcases ha with rfl | rfl | rfl | rfl <;> rcases hb with rfl | rfl | rfl | rfl | rfl | rfl | rfl <;> omega

set_option maxRecDepth 100000 in
set_option maxHeartbeats 2000000 in
theorem impl_sumsOn (g : List (List Int)) (a b : Int) (v : Value) (w : World) (l h : Nat) (hr : RdG w l h v g) (g1 : imgOk g = true) (g2 : dirOk a b = true) :
    Calls Try.prog 76 #[v, .agg #[.int .i64 a, .int .i64 b]] w (RetI w (lineSumsR g a b)) := by
  obtain ⟨A, c, rfl, h1, h2⟩ := hr.form
  replace hr := hr.clip
  obtain ⟨i0, hi, hz0, hz1, hz2⟩ := info_parts int_info
  obtain ⟨l1, l2, l3, l4, _⟩ := imgOk_in g1
  have hlf : linesF g.length (hd g).length a b = true := by
    simp only [linesF, sizeOk, inB, g2, Bool.and_true, Bool.and_eq_true, decide_eq_true_eq]; omega
  obtain ⟨q1, q2⟩ := count_bd hlf
  have GD := Lib.hid (lineSums_yes g1 g2)
  obtain ⟨n, hn⟩ := Int.eq_ofNat_of_zero_le (show 0 ≤ countF g.length (hd g).length a b by omega)
  rw [hn] at q1 q2
  have HN := Lib.hid hn; clear hn
  have LF := Lib.hid hlf; clear hlf
  have Sh := Lib.hid (img_shape g1)
  have G1 := Lib.hid g1
  obtain ⟨d1, d2, d3, d4, d5⟩ := dirOk_in g2
  clear d5
  obtain ⟨b0, o0, rfl, _, hb0⟩ := hr.some_ (by omega)
  obtain ⟨A0, c0, hc0, q3, q4, _⟩ := hr.row0 (hd_get (by omega))
  have hpos : (0 : Int) < (g.length : Int) := by omega
  have hpN : 0 < g.length := by omega
  have hne : ¬ g = [] := by intro h; rw [h] at hpN; simp at hpN
  have hmk : ∀ W : World, (Instr.makeSlice 27 (.int .i64 (n : Int)) (.int .i64 (n : Int))).run Try.prog W = .ok (.slice (some ⟨W.heap.size, 0, none⟩) n n) (W.alloc (.cells (madeCells #[.int .i64 0] n) 3)) := fun W => run_make_row' 27 3 (.int .i64 0) 8 Try.underlying27 int_info rfl .i64 .i64 n (by omega) (by omega) W
  go_enter Try.func76, Try.ntmps76
  go_wp2_with fail
  generalize hwb : World.alloc w _ = wb
  have B0 : Below w.heap.size w wb := by rw [← hwb]; exact al1 _
  have e0 : wb.cell? ⟨w.heap.size, 0, none⟩ = some (.int .i64 a) := by rw [← hwb]; simp
  have e1 : wb.cell? ⟨w.heap.size, 1, none⟩ = some (.int .i64 b) := by rw [← hwb]; simp
  have z0 : w.heap.size < wb.heap.size := by rw [← hwb]; simp
  replace hc0 := ((bcell B0).1 _ _ hb0).trans hc0
  replace hr := hr.new B0
  clear hwb
  go_region_held3 (fun w' => w'.cell? ⟨w.heap.size, 0, none⟩ = some (.int .i64 a) ∧ w'.cell? ⟨w.heap.size, 1, none⟩ = some (.int .i64 b) ∧ w'.cell? ⟨b0, o0, none⟩ = some (.slice A0 (hd g).length c0)) (go_keep)
      (first
        | (go_at_call 106
           refine (impl_CountLines _ _ _ _ _).mono ?_
           rw [HN.out]
           rintro e w2 ⟨rfl, b2⟩
           have k0 : w2.cell? ⟨w.heap.size, 0, none⟩ = some (.int .i64 a) := ((bcell b2).1 _ _ z0).trans e0
           have k1 : w2.cell? ⟨w.heap.size, 1, none⟩ = some (.int .i64 b) := ((bcell b2).1 _ _ z0).trans e1
           have k2 : w2.cell? ⟨b0, o0, none⟩ = some (.slice A0 (hd g).length c0) := ((bcell b2).1 _ _ (Nat.lt_trans hb0 z0)).trans hc0))
  generalize hw3 : World.alloc w2 _ = w3
  have B3 : Below w2.heap.size w2 w3 := by rw [← hw3]; exact al1 _
  have ho : Ow w3 w2.heap.size w3.heap.size 3 (.slice (some ⟨w2.heap.size, 0, none⟩) n n) (ints (lsAll g n (hd g).length a b 0)) := by
    rw [← hw3]
    refine Ow.of_top (n := n) ?_
    have hown : (w2.alloc (.cells (madeCells #[.int .i64 0] n) 3)).ownsRow w2.heap.size 3 1 (.slice (some ⟨w2.heap.size, 0, none⟩) n n) n (madeCells #[.int .i64 0] n).toList := World.ownsRow_lit w2 (madeCells #[.int .i64 0] n) n (Nat.le_refl _) (by unfold maxLen; omega) (by simp [madeCells])
    have e : (madeCells #[.int .i64 0] n).toList = ints (List.replicate n 0) := by have := made_ints n; rwa [Nat.mul_one] at this
    rw [e] at hown
    exact hown
  have s2 : wb.heap.size ≤ w2.heap.size := b2.size
  have s3 : w2.heap.size < w3.heap.size := by rw [← hw3]; simp
  have e3 := ((bcell B3).1 w.heap.size 0 (by omega)).trans k0
  have e4 := ((bcell B3).1 w.heap.size 1 (by omega)).trans k1
  have hr3 := (RdG.new (w := wb.drew) hr b2).new B3
  have hb3 := ((B0.drew.trans (b2.mono (Nat.le_of_lt z0))).trans (B3.mono (by omega)))
  clear hr hw3 k0 k1 k2 e0 e1 hc0
  go_wp2_with fail
  go_loopw [21] (fun i wr => ∃ k : Nat, k ≤ g.length ∧ i = .int .i64 k ∧ Ow wr w2.heap.size w3.heap.size 3 (.slice (some ⟨w2.heap.size, 0, none⟩) n n) (ints (lsAll g n (hd g).length a b k)) ∧ wr.cell? ⟨w.heap.size, 0, none⟩ = some (.int .i64 a) ∧ wr.cell? ⟨w.heap.size, 1, none⟩ = some (.int .i64 b) ∧ RdG wr l w.heap.size (.slice (some ⟨b0, o0, none⟩) g.length c) g ∧ Below w.heap.size w wr ∧ Hid (w3.heap.size ≤ wr.heap.size)) (fun i _ => g.length - (intOf i).toNat)
  case atStart => exact ⟨0, Nat.zero_le _, rfl, ho, e3, e4, hr3, hb3, Lib.hid (Nat.le_refl _)⟩
  case round =>
    clear ho e3 e4 hr3 hb3
    obtain ⟨k, hk, rfl, ho, e3, e4, hr, hb, Hsz⟩ := hrel
    by_cases hlt : k < g.length
    · obtain ⟨r, hx, hrl⟩ := shape_row Sh.out hlt
      obtain ⟨A1, c1, hc1, t1, t2, hrow⟩ := hr.row hx
      obtain ⟨b1, o1, rfl, _, _⟩ := hrow.some_ (by omega)
      have X := Lib.hid hx; clear hx
      have RL := Lib.hid hrl
      have hkr : (k : Int) < (g.length : Int) := by omega
      have r5 : r.length ≤ 5 := by omega
      have r1 : 1 ≤ r.length := by omega
      clear hrl
      go_wp2_with fail
      go_loopw [28] (fun i wr => ∃ j : Nat, j ≤ r.length ∧ i = .int .i64 j ∧ Ow wr w2.heap.size w3.heap.size 3 (.slice (some ⟨w2.heap.size, 0, none⟩) n n) (ints (lsRow g (hd g).length a b k (lsAll g n (hd g).length a b k) j)) ∧ wr.cell? ⟨w.heap.size, 0, none⟩ = some (.int .i64 a) ∧ wr.cell? ⟨w.heap.size, 1, none⟩ = some (.int .i64 b) ∧ RdG wr l w.heap.size (.slice (some ⟨b0, o0, none⟩) g.length c) g ∧ RdI wr l w.heap.size (.slice (some ⟨b1, o1, none⟩) r.length c1) r ∧ Below w.heap.size w wr ∧ Hid (w3.heap.size ≤ wr.heap.size)) (fun i _ => r.length - (intOf i).toNat)
      case atStart => exact ⟨0, Nat.zero_le _, rfl, ho, e3, e4, hr, hrow, hb, Hsz⟩
      case round =>
        clear ho e3 e4 hr hb hrow hc1
        obtain ⟨j, hj, rfl, ho, e3, e4, hr, hrow, hb, Hsz⟩ := hrel
        rename World => wj
        by_cases hlt2 : j < r.length
        · obtain ⟨z, hz⟩ := get_of_lt r j hlt2
          have hcz := hrow.cell hz
          have Zc := Lib.hid (cellN_get X.out hz)
          have y12 := img_cell01 G1.out (y := k) (x := j) hlt (by have := RL.out; omega)
          rw [Zc.out] at y12
          obtain ⟨y1, y2⟩ := y12
          have hln := line_in LF.out (y := k) (x := j) hlt (by have := RL.out; omega)
          rw [HN.out] at hln
          obtain ⟨q, hq⟩ := Int.eq_ofNat_of_zero_le hln.1
          rw [hq] at hln
          have HQ : Hid (lineF (r.length : Nat) a b k j = (q : Int)) := Lib.hid (by rw [RL.out]; exact hq)
          have HQ2 := Lib.hid hq
          have hqn : (q : Int) < (n : Int) := hln.2
          clear hln hq
          have hrowlen : (lsRow g (hd g).length a b k (lsAll g n (hd g).length a b k) j).length = n := by rw [lsRow_len, lsAll_len]
          obtain ⟨s, hs⟩ := get_of_lt (lsRow g (hd g).length a b k (lsAll g n (hd g).length a b k) j) q (by omega)
          have hup := lsRow_up (a := a) (b := b) G1.out (y := k) hlt (lsAll_up n G1.out k (Nat.le_of_lt hlt)) (by omega) j (by have := RL.out; omega) q s hs
          obtain ⟨u1, u2⟩ := hup
          have u3 : s ≤ 1000 := by omega
          clear u2
          have Hlen := Lib.hid hrowlen; clear hrowlen
          have HS := Lib.hid hs; clear hs hz
          have i1 : (j : Int) < (r.length : Int) := by omega
          go_wp2_with fail
          refine (impl_lineOf _ _ _ _ _ _ d1 d2 d3 d4 (by omega) (by omega) (by omega) (by omega) (by omega) (by omega)).mono ?_
          rw [HQ.out]
          rintro e w5 ⟨rfl, b5⟩
          have s5 := b5.size
          replace ho := ho.new b5
          obtain ⟨_, eq1, _, _, _, hcs, hfs⟩ := ho.at_ (k := q) (u := .int .i64 s) (by simp [ints, HS.out])
          injection eq1 with eq1; injection eq1 with eq1; subst eq1
          go_wp2_with fail
          go_roundw
          case rel =>
            have hw := Ow.set' (by simp only [ints, List.length_map]; exact Hlen.out.symm) ho q (.int .i64 (s + z))
            rw [ints_set] at hw
            have hlo : w.heap.size < w2.heap.size := by omega
            have hsz := Hsz.out
            have hwj : w.heap.size < wj.heap.size := by omega
            refine ⟨j + 1, by omega, by go_num, ?_, cell_far (((bcell b5).1 _ _ hwj).trans e3) (by simp only []; omega) _, cell_far (((bcell b5).1 _ _ hwj).trans e4) (by simp only []; omega) _, (hr.new b5).far (by simp only []; omega) _, (hrow.new b5).far (by simp only []; omega) _, (hb.trans (b5.mono (by omega))).setCell (by simp only []; omega) _, Lib.hid (by simp only [World.setCell]; simp; omega)⟩
            have : lsRow g (hd g).length a b k (lsAll g n (hd g).length a b k) (j + 1) = (lsRow g (hd g).length a b k (lsAll g n (hd g).length a b k) j).set q (s + z) := by
              rw [lsRow, addAt, HQ2.out, Int.toNat_natCast, Zc.out, List.getD_eq_getElem?_getD, HS.out]; rfl
            rw [this]; exact hw
          case measure => simp [intOf]; omega
        · have ej : j = r.length := by omega
          go_wp2_with fail
          go_roundw
          case rel => exact ⟨k + 1, by omega, by go_num, by have ho2 := ho; rw [ej.trans RL.out] at ho2; exact ho2, e3, e4, hr, hb, Hsz⟩
          case measure => simp [intOf]; omega
    · obtain rfl : k = g.length := by omega
      go_wp2_with fail
      go_ret
      exact ⟨_, rfl, by rw [GD.out, HN.out, Int.toNat_natCast]; exact ho.mono (by omega) Hsz.out, hb⟩

set_option maxRecDepth 100000 in
set_option maxHeartbeats 2000000 in
theorem impl_LineSums (g : List (List Int)) (a b : Int) (v : Value) (w : World) (l h : Nat) (hr : RdG w l h v g) :
    Calls Try.prog 36 #[v, .agg #[.int .i64 a, .int .i64 b]] w (RetI w (lineSumsR g a b)) := by
  by_cases g1 : imgOk g = true
  rotate_left
  · have g1 : imgOk g = false := by simpa using g1
    have GD := Lib.hid (lineSums_no1 (a := a) (b := b) g1)
    go_enter Try.func36, Try.ntmps36
    go_wp2_with (go_at_call 63; refine (impl_ImageOk _ _ _ _ _ (hr.new (al1 _))).mono ?_; rintro e w' ⟨rfl, rfl⟩)
    go_ret
    exact ⟨_, rfl, by rw [GD.out]; exact Ow.nil _ _ _ _, al1 _⟩

  by_cases g2 : dirOk a b = true
  rotate_left
  · have g2 : dirOk a b = false := by simpa using g2
    have GD := Lib.hid (lineSums_no2 (g := g) g2)
    go_enter Try.func36, Try.ntmps36
    go_wp2_with (first
      | (go_at_call 63; refine (impl_ImageOk _ _ _ _ _ (hr.new (al1 _))).mono ?_; rintro e w' ⟨rfl, rfl⟩)
      | (go_at_call 75; refine (impl_DirectionOk _ _ _).mono ?_; rintro e w1 ⟨rfl, b1⟩))
    go_ret
    exact ⟨_, rfl, by rw [GD.out]; exact Ow.nil _ _ _ _, (al1 _).trans (b1.mono (by simp))⟩
  have G1 := Lib.hid g1
  have G2 := Lib.hid g2
  go_enter Try.func36, Try.ntmps36
  go_wp2_with fail
  generalize hwb : World.alloc w _ = wb
  have B0 : Below w.heap.size w wb := by rw [← hwb]; exact al1 _
  have e0 : wb.cell? ⟨w.heap.size, 0, none⟩ = some (.int .i64 a) := by rw [← hwb]; simp
  have e1 : wb.cell? ⟨w.heap.size, 1, none⟩ = some (.int .i64 b) := by rw [← hwb]; simp
  have z0 : w.heap.size < wb.heap.size := by rw [← hwb]; simp
  replace hr := hr.new B0
  clear hwb
  refine (impl_ImageOk _ _ _ _ _ hr).mono ?_
  rintro e w' ⟨rfl, rfl⟩
  go_wp2_with fail
  refine (impl_DirectionOk _ _ _).mono ?_
  rintro e w1 ⟨rfl, b1⟩
  have s1 := b1.size
  replace e0 := ((bcell b1).1 _ _ z0).trans e0
  replace e1 := ((bcell b1).1 _ _ z0).trans e1
  go_wp2_with fail
  refine (impl_sumsOn _ _ _ _ _ _ _ (hr.new b1) G1.out G2.out).mono ?_
  rintro e w2 ⟨u, rfl, hu, b2⟩
  go_wp2_with fail
  go_ret
  exact ⟨_, rfl, hu.mono (by omega) (Nat.le_refl _), (B0.trans (b1.mono (by omega))).trans (b2.mono (by omega))⟩

set_option maxRecDepth 100000 in
set_option maxHeartbeats 4000000 in
theorem spec_LineSums (g : List (List Int)) (a b : Int) (v : Value) (w : World) (l h : Nat) (hr : RdG w l h v g) :
    Calls Try.prog 34 #[v, .agg #[.int .i64 a, .int .i64 b]] w (RetI w (lineSumsR g a b)) := by
  by_cases g1 : imgOk g = true
  rotate_left
  · have g1 : imgOk g = false := by simpa using g1
    have GD := Lib.hid (lineSums_no1 (a := a) (b := b) g1)
    go_enter Try.func34, Try.ntmps34
    go_wp2_with (go_at_call 61; refine (spec_ImageOk _ _ _ _ _ (hr.new (al1 _))).mono ?_; rintro e w' ⟨rfl, rfl⟩)
    go_ret
    exact ⟨_, rfl, by rw [GD.out]; exact Ow.nil _ _ _ _, al1 _⟩
  by_cases g2 : dirOk a b = true
  rotate_left
  · have g2 : dirOk a b = false := by simpa using g2
    have GD := Lib.hid (lineSums_no2 (g := g) g2)
    go_enter Try.func34, Try.ntmps34
    go_wp2_with (first
      | (go_at_call 61; refine (spec_ImageOk _ _ _ _ _ (hr.new (al1 _))).mono ?_; rintro e w' ⟨rfl, rfl⟩)
      | (go_at_call 72; refine (spec_DirectionOk _ _ _).mono ?_; rintro e w1 ⟨rfl, b1⟩))
    go_ret
    exact ⟨_, rfl, by rw [GD.out]; exact Ow.nil _ _ _ _, (al1 _).trans (b1.mono (by simp))⟩
  obtain ⟨A, c, rfl, h1, h2⟩ := hr.form
  replace hr := hr.clip
  obtain ⟨i0, hi, hz0, hz1, hz2⟩ := info_parts int_info
  obtain ⟨l1, l2, l3, l4, _⟩ := imgOk_in g1
  have hlf : linesF g.length (hd g).length a b = true := by
    simp only [linesF, sizeOk, inB, g2, Bool.and_true, Bool.and_eq_true, decide_eq_true_eq]; omega
  obtain ⟨q1, q2⟩ := count_bd hlf
  have GD := Lib.hid (lineSums_yes g1 g2)
  obtain ⟨n, hn⟩ := Int.eq_ofNat_of_zero_le (show 0 ≤ countF g.length (hd g).length a b by omega)
  rw [hn] at q1 q2
  have HN := Lib.hid hn; clear hn
  have LF := Lib.hid hlf; clear hlf
  have Sh := Lib.hid (img_shape g1)
  have G1 := Lib.hid g1
  obtain ⟨d1, d2, d3, d4, d5⟩ := dirOk_in g2
  clear d5
  obtain ⟨b0, o0, rfl, _, hb0⟩ := hr.some_ (by omega)
  obtain ⟨A0, c0, hc0, q3, q4, _⟩ := hr.row0 (hd_get (by omega))
  have hpos : (0 : Int) < (g.length : Int) := by omega
  have hpN : 0 < g.length := by omega
  have hne : ¬ g = [] := by intro h; rw [h] at hpN; simp at hpN
  have hmk : ∀ W : World, (Instr.makeSlice 27 (.int .i64 (n : Int)) (.int .i64 (n : Int))).run Try.prog W = .ok (.slice (some ⟨W.heap.size, 0, none⟩) n n) (W.alloc (.cells (madeCells #[.int .i64 0] n) 3)) := fun W => run_make_row' 27 3 (.int .i64 0) 8 Try.underlying27 int_info rfl .i64 .i64 n (by omega) (by omega) W
  go_enter Try.func34, Try.ntmps34
  go_wp2_with fail
  generalize hwb : World.alloc w _ = wb
  have B0 : Below w.heap.size w wb := by rw [← hwb]; exact al1 _
  have e0 : wb.cell? ⟨w.heap.size, 0, none⟩ = some (.int .i64 a) := by rw [← hwb]; simp
  have e1 : wb.cell? ⟨w.heap.size, 1, none⟩ = some (.int .i64 b) := by rw [← hwb]; simp
  have z0 : w.heap.size < wb.heap.size := by rw [← hwb]; simp
  replace hc0 := ((bcell B0).1 _ _ hb0).trans hc0
  replace hr := hr.new B0
  clear hwb
  refine (spec_ImageOk _ _ _ _ _ hr).mono ?_
  rintro e w' ⟨rfl, rfl⟩
  go_wp2_with fail
  refine (spec_DirectionOk _ _ _).mono ?_
  rintro e w1 ⟨rfl, bb1⟩
  have ss1 := bb1.size
  replace e0 := ((bcell bb1).1 _ _ z0).trans e0
  replace e1 := ((bcell bb1).1 _ _ z0).trans e1
  replace hc0 := ((bcell bb1).1 _ _ (Nat.lt_trans hb0 z0)).trans hc0
  replace hr := hr.new bb1
  replace B0 := B0.trans (bb1.mono (by omega))
  replace z0 : w.heap.size < w1.heap.size := by omega
  go_wp2_with fail
  go_region_held3 (fun w' => w'.cell? ⟨w.heap.size, 0, none⟩ = some (.int .i64 a) ∧ w'.cell? ⟨w.heap.size, 1, none⟩ = some (.int .i64 b) ∧ w'.cell? ⟨b0, o0, none⟩ = some (.slice A0 (hd g).length c0)) (go_keep)
      (first
        | (go_at_call 73
           refine (spec_CountLines _ _ _ _ _).mono ?_
           rw [HN.out]
           rintro e w2 ⟨rfl, b2⟩
           have k0 : w2.cell? ⟨w.heap.size, 0, none⟩ = some (.int .i64 a) := ((bcell b2).1 _ _ z0).trans e0
           have k1 : w2.cell? ⟨w.heap.size, 1, none⟩ = some (.int .i64 b) := ((bcell b2).1 _ _ z0).trans e1
           have k2 : w2.cell? ⟨b0, o0, none⟩ = some (.slice A0 (hd g).length c0) := ((bcell b2).1 _ _ (Nat.lt_trans hb0 z0)).trans hc0))
  generalize hw3 : World.alloc w2 _ = w3
  have B3 : Below w2.heap.size w2 w3 := by rw [← hw3]; exact al1 _
  have ho : Ow w3 w2.heap.size w3.heap.size 3 (.slice (some ⟨w2.heap.size, 0, none⟩) n n) (ints (lsAll g n (hd g).length a b 0)) := by
    rw [← hw3]
    refine Ow.of_top (n := n) ?_
    have hown : (w2.alloc (.cells (madeCells #[.int .i64 0] n) 3)).ownsRow w2.heap.size 3 1 (.slice (some ⟨w2.heap.size, 0, none⟩) n n) n (madeCells #[.int .i64 0] n).toList := World.ownsRow_lit w2 (madeCells #[.int .i64 0] n) n (Nat.le_refl _) (by unfold maxLen; omega) (by simp [madeCells])
    have e : (madeCells #[.int .i64 0] n).toList = ints (List.replicate n 0) := by have := made_ints n; rwa [Nat.mul_one] at this
    rw [e] at hown
    exact hown
  have s2 : w1.heap.size ≤ w2.heap.size := b2.size
  have s3 : w2.heap.size < w3.heap.size := by rw [← hw3]; simp
  have e3 := ((bcell B3).1 w.heap.size 0 (by omega)).trans k0
  have e4 := ((bcell B3).1 w.heap.size 1 (by omega)).trans k1
  have hr3 := (RdG.new (w := w1.drew) hr b2).new B3
  have hb3 := ((B0.drew.trans (b2.mono (Nat.le_of_lt z0))).trans (B3.mono (by omega)))
  clear hr hw3 k0 k1 k2 e0 e1 hc0
  go_wp2_with fail
  go_loopw [30] (fun i wr => ∃ k : Nat, k ≤ g.length ∧ i = .int .i64 k ∧ Ow wr w2.heap.size w3.heap.size 3 (.slice (some ⟨w2.heap.size, 0, none⟩) n n) (ints (lsAll g n (hd g).length a b k)) ∧ wr.cell? ⟨w.heap.size, 0, none⟩ = some (.int .i64 a) ∧ wr.cell? ⟨w.heap.size, 1, none⟩ = some (.int .i64 b) ∧ RdG wr l w.heap.size (.slice (some ⟨b0, o0, none⟩) g.length c) g ∧ Below w.heap.size w wr ∧ Hid (w3.heap.size ≤ wr.heap.size)) (fun i _ => g.length - (intOf i).toNat)
  case atStart => exact ⟨0, Nat.zero_le _, rfl, ho, e3, e4, hr3, hb3, Lib.hid (Nat.le_refl _)⟩
  case round =>
    clear ho e3 e4 hr3 hb3
    obtain ⟨k, hk, rfl, ho, e3, e4, hr, hb, Hsz⟩ := hrel
    by_cases hlt : k < g.length
    · obtain ⟨r, hx, hrl⟩ := shape_row Sh.out hlt
      obtain ⟨A1, c1, hc1, t1, t2, hrow⟩ := hr.row hx
      obtain ⟨b1, o1, rfl, _, _⟩ := hrow.some_ (by omega)
      have X := Lib.hid hx; clear hx
      have RL := Lib.hid hrl
      have hkr : (k : Int) < (g.length : Int) := by omega
      have r5 : r.length ≤ 5 := by omega
      have r1 : 1 ≤ r.length := by omega
      clear hrl
      go_wp2_with fail
      go_loopw [37] (fun i wr => ∃ j : Nat, j ≤ r.length ∧ i = .int .i64 j ∧ Ow wr w2.heap.size w3.heap.size 3 (.slice (some ⟨w2.heap.size, 0, none⟩) n n) (ints (lsRow g (hd g).length a b k (lsAll g n (hd g).length a b k) j)) ∧ wr.cell? ⟨w.heap.size, 0, none⟩ = some (.int .i64 a) ∧ wr.cell? ⟨w.heap.size, 1, none⟩ = some (.int .i64 b) ∧ RdG wr l w.heap.size (.slice (some ⟨b0, o0, none⟩) g.length c) g ∧ RdI wr l w.heap.size (.slice (some ⟨b1, o1, none⟩) r.length c1) r ∧ Below w.heap.size w wr ∧ Hid (w3.heap.size ≤ wr.heap.size)) (fun i _ => r.length - (intOf i).toNat)
      case atStart => exact ⟨0, Nat.zero_le _, rfl, ho, e3, e4, hr, hrow, hb, Hsz⟩
      case round =>
        clear ho e3 e4 hr hb hrow hc1
        obtain ⟨j, hj, rfl, ho, e3, e4, hr, hrow, hb, Hsz⟩ := hrel
        rename World => wj
        by_cases hlt2 : j < r.length
        · obtain ⟨z, hz⟩ := get_of_lt r j hlt2
          have hcz := hrow.cell hz
          have Zc := Lib.hid (cellN_get X.out hz)
          have y12 := img_cell01 G1.out (y := k) (x := j) hlt (by have := RL.out; omega)
          rw [Zc.out] at y12
          obtain ⟨y1, y2⟩ := y12
          have hln := line_in LF.out (y := k) (x := j) hlt (by have := RL.out; omega)
          rw [HN.out] at hln
          obtain ⟨q, hq⟩ := Int.eq_ofNat_of_zero_le hln.1
          rw [hq] at hln
          have HQ : Hid (lineF (r.length : Nat) a b k j = (q : Int)) := Lib.hid (by rw [RL.out]; exact hq)
          have HQ2 := Lib.hid hq
          have hqn : (q : Int) < (n : Int) := hln.2
          clear hln hq
          have hrowlen : (lsRow g (hd g).length a b k (lsAll g n (hd g).length a b k) j).length = n := by rw [lsRow_len, lsAll_len]
          obtain ⟨s, hs⟩ := get_of_lt (lsRow g (hd g).length a b k (lsAll g n (hd g).length a b k) j) q (by omega)
          have hup := lsRow_up (a := a) (b := b) G1.out (y := k) hlt (lsAll_up n G1.out k (Nat.le_of_lt hlt)) (by omega) j (by have := RL.out; omega) q s hs
          obtain ⟨u1, u2⟩ := hup
          have u3 : s ≤ 1000 := by omega
          clear u2
          have Hlen := Lib.hid hrowlen; clear hrowlen
          have HS := Lib.hid hs; clear hs hz
          have i1 : (j : Int) < (r.length : Int) := by omega
          have HL : Hid (lineR (g.length : Nat) ((hd g).length : Nat) a b k j = (q : Int)) := Lib.hid (by
            rw [lineR_yes LF.out (by simp only [inB, Bool.and_eq_true, decide_eq_true_eq]; omega) (by have := RL.out; simp only [inB, Bool.and_eq_true, decide_eq_true_eq]; omega)]; exact HQ2.out)
          obtain ⟨A9, c9, hc9, _, _, _⟩ := hr.row0 (hd_get (by omega))
          have hwj : w.heap.size < wj.heap.size := by have := Hsz.out; omega
          go_wp2_with fail
          go_region_held3 (fun w' => w'.cell? ⟨w.heap.size, 0, none⟩ = some (.int .i64 a) ∧ w'.cell? ⟨w.heap.size, 1, none⟩ = some (.int .i64 b) ∧ w'.cell? ⟨b0, o0, none⟩ = some (.slice A9 (hd g).length c9)) (go_keep)
            (first
              | (go_at_call 74
                 refine (spec_LineOf _ _ _ _ _ _ _).mono ?_
                 rw [HL.out]
                 rintro e w5 ⟨rfl, b5⟩
                 have k0 : w5.cell? ⟨w.heap.size, 0, none⟩ = some (.int .i64 a) := ((bcell b5).1 _ _ hwj).trans e3
                 have k1 : w5.cell? ⟨w.heap.size, 1, none⟩ = some (.int .i64 b) := ((bcell b5).1 _ _ hwj).trans e4
                 have k2 : w5.cell? ⟨b0, o0, none⟩ = some (.slice A9 (hd g).length c9) := ((bcell b5).1 _ _ (Nat.lt_trans hb0 hwj)).trans hc9))
          replace ho : Ow wj.drew w2.heap.size w3.heap.size 3 (.slice (some ⟨w2.heap.size, 0, none⟩) n n) (ints (lsRow g (hd g).length a b k (lsAll g n (hd g).length a b k) j)) := ho
          replace hr : RdG wj.drew l w.heap.size (.slice (some ⟨b0, o0, none⟩) g.length c) g := hr
          replace hrow : RdI wj.drew l w.heap.size (.slice (some ⟨b1, o1, none⟩) r.length c1) r := hrow
          replace hb := hb.drew
          have s5 := b5.size
          replace ho := ho.new b5
          obtain ⟨_, eq1, _, _, _, hcs, hfs⟩ := ho.at_ (k := q) (u := .int .i64 s) (by simp [ints, HS.out])
          injection eq1 with eq1; injection eq1 with eq1; subst eq1
          go_wp2_with fail
          go_roundw
          case rel =>
            have hw := Ow.set' (by simp only [ints, List.length_map]; exact Hlen.out.symm) ho q (.int .i64 (s + z))
            rw [ints_set] at hw
            have hlo : w.heap.size < w2.heap.size := by omega
            have hsz := Hsz.out
            have s5' : wj.heap.size ≤ w5.heap.size := s5
            refine ⟨j + 1, by omega, by go_num, ?_, cell_far (((bcell b5).1 _ _ hwj).trans e3) (by simp only []; omega) _, cell_far (((bcell b5).1 _ _ hwj).trans e4) (by simp only []; omega) _, (hr.new b5).far (by simp only []; omega) _, (hrow.new b5).far (by simp only []; omega) _, (hb.trans (b5.mono (Nat.le_of_lt hwj))).setCell (by simp only []; omega) _, Lib.hid (by simp only [World.setCell]; simp; omega)⟩
            have : lsRow g (hd g).length a b k (lsAll g n (hd g).length a b k) (j + 1) = (lsRow g (hd g).length a b k (lsAll g n (hd g).length a b k) j).set q (s + z) := by
              rw [lsRow, addAt, HQ2.out, Int.toNat_natCast, Zc.out, List.getD_eq_getElem?_getD, HS.out]; rfl
            rw [this]; exact hw
          case measure => simp [intOf]; omega
        · have ej : j = r.length := by omega
          go_wp2_with fail
          go_roundw
          case rel => exact ⟨k + 1, by omega, by go_num, by have ho2 := ho; rw [ej.trans RL.out] at ho2; exact ho2, e3, e4, hr, hb, Hsz⟩
          case measure => simp [intOf]; omega
    · obtain rfl : k = g.length := by omega
      go_wp2_with fail
      go_ret
      exact ⟨_, rfl, by rw [GD.out, HN.out, Int.toNat_natCast]; exact ho.mono (by omega) Hsz.out, hb⟩

end Go.Proofs.Ytdgkiebgmhcmdaa
