/- Walks: WorstColumns, Exists, SlackOf of the reference; their plain law. -/
import Derived.Test.YtkjhodeajipihaaProg
import Derived.Test.YtkjhodeajipihaaW1
import Derived.Test.YtkjhodeajipihaaW3
import Derived.Test.YtkjhodeajipihaaW4
import Derived.Test.YtkjhodeajipihaaS1
import Derived.Test.YtkjhodeajipihaaMem
import Derived.WalkKit
import Derived.WalkSpells
import Derived.WalkLawsBesides
import Derived.KernelRfl
import Derived.Lib.Hide
import Derived.Deep.QuietTactic
import Derived.BigQuiet
namespace Go.Proofs.Ytkjhodeajipihaa
open Go.RowKit
set_option linter.unusedVariables false
set_option linter.unusedSimpArgs false

/-- The sum of the first k conjugates less the sum of the k greatest column sums. -/
def gapF (rows cols : List Int) (k : Nat) : Int := ((conjF rows cols.length).take k).sum - ((sortD cols).take k).sum
def worstG (f : Nat → Int) : Nat → Nat → Int
  | 0, _ => 0
  | n + 1, k => if f k < 0 then k else worstG f n (k + 1)
def worstR (rows cols : List Int) : Int := if sumsOk rows cols = true then worstG (gapF rows cols) cols.length 1 else 0
def existsR (rows cols : List Int) : Bool := sumsOk rows cols && decide (worstR rows cols = 0)
def minG (f : Nat → Int) : Nat → Int
  | 0 => f 1
  | n + 1 => min (minG f n) (f (n + 2))
def slackR (rows cols : List Int) : Int := if existsR rows cols = true then minG (gapF rows cols) (cols.length - 1) else -1
theorem sumsOk_in {rows cols : List Int} (h : sumsOk rows cols = true) : 1 ≤ rows.length ∧ rows.length ≤ 5 ∧ 1 ≤ cols.length ∧ cols.length ≤ 5 ∧ (∀ x ∈ rows, 0 ≤ x ∧ x ≤ cols.length) ∧ (∀ x ∈ cols, 0 ≤ x ∧ x ≤ rows.length) ∧ rows.sum = cols.sum := by
  simp only [sumsOk, Bool.and_eq_true, decide_eq_true_eq] at h
  obtain ⟨⟨⟨⟨h1, h2⟩, h3⟩, h4⟩, h5⟩ := h
  have := inB_true h1; have := inB_true h2
  refine ⟨by omega, by omega, by omega, by omega, fun x hx => ?_, fun x hx => ?_, h5⟩
  · exact inB_true (List.all_eq_true.1 h3 x hx)
  · exact inB_true (List.all_eq_true.1 h4 x hx)
theorem inB_mk {x lo hi : Int} (h1 : lo ≤ x) (h2 : x ≤ hi) : inB x lo hi = true := by simp [inB, h1, h2]
theorem sums_conj {rows cols : List Int} (h : sumsOk rows cols = true) : conjOk rows cols.length = true := by
  obtain ⟨h1, h2, h3, h4, h5, h6, h7⟩ := sumsOk_in h
  exact conjOk_4 (inB_mk (by omega) (by omega)) h2 (List.all_eq_true.2 fun x hx => inB_mk (h5 x hx).1 (h5 x hx).2)
theorem conjR_yes {l : List Int} {n : Nat} (h : conjOk l n = true) : conjR l n = conjF l n := by simp [conjR, h]
theorem small_le {l : List Int} {M : Int} (h1 : l.length ≤ 5) (hM : M ≤ 5) (h : ∀ x ∈ l, 0 ≤ x ∧ x ≤ M) : small l := ⟨by omega, fun x hx => by have := h x hx; omega⟩
theorem small_take {l : List Int} (h : small l) (k : Nat) : small (l.take k) := ⟨by have := h.1; rw [List.length_take]; omega, fun x hx => h.2 x (List.mem_of_mem_take hx)⟩
theorem conj_small {rows cols : List Int} (h : sumsOk rows cols = true) : small (conjF rows cols.length) := by
  obtain ⟨h1, h2, h3, h4, h5, h6, h7⟩ := sumsOk_in h
  refine ⟨by rw [conjF_len]; omega, fun x hx => ?_⟩
  obtain ⟨k, hk⟩ := List.getElem?_of_mem hx
  have := conjF_bd h2 hk
  omega
theorem sort_small {rows cols : List Int} (h : sumsOk rows cols = true) : small (sortD cols) := by
  obtain ⟨h1, h2, h3, h4, h5, h6, h7⟩ := sumsOk_in h
  refine ⟨by rw [sortD_len]; omega, fun x hx => ?_⟩
  have := h6 x ((sortD_perm cols).mem_iff.1 hx)
  omega
theorem sum_take_bd {l : List Int} {M : Int} (hM : 0 ≤ M) (h : ∀ x ∈ l, 0 ≤ x ∧ x ≤ M) (k : Nat) : 0 ≤ (l.take k).sum ∧ (l.take k).sum ≤ l.length * M := by
  have key : ∀ m : List Int, (∀ x ∈ m, 0 ≤ x ∧ x ≤ M) → 0 ≤ m.sum ∧ m.sum ≤ m.length * M := by
    intro m
    induction m with
    | nil => intro _; simp
    | cons x t ih =>
      intro hm
      have e1 := hm x (by simp)
      have e2 := ih (fun y hy => hm y (by simp [hy]))
      simp only [List.sum_cons, List.length_cons]
      have e3 : ((t.length + 1 : Nat) : Int) * M = t.length * M + M := by rw [Int.natCast_add]; simp [Int.add_mul]
      omega
  have h1 := key (l.take k) (fun x hx => h x (List.mem_of_mem_take hx))
  have h2 : ((l.take k).length : Int) * M ≤ l.length * M := Int.mul_le_mul_of_nonneg_right (by rw [List.length_take]; omega) hM
  omega
theorem gap_bd {rows cols : List Int} (h : sumsOk rows cols = true) (k : Nat) : (0 ≤ ((conjF rows cols.length).take k).sum ∧ ((conjF rows cols.length).take k).sum ≤ 25) ∧ (0 ≤ ((sortD cols).take k).sum ∧ ((sortD cols).take k).sum ≤ 25) := by
  obtain ⟨h1, h2, h3, h4, h5, h6, h7⟩ := sumsOk_in h
  have e1 := sum_take_bd (l := conjF rows cols.length) (M := 5) (by omega) (fun x hx => by
    obtain ⟨k, hk⟩ := List.getElem?_of_mem hx
    exact conjF_bd h2 hk) k
  have e2 := sum_take_bd (l := sortD cols) (M := 5) (by omega) (fun x hx => by
    have := h6 x ((sortD_perm cols).mem_iff.1 hx)
    omega) k
  rw [conjF_len] at e1
  rw [sortD_len] at e2
  omega
/-- A prefix of a slice. -/
theorem RdI.pre {w : World} {lo hi n c : Nat} {A : Option Addr} {l : List Int} (h : RdI w lo hi (.slice A n c) l) {k : Nat} (hk : k ≤ l.length) : RdI w lo hi (.slice A k c) (l.take k) := by
  obtain ⟨A', c', e, h1, h2, h3⟩ := h
  injection e with e1 e2 e3
  subst e1; subst e3
  rw [ints_len] at h1
  refine ⟨A, c, by rw [ints_len, List.length_take, Nat.min_eq_left hk], by rw [ints_len, List.length_take]; omega, h2, fun j u hu => h3 j u ?_⟩
  rw [ints_get] at hu ⊢
  have hj : j < k := by
    rcases Nat.lt_or_ge j k with h | h
    · exact h
    · rw [List.getElem?_eq_none (by rw [List.length_take]; omega)] at hu; cases hu
  rwa [List.getElem?_take, if_pos hj] at hu
theorem Ow.somep {w : World} {lo hi n cap : Nat} {T : TypeId} {xs : List Value} {A : Option Addr} (h : Ow w lo hi T (.slice A n cap) xs) (hx : 0 < xs.length) : ∃ g, A = some ⟨g, 0, none⟩ := by
  obtain ⟨g, e, _⟩ := h.at_ (k := 0) (List.getElem?_eq_getElem hx)
  exact ⟨g, e⟩

set_option maxRecDepth 100000 in
set_option maxHeartbeats 1000000 in
theorem spec_l04Gap (rows cols : List Int) (v u : Value) (k : Nat) (w : World) (a b a' b' : Nat) (hr : RdI w a b v rows) (hs : RdI w a' b' u cols) (h : sumsOk rows cols = true) (hk : k ≤ cols.length) :
    Calls Try.prog 28 #[v, u, .int .i64 k] w fun e w' => e = .returned (.int .i64 (gapF rows cols k)) ∧ Below w.heap.size w w' := by
  obtain ⟨h1, h2, h3, h4, h5, h6, h7⟩ := sumsOk_in h
  clear h5 h6 h7
  have Hc := Lib.hid (sums_conj h)
  have Cs := Lib.hid (small_take (conj_small h) k)
  have Ss := Lib.hid (small_take (sort_small h) k)
  have bd := gap_bd h k
  obtain ⟨⟨z1, z2⟩, z3, z4⟩ := bd
  clear h
  obtain ⟨A, c, rfl, _, _⟩ := hr.form
  obtain ⟨A', c', rfl, _, _⟩ := hs.form
  go_enter Try.func28, Try.ntmps28
  go_wp2_with fail
  refine (spec_ConjugateOf _ _ _ _ _ _ hr).mono ?_
  rintro e w1 ⟨v1, rfl, ho, hb, hcase⟩
  rw [conjR_yes Hc.out] at ho
  clear hcase
  have hs1 := hb.size
  obtain ⟨A1, c1, rfl, q1, q2⟩ := ho.form'
  rw [ints_len, conjF_len] at q1 ho ⊢
  obtain ⟨g, rfl⟩ := ho.somep (by rw [ints_len, conjF_len]; omega)
  replace hs := hs.new hb
  have hp := ho.rdI.pre (k := k) (by rw [conjF_len]; omega)
  go_wp2_with fail
  refine (spec_l03Total _ _ _ _ _ hp Cs.out).mono ?_
  rintro e w2 ⟨rfl, rfl⟩
  go_wp2_with fail
  refine (spec_SortedDown _ _ _ _ _ hs (by omega)).mono ?_
  rintro e w2 ⟨v2, rfl, ho2, hb2⟩
  obtain ⟨A2, c2, rfl, q3, q4⟩ := ho2.form'
  rw [ints_len, sortD_len] at q3 ho2 ⊢
  obtain ⟨g2, rfl⟩ := ho2.somep (by rw [ints_len, sortD_len]; omega)
  have hp2 := ho2.rdI.pre (k := k) (by rw [sortD_len]; omega)
  go_wp2_with fail
  refine (spec_l03Total _ _ _ _ _ hp2 Ss.out).mono ?_
  rintro e w3 ⟨rfl, rfl⟩
  go_wp2_with fail
  go_ret
  exact ⟨ret_int rfl, hb.trans (hb2.mono hs1)⟩

theorem worst_no {rows cols : List Int} (h : sumsOk rows cols = false) : worstR rows cols = 0 := by simp [worstR, h]
theorem worst_yes {rows cols : List Int} (h : sumsOk rows cols = true) : worstR rows cols = worstG (gapF rows cols) cols.length 1 := by simp [worstR, h]
theorem worstG_hit {f : Nat → Int} {n k : Nat} (h : f k < 0) : worstG f (n + 1) k = k := by simp [worstG, h]
theorem worstG_go {f : Nat → Int} {n k : Nat} (h : ¬ f k < 0) : worstG f (n + 1) k = worstG f n (k + 1) := by simp [worstG, h]
theorem exists_no {rows cols : List Int} (h : sumsOk rows cols = false) : existsR rows cols = false := by simp [existsR, h]
theorem exists_yes {rows cols : List Int} (h : sumsOk rows cols = true) : existsR rows cols = (worstR rows cols == 0) := by
  simp only [existsR, h, Bool.true_and]
  rw [Bool.eq_iff_iff]; simp
theorem exists_in {rows cols : List Int} (h : existsR rows cols = true) : sumsOk rows cols = true := by
  simp only [existsR, Bool.and_eq_true] at h; exact h.1
theorem slack_no {rows cols : List Int} (h : existsR rows cols = false) : slackR rows cols = -1 := by simp [slackR, h]
theorem slack_yes {rows cols : List Int} (h : existsR rows cols = true) : slackR rows cols = minG (gapF rows cols) (cols.length - 1) := by simp [slackR, h]
theorem minG_bd {f : Nat → Int} (h : ∀ k, -25 ≤ f k ∧ f k ≤ 25) : ∀ n, -25 ≤ minG f n ∧ minG f n ≤ 25
  | 0 => h 1
  | n + 1 => by
    have := minG_bd h n
    have := h (n + 2)
    simp only [minG]
    omega
theorem gap_25 {rows cols : List Int} (h : sumsOk rows cols = true) (k : Nat) : -25 ≤ gapF rows cols k ∧ gapF rows cols k ≤ 25 := by
  have := gap_bd h k
  unfold gapF
  omega

set_option maxRecDepth 100000 in
set_option maxHeartbeats 1000000 in
theorem spec_WorstColumns (rows cols : List Int) (v u : Value) (w : World) (a b a' b' : Nat) (hr : RdI w a b v rows) (hs : RdI w a' b' u cols) :
    Calls Try.prog 21 #[v, u] w fun e w' => e = .returned (.int .i64 (worstR rows cols)) ∧ Below w.heap.size w w' := by
  obtain ⟨A, c, rfl, _, _⟩ := hr.form
  obtain ⟨A', c', rfl, _, _⟩ := hs.form
  by_cases h : sumsOk rows cols = true
  rotate_left
  · have h : sumsOk rows cols = false := by simpa using h
    have GD := Lib.hid (worst_no h)
    go_enter Try.func21, Try.ntmps21
    go_wp2_with (go_at_call 10; refine (spec_SumsOk _ _ _ _ _ _ _ _ _ hr hs).mono ?_; rintro e w' ⟨rfl, rfl⟩)
    go_ret
    exact ⟨ret_int GD.out.symm, Below.refl _ _⟩
  obtain ⟨h1, h2, h3, h4, h5, h6, h7⟩ := sumsOk_in h
  clear h5 h6 h7
  have GD := Lib.hid (worst_yes h)
  have HO := Lib.hid h
  go_enter Try.func21, Try.ntmps21
  go_wp2_with (go_at_call 10; refine (spec_SumsOk _ _ _ _ _ _ _ _ _ hr hs).mono ?_; rintro e w' ⟨rfl, rfl⟩)
  go_loopw [5] (fun i wr => ∃ k n : Nat, n + k = cols.length + 1 ∧ 1 ≤ k ∧ i = .int .i64 k ∧ worstR rows cols = worstG (gapF rows cols) n k ∧ RdI wr a b (.slice A rows.length c) rows ∧ RdI wr a' b' (.slice A' cols.length c') cols ∧ Below w.heap.size w wr) (fun i _ => cols.length + 1 - (intOf i).toNat)
  case atStart => exact ⟨1, cols.length, rfl, Nat.le_refl _, rfl, GD.out, hr, hs, Below.refl _ _⟩
  case round =>
    clear hr hs
    obtain ⟨k, n, hn, hk1, rfl, hw, hr, hs, hb⟩ := hrel
    have HW := Lib.hid hw; clear hw
    have hbs := hb.size
    by_cases hlt : k ≤ cols.length
    rotate_left
    · obtain rfl : n = 0 := by omega
      go_wp2_with fail
      go_ret
      exact ⟨ret_int (by rw [HW.out]; rfl), hb⟩
    obtain ⟨n, rfl⟩ : ∃ n', n = n' + 1 := ⟨n - 1, by omega⟩
    by_cases hg : gapF rows cols k < 0
    · have Hh := Lib.hid (worstG_hit (n := n) hg)
      go_wp2_with (go_at_call 28; refine (spec_l04Gap _ _ _ _ k _ _ _ _ _ hr hs HO.out hlt).mono ?_; rintro e w1 ⟨rfl, hb1⟩)
      go_ret
      exact ⟨ret_int (by rw [HW.out, Hh.out]), hb.trans (hb1.mono hbs)⟩
    · have Hh := Lib.hid (worstG_go (n := n) hg)
      go_wp2_with (go_at_call 28; refine (spec_l04Gap _ _ _ _ k _ _ _ _ _ hr hs HO.out hlt).mono ?_; rintro e w1 ⟨rfl, hb1⟩)
      go_roundw
      case rel => exact ⟨k + 1, n, by omega, by omega, by go_num, by rw [HW.out, Hh.out], hr.new hb1, hs.new hb1, hb.trans (hb1.mono hbs)⟩
      case measure => simp [intOf]; omega

set_option maxRecDepth 100000 in
set_option maxHeartbeats 1000000 in
theorem spec_Exists (rows cols : List Int) (v u : Value) (w : World) (a b a' b' : Nat) (hr : RdI w a b v rows) (hs : RdI w a' b' u cols) :
    Calls Try.prog 11 #[v, u] w fun e w' => e = .returned (.bool (existsR rows cols)) ∧ Below w.heap.size w w' := by
  by_cases h : sumsOk rows cols = true
  rotate_left
  · have h : sumsOk rows cols = false := by simpa using h
    have GD := Lib.hid (exists_no h)
    go_enter Try.func11, Try.ntmps11
    go_wp2_with (go_at_call 10; refine (spec_SumsOk _ _ _ _ _ _ _ _ _ hr hs).mono ?_; rintro e w' ⟨rfl, rfl⟩)
    go_ret
    exact ⟨ret_bool GD.out.symm, Below.refl _ _⟩
  have GD := Lib.hid (exists_yes h)
  go_enter Try.func11, Try.ntmps11
  go_wp2_with (first
    | (go_at_call 10; refine (spec_SumsOk _ _ _ _ _ _ _ _ _ hr hs).mono ?_; rintro e w' ⟨rfl, rfl⟩)
    | (go_at_call 21; refine (spec_WorstColumns _ _ _ _ _ _ _ _ _ hr hs).mono ?_; rintro e w1 ⟨rfl, hb⟩))
  go_ret
  exact ⟨ret_bool GD.out.symm, hb⟩

end Go.Proofs.Ytkjhodeajipihaa
