/- Walks: l05Left, l05Rows of spec. -/
import Derived.Test.YtkjhodeajipihaaProg
import Derived.Test.YtkjhodeajipihaaW1
import Derived.Test.YtkjhodeajipihaaW3
import Derived.Test.YtkjhodeajipihaaW4
import Derived.Test.YtkjhodeajipihaaW6
import Derived.Test.YtkjhodeajipihaaS3
import Derived.Test.YtkjhodeajipihaaC1
import Derived.Test.YtkjhodeajipihaaMem
import Derived.WalkKit
import Derived.WalkSpells
import Derived.WalkLawsBesides
import Derived.KernelRfl
import Derived.Lib.Hide
import Derived.Deep.QuietTactic
import Derived.BigQuiet
namespace Go.Proofs.Ytkjhodeajipihaa
open Go.RowKit
set_option linter.unusedVariables false
set_option linter.unusedSimpArgs false

theorem fits_no : ∀ (cols row : List Int) (k : Nat) (x y : Int), cols[k]? = some x → row[k]? = some y → x < y → fits cols row = false
  | a :: cols, b :: row, 0, x, y, h1, h2, h => by
    simp at h1 h2; subst h1; subst h2
    have : ¬ b ≤ a := by omega
    simp [fits, this]
  | a :: cols, b :: row, k + 1, x, y, h1, h2, h => by
    rw [fits, fits_no cols row k x y (by simpa using h1) (by simpa using h2) h, Bool.and_false]
  | [], _, _, _, _, h1, _, _ => by simp at h1
  | _ :: _, [], _, _, _, _, h2, _ => by simp at h2
theorem fits_yes : ∀ (cols row : List Int), (∀ (k : Nat) (x y : Int), cols[k]? = some x → row[k]? = some y → y ≤ x) → fits cols row = true
  | a :: cols, b :: row, h => by
    have h0 := h 0 a b rfl rfl
    simp [fits, h0, fits_yes cols row fun k x y h1 h2 => h (k + 1) x y (by simpa using h1) (by simpa using h2)]
  | [], _, _ => by simp [fits]
  | _ :: _, [], _ => by simp [fits]
theorem minusL_get : ∀ (cols row : List Int) (k : Nat) (x y : Int), cols[k]? = some x → row[k]? = some y → (minusL cols row)[k]? = some (x - y)
  | a :: cols, b :: row, 0, x, y, h1, h2 => by simp at h1 h2; subst h1; subst h2; rfl
  | a :: cols, b :: row, k + 1, x, y, h1, h2 => by
    rw [minusL, List.getElem?_cons_succ]
    exact minusL_get cols row k x y (by simpa using h1) (by simpa using h2)
  | [], _, _, _, _, h1, _ => by simp at h1
  | _ :: _, [], _, _, _, _, h2 => by simp at h2

/-- The post of l05Left. -/
def RetL (w : World) (cols row : List Int) (e : Ending) (w' : World) : Prop :=
  ∃ v, e = .returned (.tuple #[v, .bool (fits cols row)]) ∧ (fits cols row = true → Ow w' w.heap.size w'.heap.size 3 v (ints (minusL cols row))) ∧ Below w.heap.size w w'

set_option maxRecDepth 100000 in
set_option maxHeartbeats 2000000 in
theorem spec_l05Left (cols row : List Int) (v u : Value) (w : World) (a b a' b' : Nat) (hr : RdI w a b v cols) (hs : RdI w a' b' u row) (hl : row.length = cols.length) (h5 : cols.length ≤ 5)
    (hc : ∀ z ∈ cols, 0 ≤ z ∧ z ≤ 100) (h01 : ∀ z ∈ row, 0 ≤ z ∧ z ≤ 1) :
    Calls Try.prog 24 #[v, u] w (RetL w cols row) := by
  obtain ⟨A, c, rfl, h1, h2⟩ := hr.form
  obtain ⟨A', c', rfl, h1', h2'⟩ := hs.form
  replace hr := hr.clip
  replace hs := hs.clip
  rw [hl] at hs h1' ⊢
  obtain ⟨i0, hi, hz0, hz1, hz2⟩ := info_parts int_info
  have HC := Lib.hid hc; clear hc
  have H01 := Lib.hid h01; clear h01
  have HL := Lib.hid hl; clear hl
  have hml : (minusL cols row).length = cols.length := minusL_len _ _ HL.out.symm
  have HML := Lib.hid hml; clear hml
  go_enter Try.func24, Try.ntmps24
  go_wp2_with fail
  have hb0 : Below w.heap.size w (w.alloc (.cells #[] 3)) := (Below.refl _ _).alloc (Nat.le_refl _) _
  go_loopw [6, 12] (fun o i wr => ∃ (k : Nat) (O : Value), O = o ∧ k ≤ cols.length ∧ i = .int .i64 k ∧ Hid (∀ j x y, j < k → cols[j]? = some x → row[j]? = some y → y ≤ x) ∧ Ow wr w.heap.size wr.heap.size 3 O (ints ((minusL cols row).take k)) ∧ RdI wr a w.heap.size (.slice A cols.length c) cols ∧ RdI wr a' w.heap.size (.slice A' cols.length c') row ∧ Below w.heap.size w wr) (fun _ i _ => cols.length - (intOf i).toNat)
  case atStart => exact ⟨0, _, rfl, Nat.zero_le _, rfl, Lib.hid (fun j x y h => by omega), (Ow.empty w w.heap.size _ (Nat.le_refl _)).mono (Nat.le_refl _) (by simp), hr.new hb0, hs.new hb0, hb0⟩
  case round =>
    clear hr hs hb0
    obtain ⟨k, O, rfl, hk, rfl, HK, ho, hr, hs, hb⟩ := hrel
    rename World => wo
    by_cases hlt : k < cols.length
    rotate_left
    · have hfy : fits cols row = true := fits_yes _ _ fun j x y h1 h2 => HK.out j x y (by have := (List.getElem?_eq_some_iff.1 h1).1; omega) h1 h2
      have HF := Lib.hid hfy; clear hfy
      have hall : (minusL cols row).take k = minusL cols row := take_all (by rw [HML.out]; omega)
      rw [hall] at ho
      clear hall
      go_wp2_with fail
      go_ret2
      exact ⟨O, (by rw [HF.out]; rfl), fun _ => ho, hb⟩
    obtain ⟨x, hx⟩ := get_of_lt cols k hlt
    obtain ⟨y, hy⟩ := get_of_lt row k (by rw [HL.out]; exact hlt)
    obtain ⟨b1, o1, rfl, _, _, _, hc1⟩ := hr.at_ hx
    obtain ⟨b2, o2, rfl, _, _, _, hc2⟩ := hs.at_ hy
    obtain ⟨x0, x1⟩ := HC.out x (List.mem_of_getElem? hx)
    obtain ⟨y0, y1⟩ := H01.out y (List.mem_of_getElem? hy)
    have hg := minusL_get _ _ k x y hx hy
    have HX := Lib.hid hx; clear hx
    have HY := Lib.hid hy; clear hy
    have HS := Lib.hid (take_snoc hg); clear hg
    have i1 : (k : Int) < (cols.length : Int) := by omega
    have fw : IntKind.i64.wrap (x - y) = x - y := by rw [IntKind.wrap_i64]; omega
    by_cases hxy : x < y
    · have hfn : fits cols row = false := fits_no _ _ k x y HX.out HY.out hxy
      have HF := Lib.hid hfn; clear hfn
      go_wp2_with fail
      go_ret2
      refine ⟨_, (by rw [HF.out]; rfl), ?_, hb⟩
      intro h
      rw [HF.out] at h
      cases h
    have hbs := hb.size
    have hTl : (ints ((minusL cols row).take k)).length = k := by rw [ints_len, List.length_take, HML.out]; omega
    go_wp2_with (at_builtin; refine wpList_append_own _ rfl _ _ 22 rfl w.heap.size 3 i0 (.int .i64 0) 1 8 Try.underlying22 hi hz0 hz1 hz2 rfl (by decide) _ _ _ rfl (ho.1.alloc _) ⟨wo.heap.size, 0, none⟩ 1 1 [.int .i64 (x - y)] rfl rfl (cell_one_new _ _ _) (by simp [Value.oneCell']) (by unfold maxLen; omega) (by omega) (by simp; omega) ?_; intro v2 w2 hown2 hg2 _)
    go_roundw
    case rel =>
      have hb2 : Below w.heap.size wo w2 := ((Below.refl _ _).alloc hbs _).grown hg2 (by simp; omega) (fun q hq => (ho.blk hq).1)
      refine ⟨k + 1, _, rfl, by omega, by go_num, Lib.hid (fun j x' y' hj h1 h2 => ?_), ?_, hr.below hb2 (Nat.le_refl _), hs.below hb2 (Nat.le_refl _), hb.trans hb2⟩
      · by_cases e : j = k
        · subst e
          rw [HX.out] at h1; rw [HY.out] at h2
          injection h1 with h1; injection h2 with h2
          omega
        · exact HK.out j x' y' (by omega) h1 h2
      · rw [HS.out]
        have : ints ((minusL cols row).take k ++ [x - y]) = ints ((minusL cols row).take k) ++ [.int .i64 (x - y)] := by simp [ints]
        rw [this]
        exact Ow.of_top hown2
    case measure => simp [intOf]; omega
end Go.Proofs.Ytkjhodeajipihaa
