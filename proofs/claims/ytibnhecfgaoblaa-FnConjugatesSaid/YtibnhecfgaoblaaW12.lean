/- Walks: IsStaircase, PutCell. -/
import Derived.Test.YtibnhecfgaoblaaProg
import Derived.Test.YtibnhecfgaoblaaW1
import Derived.Test.YtibnhecfgaoblaaW2
import Derived.Test.YtibnhecfgaoblaaW3
import Derived.Test.YtibnhecfgaoblaaW4
import Derived.Test.YtibnhecfgaoblaaW6
import Derived.Test.YtibnhecfgaoblaaW8
import Derived.Test.YtibnhecfgaoblaaW9
import Derived.Test.YtibnhecfgaoblaaMem
import Derived.WalkKit
import Derived.WalkSpells
import Derived.WalkLawsBesides
import Derived.KernelRfl
import Derived.Lib.Hide
import Derived.Deep.QuietTactic
import Derived.BigQuiet
namespace Go.Proofs.Ytibnhecfgaoblaa
open Go.RowKit
set_option linter.unusedVariables false
set_option linter.unusedSimpArgs false
/-- No step up before place j. -/
def stepsOk (r : List Int) (j : Nat) : Prop := ∀ i, i + 1 < j → ∀ x y, r[i]? = some x → r[i + 1]? = some y → y ≤ x
def rowDown (r : List Int) : Prop := stepsOk r r.length
noncomputable def stairR (g : List (List Int)) : Bool := by classical exact imgOk g && decide (∀ r ∈ g, rowDown r)
theorem stair_no {g : List (List Int)} (h : imgOk g = false) : stairR g = false := by simp [stairR, h]
theorem stair_bad {g : List (List Int)} {k j : Nat} {r : List Int} {x y : Int} (hr : g[k]? = some r) (hx : r[j]? = some x) (hy : r[j + 1]? = some y) (h : ¬ y ≤ x) : stairR g = false := by
  simp only [stairR, Bool.and_eq_false_iff, decide_eq_false_iff_not]
  right; intro hh
  exact h (hh r (List.mem_of_getElem? hr) j (by have := (List.getElem?_eq_some_iff.1 hy).1; omega) x y hx hy)
theorem stair_yes {g : List (List Int)} (h : imgOk g = true) (hd : ∀ r ∈ g, rowDown r) : stairR g = true := by
  simp only [stairR, h, Bool.true_and, decide_eq_true_eq]; exact hd
theorem steps_step {r : List Int} {j : Nat} {x y : Int} (hx : r[j]? = some x) (hy : r[j + 1]? = some y) (h : y ≤ x) (hs : stepsOk r (j + 1)) : stepsOk r (j + 2) := by
  intro i hi x' y' h1 h2
  by_cases e : i = j
  · subst e; rw [hx] at h1; rw [hy] at h2; cases h1; cases h2; exact h
  · exact hs i (by omega) x' y' h1 h2
theorem rows_step {g : List (List Int)} {k : Nat} {r : List Int} (hr : g[k]? = some r) (h : ∀ s ∈ g.take k, rowDown s) (h2 : rowDown r) : ∀ s ∈ g.take (k + 1), rowDown s := by
  rw [take_snoc hr]; intro s hs
  rcases List.mem_append.1 hs with h3 | h3
  · exact h s h3
  · simp at h3; subst h3; exact h2

set_option maxRecDepth 100000 in
set_option maxHeartbeats 1000000 in
theorem impl_IsStaircase (g : List (List Int)) (v : Value) (w : World) (a b : Nat) (hr : RdG w a b v g) :
    Calls Try.prog 27 #[v] w fun e w' => e = .returned (.bool (stairR g)) ∧ Drew w w' := by
  obtain ⟨A, c, rfl, h1, h2⟩ := hr.form
  by_cases g1 : imgOk g = true
  rotate_left
  · have g1 : imgOk g = false := by simpa using g1
    go_enter Try.func27, Try.ntmps27
    go_wp2_with (go_at_call 46; refine (impl_ImageOk _ _ _ _ _ hr).mono ?_; rintro e w' ⟨rfl, rfl⟩)
    go_ret
    exact ⟨ret_bool (stair_no g1).symm, Drew.refl _⟩
  have G1 := Lib.hid g1
  obtain ⟨l1, l2, l3, l4, l5⟩ := imgOk_in g1
  have L5 := Lib.hid l5; clear l5
  go_enter Try.func27, Try.ntmps27
  go_wp2_with (go_at_call 46; refine (impl_ImageOk _ _ _ _ _ hr).mono ?_; rintro e w' ⟨rfl, rfl⟩)
  go_loopw [11] (fun i wr => ∃ k : Nat, k ≤ g.length ∧ i = .int .i64 k ∧ Hid (∀ s ∈ g.take k, rowDown s) ∧ RdG wr a b (.slice A g.length c) g ∧ Drew w wr) (fun i _ => g.length - (intOf i).toNat)
  case atStart => exact ⟨0, Nat.zero_le _, rfl, Lib.hid (by simp), hr, Drew.refl _⟩
  case round =>
    clear hr
    obtain ⟨k, hk, rfl, Hd, hr, hb⟩ := hrel
    by_cases hlt : k < g.length
    · obtain ⟨r, hx⟩ := get_of_lt g k hlt
      obtain ⟨b0, o0, rfl, _, _⟩ := hr.some_ (by omega)
      obtain ⟨A1, c1, hc1, _, _, hrow1⟩ := hr.row hx
      obtain ⟨e1, e2⟩ := L5.out r (List.mem_of_getElem? hx)
      have E2 := Lib.hid e2; clear e2
      have Hx := Lib.hid hx; clear hx
      obtain ⟨b1, o1, rfl, _, _⟩ := hrow1.some_ (by omega)
      have r1 : 1 ≤ r.length := by omega
      have r5 : r.length ≤ 5 := by omega
      clear e1
      go_wp2_with fail
      go_loopw [5] (fun i w2 => ∃ j : Nat, j + 1 ≤ r.length ∧ i = .int .i64 ((j + 1 : Nat) : Int) ∧ Hid (stepsOk r (j + 1)) ∧ RdG w2 a b (.slice (some ⟨b0, o0, none⟩) g.length c) g ∧ RdI w2 a b (.slice (some ⟨b1, o1, none⟩) r.length c1) r ∧ Drew w w2) (fun i _ => r.length - (intOf i).toNat)
      case atStart => exact ⟨0, by omega, rfl, Lib.hid (by intro i hi; omega), hr, hrow1, hb⟩
      case round =>
        clear hr hrow1 hb
        obtain ⟨j, hj, rfl, Hs, hr, hrow1, hb⟩ := hrel
        have t1 : (((j + 1 : Nat) : Int) - 1) = (j : Int) := by omega
        by_cases hlt2 : j + 1 < r.length
        · obtain ⟨x, hx⟩ := get_of_lt r j (by omega)
          obtain ⟨y, hy⟩ := get_of_lt r (j + 1) hlt2
          have hcx := hrow1.cell hx
          have hcy := hrow1.cell hy
          have i1 : (j : Int) < (r.length : Int) := by omega
          have i2 : ((j + 1 : Nat) : Int) < (r.length : Int) := by omega
          have X := Lib.hid hx; clear hx
          have Y := Lib.hid hy; clear hy
          by_cases hxy : y ≤ x
          · go_wp2_with fail
            go_quiet (fail)
            go_wp2_with fail
            go_roundw
            case rel => exact ⟨j + 1, by omega, by go_num, Lib.hid (steps_step X.out Y.out hxy Hs.out), hr.drewN _, hrow1.drewN _, hb.drewN _⟩
            case measure => simp [intOf]; omega
          · go_wp2_with fail
            go_quiet (fail)
            go_wp2_with fail
            go_ret
            exact ⟨ret_bool (stair_bad Hx.out X.out Y.out (by omega)).symm, hb.drewN _⟩
        · have e : j + 1 = r.length := by omega
          have Hs2 : Hid (rowDown r) := Lib.hid (by have := Hs.out; rw [e] at this; exact this)
          go_wp2_with fail
          go_roundw
          case rel => exact ⟨k + 1, by omega, by go_num, Lib.hid (rows_step Hx.out Hd.out Hs2.out), hr, hb⟩
          case measure => simp [intOf]; omega
    · have Hd2 : Hid (∀ s ∈ g, rowDown s) := Lib.hid (by have := Hd.out; rw [take_all hlt] at this; exact this)
      go_wp2_with fail
      go_ret
      exact ⟨ret_bool (stair_yes G1.out Hd2.out).symm, hb⟩

end Go.Proofs.Ytibnhecfgaoblaa
