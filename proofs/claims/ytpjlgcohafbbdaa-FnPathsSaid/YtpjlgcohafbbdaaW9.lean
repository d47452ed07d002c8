/- Walks: CountBlack (spec), RowSums, SameImage, IsStaircase, StaircaseOf, PutCell, DistanceOf. -/
import Derived.Test.YtpjlgcohafbbdaaProg
import Derived.Test.YtpjlgcohafbbdaaW1
import Derived.Test.YtpjlgcohafbbdaaW2
import Derived.Test.YtpjlgcohafbbdaaW3
import Derived.Test.YtpjlgcohafbbdaaW4
import Derived.Test.YtpjlgcohafbbdaaW6
import Derived.Test.YtpjlgcohafbbdaaW8
import Derived.Test.YtpjlgcohafbbdaaMem
import Derived.WalkKit
import Derived.WalkSpells
import Derived.WalkLawsBesides
import Derived.KernelRfl
import Derived.Lib.Hide
import Derived.Deep.QuietTactic
import Derived.BigQuiet
namespace Go.Proofs.Ytpjlgcohafbbdaa
open Go.RowKit
set_option linter.unusedVariables false
set_option linter.unusedSimpArgs false

theorem quiet_l {P : Program} {f : FuncId} {args : Array Value} {w : World} {n : Nat} {v : Value} (h : Calls P f args (w.drewN n) fun e w' => e = .returned v ∧ w.drewN n = w') :
    Calls P f args (w.drewN n) fun e w'' => e = .returned v ∧ ∃ m, w'' = w.drewN m := h.mono fun _ _ ⟨he, hm⟩ => ⟨he, n, hm.symm⟩

/-! ### RowSums -/
def rowSumsR (g : List (List Int)) : List Int := if imgOk g = true then g.map List.sum else []
theorem RetI_nil {w : World} {l : List Int} (h : l = []) : RetI w l (.returned (.slice none 0 0)) w := by
  subst h; exact ⟨_, rfl, Ow.nil _ _ _ _, Below.refl _ _⟩

set_option maxRecDepth 100000 in
set_option maxHeartbeats 1000000 in
theorem impl_RowSums (g : List (List Int)) (v : Value) (w : World) (a b : Nat) (hr : RdG w a b v g) :
    Calls Try.prog 34 #[v] w (RetI w (rowSumsR g)) := by
  obtain ⟨A, c, rfl, h1, h2⟩ := hr.form
  replace hr := hr.clip
  by_cases g1 : imgOk g = true
  rotate_left
  · have GD : Hid (rowSumsR g = []) := if_neg g1
    have g1 : imgOk g = false := by simpa using g1
    go_enter Try.func34, Try.ntmps34
    go_wp2_with (go_at_call 38; refine (impl_ImageOk _ _ _ _ _ hr).mono ?_; rintro e w' ⟨rfl, rfl⟩)
    go_ret
    exact RetI_nil GD.out
  have GD : Hid (rowSumsR g = g.map List.sum) := if_pos g1
  obtain ⟨l1, l2, l3, l4, l5⟩ := imgOk_in g1
  have L5 := Lib.hid l5; clear l5
  obtain ⟨i0, hi, hz0, hz1, hz2⟩ := info_parts int_info
  go_enter Try.func34, Try.ntmps34
  go_wp2_with (go_at_call 38; refine (impl_ImageOk _ _ _ _ _ hr).mono ?_; rintro e w' ⟨rfl, rfl⟩)
  go_loopw [3, 11] (fun out i wr => ∃ k : Nat, k ≤ g.length ∧ i = .int .i64 k ∧ Ow wr w.heap.size wr.heap.size 3 out (ints ((g.take k).map List.sum)) ∧ RdG wr a w.heap.size (.slice A g.length c) g ∧ Below w.heap.size w wr) (fun _ i _ => g.length - (intOf i).toNat)
  case atStart => exact ⟨0, Nat.zero_le _, rfl, Ow.nil _ _ _ _, hr, Below.refl _ _⟩
  case round =>
    clear hr
    obtain ⟨k, hk, rfl, ho, hr, hb⟩ := hrel
    by_cases hlt : k < g.length
    · obtain ⟨r, hx⟩ := get_of_lt g k hlt
      obtain ⟨b0, o0, rfl, _, _⟩ := hr.some_ (by omega)
      obtain ⟨A1, c1, hc1, _, _, hrow1⟩ := hr.row hx
      obtain ⟨e1, e2⟩ := L5.out r (List.mem_of_getElem? hx)
      have hbs := hb.size
      have hlen : (ints ((g.take k).map List.sum)).length = k := by rw [ints_len, List.length_map, List.length_take]; omega
      have Hx := Lib.hid (take_snoc hx); clear hx
      have hsum := row01 e2 r.length
      rw [List.take_length] at hsum
      obtain ⟨t1, t2⟩ := hsum
      have t3 : r.length ≤ 5 := by omega
      have SM := Lib.hid (small_row e1 l4 e2); clear e1 e2
      go_wp2_with (first
        | (go_at_call 52; refine (impl_sumOf _ _ _ _ _ hrow1 SM.out).mono ?_; rintro e w' ⟨rfl, rfl⟩)
        | (at_builtin; refine wpList_append_own _ rfl _ _ 50 rfl w.heap.size 3 i0 (.int .i64 0) 1 8 Try.underlying50 hi hz0 hz1 hz2 rfl (by decide) _ _ _ rfl (ho.1.alloc _) ⟨wr.heap.size, 0, none⟩ 1 1 [.int .i64 r.sum] rfl rfl (cell_one_new _ _ _) (by simp [Value.oneCell']) (by unfold maxLen; omega) (by omega) (by simp; omega) ?_; intro v2 w2 hown2 hg2 _))
      go_roundw
      case rel =>
        have hb2 : Below w.heap.size wr w2 := ((Below.refl _ _).alloc hbs _).grown hg2 (by simp; omega) (fun q hq => (ho.blk hq).1)
        have ho2 : Ow w2 w.heap.size w2.heap.size 3 v2 (ints ((g.take (k + 1)).map List.sum)) := by
          rw [Hx.out, List.map_append, ints_app]
          exact Ow.of_top hown2
        exact ⟨k + 1, by omega, by go_num, ho2, hr.below hb2 (Nat.le_refl _), hb.trans hb2⟩
      case measure => simp [intOf]; omega
    · have Hlt := Lib.hid (take_all hlt)
      go_wp2_with fail
      go_ret
      rw [Hlt.out] at ho
      exact ⟨_, rfl, by rw [GD.out]; exact ho, hb⟩

set_option maxRecDepth 100000 in
set_option maxHeartbeats 1000000 in
theorem spec_RowSums (g : List (List Int)) (v : Value) (w : World) (a b : Nat) (hr : RdG w a b v g) :
    Calls Try.prog 59 #[v] w (RetI w (rowSumsR g)) := by
  obtain ⟨A, c, rfl, h1, h2⟩ := hr.form
  replace hr := hr.clip
  by_cases g1 : imgOk g = true
  rotate_left
  · have GD : Hid (rowSumsR g = []) := if_neg g1
    have g1 : imgOk g = false := by simpa using g1
    go_enter Try.func59, Try.ntmps59
    go_wp2_with (go_at_call 50; refine (spec_ImageOk _ _ _ _ _ hr).mono ?_; rintro e w' ⟨rfl, rfl⟩)
    go_ret
    exact RetI_nil GD.out
  have GD : Hid (rowSumsR g = g.map List.sum) := if_pos g1
  obtain ⟨l1, l2, l3, l4, l5⟩ := imgOk_in g1
  have L5 := Lib.hid l5; clear l5
  obtain ⟨i0, hi, hz0, hz1, hz2⟩ := info_parts int_info
  go_enter Try.func59, Try.ntmps59
  go_wp2_with (go_at_call 50; refine (spec_ImageOk _ _ _ _ _ hr).mono ?_; rintro e w' ⟨rfl, rfl⟩)
  go_loopw [3, 15] (fun out i wr => ∃ k : Nat, k ≤ g.length ∧ i = .int .i64 k ∧ Ow wr w.heap.size wr.heap.size 3 out (ints ((g.take k).map List.sum)) ∧ RdG wr a w.heap.size (.slice A g.length c) g ∧ Below w.heap.size w wr) (fun _ i _ => g.length - (intOf i).toNat)
  case atStart => exact ⟨0, Nat.zero_le _, rfl, (Ow.empty w w.heap.size _ (Nat.le_refl _)).mono (Nat.le_refl _) (by simp), hr.new ((Below.refl _ _).alloc (Nat.le_refl _) _), (Below.refl _ _).alloc (Nat.le_refl _) _⟩
  case round =>
    clear hr
    obtain ⟨k, hk, rfl, ho, hr, hb⟩ := hrel
    by_cases hlt : k < g.length
    · obtain ⟨r, hx⟩ := get_of_lt g k hlt
      obtain ⟨b0, o0, rfl, _, _⟩ := hr.some_ (by omega)
      obtain ⟨A1, c1, hc1, _, _, hrow1⟩ := hr.row hx
      obtain ⟨e1, e2⟩ := L5.out r (List.mem_of_getElem? hx)
      have hbs := hb.size
      have hlen : (ints ((g.take k).map List.sum)).length = k := by rw [ints_len, List.length_map, List.length_take]; omega
      have Hx := Lib.hid (take_snoc hx); clear hx
      have hsum := row01 e2 r.length
      rw [List.take_length] at hsum
      obtain ⟨t1, t2⟩ := hsum
      have t3 : r.length ≤ 5 := by omega
      have E2 := Lib.hid e2; clear e1 e2
      go_wp2_with fail
      go_loop [6, 21] (fun n i => ∃ j : Nat, j ≤ r.length ∧ i = .int .i64 j ∧ n = .int .i64 (r.take j).sum) (fun _ i => r.length - (intOf i).toNat)
      case atStart => exact ⟨0, Nat.zero_le _, rfl, by simp⟩
      case round =>
        obtain ⟨j, hj, rfl, rfl⟩ := hrel
        by_cases hlt2 : j < r.length
        · obtain ⟨x, hy⟩ := get_of_lt r j hlt2
          obtain ⟨b2, o2, rfl, _, _, _, hc2⟩ := hrow1.at_ hy
          obtain ⟨u1, u2⟩ := row01 E2.out j
          obtain ⟨x1, x2⟩ := E2.out x (List.mem_of_getElem? hy)
          have hs := sum_snoc (r.take j) x
          rw [← take_snoc hy] at hs
          have Hs2 := Lib.hid hs; clear hs hy
          go_wp2_with fail
          go_round
          case rel => exact ⟨j + 1, by omega, by go_num, by rw [Hs2.out]⟩
          case measure => simp [intOf]; omega
        · rw [take_all hlt2]
          go_wp2_with (at_builtin; refine wpList_append_own _ rfl _ _ 50 rfl w.heap.size 3 i0 (.int .i64 0) 1 8 Try.underlying50 hi hz0 hz1 hz2 rfl (by decide) _ _ _ rfl (ho.1.alloc _) ⟨wr.heap.size, 0, none⟩ 1 1 [.int .i64 r.sum] rfl rfl (cell_one_new _ _ _) (by simp [Value.oneCell']) (by unfold maxLen; omega) (by omega) (by simp; omega) ?_; intro v2 w2 hown2 hg2 _)
          go_roundw
          case rel =>
            have hb2 : Below w.heap.size wr w2 := ((Below.refl _ _).alloc hbs _).grown hg2 (by simp; omega) (fun q hq => (ho.blk hq).1)
            have ho2 : Ow w2 w.heap.size w2.heap.size 3 v2 (ints ((g.take (k + 1)).map List.sum)) := by
              rw [Hx.out, List.map_append, ints_app]
              exact Ow.of_top hown2
            exact ⟨k + 1, by omega, by go_num, ho2, hr.below hb2 (Nat.le_refl _), hb.trans hb2⟩
          case measure => simp [intOf]; omega
    · have Hlt := Lib.hid (take_all hlt)
      go_wp2_with fail
      go_ret
      rw [Hlt.out] at ho
      exact ⟨_, rfl, by rw [GD.out]; exact ho, hb⟩
end Go.Proofs.Ytpjlgcohafbbdaa
