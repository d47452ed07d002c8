/- Walks over []int: the laws' helpers and the small callees. -/
import Derived.Test.YtpjlgcohafbbdaaProg
import Derived.Test.YtpjlgcohafbbdaaW1
import Derived.Test.YtpjlgcohafbbdaaMem
import Derived.WalkKit
import Derived.WalkSpells
import Derived.WalkLawsBesides
import Derived.KernelRfl
import Derived.Lib.Hide
import Derived.Deep.QuietTactic
import Derived.BigQuiet
namespace Go.Proofs.Ytpjlgcohafbbdaa
open Go.RowKit
set_option linter.unusedVariables false
set_option linter.unusedSimpArgs false

theorem take_snoc {α : Type} {l : List α} {k : Nat} {x : α} (h : l[k]? = some x) : l.take (k + 1) = l.take k ++ [x] := by
  obtain ⟨hk, rfl⟩ := List.getElem?_eq_some_iff.1 h
  rw [List.take_succ_eq_append_getElem hk]
theorem get_of_lt {α : Type} (l : List α) (k : Nat) (h : k < l.length) : ∃ x, l[k]? = some x := ⟨l[k], List.getElem?_eq_getElem h⟩
theorem take_all {α : Type} {l : List α} {k : Nat} (h : ¬ k < l.length) : l.take k = l := List.take_of_length_le (by omega)
theorem all_take_bad {α : Type} {l : List α} {k : Nat} {x : α} {p : α → Bool} (h : l[k]? = some x) (hp : p x = false) : l.all p = false := by
  rw [List.all_eq_false]
  obtain ⟨hk, rfl⟩ := List.getElem?_eq_some_iff.1 h
  exact ⟨_, List.getElem_mem hk, by simp [hp]⟩
theorem all_take_ok {α : Type} {l : List α} {k : Nat} {x : α} {p : α → Bool} (h : l[k]? = some x) (hp : p x = true) (ha : (l.take k).all p = true) : (l.take (k + 1)).all p = true := by
  rw [take_snoc h, List.all_append, ha]; simp [hp]

theorem int_info : (Try.prog.info? 3).map (fun i => (i.zero, i.size, i.bytes)) = some (some (.int .i64 0), 1, 8) := by kernel_rfl

set_option maxHeartbeats 400000 in
theorem impl_allWithin (l : List Int) (lo hi : Int) (v : Value) (w : World) (a b : Nat) (hr : RdI w a b v l) :
    Calls Try.prog 66 #[v, .int .i64 lo, .int .i64 hi] w fun e w' => e = .returned (.bool (l.all (inB · lo hi))) ∧ w = w' := by
  obtain ⟨A, c, rfl, hlc, hcm⟩ := hr.form
  go_enter Try.func66, Try.ntmps66
  go_wp2_with fail
  go_loop [11] (fun i => ∃ k : Nat, k ≤ l.length ∧ i = .int .i64 k ∧ (l.take k).all (inB · lo hi) = true) (fun i => l.length - (intOf i).toNat)
  case atStart => exact ⟨0, Nat.zero_le _, rfl, by simp⟩
  case round =>
    obtain ⟨k, hk, rfl, hd⟩ := hrel
    have Hd := Lib.hid hd; clear hd
    by_cases hlt : k < l.length
    · obtain ⟨x, hx⟩ := get_of_lt l k hlt
      obtain ⟨b', o', rfl, h1, h2, h3, hc⟩ := hr.at_ hx
      have Hx := Lib.hid hx; clear hx
      by_cases hin : inB x lo hi = true
      · go_wp2_with (go_at_call 65; refine (impl_within _ _ _ _).mono ?_; rintro e w' ⟨rfl, rfl⟩)
        go_round
        case rel => exact ⟨k + 1, by omega, by go_num, all_take_ok Hx.out hin Hd.out⟩
        case measure => simp [intOf]; omega
      · have hin : inB x lo hi = false := by simpa using hin
        go_wp2_with (go_at_call 65; refine (impl_within _ _ _ _).mono ?_; rintro e w' ⟨rfl, rfl⟩)
        go_ret
        exact ⟨ret_bool (all_take_bad Hx.out hin).symm, rfl⟩
    · go_wp2_with fail
      go_ret
      exact ⟨ret_bool (by have := Hd.out; rw [take_all hlt] at this; exact this.symm), rfl⟩

/-- The post of a call that makes a new []int. -/
def RetI (w : World) (l : List Int) (e : Ending) (w' : World) : Prop := ∃ v, e = .returned v ∧ Ow w' w.heap.size w'.heap.size 3 v (ints l) ∧ Below w.heap.size w w'

set_option maxHeartbeats 400000 in
theorem toIntS_walk (l : List Int) (v : Value) (w : World) (a b : Nat) (hr : RdI w a b v l) (hl : l.length ≤ 1048576) :
    Calls Try.prog 41 #[v] w (RetI w l) := by
  obtain ⟨A, c, rfl, hlc, hcm⟩ := hr.form
  obtain ⟨i0, hi, hz0, hz1, hz2⟩ := info_parts int_info
  replace hr := hr.clip
  go_enter Try.func41, Try.ntmps41
  go_wp2_with (at_make; refine wpList_make_full _ rfl _ _ 50 rfl w.heap.size 3 i0 (.int .i64 0) 1 Try.underlying50 hi hz0 hz1 _ _ _ _ l.length rfl rfl rfl rfl (by rw [hz2]; omega) (by unfold maxLen; omega) (Nat.le_refl _) ?_; intro w1 hown hgrow)
  have ho : Ow w1 w.heap.size w1.heap.size 3 (.slice (some ⟨w.heap.size, 0, none⟩) l.length l.length) (ints (l.take 0 ++ List.replicate (l.length - 0) 0)) := by
    refine Ow.of_top (n := l.length) ?_
    rw [made_ints] at hown
    simpa using hown
  have hb1 : Below w.heap.size w w1 := (Below.refl _ _).grown hgrow (Nat.le_refl _) (by simp)
  have hr1 := hr.new hb1
  clear hown hgrow hr
  go_wp2_with fail
  go_loopw [4] (fun i wr => ∃ k : Nat, k ≤ l.length ∧ i = .int .i64 k ∧ RdI wr a w.heap.size (.slice A l.length c) l ∧ Ow wr w.heap.size wr.heap.size 3 (.slice (some ⟨w.heap.size, 0, none⟩) l.length l.length) (ints (l.take k ++ List.replicate (l.length - k) 0)) ∧ Below w.heap.size w wr)
    (fun i _ => l.length - (intOf i).toNat)
  case atStart => exact ⟨0, Nat.zero_le _, rfl, hr1, ho, hb1⟩
  case round =>
    clear hr1 ho hb1
    obtain ⟨k, hk, rfl, hr, ho, hb⟩ := hrel
    by_cases hlt : k < l.length
    · obtain ⟨x, hx⟩ := get_of_lt l k hlt
      obtain ⟨b', o', rfl, h1, h2, h3, hc⟩ := hr.at_ hx
      obtain ⟨u, hs1, hs2⟩ := ho.slot (k := k) (by simp [ints]; omega)
      have Hx := Lib.hid hx; clear hx
      go_wp2_with fail
      go_roundw
      case rel =>
        have ho' := Ow.set' (by simp [ints]; omega) ho k (.int .i64 x)
        rw [fill_step Hx.out] at ho'
        exact ⟨k + 1, by omega, by go_num, hr.far (Nat.le_refl _) _, by simpa using ho', hb.setCell (Nat.le_refl _) _⟩
      case measure => simp [intOf]; omega
    · go_wp2_with fail
      go_ret
      have e : l.take k ++ List.replicate (l.length - k) 0 = l := by
        rw [take_all hlt, show l.length - k = 0 by omega]; simp
      rw [e] at ho
      exact ⟨_, rfl, ho, hb⟩

theorem eq_take {α : Type} {l m : List α} {k : Nat} {x : α} (h1 : l[k]? = some x) (h2 : m[k]? = some x) (h : l.take k = m.take k) : l.take (k + 1) = m.take (k + 1) := by
  rw [take_snoc h1, take_snoc h2, h]
theorem ne_at {α : Type} {l m : List α} {k : Nat} {x y : α} (h1 : l[k]? = some x) (h2 : m[k]? = some y) (h : x ≠ y) : l ≠ m := by
  rintro rfl; rw [h1] at h2; exact h (Option.some.inj h2)

/-- Equality of two lists of ints, as a Bool. -/
def eqI (l m : List Int) : Bool := decide (l = m)
theorem eqI_len {l m : List Int} (h : l.length ≠ m.length) : eqI l m = false := by
  simp only [eqI, decide_eq_false_iff_not]; rintro rfl; exact h rfl
theorem eqI_ne {l m : List Int} (h : l ≠ m) : eqI l m = false := by simpa [eqI] using h
theorem eqI_self (l : List Int) : eqI l l = true := by simp [eqI]
theorem eqI_fin {l m : List Int} {k : Nat} (hl : l.length = m.length) (hk : ¬ k < l.length) (h : l.take k = m.take k) : eqI l m = true := by
  rw [take_all hk, take_all (by omega)] at h; simpa [eqI] using h

theorem below_drewN {B : Nat} {a w : World} (h : Below B a w) (n : Nat) : Below B a (w.drewN n) := ⟨h.os, h.tape, h.output, h.size, h.block⟩

set_option maxHeartbeats 400000 in
theorem eqIntS_walk (l m : List Int) (v u : Value) (w : World) (a b a' b' : Nat) (hr : RdI w a b v l) (hs : RdI w a' b' u m) :
    Calls Try.prog 42 #[v, u] w fun e w' => e = .returned (.bool (eqI l m)) ∧ Drew w w' := by
  obtain ⟨A, c, rfl, hlc, hcm⟩ := hr.form
  obtain ⟨A', c', rfl, hlc', hcm'⟩ := hs.form
  by_cases hlen : l.length = m.length
  rotate_left
  · have hne : ((l.length : Int) != (m.length : Int)) = true := by simp; omega
    have Hlen := Lib.hid hlen; clear hlen
    go_enter Try.func42, Try.ntmps42
    go_wp2_with fail
    go_ret
    exact ⟨ret_bool (eqI_len Hlen.out).symm, Drew.refl _⟩
  have hne : ((l.length : Int) != (m.length : Int)) = false := by simp [hlen]
  have hle : m.length ≤ l.length := by omega
  have hge : l.length ≤ m.length := by omega
  have Hlen := Lib.hid hlen; clear hlen
  go_enter Try.func42, Try.ntmps42
  go_wp2_with fail
  go_loopw [5] (fun i wr => ∃ k : Nat, k ≤ l.length ∧ i = .int .i64 k ∧ l.take k = m.take k ∧ RdI wr a b (.slice A l.length c) l ∧ RdI wr a' b' (.slice A' m.length c') m ∧ Drew w wr) (fun i _ => l.length - (intOf i).toNat)
  case atStart => exact ⟨0, Nat.zero_le _, rfl, by simp, hr, hs, Drew.refl _⟩
  case round =>
    clear hr hs
    obtain ⟨k, hk, rfl, hd, hr, hs, hb⟩ := hrel
    have Hd := Lib.hid hd; clear hd
    by_cases hlt : k < l.length
    · obtain ⟨x, hx⟩ := get_of_lt l k hlt
      obtain ⟨y, hy⟩ := get_of_lt m k (by omega)
      obtain ⟨b1, o1, rfl, _, _, _, hc1⟩ := hr.at_ hx
      obtain ⟨b2, o2, rfl, _, _, _, hc2⟩ := hs.at_ hy
      have i1 : (k : Int) < (l.length : Int) := by omega
      have i2 : (k : Int) < (m.length : Int) := by omega
      have Hx := Lib.hid hx; clear hx
      have Hy := Lib.hid hy; clear hy
      by_cases hxy : x = y
      · subst hxy
        go_wp2_with fail
        go_quiet (fail)
        go_wp2_with fail
        go_roundw
        case rel => exact ⟨k + 1, by omega, by go_num, eq_take Hx.out Hy.out Hd.out, hr.drewN _, hs.drewN _, hb.drewN _⟩
        case measure => simp [intOf]; omega
      · have hn : (x != y) = true := by simpa using hxy
        have Hxy := Lib.hid hxy; clear hxy
        go_wp2_with fail
        go_quiet (fail)
        go_wp2_with fail
        go_ret
        exact ⟨ret_bool (eqI_ne (ne_at Hx.out Hy.out Hxy.out)).symm, hb.drewN _⟩
    · go_wp2_with fail
      go_ret
      exact ⟨ret_bool (eqI_fin Hlen.out hlt Hd.out).symm, hb⟩


theorem eqIntS_b (l m : List Int) (v u : Value) (w : World) (a b a' b' : Nat) (hr : RdI w a b v l) (hs : RdI w a' b' u m) :
    Calls Try.prog 42 #[v, u] w fun e w' => e = .returned (.bool (eqI l m)) ∧ Below w.heap.size w w' :=
  (eqIntS_walk l m v u w a b a' b' hr hs).mono fun _ _ ⟨h1, h2⟩ => ⟨h1, h2.below _⟩

def markL (n : Nat) (k : Int) : List Int := (List.range n).map fun (i : Nat) => k + (i : Int)
theorem markL_len (n : Nat) (k : Int) : (markL n k).length = n := by simp [markL]
theorem markL_succ (n : Nat) (k : Int) : markL (n + 1) k = markL n k ++ [k + (n : Int)] := by simp [markL, List.range_succ]
theorem markL_get {n i : Nat} (k : Int) (h : i < n) : (markL n k)[i]? = some (k + (i : Int)) := by simp [markL, h]
theorem mark_step {l : List Int} {i : Nat} {k : Int} (h : i < l.length) : (ints (markL i k ++ l.drop i)).set i (.int .i64 (k + (i : Int))) = ints (markL (i + 1) k ++ l.drop (i + 1)) := by
  rw [ints_set, markL_succ, List.set_append_right _ _ (by simp [markL_len]), markL_len, Nat.sub_self, List.drop_eq_getElem_cons h, List.set_cons_zero, List.append_assoc]
  rfl

set_option maxHeartbeats 400000 in
theorem markIntS_walk (l : List Int) (k : Int) (v : Value) (w : World) (a b : Nat) (ho : Ow w a b 3 v (ints l)) (hl : l.length ≤ 16777216) (hk0 : 0 ≤ k) (hk1 : k ≤ 16777216) :
    Calls Try.prog 47 #[v, .int .i64 k] w fun e w' => e = .returned (.int .i64 (k + l.length)) ∧ Ow w' a b 3 v (ints (markL l.length k)) ∧ w.grownBy w' v.ownBlock := by
  obtain ⟨A, c, rfl, h1, h2⟩ := ho.form'
  rw [ints_len] at h1 ho ⊢
  go_enter Try.func47, Try.ntmps47
  go_wp2_with fail
  go_loopw [1, 5] (fun kk i wr => ∃ j : Nat, j ≤ l.length ∧ i = .int .i64 j ∧ kk = .int .i64 (k + (j : Int)) ∧ Ow wr a b 3 (.slice A l.length c) (ints (markL j k ++ l.drop j)) ∧ w.grownBy wr (Value.slice A l.length c).ownBlock) (fun _ i _ => l.length - (intOf i).toNat)
  case atStart => exact ⟨0, Nat.zero_le _, rfl, by simp, by simpa [markL] using ho, World.grownBy.refl _ _⟩
  case round =>
    clear ho
    obtain ⟨j, hj, rfl, rfl, ho, hg⟩ := hrel
    by_cases hlt : j < l.length
    · obtain ⟨u, hu⟩ := get_of_lt (ints (markL j k ++ l.drop j)) j (by simp [ints, markL_len]; omega)
      obtain ⟨g, rfl, _, _, _, hs1, hs2⟩ := ho.at_ hu
      clear hu
      go_wp2_with fail
      go_roundw
      case rel =>
        have ho' := Ow.set' (by simp [ints, markL_len]; omega) ho j (.int .i64 (k + (j : Int)))
        rw [mark_step hlt] at ho'
        exact ⟨j + 1, by omega, by go_num, by go_num, ho', grown_setCell hg _ _⟩
      case measure => simp [intOf]; omega
    · go_wp2_with fail
      go_ret
      obtain rfl : j = l.length := by omega
      exact ⟨rfl, by simpa using ho, hg⟩

/-- What heldIntS answers. -/
def heldF (l : List Int) (k : Int) : Int := if l = markL l.length k then k + l.length else -1
theorem heldF_mark (n : Nat) (k : Int) : heldF (markL n k) k = k + n := by simp [heldF, markL_len]
/-- markIntS with the change told by ranges. -/
theorem markIntS_c (l : List Int) (k : Int) (v : Value) (w : World) (a b : Nat) (ho : Ow w a b 3 v (ints l)) (hl : l.length ≤ 16777216) (hk0 : 0 ≤ k) (hk1 : k ≤ 16777216) :
    Calls Try.prog 47 #[v, .int .i64 k] w fun e w' => e = .returned (.int .i64 (k + l.length)) ∧ Ow w' a b 3 v (ints (markL l.length k)) ∧ Chg a b w w' :=
  (markIntS_walk l k v w a b ho hl hk0 hk1).mono fun _ _ ⟨h1, h2, h3⟩ => ⟨h1, h2, ho.chgOf h3⟩
end Go.Proofs.Ytpjlgcohafbbdaa
