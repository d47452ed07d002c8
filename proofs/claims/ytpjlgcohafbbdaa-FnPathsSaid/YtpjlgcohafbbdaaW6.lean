/- Walks over [][]int: copies, new grids, the laws' helpers, ImageOk. -/
import Derived.Test.YtpjlgcohafbbdaaProg
import Derived.Test.YtpjlgcohafbbdaaW1
import Derived.Test.YtpjlgcohafbbdaaW3
import Derived.Test.YtpjlgcohafbbdaaMem
import Derived.WalkKit
import Derived.WalkSpells
import Derived.WalkLawsBesides
import Derived.KernelRfl
import Derived.Lib.Hide
import Derived.Deep.QuietTactic
import Derived.BigQuiet
namespace Go.Proofs.Ytpjlgcohafbbdaa
open Go.RowKit
set_option linter.unusedVariables false
set_option linter.unusedSimpArgs false

theorem row_info : (Try.prog.info? 50).map (fun i => (i.zero, i.size, i.bytes)) = some (some (.slice none 0 0), 1, 24) := by kernel_rfl
theorem TI : (23 : Nat) ≠ 3 := by decide
theorem RI : (50 : Nat) ≠ 3 := by decide

/-- The post of a call that makes a new [][]int. -/
def RetG (w : World) (g : List (List Int)) (e : Ending) (w' : World) : Prop := ∃ v, e = .returned v ∧ OwG w' w.heap.size w'.heap.size 50 3 v g ∧ Below w.heap.size w w'

def zeros (r c : Nat) : List (List Int) := List.replicate r (List.replicate c 0)
theorem zeros_succ (r c : Nat) : zeros (r + 1) c = zeros r c ++ [List.replicate c 0] := by simp [zeros, List.replicate_succ']


set_option maxRecDepth 100000 in
set_option maxHeartbeats 1000000 in
theorem impl_newGrid (rows cols : Nat) (w : World) (hr : rows ≤ 1048576) (hc : cols ≤ 1048576) :
    Calls Try.prog 64 #[.int .i64 rows, .int .i64 cols] w (RetG w (zeros rows cols)) := by
  obtain ⟨i0, hi, hz0, hz1, hz2⟩ := info_parts int_info
  obtain ⟨j0, hj, jz0, jz1, jz2⟩ := info_parts row_info
  go_enter Try.func64, Try.ntmps64
  go_wp2_with fail
  go_loopw [5, 6] (fun out y wr => ∃ k : Nat, k ≤ rows ∧ y = .int .i64 k ∧ OwG wr w.heap.size wr.heap.size 50 3 out (zeros k cols) ∧ Below w.heap.size w wr)
    (fun _ y _ => rows - (intOf y).toNat)
  case atStart => exact ⟨0, Nat.zero_le _, rfl, OwG.nil _ _ _ _ _, Below.refl _ _⟩
  case round =>
    obtain ⟨k, hk, rfl, hG, hb⟩ := hrel
    rename_i out _
    by_cases hlt : k < rows
    · obtain ⟨vs, he, ho, hrows, hdist⟩ := hG
      have hvs : vs.length = k := by rw [he]; simp [zeros]
      have hbs := hb.size
      go_wp2_with (first
        | (at_make; refine wpList_make_full _ rfl _ _ 50 rfl wr.heap.size 3 i0 (.int .i64 0) 1 Try.underlying50 hi hz0 hz1 _ _ _ _ cols rfl rfl rfl rfl (by rw [hz2]; omega) (by unfold maxLen; omega) (Nat.le_refl _) ?_; intro w1 hown1 hg1; have hb1 : Below wr.heap.size wr w1 := (Below.refl _ _).grown hg1 (Nat.le_refl _) (by simp); have ho1 := ho.new hb1; have hs1 := hb1.size)
        | (at_builtin; refine wpList_append_own _ rfl _ _ 23 rfl w.heap.size 50 j0 (.slice none 0 0) 1 24 Try.underlying23 hj jz0 jz1 jz2 rfl (by decide) _ _ _ rfl (ho1.1.alloc _) ⟨w1.heap.size, 0, none⟩ 1 1 [.slice (some ⟨wr.heap.size, 0, none⟩) cols cols] rfl rfl (cell_one_new _ _ _) (by simp [Value.oneCell']) (by unfold maxLen; omega) (by omega) (by simp; omega) ?_; intro v2 w2 hown2 hg2 _))
      go_roundw
      case rel =>
        have hu : Ow w1 wr.heap.size w1.heap.size 3 (.slice (some ⟨wr.heap.size, 0, none⟩) cols cols) (ints (List.replicate cols 0)) := by
          refine Ow.of_top (n := cols) ?_
          rw [made_ints] at hown1; exact hown1
        have hbW : Below wr.heap.size wr (w1.alloc (.cells #[.slice (some ⟨wr.heap.size, 0, none⟩) cols cols] 50)) := hb1.alloc hs1 _
        have hG' := OwG.push RI ho he hrows hdist hbs (Nat.le_refl _) hbW (hu.alloc _) hown2 hg2
        refine ⟨k + 1, by omega, by go_num, by rw [zeros_succ]; exact hG', ?_⟩
        exact (hb.trans ((hb1.mono hbs).alloc (by omega) _)).grown hg2 (by simp; omega) (fun q hq => (ho1.blk hq).1)
      case measure => simp [intOf]; omega
    · go_wp2_with fail
      go_ret
      obtain rfl : k = rows := by omega
      exact ⟨_, rfl, hG, hb⟩

set_option maxRecDepth 100000 in
set_option maxHeartbeats 1000000 in
theorem spec_l02Empty (rows cols : Nat) (w : World) (hr : rows ≤ 1048576) (hc : cols ≤ 1048576) :
    Calls Try.prog 48 #[.int .i64 rows, .int .i64 cols] w (RetG w (zeros rows cols)) := by
  obtain ⟨i0, hi, hz0, hz1, hz2⟩ := info_parts int_info
  obtain ⟨j0, hj, jz0, jz1, jz2⟩ := info_parts row_info
  go_enter Try.func48, Try.ntmps48
  go_wp2_with fail
  go_loopw [5, 6] (fun out y wr => ∃ k : Nat, k ≤ rows ∧ y = .int .i64 k ∧ OwG wr w.heap.size wr.heap.size 50 3 out (zeros k cols) ∧ Below w.heap.size w wr)
    (fun _ y _ => rows - (intOf y).toNat)
  case atStart => exact ⟨0, Nat.zero_le _, rfl, (OwG.empty w w.heap.size _ _ (Nat.le_refl _)).mono (Nat.le_refl _) (by simp), (Below.refl _ _).alloc (Nat.le_refl _) _⟩
  case round =>
    obtain ⟨k, hk, rfl, hG, hb⟩ := hrel
    rename_i out _
    by_cases hlt : k < rows
    · obtain ⟨vs, he, ho, hrows, hdist⟩ := hG
      have hvs : vs.length = k := by rw [he]; simp [zeros]
      have hbs := hb.size
      go_wp2_with (first
        | (at_make; refine wpList_make_full _ rfl _ _ 50 rfl wr.heap.size 3 i0 (.int .i64 0) 1 Try.underlying50 hi hz0 hz1 _ _ _ _ cols rfl rfl rfl rfl (by rw [hz2]; omega) (by unfold maxLen; omega) (Nat.le_refl _) ?_; intro w1 hown1 hg1; have hb1 : Below wr.heap.size wr w1 := (Below.refl _ _).grown hg1 (Nat.le_refl _) (by simp); have ho1 := ho.new hb1; have hs1 := hb1.size)
        | (at_builtin; refine wpList_append_own _ rfl _ _ 23 rfl w.heap.size 50 j0 (.slice none 0 0) 1 24 Try.underlying23 hj jz0 jz1 jz2 rfl (by decide) _ _ _ rfl (ho1.1.alloc _) ⟨w1.heap.size, 0, none⟩ 1 1 [.slice (some ⟨wr.heap.size, 0, none⟩) cols cols] rfl rfl (cell_one_new _ _ _) (by simp [Value.oneCell']) (by unfold maxLen; omega) (by omega) (by simp; omega) ?_; intro v2 w2 hown2 hg2 _))
      go_roundw
      case rel =>
        have hu : Ow w1 wr.heap.size w1.heap.size 3 (.slice (some ⟨wr.heap.size, 0, none⟩) cols cols) (ints (List.replicate cols 0)) := by
          refine Ow.of_top (n := cols) ?_
          rw [made_ints] at hown1; exact hown1
        have hbW : Below wr.heap.size wr (w1.alloc (.cells #[.slice (some ⟨wr.heap.size, 0, none⟩) cols cols] 50)) := hb1.alloc hs1 _
        have hG' := OwG.push RI ho he hrows hdist hbs (Nat.le_refl _) hbW (hu.alloc _) hown2 hg2
        refine ⟨k + 1, by omega, by go_num, by rw [zeros_succ]; exact hG', ?_⟩
        exact (hb.trans ((hb1.mono hbs).alloc (by omega) _)).grown hg2 (by simp; omega) (fun q hq => (ho1.blk hq).1)
      case measure => simp [intOf]; omega
    · go_wp2_with fail
      go_ret
      obtain rfl : k = rows := by omega
      exact ⟨_, rfl, hG, hb⟩

set_option maxRecDepth 100000 in
set_option maxHeartbeats 1000000 in
theorem impl_copyInts (l : List Int) (v : Value) (w : World) (a b : Nat) (hr : RdI w a b v l) (hl : l.length ≤ 1048576) :
    Calls Try.prog 55 #[v] w (RetI w l) := by
  obtain ⟨A, c, rfl, h1, h2⟩ := hr.form
  obtain ⟨i0, hi, hz0, hz1, hz2⟩ := info_parts int_info
  go_enter Try.func55, Try.ntmps55
  go_wp2_with (at_builtin; refine wpList_append_rd rfl _ _ 50 rfl w.heap.size 3 i0 (.int .i64 0) 8 Try.underlying50 hi hz0 hz1 hz2 rfl (.slice none 0 0) 0 [] rfl (World.ownsRow_nil _ _ _ _) A l.length c (ints l) rfl hr (ints_one l) (by unfold maxLen; omega) (by omega) (Nat.le_refl _) ?_; intro v1 w1 hown hg _)
  go_ret
  have hb : Below w.heap.size w w1 := (Below.refl _ _).grown hg (Nat.le_refl _) (by simp [Value.ownBlock])
  exact ⟨_, rfl, Ow.of_top (by simpa using hown), hb⟩

/-- All rows are short. -/
def shortG (g : List (List Int)) : Prop := g.length ≤ 1048576 ∧ ∀ r ∈ g, r.length ≤ 1048576

set_option maxRecDepth 100000 in
set_option maxHeartbeats 1000000 in
theorem impl_copyGrid (g : List (List Int)) (v : Value) (w : World) (a b : Nat) (hr : RdG w a b v g) (hs : shortG g) :
    Calls Try.prog 37 #[v] w (RetG w g) := by
  obtain ⟨A, c, rfl, h1, h2⟩ := hr.form
  replace hr := hr.clip
  obtain ⟨j0, hj, jz0, jz1, jz2⟩ := info_parts row_info
  obtain ⟨hs1, hs2⟩ := hs
  have Hs := Lib.hid hs2; clear hs2
  go_enter Try.func37, Try.ntmps37
  go_wp2_with fail
  go_loopw [3, 8] (fun out y wr => ∃ k : Nat, k ≤ g.length ∧ y = .int .i64 k ∧ OwG wr w.heap.size wr.heap.size 50 3 out (g.take k) ∧ RdG wr a w.heap.size (.slice A g.length c) g ∧ Below w.heap.size w wr)
    (fun _ y _ => g.length - (intOf y).toNat)
  case atStart => exact ⟨0, Nat.zero_le _, rfl, OwG.nil _ _ _ _ _, hr, Below.refl _ _⟩
  case round =>
    clear hr
    obtain ⟨k, hk, rfl, hG, hr, hb⟩ := hrel
    by_cases hlt : k < g.length
    · obtain ⟨r, hx⟩ := get_of_lt g k hlt
      obtain ⟨b0, o0, rfl, _, _⟩ := hr.some_ (by omega)
      obtain ⟨A', c', hc, h3, h4, hrow⟩ := hr.row hx
      have hrl := Hs.out r (List.mem_of_getElem? hx)
      obtain ⟨vs, he, ho, hrows, hdist⟩ := hG
      have hvs : vs.length = k := by rw [he, List.length_take]; omega
      have hbs := hb.size
      have Hx := Lib.hid (take_snoc hx); clear hx
      have He := Lib.hid he; clear he
      go_wp2_with (first
        | (go_at_call 55; refine (impl_copyInts _ _ _ _ _ hrow hrl).mono ?_; rintro e w1 ⟨u, rfl, hu, hb1⟩; have ho1 := ho.new hb1; have hs1 := hb1.size; obtain ⟨Au, cu, rfl, _, _⟩ := hu.form')
        | (at_builtin; refine wpList_append_own _ rfl _ _ 23 rfl w.heap.size 50 j0 (.slice none 0 0) 1 24 Try.underlying23 hj jz0 jz1 jz2 rfl (by decide) _ _ _ rfl (ho1.1.alloc _) ⟨w1.heap.size, 0, none⟩ 1 1 [.slice Au (ints r).length cu] rfl rfl (cell_one_new _ _ _) (by simp [Value.oneCell']) (by unfold maxLen; omega) (by omega) (by simp; omega) ?_; intro v2 w2 hown2 hg2 _))
      go_roundw
      case rel =>
        have hbW : Below wr.heap.size wr (w1.alloc (.cells #[.slice Au (ints r).length cu] 50)) := hb1.alloc hs1 _
        have hG' := OwG.push RI ho He.out hrows hdist hbs (Nat.le_refl _) hbW (hu.alloc _) hown2 hg2
        have hb2 : Below w.heap.size wr w2 := ((hb1.mono hbs).alloc (by omega) _).grown hg2 (by simp; omega) (fun q hq => (ho1.blk hq).1)
        exact ⟨k + 1, by omega, by go_num, by rw [Hx.out]; exact hG', hr.below hb2 (Nat.le_refl _), hb.trans hb2⟩
      case measure => simp [intOf]; omega
    · have Hlt := Lib.hid (take_all hlt)
      go_wp2_with fail
      go_ret
      rw [Hlt.out] at hG
      exact ⟨_, rfl, hG, hb⟩

set_option maxRecDepth 100000 in
set_option maxHeartbeats 1000000 in
theorem spec_l02Copy (g : List (List Int)) (v : Value) (w : World) (a b : Nat) (hr : RdG w a b v g) (hs : shortG g) :
    Calls Try.prog 26 #[v] w (RetG w g) := by
  obtain ⟨A, c, rfl, h1, h2⟩ := hr.form
  replace hr := hr.clip
  obtain ⟨i0, hi, hz0, hz1, hz2⟩ := info_parts int_info
  obtain ⟨j0, hj, jz0, jz1, jz2⟩ := info_parts row_info
  obtain ⟨hs1, hs2⟩ := hs
  have Hs := Lib.hid hs2; clear hs2
  go_enter Try.func26, Try.ntmps26
  go_wp2_with fail
  go_loopw [3, 9] (fun out y wr => ∃ k : Nat, k ≤ g.length ∧ y = .int .i64 k ∧ OwG wr w.heap.size wr.heap.size 50 3 out (g.take k) ∧ RdG wr a w.heap.size (.slice A g.length c) g ∧ Below w.heap.size w wr)
    (fun _ y _ => g.length - (intOf y).toNat)
  case atStart => exact ⟨0, Nat.zero_le _, rfl, (OwG.empty w w.heap.size _ _ (Nat.le_refl _)).mono (Nat.le_refl _) (by simp), hr.new ((Below.refl _ _).alloc (Nat.le_refl _) _), (Below.refl _ _).alloc (Nat.le_refl _) _⟩
  case round =>
    clear hr
    obtain ⟨k, hk, rfl, hG, hr, hb⟩ := hrel
    by_cases hlt : k < g.length
    · obtain ⟨r, hx⟩ := get_of_lt g k hlt
      obtain ⟨b0, o0, rfl, _, _⟩ := hr.some_ (by omega)
      obtain ⟨A', c', hc, h3, h4, hrow⟩ := hr.row hx
      have hrl := Hs.out r (List.mem_of_getElem? hx)
      obtain ⟨vs, he, ho, hrows, hdist⟩ := hG
      have hvs : vs.length = k := by rw [he, List.length_take]; omega
      have hbs := hb.size
      have Hx := Lib.hid (take_snoc hx); clear hx
      have He := Lib.hid he; clear he
      have hrow' : Rd (wr.alloc (.cells #[] 3)) a w.heap.size (.slice A' r.length c') (ints r) := Rd.new hrow ((Below.refl _ _).alloc (Nat.le_refl _) _)
      go_wp2_with (first
        | (at_builtin; refine wpList_append_rd rfl _ _ 50 rfl wr.heap.size 3 i0 (.int .i64 0) 8 Try.underlying50 hi hz0 hz1 hz2 rfl (.slice (some ⟨wr.heap.size, 0, none⟩) 0 0) 0 [] rfl (own_empty _ _ _ (Nat.le_refl _)) A' r.length c' (ints r) rfl hrow' (ints_one r) (by unfold maxLen; omega) (by omega) (by simp) ?_; intro v1 w1 hown1 hg1 _; have hb1 : Below wr.heap.size wr w1 := ((Below.refl _ _).alloc (Nat.le_refl _) _).grown hg1 (by simp) (by simp [Value.ownBlock]); have hu : Ow w1 wr.heap.size w1.heap.size 3 v1 (ints r) := Ow.of_top (by simpa using hown1); clear hown1; have ho1 := ho.new hb1; have hs1 := hb1.size; obtain ⟨Au, cu, rfl, _, _⟩ := hu.form')
        | (at_builtin; refine wpList_append_own _ rfl _ _ 23 rfl w.heap.size 50 j0 (.slice none 0 0) 1 24 Try.underlying23 hj jz0 jz1 jz2 rfl (by decide) _ _ _ rfl (ho1.1.alloc _) ⟨w1.heap.size, 0, none⟩ 1 1 [.slice Au (ints r).length cu] rfl rfl (cell_one_new _ _ _) (by simp [Value.oneCell']) (by unfold maxLen; omega) (by omega) (by simp; omega) ?_; intro v2 w2 hown2 hg2 _))
      go_roundw
      case rel =>
        have hbW : Below wr.heap.size wr (w1.alloc (.cells #[.slice Au (ints r).length cu] 50)) := hb1.alloc hs1 _
        have hG' := OwG.push RI ho He.out hrows hdist hbs (Nat.le_refl _) hbW (hu.alloc _) hown2 hg2
        have hb2 : Below w.heap.size wr w2 := ((hb1.mono hbs).alloc (by omega) _).grown hg2 (by simp; omega) (fun q hq => (ho1.blk hq).1)
        exact ⟨k + 1, by omega, by go_num, by rw [Hx.out]; exact hG', hr.below hb2 (Nat.le_refl _), hb.trans hb2⟩
      case measure => simp [intOf]; omega
    · have Hlt := Lib.hid (take_all hlt)
      go_wp2_with fail
      go_ret
      rw [Hlt.out] at hG
      exact ⟨_, rfl, hG, hb⟩

/-! The laws' helpers. -/
def total (g : List (List Int)) : Nat := (g.map List.length).sum
theorem total_snoc (g : List (List Int)) (r : List Int) : total (g ++ [r]) = total g + r.length := by simp [total]
theorem total_le {g : List (List Int)} {k : Nat} {r : List Int} (h : g[k]? = some r) : total (g.take k) + r.length ≤ total g := by
  have := total_snoc (g.take k) r
  rw [← take_snoc h] at this
  rw [← this]
  have e : total g = total (g.take (k + 1)) + total (g.drop (k + 1)) := by
    unfold total; rw [← List.sum_append, ← List.map_append, List.take_append_drop]
  omega

/-- What szIntS answers. -/
def szI (l : List Int) (left : Int) : Int := if (l.length : Int) ≤ left then left - l.length else -1
set_option maxHeartbeats 400000 in
theorem szIntS_walk (l : List Int) (left : Int) (v : Value) (w : World) (a b : Nat) (hr : RdI w a b v l) (h0 : 0 ≤ left) (h1 : left ≤ 1048576) :
    Calls Try.prog 40 #[v, .int .i64 left] w fun e w' => e = .returned (.int .i64 (szI l left)) ∧ w = w' := by
  obtain ⟨A, c, rfl, h2, h3⟩ := hr.form
  by_cases hl : (l.length : Int) ≤ left
  · have GD : Hid (szI l left = left - l.length) := by unfold szI; exact if_pos hl
    have hn : ¬ (left - (l.length : Int) < 0) := by omega
    go_enter Try.func40, Try.ntmps40
    go_wp2_with fail
    go_ret
    exact ⟨ret_int GD.out.symm, rfl⟩
  · have GD : Hid (szI l left = -1) := by unfold szI; exact if_neg hl
    have hn : left - (l.length : Int) < 0 := by omega
    go_enter Try.func40, Try.ntmps40
    go_wp2_with fail
    go_ret
    exact ⟨ret_int GD.out.symm, rfl⟩

/-- What szIntSS answers. -/
def szG (g : List (List Int)) (left : Int) : Int := if (g.length : Int) + total g ≤ left then left - g.length - total g else -1
theorem szG_no {g : List (List Int)} {left : Int} (h : ¬ (g.length : Int) + total g ≤ left) : szG g left = -1 := if_neg h

theorem szG_cases (g : List (List Int)) (left : Int) (h : left ≤ 1048576) : szG g left = -1 ∨ (0 ≤ szG g left ∧ szG g left ≤ left ∧ shortG g) := by
  unfold szG
  split
  · rename_i hh
    refine .inr ⟨by omega, by omega, by omega, fun r hr => ?_⟩
    obtain ⟨k, hk, rfl⟩ := List.mem_iff_getElem.1 hr
    have := total_le (g := g) (k := k) (List.getElem?_eq_getElem hk)
    omega
  · exact .inl rfl
/-- Marked. -/
def markG : List (List Int) → Int → List (List Int)
  | [], _ => []
  | r :: t, k => markL r.length k :: markG t (k + r.length)
theorem markG_len : ∀ (g : List (List Int)) (k : Int), (markG g k).length = g.length
  | [], _ => rfl
  | r :: t, k => by simp [markG, markG_len t]
theorem markG_snoc : ∀ (g : List (List Int)) (r : List Int) (k : Int), markG (g ++ [r]) k = markG g k ++ [markL r.length (k + total g)]
  | [], r, k => by simp [markG, total]
  | s :: t, r, k => by
    have e : k + (s.length : Int) + (total t : Int) = k + (total (s :: t) : Int) := by simp [total]; omega
    simp [markG, markG_snoc t, e]
theorem markG_total : ∀ (g : List (List Int)) (k : Int), total (markG g k) = total g
  | [], _ => rfl
  | r :: t, k => by
    have := markG_total t (k + r.length)
    simp only [total, markG, List.map_cons, List.sum_cons, markL_len] at this ⊢
    omega
theorem markG_get {g : List (List Int)} {j : Nat} {r : List Int} (k : Int) (h : g[j]? = some r) : (markG g k)[j]? = some (markL r.length (k + total (g.take j))) := by
  have hj := (List.getElem?_eq_some_iff.1 h).1
  have e : g = g.take (j + 1) ++ g.drop (j + 1) := (List.take_append_drop _ _).symm
  have key : ∀ (p q : List (List Int)) (k : Int), (markG (p ++ q) k).take p.length = markG p k := by
    intro p
    induction p with
    | nil => intro q k; simp [markG]
    | cons s t ih => intro q k; simp [markG, ih]
  have h1 := key (g.take (j + 1)) (g.drop (j + 1)) k
  rw [List.take_append_drop, take_snoc h, markG_snoc] at h1
  have h2 : (g.take j ++ [r]).length = j + 1 := by simp; omega
  rw [h2] at h1
  have h3 : (markG g k)[j]? = ((markG g k).take (j + 1))[j]? := by rw [List.getElem?_take, if_pos (by omega)]
  rw [h3, h1, List.getElem?_append_right (by rw [markG_len, List.length_take]; omega)]
  rw [markG_len]
  have : j - (g.take j).length = 0 := by simp; omega
  rw [this]; rfl

def eqG (g h : List (List Int)) : Bool := decide (g = h)
theorem eqG_self (g : List (List Int)) : eqG g g = true := by simp [eqG]
theorem eqG_len {l m : List (List Int)} (h : l.length ≠ m.length) : eqG l m = false := by
  simp only [eqG, decide_eq_false_iff_not]; rintro rfl; exact h rfl
theorem eqG_ne {l m : List (List Int)} (h : l ≠ m) : eqG l m = false := by simpa [eqG] using h
theorem eqG_fin {l m : List (List Int)} {k : Nat} (hl : l.length = m.length) (hk : ¬ k < l.length) (h : l.take k = m.take k) : eqG l m = true := by
  rw [take_all hk, take_all (by omega)] at h; simpa [eqG] using h

set_option maxRecDepth 100000 in
set_option maxHeartbeats 1000000 in
theorem szIntSS_walk (g : List (List Int)) (left : Int) (v : Value) (w : World) (a b : Nat) (hr : RdG w a b v g) (h0 : 0 ≤ left) (h1 : left ≤ 1048576) :
    Calls Try.prog 14 #[v, .int .i64 left] w fun e w' => e = .returned (.int .i64 (szG g left)) ∧ w = w' := by
  obtain ⟨A, c, rfl, h2, h3⟩ := hr.form
  by_cases hl : (g.length : Int) ≤ left
  rotate_left
  · have GD := Lib.hid (szG_no (g := g) (left := left) (by omega))
    have hn : left - (g.length : Int) < 0 := by omega
    go_enter Try.func14, Try.ntmps14
    go_wp2_with fail
    go_ret
    exact ⟨ret_int GD.out.symm, rfl⟩
  have hn : ¬ (left - (g.length : Int) < 0) := by omega
  go_enter Try.func14, Try.ntmps14
  go_wp2_with fail
  go_loop [1, 5] (fun lf i => ∃ k : Nat, k ≤ g.length ∧ i = .int .i64 k ∧ lf = .int .i64 (left - g.length - total (g.take k)) ∧ (g.length : Int) + total (g.take k) ≤ left) (fun _ i => g.length - (intOf i).toNat)
  case atStart => exact ⟨0, Nat.zero_le _, rfl, by simp [total], by simpa [total] using hl⟩
  case round =>
    obtain ⟨k, hk, rfl, rfl, hle⟩ := hrel
    by_cases hlt : k < g.length
    · obtain ⟨r, hx⟩ := get_of_lt g k hlt
      obtain ⟨b0, o0, rfl, _, _⟩ := hr.some_ (by omega)
      obtain ⟨A', c', hc, h4, h5, hrow⟩ := hr.row hx
      have ht := total_snoc (g.take k) r
      rw [← take_snoc hx] at ht
      have htl := total_le hx
      obtain ⟨q, hq⟩ : ∃ q : Int, q = left - g.length - total (g.take k) := ⟨_, rfl⟩
      by_cases hrl : (r.length : Int) ≤ q
      · have E : szI r q = q - r.length := if_pos hrl
        have hn2 : ¬ (q - (r.length : Int) < 0) := by omega
        have HQ := Lib.hid hq
        rw [← hq]
        have Ht := Lib.hid ht
        have q0 : 0 ≤ q := by omega
        have q1 : q ≤ 1048576 := by omega
        clear hx ht htl hq hle
        go_wp2_with (go_at_call 40; refine (szIntS_walk _ _ _ _ _ _ hrow q0 q1).mono ?_; rintro e w' ⟨rfl, rfl⟩)
        go_round
        case rel => exact ⟨k + 1, by omega, by go_num, by rw [Ht.out]; have := HQ.out; congr 1; omega, by rw [Ht.out]; have := HQ.out; omega⟩
        case measure => simp [intOf]; omega
      · have E : szI r q = -1 := if_neg hrl
        have GD := Lib.hid (szG_no (g := g) (left := left) (by omega))
        rw [← hq]
        have q0 : 0 ≤ q := by omega
        have q1 : q ≤ 1048576 := by omega
        clear hx ht htl hq hle
        go_wp2_with (go_at_call 40; refine (szIntS_walk _ _ _ _ _ _ hrow q0 q1).mono ?_; rintro e w' ⟨rfl, rfl⟩)
        go_ret
        exact ⟨ret_int GD.out.symm, rfl⟩
    · have Hlt := Lib.hid (take_all hlt)
      have Hle := Lib.hid hle; clear hle
      go_wp2_with fail
      go_ret
      refine ⟨ret_int ?_, rfl⟩
      have h6 := Hle.out
      rw [Hlt.out] at h6 ⊢
      unfold szG
      rw [if_pos h6]

set_option maxRecDepth 100000 in
set_option maxHeartbeats 1000000 in
theorem eqIntSS_walk (g h : List (List Int)) (v u : Value) (w : World) (a b a' b' : Nat) (hr : RdG w a b v g) (hs : RdG w a' b' u h) :
    Calls Try.prog 18 #[v, u] w fun e w' => e = .returned (.bool (eqG g h)) ∧ Drew w w' := by
  obtain ⟨A, c, rfl, hlc, hcm⟩ := hr.form
  obtain ⟨A', c', rfl, hlc', hcm'⟩ := hs.form
  by_cases hlen : g.length = h.length
  rotate_left
  · have hne : ((g.length : Int) != (h.length : Int)) = true := by simp; omega
    have Hlen := Lib.hid hlen; clear hlen
    go_enter Try.func18, Try.ntmps18
    go_wp2_with fail
    go_ret
    exact ⟨ret_bool (eqG_len Hlen.out).symm, Drew.refl _⟩
  have hne : ((g.length : Int) != (h.length : Int)) = false := by simp [hlen]
  have hle : h.length ≤ g.length := by omega
  have hge : g.length ≤ h.length := by omega
  have Hlen := Lib.hid hlen; clear hlen
  go_enter Try.func18, Try.ntmps18
  go_wp2_with fail
  go_loopw [5] (fun i wr => ∃ k : Nat, k ≤ g.length ∧ i = .int .i64 k ∧ g.take k = h.take k ∧ RdG wr a b (.slice A g.length c) g ∧ RdG wr a' b' (.slice A' h.length c') h ∧ Drew w wr) (fun i _ => g.length - (intOf i).toNat)
  case atStart => exact ⟨0, Nat.zero_le _, rfl, by simp, hr, hs, Drew.refl _⟩
  case round =>
    clear hr hs
    obtain ⟨k, hk, rfl, hd, hr, hs, hb⟩ := hrel
    have Hd := Lib.hid hd; clear hd
    by_cases hlt : k < g.length
    · obtain ⟨x, hx⟩ := get_of_lt g k hlt
      obtain ⟨y, hy⟩ := get_of_lt h k (by omega)
      obtain ⟨b1, o1, rfl, _, _⟩ := hr.some_ (by omega)
      obtain ⟨b2, o2, rfl, _, _⟩ := hs.some_ (by omega)
      obtain ⟨A1, c1, hc1, _, _, hrow1⟩ := hr.row hx
      obtain ⟨A2, c2, hc2, _, _, hrow2⟩ := hs.row hy
      have i1 : (k : Int) < (g.length : Int) := by omega
      have i2 : (k : Int) < (h.length : Int) := by omega
      have Hx := Lib.hid hx; clear hx
      have Hy := Lib.hid hy; clear hy
      by_cases hxy : x = y
      · subst hxy
        have E := eqI_self x
        go_wp2_with fail
        go_quiet ((go_at_call 42; exact Calls.quiet_of (eqIntS_walk _ _ _ _ _ _ _ _ _ (hrow1.drewN _) (hrow2.drewN _))))
        go_wp2_with fail
        go_roundw
        case rel => exact ⟨k + 1, by omega, by go_num, eq_take Hx.out Hy.out Hd.out, hr.drewN _, hs.drewN _, hb.drewN _⟩
        case measure => simp [intOf]; omega
      · have E := eqI_ne hxy
        have Hxy := Lib.hid hxy; clear hxy
        go_wp2_with fail
        go_quiet ((go_at_call 42; exact Calls.quiet_of (eqIntS_walk _ _ _ _ _ _ _ _ _ (hrow1.drewN _) (hrow2.drewN _))))
        go_wp2_with fail
        go_ret
        exact ⟨ret_bool (eqG_ne (ne_at Hx.out Hy.out Hxy.out)).symm, hb.drewN _⟩
    · go_wp2_with fail
      go_ret
      exact ⟨ret_bool (eqG_fin Hlen.out hlt Hd.out).symm, hb⟩

set_option maxRecDepth 100000 in
set_option maxHeartbeats 1000000 in
theorem toIntSS_walk (g : List (List Int)) (v : Value) (w : World) (a b : Nat) (hr : RdG w a b v g) (hs : shortG g) :
    Calls Try.prog 16 #[v] w (RetG w g) := by
  obtain ⟨A, c, rfl, h1, h2⟩ := hr.form
  replace hr := hr.clip
  obtain ⟨j0, hj, jz0, jz1, jz2⟩ := info_parts row_info
  obtain ⟨hs1, hs2⟩ := hs
  have Hs := Lib.hid hs2; clear hs2
  go_enter Try.func16, Try.ntmps16
  go_wp2_with (at_make; refine wpList_make_full _ rfl _ _ 23 rfl w.heap.size 50 j0 (.slice none 0 0) 1 Try.underlying23 hj jz0 jz1 _ _ _ _ g.length rfl rfl rfl rfl (by rw [jz2]; omega) (by unfold maxLen; omega) (Nat.le_refl _) ?_; intro w1 hown hgrow)
  have hb1 : Below w.heap.size w w1 := (Below.refl _ _).grown hgrow (Nat.le_refl _) (by simp)
  have ho : OwG w1 w.heap.size w1.heap.size 50 3 (.slice (some ⟨w.heap.size, 0, none⟩) g.length g.length) (g.take 0 ++ List.replicate (g.length - 0) []) := by
    rw [made_rows] at hown
    have := OwG.blank (I := 3) (Ow.of_top hown)
    simpa using this
  have hr1 := hr.new hb1
  clear hown hgrow hr jz0 jz1 jz2 hj
  go_wp2_with fail
  go_loopw [4] (fun i wr => ∃ k : Nat, k ≤ g.length ∧ i = .int .i64 k ∧ RdG wr a w.heap.size (.slice A g.length c) g ∧ OwG wr w.heap.size wr.heap.size 50 3 (.slice (some ⟨w.heap.size, 0, none⟩) g.length g.length) (g.take k ++ List.replicate (g.length - k) []) ∧ Below w.heap.size w wr)
    (fun i _ => g.length - (intOf i).toNat)
  case atStart => exact ⟨0, Nat.zero_le _, rfl, hr1, ho, hb1⟩
  case round =>
    clear hr1 ho hb1
    obtain ⟨k, hk, rfl, hr, ho, hb⟩ := hrel
    by_cases hlt : k < g.length
    · obtain ⟨r, hx⟩ := get_of_lt g k hlt
      obtain ⟨b1, o1, rfl, _, _⟩ := hr.some_ (by omega)
      obtain ⟨A1, c1, hc1, _, _, hrow1⟩ := hr.row hx
      have hrl := Hs.out r (List.mem_of_getElem? hx)
      have Hx := Lib.hid hx; clear hx
      go_wp2_with fail
      refine (toIntS_walk _ _ _ _ _ hrow1 hrl).mono ?_
      rintro e w1 ⟨u, rfl, hu, hb1⟩
      obtain ⟨Au, cu, rfl, _, _⟩ := hu.form'
      have ho1 := ho.new hb1
      obtain ⟨b2, u2, e2, _, _, _, hs1, hs2, _⟩ := ho1.at_ (k := k) (r := []) (by rw [List.getElem?_append_right (by rw [List.length_take]; omega), List.getElem?_replicate, if_pos (by rw [List.length_take]; omega)])
      injection e2 with e2; injection e2 with e2; subst e2
      go_wp2_with fail
      go_roundw
      case rel =>
        have hp := OwG.put RI ho (k := k) (by simp; omega) hb.size (Nat.le_refl _) hb1 hu
        have e : (g.take k ++ List.replicate (g.length - k) []).set k r = g.take (k + 1) ++ List.replicate (g.length - (k + 1)) [] := by
          obtain ⟨m, hm⟩ : ∃ m, g.length - k = m + 1 := ⟨g.length - k - 1, by omega⟩
          have hm' : g.length - (k + 1) = m := by omega
          have ht : (g.take k).length = k := by rw [List.length_take]; omega
          rw [hm, hm', take_snoc Hx.out, List.replicate_succ, List.set_append_right _ _ (by omega), ht]
          simp
        rw [e] at hp
        have hb2 : Below w.heap.size wr (w1.setCell ⟨w.heap.size, k, none⟩ (.slice Au (ints r).length cu)) := (hb1.mono hb.size).setCell (Nat.le_refl _) _
        exact ⟨k + 1, by omega, by go_num, hr.below hb2 (Nat.le_refl _), hp, hb.trans hb2⟩
      case measure => simp [intOf]; omega
    · go_wp2_with fail
      go_ret
      have e : g.take k ++ List.replicate (g.length - k) [] = g := by
        rw [take_all hlt, show g.length - k = 0 by omega]; simp
      rw [e] at ho
      exact ⟨_, rfl, ho, hb⟩

/-- What heldIntSS answers. -/
def heldG (g : List (List Int)) (k : Int) : Int := if g = markG g k then k + total g else -1
theorem markG_markG : ∀ (g : List (List Int)) (k : Int), markG (markG g k) k = markG g k
  | [], _ => rfl
  | r :: t, k => by simp [markG, markL_len, markG_markG t]
theorem heldG_mark (g : List (List Int)) (k : Int) : heldG (markG g k) k = k + total g := by
  unfold heldG; rw [markG_markG, if_pos rfl, markG_total]
theorem heldF_yes {r : List Int} {k : Int} (h : r = markL r.length k) : heldF r k = k + r.length := if_pos h
theorem heldF_no {r : List Int} {k : Int} (h : r ≠ markL r.length k) : heldF r k = -1 := if_neg h

set_option maxRecDepth 100000 in
set_option maxHeartbeats 1000000 in
theorem markIntSS_walk (g : List (List Int)) (k : Int) (v : Value) (w : World) (a b : Nat) (ho : OwG w a b 50 3 v g) (ht : total g ≤ 8388608) (hk0 : 0 ≤ k) (hk1 : k ≤ 8388608) :
    Calls Try.prog 21 #[v, .int .i64 k] w fun e w' => e = .returned (.int .i64 (k + total g)) ∧ OwG w' a b 50 3 v (markG g k) ∧ Chg a b w w' := by
  obtain ⟨A, c, rfl, h1, h2⟩ := ho.form'
  go_enter Try.func21, Try.ntmps21
  go_wp2_with fail
  go_loopw [1, 5] (fun kk i wr => ∃ j : Nat, j ≤ g.length ∧ i = .int .i64 j ∧ kk = .int .i64 (k + total (g.take j)) ∧ OwG wr a b 50 3 (.slice A g.length c) (markG (g.take j) k ++ g.drop j) ∧ Chg a b w wr) (fun _ i _ => g.length - (intOf i).toNat)
  case atStart => exact ⟨0, Nat.zero_le _, rfl, by simp [total], by simpa [markG] using ho, Chg.refl _ _ _⟩
  case round =>
    clear ho
    obtain ⟨j, hj, rfl, rfl, ho, hcg⟩ := hrel
    by_cases hlt : j < g.length
    · obtain ⟨r, hx⟩ := get_of_lt g j hlt
      have htl := total_le hx
      have hsn := total_snoc (g.take j) r
      rw [← take_snoc hx] at hsn
      have hlen : (markG (g.take j) k).length = j := by rw [markG_len, List.length_take]; omega
      have hgj : (markG (g.take j) k ++ g.drop j)[j]? = some r := by
        rw [List.getElem?_append_right (by omega), hlen, Nat.sub_self, List.getElem?_drop, Nat.add_zero]; exact hx
      obtain ⟨bo, u, rfl, _, _, _, hc, _, hu⟩ := ho.at_ hgj
      obtain ⟨q, hq⟩ : ∃ q : Int, q = k + total (g.take j) := ⟨_, rfl⟩
      have q0 : 0 ≤ q := by omega
      have q1 : q ≤ 16777216 := by omega
      have hrl : r.length ≤ 16777216 := by omega
      have hq' : q + (r.length : Int) = k + total (g.take (j + 1)) := by rw [hsn]; omega
      have hset : (markG (g.take j) k ++ g.drop j).set j (markL r.length q) = markG (g.take (j + 1)) k ++ g.drop (j + 1) := by
        rw [List.set_append_right _ _ (by omega), hlen, Nat.sub_self, take_snoc hx, markG_snoc, hq]
        have hj' := (List.getElem?_eq_some_iff.1 hx).1
        have : g[j] = r := (List.getElem?_eq_some_iff.1 hx).2
        rw [List.drop_eq_getElem_cons hj', List.set_cons_zero]
        simp
      have HQ' := Lib.hid hq'; clear hq' hsn htl
      have Hset := Lib.hid hset; clear hset
      have Hgj := Lib.hid hgj; clear hgj hx hlen
      rw [← hq]
      clear hq
      obtain ⟨Au, cu, rfl, _, _⟩ := hu.form'
      go_wp2_with (go_at_call 47; refine (markIntS_walk _ _ _ _ _ _ hu hrl q0 q1).mono ?_; rintro e w1 ⟨rfl, hu1, hg1⟩)
      go_roundw
      case rel =>
        have h6 := ho.row' RI Hgj.out hc hg1 hu1
        rw [Hset.out] at h6
        exact ⟨j + 1, by omega, by go_num, by rw [HQ'.out], h6, hcg.trans (hu.chgOf hg1)⟩
      case measure => simp [intOf]; omega
    · have Hlt := Lib.hid (take_all hlt)
      have hd : g.drop j = [] := List.drop_eq_nil_of_le (by omega)
      rw [hd, List.append_nil] at ho
      clear hd
      go_wp2_with fail
      go_ret
      rw [Hlt.out] at ho ⊢
      exact ⟨rfl, ho, hcg⟩
end Go.Proofs.Ytpjlgcohafbbdaa
