/- Walks: WorstColumns, Exists, SlackOf of the program. -/
import Derived.Test.YtdgkiebgmhcmdaaProg
import Derived.Test.YtdgkiebgmhcmdaaW1
import Derived.Test.YtdgkiebgmhcmdaaW3
import Derived.Test.YtdgkiebgmhcmdaaW4
import Derived.Test.YtdgkiebgmhcmdaaS1
import Derived.Test.YtdgkiebgmhcmdaaS2
import Derived.Test.YtdgkiebgmhcmdaaS3
import Derived.Test.YtdgkiebgmhcmdaaMem
import Derived.WalkKit
import Derived.WalkSpells
import Derived.WalkLawsBesides
import Derived.KernelRfl
import Derived.Lib.Hide
import Derived.Deep.QuietTactic
import Derived.BigQuiet
import Derived.Sort.AtCall
import Derived.Deep.RegionHeld3
namespace Go.Proofs.Ytdgkiebgmhcmdaa
open Go.RowKit
set_option linter.unusedVariables false
set_option linter.unusedSimpArgs false

theorem quiet_s {P : Program} {f : FuncId} {args : Array Value} {w : World} {n : Nat} {v : Value} (h : Calls P f args (w.drewN n) fun e w' => e = .returned v ∧ w.drewN n = w') :
    Calls P f args (w.drewN n) fun e w'' => e = .returned v ∧ ∃ m, w'' = w.drewN m := h.mono fun _ _ ⟨he, hm⟩ => ⟨he, n, hm.symm⟩
/-- The sum of the first k conjugates, told by the rows. -/
theorem conj_sum : ∀ (l : List Int) (n k : Nat), k ≤ n → (∀ x ∈ l, 0 ≤ x) → ((conjF l n).take k).sum = mostF l k
  | [], n, k, _, _ => by
    rw [conjF_nil, List.take_replicate]
    simp [mostF]
  | x :: t, n, k, hk, h => by
    have ih := conj_sum t n k hk (fun y hy => h y (by simp [hy]))
    have hx := h x (by simp)
    have e1 : mostF (x :: t) k = min (k : Int) x + mostF t k := by simp [mostF]
    rw [e1, ← ih]
    have key : ∀ m : Nat, m ≤ n → ((conjF (x :: t) n).take m).sum = min (m : Int) x + ((conjF t n).take m).sum := by
      intro m
      induction m with
      | zero => intro _; simp; omega
      | succ m im =>
        intro hm
        have g1 : (conjF (x :: t) n)[m]? = some (((x :: t).filter fun y => decide ((m : Int) < y)).length : Int) := by simp [conjF, show m < n by omega]
        have g2 : (conjF t n)[m]? = some ((t.filter fun y => decide ((m : Int) < y)).length : Int) := by simp [conjF, show m < n by omega]
        rw [take_snoc g1, take_snoc g2, sum_snoc, sum_snoc, im (by omega)]
        by_cases hxm : (m : Int) < x
        · simp only [List.filter_cons, hxm, decide_true, if_true, List.length_cons]
          omega
        · simp only [List.filter_cons, hxm, decide_false]
          simp
          omega
    exact key k hk

set_option maxRecDepth 100000 in
set_option maxHeartbeats 2000000 in
theorem impl_WorstColumns (rows cols : List Int) (v u : Value) (w : World) (a b a' b' : Nat) (hr : RdI w a b v rows) (hs : RdI w a' b' u cols) :
    Calls Try.prog 115 #[v, u] w fun e w' => e = .returned (.int .i64 (worstR rows cols)) ∧ Below w.heap.size w w' := by
  obtain ⟨A, c, rfl, _, _⟩ := hr.form
  obtain ⟨A', c', rfl, _, _⟩ := hs.form
  by_cases h : sumsOk rows cols = true
  rotate_left
  · have h : sumsOk rows cols = false := by simpa using h
    have GD := Lib.hid (worst_no h)
    go_enter Try.func115, Try.ntmps115
    go_wp2_with (go_at_call 110; refine (impl_SumsOk _ _ _ _ _ _ _ _ _ hr hs).mono ?_; rintro e w' ⟨rfl, rfl⟩)
    go_ret
    exact ⟨ret_int GD.out.symm, Below.refl _ _⟩
  obtain ⟨h1, h2, h3, h4, h5, h6, h7⟩ := sumsOk_in h
  clear h5 h6 h7
  have GD := Lib.hid (worst_yes h)
  have HO := Lib.hid h
  go_enter Try.func115, Try.ntmps115
  go_wp2_with fail
  refine (impl_SumsOk _ _ _ _ _ _ _ _ _ hr hs).mono ?_
  rw [h]
  rintro e w' ⟨rfl, rfl⟩
  clear h
  go_wp2_with fail
  refine (impl_ConjugateOf _ _ _ _ _ _ hr).mono ?_
  rintro e w1 ⟨v1, rfl, ho, hb, hcase⟩
  rw [conjR_yes (sums_conj HO.out)] at ho
  clear hcase
  have hs1 := hb.size
  obtain ⟨A1, c1, rfl, q1, q2⟩ := ho.form'
  rw [ints_len, conjF_len] at q1 ho ⊢
  obtain ⟨g, rfl⟩ := ho.somep (by rw [ints_len, conjF_len]; omega)
  replace hs := hs.new hb
  go_wp2_with fail
  refine (impl_SortedDown _ _ _ _ _ hs (by omega)).mono ?_
  rintro e w2 ⟨v2, rfl, ho2, hb2⟩
  obtain ⟨A2, c2, rfl, q3, q4⟩ := ho2.form'
  rw [ints_len, sortD_len] at q3 ho2 ⊢
  obtain ⟨g2, rfl⟩ := ho2.somep (by rw [ints_len, sortD_len]; omega)
  replace ho := ho.new hb2
  replace hb2 := hb.trans (hb2.mono hs1)
  have gne : g < g2 := Nat.lt_of_lt_of_le (ho.2 g rfl) ((ho2.blk (k := g2) rfl).1)
  have r1 := ho.rdI
  have r2 := ho2.rdI
  clear ho ho2 hb hs1 hr hs
  go_wp2_with fail
  go_loopw [7] (fun i wr => ∃ k n : Nat, n + k = cols.length + 1 ∧ 1 ≤ k ∧ i = .int .i64 k ∧ worstR rows cols = worstG (gapF rows cols) n k ∧ Drew w2 wr) (fun i _ => cols.length + 1 - (intOf i).toNat)
  case atStart => exact ⟨1, cols.length, rfl, Nat.le_refl _, rfl, GD.out, Drew.refl _⟩
  case round =>
    obtain ⟨k, n, hn, hk1, rfl, hw, hd⟩ := hrel
    have HW := Lib.hid hw; clear hw
    by_cases hlt : k ≤ cols.length
    rotate_left
    · obtain rfl : n = 0 := by omega
      go_wp2_with fail
      go_ret
      exact ⟨ret_int (by rw [HW.out]; rfl), hb2.trans (hd.below _)⟩
    obtain ⟨n, rfl⟩ : ∃ n', n = n' + 1 := ⟨n - 1, by omega⟩
    have p1 := RdI.pre (k := k) (hd.rdI r1) (by rw [conjF_len]; omega)
    have p2 := RdI.pre (k := k) (hd.rdI r2) (by rw [sortD_len]; omega)
    obtain ⟨X, hX⟩ : ∃ X, X = ((conjF rows cols.length).take k).sum := ⟨_, rfl⟩
    obtain ⟨Y, hY⟩ : ∃ Y, Y = ((sortD cols).take k).sum := ⟨_, rfl⟩
    have c1' := fun m => impl_sumOf _ _ _ _ _ (RdI.drewN p1 m) (small_take (conj_small HO.out) k)
    have c2' := fun m => impl_sumOf _ _ _ _ _ (RdI.drewN p2 m) (small_take (sort_small HO.out) k)
    simp only [← hX] at c1'
    simp only [← hY] at c2'
    have hg' : gapF rows cols k = X - Y := by rw [gapF, hX, hY]
    have HX := Lib.hid hg'; clear hg' hX hY
    have i1 : (k : Int) ≤ (cols.length : Int) := by omega
    have i2 : k ≤ c1 := by omega
    have i3 : k ≤ c2 := by omega
    by_cases hg : X < Y
    · have Hh := Lib.hid (worstG_hit (f := gapF rows cols) (n := n) (k := k) (by rw [HX.out]; omega))
      go_wp2_with fail
      go_quiet (first | (go_at_call_has 87 (Value.slice (some ⟨g2, 0, none⟩) k c2); exact quiet_s (c2' _)) | (go_at_call 87; exact quiet_s (c1' _)))
      go_wp2_with fail
      go_ret
      exact ⟨ret_int (by rw [HW.out, Hh.out]), hb2.trans ((hd.drewN _).below _)⟩
    · have Hh := Lib.hid (worstG_go (f := gapF rows cols) (n := n) (k := k) (by rw [HX.out]; omega))
      go_wp2_with fail
      go_quiet (first | (go_at_call_has 87 (Value.slice (some ⟨g2, 0, none⟩) k c2); exact quiet_s (c2' _)) | (go_at_call 87; exact quiet_s (c1' _)))
      go_wp2_with fail
      go_roundw
      case rel => exact ⟨k + 1, n, by omega, by omega, by go_num, by rw [HW.out, Hh.out], hd.drewN _⟩
      case measure => simp [intOf]; omega

set_option maxRecDepth 100000 in
set_option maxHeartbeats 2000000 in
theorem impl_Exists (rows cols : List Int) (v u : Value) (w : World) (a b a' b' : Nat) (hr : RdI w a b v rows) (hs : RdI w a' b' u cols) :
    Calls Try.prog 95 #[v, u] w fun e w' => e = .returned (.bool (existsR rows cols)) ∧ Below w.heap.size w w' := by
  by_cases h : sumsOk rows cols = true
  rotate_left
  · have h : sumsOk rows cols = false := by simpa using h
    have GD := Lib.hid (exists_no h)
    go_enter Try.func95, Try.ntmps95
    go_wp2_with (go_at_call 110; refine (impl_SumsOk _ _ _ _ _ _ _ _ _ hr hs).mono ?_; rintro e w' ⟨rfl, rfl⟩)
    go_ret
    exact ⟨ret_bool GD.out.symm, Below.refl _ _⟩
  have GD := Lib.hid (exists_yes h)
  go_enter Try.func95, Try.ntmps95
  go_wp2_with (first
    | (go_at_call 110; refine (impl_SumsOk _ _ _ _ _ _ _ _ _ hr hs).mono ?_; rintro e w' ⟨rfl, rfl⟩)
    | (go_at_call 115; refine (impl_WorstColumns _ _ _ _ _ _ _ _ _ hr hs).mono ?_; rintro e w1 ⟨rfl, hb⟩))
  go_ret
  exact ⟨ret_bool GD.out.symm, hb⟩

end Go.Proofs.Ytdgkiebgmhcmdaa
