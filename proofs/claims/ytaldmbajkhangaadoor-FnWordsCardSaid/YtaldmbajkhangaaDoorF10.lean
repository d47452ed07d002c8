/- The walk of the law Words. -/
import Derived.Test.YtaldmbajkhangaaDoorProg
import Derived.Test.YtaldmbajkhangaaDoorW1
import Derived.Test.YtaldmbajkhangaaDoorW3
import Derived.Test.YtaldmbajkhangaaDoorW7
import Derived.Test.YtaldmbajkhangaaDoorT2
import Derived.Test.YtaldmbajkhangaaDoorT3
import Derived.Test.YtaldmbajkhangaaDoorT4
import Derived.Test.YtaldmbajkhangaaDoorT6
import Derived.Test.YtaldmbajkhangaaDoorT8
import Derived.Test.YtaldmbajkhangaaDoorR1
import Derived.Test.YtaldmbajkhangaaDoorF1
import Derived.Test.YtaldmbajkhangaaDoorF2
import Derived.Test.YtaldmbajkhangaaDoorF3
import Derived.Test.YtaldmbajkhangaaDoorF4
import Derived.Test.YtaldmbajkhangaaDoorF9
import Derived.Test.YtaldmbajkhangaaDoorMem
import Derived.WalkKit
import Derived.WalkSpells
import Derived.WalkLawsBesides
import Derived.KernelRfl
import Derived.Lib.Hide
import Derived.Lib.Strings
namespace Go.Proofs.YtaldmbajkhangaaDoor
open Go.RowKit
set_option linter.unusedVariables false
set_option linter.unusedSimpArgs false

theorem fmt_size (n : Int) (h0 : -9223372036854775808 ≤ n) (h1 : n ≤ 9223372036854775807) : (fmtF n).size ≤ 1048576 := by
  have e : (fmtF n).data.toList.length = (fmtF n).size := Array.length_toList
  rw [fmtF_data] at e
  by_cases hn : n < 0
  · obtain ⟨u, rfl⟩ : ∃ u : Nat, n = -(u : Int) := ⟨n.natAbs, by omega⟩
    rw [Lib.itoa_neg u (by omega)] at e
    have := dec_len 18 u (by omega)
    simp only [List.length_cons] at e
    omega
  · obtain ⟨u, rfl⟩ : ∃ u : Nat, n = (u : Int) := ⟨n.toNat, by omega⟩
    rw [Lib.itoa_nonneg] at e
    have := dec_len 18 u (by omega)
    omega
/-- FormatInt, then ParseInt. -/
theorem parse_at (n : Int) (w : World) (h0 : -9223372036854775808 ≤ n) (h1 : n ≤ 9223372036854775807) (ht : Tab w) (he : Errs w) :
    Calls Tryd.prog 9 #[.string (fmtF n)] w fun e w' => e = .returned (.tuple #[.int .i64 n, .bool true]) ∧ Below w.heap.size w w' := by
  have h := impl_ParseInt (fmtF n) w (fmt_size n h0 h1) ht he
  rw [parse_fmt h0 h1 rfl] at h
  exact h
theorem split_at (s : ByteArray) (w : World) (hs : s.size ≤ 16) :
    Calls Tryd.prog 13 #[.string s, .string ⟨#[32]⟩] w fun e w' => ∃ v a b, e = .returned v ∧ RdS w' a b v (splitF s sp) ∧ Below w.heap.size w w' := by
  refine (impl_SplitAny s sp w (by omega) (by decide)).mono ?_
  rintro e w1 ⟨v, rfl, ho, hb⟩
  exact ⟨v, _, _, rfl, ho.rdS, hb⟩
theorem join_at (s : ByteArray) (v : Value) (w : World) (a b : Nat) (hs : s.size ≤ 16) (hr : RdS w a b v (splitF s sp)) :
    Calls Tryd.prog 12 #[v, .string ⟨#[32]⟩] w fun e w' => e = .returned (.string s) ∧ Below w.heap.size w w' := by
  have h := split_sum s
  have h2 := spAcc_len s sp s.size
  have h3 := impl_Join (splitF s sp) sp v w a b hr (by decide) (by rw [split_len]; omega) (by omega)
  rw [join_split] at h3
  exact h3
theorem lines_two : (linesF ⟨#[97, 10, 98, 10]⟩).length = 2 := by decide +kernel
theorem name_two : nameF (ByteArray.data ⟨#[120, 49]⟩).toList = true := by decide +kernel
theorem lines_at (w : World) :
    Calls Tryd.prog 15 #[.string ⟨#[97, 10, 98, 10]⟩] w fun e w' => ∃ A c, e = .returned (.slice A 2 c) ∧ 2 ≤ c ∧ c ≤ 9223372036854775807 ∧ Below w.heap.size w w' := by
  refine (impl_SplitLines ⟨#[97, 10, 98, 10]⟩ w (by decide)).mono ?_
  rintro e w1 ⟨v, rfl, ho, hb⟩
  obtain ⟨A, c, rfl, q1, q2⟩ := ho.form'
  rw [strs_len, lines_two] at *
  exact ⟨A, c, rfl, q1, q2, hb⟩
theorem name_at (w : World) :
    Calls Tryd.prog 14 #[.string ⟨#[120, 49]⟩] w fun e w' => e = .returned (.bool true) ∧ w = w' := by
  have h := impl_IsName ⟨#[120, 49]⟩ w (by decide)
  rw [name_two] at h
  exact h

set_option maxRecDepth 100000 in
set_option maxHeartbeats 1000000 in
theorem fnWords_walk (v : Value) (code : List UInt8) (W : World) (hr : Rd W 0 W.heap.size v (bytesV code)) (ht : Tab W) (he : Errs W) :
    Calls Tryd.prog 5 #[v] W fun e w' => e = .returned (.bool true) ∧ Below W.heap.size W w' := by
  obtain ⟨A, c, rfl, h1, h2⟩ : ∃ A c, v = .slice A code.length c ∧ code.length ≤ c ∧ c ≤ 9223372036854775807 := by
    obtain ⟨A, c, e, q1, q2, _⟩ := hr
    rw [bytesV_len] at e q1
    unfold maxLen at q2
    exact ⟨A, c, e, q1, by omega⟩
  by_cases hc : code.length ≤ 1048576
  rotate_left
  · have hc2 : ¬ (code.length : Int) ≤ 1048576 := by omega
    go_enter Tryd.func5, Tryd.ntmps5
    go_wp2_with fail
    go_ret
    exact ⟨rfl, Below.refl _ _⟩
  go_enter Tryd.func5, Tryd.ntmps5
  go_wp2_with fail
  refine (MakeNum_walk code _ 1 _ _ _ hr hc (by omega)).mono ?_
  rintro e w1 ⟨x, hx, rfl, b1⟩
  obtain ⟨n, hn⟩ : ∃ n : Int, n = (x : Int) - 30000 := ⟨_, rfl⟩
  have n0 : -9223372036854775808 ≤ n := by omega
  have n1 : n ≤ 9223372036854775807 := by omega
  have f1 : IntKind.i64.wrap ((x : Int) - 30000) = n := by rw [IntKind.wrap_i64]; omega
  have hr1 := hr.new b1
  have ht1 := ht.new b1
  have he1 := he.new b1
  clear hr ht he hx
  have Hn := Lib.hid hn; clear hn
  go_wp2_with fail
  refine (impl_FormatInt n _ n0 n1 ht1).mono ?_
  rintro e w2 ⟨rfl, b2⟩
  go_wp2_with fail
  refine (parse_at n _ n0 n1 (ht1.new b2) (he1.new b2)).mono ?_
  rintro e w3 ⟨rfl, b3⟩
  have hr3 := (hr1.new b2).new b3
  have B3 := (b1.trans (b2.mono b1.size)).trans (b3.mono (b1.trans (b2.mono b1.size)).size)
  clear hr1 ht1 he1 b1 b2 b3
  go_wp2_with fail
  refine (MakeText_walk code _ _ _ _ hr3 hc).mono ?_
  rintro e w4 ⟨s, hs, rfl, b4⟩
  have B4 := B3.trans (b4.mono B3.size)
  clear hr3 B3 b4
  have hlt : s.size ≤ 1048576 := by omega
  have q := fsne_self s
  have s4 := B4.size
  go_wp2_with fail
  refine (split_at s _ hs).mono ?_
  rintro e w5 ⟨v5, a5, b5, rfl, hr5, k5⟩
  have B5 := B4.trans (k5.mono s4)
  clear B4 k5 s4
  go_wp2_with fail
  refine (join_at s v5 _ _ _ hs hr5).mono ?_
  rintro e w6 ⟨rfl, k6⟩
  have B6 := B5.trans (k6.mono B5.size)
  clear B5 k6 hr5
  go_wp2_with fail
  refine (name_at _).mono ?_
  rintro e w7 ⟨rfl, rfl⟩
  go_wp2_with fail
  refine (lines_at _).mono ?_
  rintro e w8 ⟨A8, c8, rfl, k1, k2, k8⟩
  have B8 := B6.trans (k8.mono B6.size)
  clear B6 k8
  go_wp2_with fail
  go_ret
  exact ⟨rfl, B8⟩
end Go.Proofs.YtaldmbajkhangaaDoor
