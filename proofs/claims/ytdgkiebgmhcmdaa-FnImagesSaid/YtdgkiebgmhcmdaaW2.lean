/- Walks: DirectionOk, LineOf, CountLines. -/
import Derived.Test.YtdgkiebgmhcmdaaProg
import Derived.Test.YtdgkiebgmhcmdaaW1
import Derived.WalkKit
import Derived.WalkSpells
import Derived.WalkLawsBesides
import Derived.KernelRfl
import Derived.Lib.Hide
import Derived.Deep.RegionHeld3
namespace Go.Proofs.Ytdgkiebgmhcmdaa
open Go.RowKit
set_option linter.unusedVariables false
set_option linter.unusedSimpArgs false

def gcdF (a b : Int) : Int := (Nat.gcd a.natAbs b.natAbs : Nat)
def dirOk (a b : Int) : Bool := inB a 0 3 && inB b (-3) 3 && decide (gcdF a b = 1) && (decide (0 < a) || decide (b = 1))

theorem gcd_step (x y : Int) (hx : 0 ≤ x) (hy : 0 ≤ y) : gcdF y (x % y) = gcdF x y := by
  obtain ⟨n, rfl⟩ := Int.eq_ofNat_of_zero_le hx
  obtain ⟨m, rfl⟩ := Int.eq_ofNat_of_zero_le hy
  unfold gcdF
  rw [← Int.natCast_emod]
  simp only [Int.natAbs_natCast]
  rw [Nat.gcd_comm n m, Nat.gcd_comm m (n % m), ← Nat.gcd_rec]
theorem gcd_end (x : Int) (hx : 0 ≤ x) : gcdF x 0 = x := by
  unfold gcdF; simp; omega
theorem gcd_neg1 (a b : Int) : gcdF (-a) b = gcdF a b := by unfold gcdF; simp
theorem gcd_neg2 (a b : Int) : gcdF a (-b) = gcdF a b := by unfold gcdF; simp

set_option maxHeartbeats 400000 in
theorem spec_l03Gcd (a b : Int) (w : World) (ha : -3 ≤ a) (ha' : a ≤ 3) (hb : -3 ≤ b) (hb' : b ≤ 3) :
    Calls Try.prog 102 #[.int .i64 a, .int .i64 b] w fun e w' => e = .returned (.int .i64 (gcdF a b)) ∧ w = w' := by
  go_enter Try.func102, Try.ntmps102
  go_wp2
  all_goals
    go_loop [0, 1] (fun u v => ∃ x y : Int, 0 ≤ x ∧ x ≤ 3 ∧ 0 ≤ y ∧ y ≤ 3 ∧ u = .int .i64 x ∧ v = .int .i64 y ∧ gcdF x y = gcdF a b) (fun _ v => (intOf v).toNat)
    case atStart => exact ⟨_, _, by omega, by omega, by omega, by omega, rfl, rfl, by simp [gcd_neg1, gcd_neg2]⟩
    case round =>
      obtain ⟨x, y, hx, hx', hy, hy', rfl, rfl, hg⟩ := hrel
      have Hg := Lib.hid hg; clear hg
      by_cases hy0 : y = 0
      · subst hy0
        go_wp2
        go_ret
        exact ⟨ret_int (by rw [← Hg.out, gcd_end x hx]), rfl⟩
      · have hne : (y == 0) = false := by simpa using hy0
        have hne2 : (y != 0) = true := by simpa using hy0
        have hpos : 0 < y := by omega
        have hm0 : 0 ≤ x % y := Int.emod_nonneg x hy0
        have hm1 : x % y < y := Int.emod_lt_of_pos x hpos
        have Hy := Lib.hid hy0; clear hy0
        go_wp2
        go_round
        case rel => exact ⟨_, _, by omega, by omega, by omega, by omega, rfl, rfl, by rw [gcd_step x y hx hy]; exact Hg.out⟩
        case measure => simp [intOf]; omega

theorem dirOk_no1 {a b : Int} (h : inB a 0 3 = false) : dirOk a b = false := by simp [dirOk, h]
theorem dirOk_no2 {a b : Int} (h : inB b (-3) 3 = false) : dirOk a b = false := by simp [dirOk, h]
theorem inB_true {n lo hi : Int} (h : inB n lo hi = true) : lo ≤ n ∧ n ≤ hi := by simpa [inB] using h
theorem dirOk_no3 {b : Int} (h : b ≠ 1) : dirOk 0 b = false := by simp [dirOk, h]
theorem dirOk_in {a b : Int} (h : dirOk a b = true) : 0 ≤ a ∧ a ≤ 3 ∧ -3 ≤ b ∧ b ≤ 3 ∧ (a = 0 → b = 1) := by
  simp [dirOk, inB] at h; omega

/-- The 28 pairs. -/
theorem dir28 (a b : Int) (ha : 0 ≤ a) (ha' : a ≤ 3) (hb : -3 ≤ b) (hb' : b ≤ 3) (p : Int → Int → Bool) (h : ∀ i : Fin 4, ∀ j : Fin 7, p (i.val : Int) ((j.val : Int) - 3) = true) : p a b = true := by
  have := h ⟨a.toNat, by omega⟩ ⟨(b + 3).toNat, by omega⟩
  simp only [] at this
  rw [show ((a.toNat : Nat) : Int) = a from by omega, show (((b + 3).toNat : Nat) : Int) - 3 = b from by omega] at this
  exact this
theorem dirOk_div {a b n : Int} (ha : 0 ≤ a) (ha' : a ≤ 3) (hb : -3 ≤ b) (hb' : b ≤ 3) (hn : 2 ≤ n) (hn' : n ≤ 3) (h1 : a % n = 0) (h2 : b.tmod n = 0) : dirOk a b = false := by
  have hc : n = 2 ∨ n = 3 := by omega
  rcases hc with rfl | rfl
  · have := dir28 a b ha ha' hb hb' (fun a b => !(a % 2 == 0 && b.tmod 2 == 0) || !dirOk a b) (by decide)
    simpa [h1, h2] using this
  · have := dir28 a b ha ha' hb hb' (fun a b => !(a % 3 == 0 && b.tmod 3 == 0) || !dirOk a b) (by decide)
    simpa [h1, h2] using this
theorem dirOk_yes {a b : Int} (ha : 0 ≤ a) (ha' : a ≤ 3) (hb : -3 ≤ b) (hb' : b ≤ 3) (h0 : a = 0 → b = 1) (h : ∀ n : Int, 2 ≤ n → n < 4 → ¬ (a % n = 0 ∧ b.tmod n = 0)) : dirOk a b = true := by
  have h2 := h 2 (by omega) (by omega)
  have h3 := h 3 (by omega) (by omega)
  have := dir28 a b ha ha' hb hb' (fun a b => decide ((a % 2 = 0 ∧ b.tmod 2 = 0) ∨ (a % 3 = 0 ∧ b.tmod 3 = 0) ∨ (a = 0 ∧ b ≠ 1) ∨ dirOk a b = true)) (by decide)
  have := of_decide_eq_true this
  rcases this with g | g | ⟨g1, g2⟩ | g
  · exact absurd g h2
  · exact absurd g h3
  · exact absurd (h0 g1) g2
  · exact g

set_option maxHeartbeats 1000000 in
theorem impl_DirectionOk (a b : Int) (w : World) :
    Calls Try.prog 75 #[.agg #[.int .i64 a, .int .i64 b]] w fun e w' => e = .returned (.bool (dirOk a b)) ∧ Below w.heap.size w w' := by
  by_cases hA : inB a 0 3 = true
  rotate_left
  · have hA : inB a 0 3 = false := by simpa using hA
    go_enter Try.func75, Try.ntmps75
    go_wp2_with (go_at_call 105; refine (impl_within _ _ _ _).mono ?_; rintro e w' ⟨rfl, rfl⟩)
    go_ret
    exact ⟨ret_bool (dirOk_no1 hA).symm, (Below.refl _ _).alloc (Nat.le_refl _) _⟩
  by_cases hB : inB b (-3) 3 = true
  rotate_left
  · have hB : inB b (-3) 3 = false := by simpa using hB
    go_enter Try.func75, Try.ntmps75
    go_wp2_with (go_at_call 105; refine (impl_within _ _ _ _).mono ?_; rintro e w' ⟨rfl, rfl⟩)
    go_ret
    exact ⟨ret_bool (dirOk_no2 hB).symm, (Below.refl _ _).alloc (Nat.le_refl _) _⟩
  obtain ⟨h0, h1⟩ := inB_true hA
  obtain ⟨h2, h3⟩ := inB_true hB
  by_cases hbad : a = 0 ∧ b ≠ 1
  · obtain ⟨rfl, h5⟩ := hbad
    have h6 : (b != 1) = true := by simpa using h5
    have H5 := Lib.hid h5; clear h5
    go_enter Try.func75, Try.ntmps75
    go_wp2_with (go_at_call 105; refine (impl_within _ _ _ _).mono ?_; rintro e w' ⟨rfl, rfl⟩)
    go_ret
    exact ⟨ret_bool (dirOk_no3 H5.out).symm, (Below.refl _ _).alloc (Nat.le_refl _) _⟩
  have h4 : a = 0 → b = 1 := fun e => Classical.byContradiction fun hb => hbad ⟨e, hb⟩
  have key : (a == 0) = false ∨ ((a == 0) = true ∧ (b != 1) = false) := by
    by_cases e : a = 0
    · right; simp [h4 e, e]
    · left; simpa using e
  have H4 := Lib.hid h4; clear h4 hbad
  rcases key with h6 | ⟨h6, h7⟩
  all_goals
    go_enter Try.func75, Try.ntmps75
    go_wp2_with (go_at_call 105; refine (impl_within _ _ _ _).mono ?_; rintro e w' ⟨rfl, rfl⟩)
    go_loop [3] (fun i => ∃ n : Int, 2 ≤ n ∧ n ≤ 4 ∧ i = .int .i64 n ∧ ∀ m : Int, 2 ≤ m → m < n → ¬ (a % m = 0 ∧ b.tmod m = 0)) (fun i => (4 - intOf i).toNat)
    case atStart => exact ⟨2, by omega, by omega, rfl, fun m _ _ => by omega⟩
    case round =>
      obtain ⟨n, hn, hn', rfl, hall⟩ := hrel
      have Hall := Lib.hid hall; clear hall
      by_cases hlt : n ≤ 3
      · have hnz : (n == 0) = false := by simp; omega
        by_cases hx : a % n = 0
        · by_cases hy : b.tmod n = 0
          · have hy' : (b.tmod n == 0) = true := by simpa using hy
            have HY := Lib.hid hy; clear hy
            have HX := Lib.hid hx
            go_wp2
            go_ret
            exact ⟨ret_bool (dirOk_div h0 h1 h2 h3 hn hlt HX.out HY.out).symm, (Below.refl _ _).alloc (Nat.le_refl _) _⟩
          · have hy' : (b.tmod n == 0) = false := by simpa using hy
            have HY := Lib.hid hy; clear hy
            go_wp2
            go_round
            case rel => exact ⟨n + 1, by omega, by omega, rfl, fun m hm hm' => by
              by_cases e : m = n
              · subst e; exact fun hh => HY.out hh.2
              · exact Hall.out m hm (by omega)⟩
            case measure => simp [intOf]; omega
        · have HX := Lib.hid hx
          go_wp2
          go_round
          case rel => exact ⟨n + 1, by omega, by omega, rfl, fun m hm hm' => by
            by_cases e : m = n
            · subst e; exact fun hh => HX.out hh.1
            · exact Hall.out m hm (by omega)⟩
          case measure => simp [intOf]; omega
      · go_wp2
        go_ret
        exact ⟨ret_bool (dirOk_yes h0 h1 h2 h3 H4.out (fun m hm hm' => Hall.out m hm (by omega))).symm, (Below.refl _ _).alloc (Nat.le_refl _) _⟩

theorem dirOk_gcd {a b : Int} (h : gcdF a b ≠ 1) : dirOk a b = false := by simp [dirOk, h]
theorem dirOk_fin {a b : Int} (hA : inB a 0 3 = true) (hB : inB b (-3) 3 = true) (h : gcdF a b = 1) (hx : 0 < a ∨ b = 1) : dirOk a b = true := by
  simp [dirOk, hA, hB, h, hx]
theorem dirOk_end {a b : Int} (h1 : ¬ 0 < a) (hx : b ≠ 1) : dirOk a b = false := by
  simp [dirOk, hx, h1]

set_option maxHeartbeats 1000000 in
theorem spec_DirectionOk (a b : Int) (w : World) :
    Calls Try.prog 72 #[.agg #[.int .i64 a, .int .i64 b]] w fun e w' => e = .returned (.bool (dirOk a b)) ∧ Below w.heap.size w w' := by
  by_cases hA : inB a 0 3 = true
  rotate_left
  · have hA : inB a 0 3 = false := by simpa using hA
    go_enter Try.func72, Try.ntmps72
    go_wp2_with (go_at_call 99; refine (spec_l01In _ _ _ _).mono ?_; rintro e w' ⟨rfl, rfl⟩)
    go_ret
    exact ⟨ret_bool (dirOk_no1 hA).symm, (Below.refl _ _).alloc (Nat.le_refl _) _⟩
  by_cases hB : inB b (-3) 3 = true
  rotate_left
  · have hB : inB b (-3) 3 = false := by simpa using hB
    go_enter Try.func72, Try.ntmps72
    go_wp2_with (go_at_call 99; refine (spec_l01In _ _ _ _).mono ?_; rintro e w' ⟨rfl, rfl⟩)
    go_ret
    exact ⟨ret_bool (dirOk_no2 hB).symm, (Below.refl _ _).alloc (Nat.le_refl _) _⟩
  obtain ⟨h0, h1⟩ := inB_true hA
  obtain ⟨h2, h3⟩ := inB_true hB
  have key : ((gcdF a b == 1) = false ∧ dirOk a b = false) ∨ ((gcdF a b == 1) = true ∧ 0 < a ∧ dirOk a b = true) ∨ ((gcdF a b == 1) = true ∧ ¬ 0 < a ∧ (b == 1) = true ∧ dirOk a b = true) ∨ ((gcdF a b == 1) = true ∧ ¬ 0 < a ∧ (b == 1) = false ∧ dirOk a b = false) := by
    by_cases hg : gcdF a b = 1
    · by_cases hp : 0 < a
      · exact .inr (.inl ⟨by simpa using hg, hp, dirOk_fin hA hB hg (.inl hp)⟩)
      · by_cases hb : b = 1
        · exact .inr (.inr (.inl ⟨by simpa using hg, hp, by simpa using hb, dirOk_fin hA hB hg (.inr hb)⟩))
        · exact .inr (.inr (.inr ⟨by simpa using hg, hp, by simpa using hb, dirOk_end hp hb⟩))
    · exact .inl ⟨by simpa using hg, dirOk_gcd hg⟩
  rcases key with ⟨g1, gd⟩ | ⟨g1, g2, gd⟩ | ⟨g1, g2, g3, gd⟩ | ⟨g1, g2, g3, gd⟩
  all_goals
    have GD := Lib.hid gd; clear gd
    go_enter Try.func72, Try.ntmps72
    go_wp2_with (first
      | (go_at_call 99; refine (spec_l01In _ _ _ _).mono ?_; rintro e w' ⟨rfl, rfl⟩)
      | (go_at_call 102; refine (spec_l03Gcd _ _ _ (by omega) h1 h2 h3).mono ?_; rintro e w' ⟨rfl, rfl⟩))
    go_ret
    exact ⟨ret_bool (by first | exact GD.out.symm | (rw [GD.out]; simp; omega)), (Below.refl _ _).alloc (Nat.le_refl _) _⟩

theorem toDirection_walk (a b : Int) (w : World) :
    Calls Try.prog 35 #[.agg #[.int .i64 a, .int .i64 b]] w fun e w' => e = .returned (.agg #[.int .i64 a, .int .i64 b]) ∧ Below w.heap.size w w' := by
  go_enter Try.func35, Try.ntmps35
  go_wp2_with fail
  refine bodyPost_ret (v := .agg #[.int .i64 a, .int .i64 b]) (by simp [results, Try.results35, go_sem]) rfl ⟨rfl, ?_⟩
  exact (((Below.refl _ _).alloc (Nat.le_refl _) _).alloc (by simp) _).alloc (by simp; omega) _

def lineF (cols a b y x : Int) : Int := a * y - b * x + max 0 (b * (cols - 1))
theorem mul_bd {a y A Y : Int} (ha : 0 ≤ a) (ha' : a ≤ A) (hy : 0 ≤ y) (hy' : y ≤ Y) : 0 ≤ a * y ∧ a * y ≤ A * Y := by
  refine ⟨Int.mul_nonneg ha hy, ?_⟩
  exact Int.mul_le_mul ha' hy' hy (by omega)
theorem mul_bd2 {b x B X : Int} (hb : -B ≤ b) (hb' : b ≤ B) (hx : 0 ≤ x) (hx' : x ≤ X) (hB : 0 ≤ B) : -(B * X) ≤ b * x ∧ b * x ≤ B * X := by
  have h1 : b * x ≤ B * x := Int.mul_le_mul_of_nonneg_right hb' hx
  have h2 : B * x ≤ B * X := Int.mul_le_mul_of_nonneg_left hx' hB
  have h3 : -B * x ≤ b * x := Int.mul_le_mul_of_nonneg_right hb hx
  rw [Int.neg_mul] at h3
  omega

set_option maxHeartbeats 400000 in
theorem impl_lineOf (cols a b y x : Int) (w : World) (h0 : 0 ≤ a) (h1 : a ≤ 3) (h2 : -3 ≤ b) (h3 : b ≤ 3) (h4 : 1 ≤ cols) (h5 : cols ≤ 5) (h6 : 0 ≤ y) (h7 : y ≤ 4) (h8 : 0 ≤ x) (h9 : x ≤ 4) :
    Calls Try.prog 107 #[.int .i64 cols, .agg #[.int .i64 a, .int .i64 b], .int .i64 y, .int .i64 x] w fun e w' => e = .returned (.int .i64 (lineF cols a b y x)) ∧ Below w.heap.size w w' := by
  obtain ⟨p1, p2⟩ := mul_bd h0 h1 h6 h7
  obtain ⟨p3, p4⟩ := mul_bd2 h2 h3 h8 h9 (by omega)
  obtain ⟨p5, p6⟩ := mul_bd2 (x := cols - 1) (X := 4) h2 h3 (by omega) (by omega) (by omega)
  go_enter Try.func107, Try.ntmps107
  go_wp2_with fail
  all_goals
    go_ret
    exact ⟨ret_int (by unfold lineF; omega), (Below.refl _ _).alloc (Nat.le_refl _) _⟩

set_option maxHeartbeats 400000 in
theorem spec_l03Least (cols a b : Int) (w : World) (h2 : -3 ≤ b) (h3 : b ≤ 3) (h4 : 1 ≤ cols) (h5 : cols ≤ 5) :
    Calls Try.prog 104 #[.int .i64 cols, .agg #[.int .i64 a, .int .i64 b]] w fun e w' => e = .returned (.int .i64 (min 0 (-b * (cols - 1)))) ∧ Below w.heap.size w w' := by
  obtain ⟨p5, p6⟩ := mul_bd2 (b := -b) (B := 3) (x := cols - 1) (X := 4) (by omega) (by omega) (by omega) (by omega) (by omega)
  go_enter Try.func104, Try.ntmps104
  go_wp2_with fail
  all_goals
    go_ret
    exact ⟨ret_int (by omega), (Below.refl _ _).alloc (Nat.le_refl _) _⟩

def sizeOk (rows cols : Int) : Bool := inB rows 1 5 && inB cols 1 5
theorem spec_l03Size (rows cols : Int) (w : World) :
    Calls Try.prog 103 #[.int .i64 rows, .int .i64 cols] w fun e w' => e = .returned (.bool (sizeOk rows cols)) ∧ w = w' := by
  by_cases h1 : inB rows 1 5 = true
  rotate_left
  · have h1 : inB rows 1 5 = false := by simpa using h1
    go_enter Try.func103, Try.ntmps103
    go_wp2_with (go_at_call 99; refine (spec_l01In _ _ _ _).mono ?_; rintro e w' ⟨rfl, rfl⟩)
    go_ret
    exact ⟨ret_bool (by simp [sizeOk, h1]), rfl⟩
  · go_enter Try.func103, Try.ntmps103
    go_wp2_with (go_at_call 99; refine (spec_l01In _ _ _ _).mono ?_; rintro e w' ⟨rfl, rfl⟩)
    go_ret
    exact ⟨ret_bool (by simp [sizeOk, h1]), rfl⟩

def linesF (rows cols a b : Int) : Bool := sizeOk rows cols && dirOk a b
theorem impl_linesOk (rows cols a b : Int) (w : World) :
    Calls Try.prog 118 #[.int .i64 rows, .int .i64 cols, .agg #[.int .i64 a, .int .i64 b]] w fun e w' => e = .returned (.bool (linesF rows cols a b)) ∧ Below w.heap.size w w' := by
  by_cases h1 : inB rows 1 5 = true
  rotate_left
  · have h1 : inB rows 1 5 = false := by simpa using h1
    go_enter Try.func118, Try.ntmps118
    go_wp2_with (go_at_call 105; refine (impl_within _ _ _ _).mono ?_; rintro e w' ⟨rfl, rfl⟩)
    go_ret
    exact ⟨ret_bool (by simp [linesF, sizeOk, h1]), (Below.refl _ _).alloc (Nat.le_refl _) _⟩
  by_cases h2 : inB cols 1 5 = true
  rotate_left
  · have h2 : inB cols 1 5 = false := by simpa using h2
    go_enter Try.func118, Try.ntmps118
    go_wp2_with (go_at_call 105; refine (impl_within _ _ _ _).mono ?_; rintro e w' ⟨rfl, rfl⟩)
    go_ret
    exact ⟨ret_bool (by simp [linesF, sizeOk, h2]), (Below.refl _ _).alloc (Nat.le_refl _) _⟩
  · go_enter Try.func118, Try.ntmps118
    go_wp2_with (first
      | (go_at_call 105; refine (impl_within _ _ _ _).mono ?_; rintro e w' ⟨rfl, rfl⟩)
      | (go_at_call 75; refine (impl_DirectionOk _ _ _).mono ?_; rintro e w1 ⟨rfl, b1⟩))
    go_ret
    exact ⟨ret_bool (by simp [linesF, sizeOk, h1, h2]), ((Below.refl _ _).alloc (Nat.le_refl _) _).trans (b1.mono (by simp))⟩

def lineR (rows cols a b y x : Int) : Int := if linesF rows cols a b = true ∧ inB y 0 (rows - 1) = true ∧ inB x 0 (cols - 1) = true then lineF cols a b y x else -1
theorem linesF_in {rows cols a b : Int} (h : linesF rows cols a b = true) : 1 ≤ rows ∧ rows ≤ 5 ∧ 1 ≤ cols ∧ cols ≤ 5 ∧ 0 ≤ a ∧ a ≤ 3 ∧ -3 ≤ b ∧ b ≤ 3 := by
  simp [linesF, sizeOk] at h
  obtain ⟨⟨h1, h2⟩, h3⟩ := h
  have := inB_true h1; have := inB_true h2; have := dirOk_in h3
  omega
theorem lineR_no1 {rows cols a b y x : Int} (h : linesF rows cols a b = false) : lineR rows cols a b y x = -1 := by simp [lineR, h]
theorem lineR_no2 {rows cols a b y x : Int} (h : inB y 0 (rows - 1) = false) : lineR rows cols a b y x = -1 := by simp [lineR, h]
theorem lineR_no3 {rows cols a b y x : Int} (h : inB x 0 (cols - 1) = false) : lineR rows cols a b y x = -1 := by simp [lineR, h]
theorem lineR_yes {rows cols a b y x : Int} (h1 : linesF rows cols a b = true) (h2 : inB y 0 (rows - 1) = true) (h3 : inB x 0 (cols - 1) = true) : lineR rows cols a b y x = lineF cols a b y x := by simp [lineR, h1, h2, h3]

theorem min_max_line (b cols : Int) : min 0 (-b * (cols - 1)) = - max 0 (b * (cols - 1)) := by
  rw [Int.neg_mul]; omega

set_option maxHeartbeats 1000000 in
theorem spec_LineOf (rows cols a b y x : Int) (w : World) :
    Calls Try.prog 74 #[.int .i64 rows, .int .i64 cols, .agg #[.int .i64 a, .int .i64 b], .int .i64 y, .int .i64 x] w fun e w' => e = .returned (.int .i64 (lineR rows cols a b y x)) ∧ Below w.heap.size w w' := by
  by_cases h1 : sizeOk rows cols = true
  rotate_left
  · have h1 : sizeOk rows cols = false := by simpa using h1
    have GD := Lib.hid (lineR_no1 (y := y) (x := x) (show linesF rows cols a b = false by simp [linesF, h1]))
    go_enter Try.func74, Try.ntmps74
    go_wp2_with (go_at_call 103; refine (spec_l03Size _ _ _).mono ?_; rintro e w' ⟨rfl, rfl⟩)
    go_ret
    exact ⟨ret_int GD.out.symm, (Below.refl _ _).alloc (Nat.le_refl _) _⟩
  by_cases h1b : dirOk a b = true
  rotate_left
  · have h1b : dirOk a b = false := by simpa using h1b
    have GD := Lib.hid (lineR_no1 (y := y) (x := x) (show linesF rows cols a b = false by simp [linesF, h1b]))
    go_enter Try.func74, Try.ntmps74
    go_wp2_with (first
      | (go_at_call 103; refine (spec_l03Size _ _ _).mono ?_; rintro e w' ⟨rfl, rfl⟩)
      | (go_at_call 72; refine (spec_DirectionOk _ _ _).mono ?_; rintro e w1 ⟨rfl, b1⟩))
    go_ret
    exact ⟨ret_int GD.out.symm, ((Below.refl _ _).alloc (Nat.le_refl _) _).trans (b1.mono (by simp))⟩
  have hl : linesF rows cols a b = true := by simp [linesF, h1, h1b]
  have HL := Lib.hid hl
  obtain ⟨l1, l2, l3, l4, l5, l6, l7, l8⟩ := linesF_in hl
  clear hl
  by_cases h2 : inB y 0 (rows - 1) = true
  rotate_left
  · have h2 : inB y 0 (rows - 1) = false := by simpa using h2
    go_enter Try.func74, Try.ntmps74
    go_wp2_with (first
      | (go_at_call 103; refine (spec_l03Size _ _ _).mono ?_; rintro e w' ⟨rfl, rfl⟩)
      | (go_at_call 72; refine (spec_DirectionOk _ _ _).mono ?_; rintro e w1 ⟨rfl, b1⟩)
      | (go_at_call 99; refine (spec_l01In _ _ _ _).mono ?_; rintro e w' ⟨rfl, rfl⟩))
    go_ret
    exact ⟨ret_int (lineR_no2 h2).symm, ((Below.refl _ _).alloc (Nat.le_refl _) _).trans (b1.mono (by simp))⟩
  by_cases h3 : inB x 0 (cols - 1) = true
  rotate_left
  · have h3 : inB x 0 (cols - 1) = false := by simpa using h3
    go_enter Try.func74, Try.ntmps74
    go_wp2_with (first
      | (go_at_call 103; refine (spec_l03Size _ _ _).mono ?_; rintro e w' ⟨rfl, rfl⟩)
      | (go_at_call 72; refine (spec_DirectionOk _ _ _).mono ?_; rintro e w1 ⟨rfl, b1⟩)
      | (go_at_call 99; refine (spec_l01In _ _ _ _).mono ?_; rintro e w' ⟨rfl, rfl⟩))
    go_ret
    exact ⟨ret_int (lineR_no3 h3).symm, ((Below.refl _ _).alloc (Nat.le_refl _) _).trans (b1.mono (by simp))⟩
  obtain ⟨l9, l10⟩ := inB_true h2
  obtain ⟨l11, l12⟩ := inB_true h3
  have GD := Lib.hid (lineR_yes HL.out h2 h3)
  obtain ⟨p1, p2⟩ := mul_bd (Y := 4) l5 l6 l9 (by omega)
  obtain ⟨p3, p4⟩ := mul_bd2 (X := 4) l7 l8 l11 (by omega) (by omega)
  obtain ⟨p5, p6⟩ := mul_bd2 (x := cols - 1) (X := 4) l7 l8 (by omega) (by omega) (by omega)
  obtain ⟨m, hm⟩ : ∃ m, m = min 0 (-b * (cols - 1)) := ⟨_, rfl⟩
  have q1 : -12 ≤ m := by rw [hm, min_max_line]; omega
  have q2 : m ≤ 0 := by rw [hm]; omega
  have HM := Lib.hid hm; clear hm
  go_enter Try.func74, Try.ntmps74
  go_wp2_with (first
      | (go_at_call 103; refine (spec_l03Size _ _ _).mono ?_; rintro e w' ⟨rfl, rfl⟩)
      | (go_at_call 72; refine (spec_DirectionOk _ _ _).mono ?_; rintro e w1 ⟨rfl, b1⟩; obtain ⟨c1, f1⟩ := bcell b1)
      | (go_at_call 99; refine (spec_l01In _ _ _ _).mono ?_; rintro e w' ⟨rfl, rfl⟩))
  have z1 : w.heap.size < w1.heap.size := by have := b1.size; simp at this; omega
  have e0 : w1.cell? ⟨w.heap.size, 0, none⟩ = some (.int .i64 a) := by rw [c1 _ _ (by simp)]; simp
  have e1 : w1.cell? ⟨w.heap.size, 1, none⟩ = some (.int .i64 b) := by rw [c1 _ _ (by simp)]; simp
  go_region_held3 (fun w' => w'.cell? ⟨w.heap.size, 0, none⟩ = some (.int .i64 a) ∧ w'.cell? ⟨w.heap.size, 1, none⟩ = some (.int .i64 b)) (go_keep)
      (first
        | (go_at_call 104
           refine (spec_l03Least _ _ _ _ l7 l8 l3 l4).mono ?_
           rw [← HM.out]
           rintro e w2 ⟨rfl, b2⟩
           have k0 : w2.cell? ⟨w.heap.size, 0, none⟩ = some (.int .i64 a) := ((bcell b2).1 _ _ z1).trans e0
           have k1 : w2.cell? ⟨w.heap.size, 1, none⟩ = some (.int .i64 b) := ((bcell b2).1 _ _ z1).trans e1))
  go_wp2
  go_ret
  refine ⟨ret_int ?_, (((Below.refl _ _).alloc (Nat.le_refl _) _).trans (b1.mono (by simp))).drew.trans (b2.mono (Nat.le_of_lt z1))⟩
  rw [IntWalk.i64_in (a * y) (by omega), IntWalk.i64_in (b * x) (by omega), IntWalk.i64_in (a * y - b * x) (by omega), IntWalk.i64_in _ (by omega), GD.out, HM.out, min_max_line]
  unfold lineF; omega


def countF (rows cols a b : Int) : Int := if linesF rows cols a b = true then max (lineF cols a b (rows - 1) 0) (lineF cols a b (rows - 1) (cols - 1)) + 1 else -1

def CntP (cols a b N y x : Int) : Prop :=
  (∀ y' x', 0 ≤ y' → 0 ≤ x' → x' < cols → (y' < y ∨ (y' = y ∧ x' < x)) → 1 + lineF cols a b y' x' ≤ N) ∧
  (N = 0 ∨ ∃ y' x', 0 ≤ y' ∧ 0 ≤ x' ∧ x' < cols ∧ (y' < y ∨ (y' = y ∧ x' < x)) ∧ N = 1 + lineF cols a b y' x')
theorem cnt_start (cols a b : Int) : CntP cols a b 0 0 0 := ⟨fun _ _ _ _ _ h => by omega, .inl rfl⟩
theorem cnt_step {cols a b N y x : Int} (h : CntP cols a b N y x) (hy : 0 ≤ y) (hx : 0 ≤ x) (hx' : x < cols) : CntP cols a b (max N (1 + lineF cols a b y x)) y (x + 1) := by
  refine ⟨fun y' x' h1 h2 h3 h4 => ?_, ?_⟩
  · by_cases e : y' = y ∧ x' = x
    · obtain ⟨rfl, rfl⟩ := e; omega
    · have := h.1 y' x' h1 h2 h3 (by omega); omega
  · by_cases hm : N ≤ 1 + lineF cols a b y x
    · exact .inr ⟨y, x, hy, hx, hx', by omega, by omega⟩
    · rw [show max N (1 + lineF cols a b y x) = N by omega]
      rcases h.2 with h0 | ⟨y', x', q1, q2, q3, q4, q5⟩
      · exact .inl h0
      · exact .inr ⟨y', x', q1, q2, q3, by omega, q5⟩
theorem cnt_line {cols a b N y x : Int} (h : CntP cols a b N y x) (hx' : ¬ x < cols) : CntP cols a b N (y + 1) 0 := by
  refine ⟨fun y' x' h1 h2 h3 h4 => h.1 y' x' h1 h2 h3 (by omega), ?_⟩
  rcases h.2 with h0 | ⟨y', x', q1, q2, q3, q4, q5⟩
  · exact .inl h0
  · exact .inr ⟨y', x', q1, q2, q3, by omega, q5⟩
theorem lineF_bd {cols a b y x : Int} (l3 : 1 ≤ cols) (l4 : cols ≤ 5) (l5 : 0 ≤ a) (l6 : a ≤ 3) (l7 : -3 ≤ b) (l8 : b ≤ 3) (hy : 0 ≤ y) (hy' : y ≤ 4) (hx : 0 ≤ x) (hx' : x < cols) : 0 ≤ lineF cols a b y x ∧ lineF cols a b y x ≤ 24 := by
  obtain ⟨p1, p2⟩ := mul_bd l5 l6 hy hy'
  obtain ⟨p3, p4⟩ := mul_bd2 (X := 4) l7 l8 hx (by omega) (by omega)
  obtain ⟨p5, p6⟩ := mul_bd2 (x := cols - 1) (X := 4) l7 l8 (by omega) (by omega) (by omega)
  have h1 : b * x ≤ max 0 (b * (cols - 1)) := by
    by_cases hb : 0 ≤ b
    · have : b * x ≤ b * (cols - 1) := Int.mul_le_mul_of_nonneg_left (by omega) hb
      omega
    · have : b * x ≤ 0 := Int.mul_nonpos_of_nonpos_of_nonneg (by omega) hx
      omega
  have h2 : - b * x ≤ 12 - max 0 (b * (cols - 1)) + max 0 (b * (cols - 1)) := by rw [Int.neg_mul]; omega
  have h3 : -(b * x) + max 0 (b * (cols - 1)) ≤ 12 := by
    by_cases hb : 0 ≤ b
    · have : 0 ≤ b * x := Int.mul_nonneg hb hx
      have : b * (cols - 1) ≤ 12 := by omega
      omega
    · have : b * (cols - 1) ≤ 0 := Int.mul_nonpos_of_nonpos_of_nonneg (by omega) (by omega)
      omega
  unfold lineF; omega
theorem lineF_top {cols a b y x Y : Int} (l5 : 0 ≤ a) (hy' : y ≤ Y) (hx : 0 ≤ x) (hx' : x < cols) : lineF cols a b y x ≤ max (lineF cols a b Y 0) (lineF cols a b Y (cols - 1)) := by
  have h1 : a * y ≤ a * Y := Int.mul_le_mul_of_nonneg_left hy' l5
  unfold lineF
  by_cases hb : 0 ≤ b
  · have : 0 ≤ b * x := Int.mul_nonneg hb hx
    rw [Int.mul_zero]; omega
  · have : b * (cols - 1) ≤ b * x := by
      have := Int.mul_le_mul_of_nonpos_left (a := b) (b := cols - 1) (c := x) (by omega) (by omega)
      omega
    omega
theorem cnt_end {rows cols a b N : Int} (hl : linesF rows cols a b = true) (h : CntP cols a b N rows 0) : N = countF rows cols a b := by
  obtain ⟨l1, l2, l3, l4, l5, l6, l7, l8⟩ := linesF_in hl
  have hm1 := h.1 (rows - 1) 0 (by omega) (by omega) (by omega) (by omega)
  have hm2 := h.1 (rows - 1) (cols - 1) (by omega) (by omega) (by omega) (by omega)
  unfold countF
  rw [if_pos hl]
  rcases h.2 with h0 | ⟨y', x', q1, q2, q3, q4, q5⟩
  · have := (lineF_bd (y := rows - 1) (x := 0) l3 l4 l5 l6 l7 l8 (by omega) (by omega) (by omega) (by omega)).1
    omega
  · have := lineF_top (cols := cols) (a := a) (b := b) (y := y') (x := x') (Y := rows - 1) l5 (by omega) q2 q3
    omega
theorem countF_no {rows cols a b : Int} (h : linesF rows cols a b = false) : countF rows cols a b = -1 := by simp [countF, h]

set_option maxHeartbeats 1000000 in
theorem impl_CountLines (rows cols a b : Int) (w : World) :
    Calls Try.prog 106 #[.int .i64 rows, .int .i64 cols, .agg #[.int .i64 a, .int .i64 b]] w fun e w' => e = .returned (.int .i64 (countF rows cols a b)) ∧ Below w.heap.size w w' := by
  by_cases h1 : linesF rows cols a b = true
  rotate_left
  · have h1 : linesF rows cols a b = false := by simpa using h1
    go_enter Try.func106, Try.ntmps106
    go_wp2_with (go_at_call 118; refine (impl_linesOk _ _ _ _ _).mono ?_; rintro e w1 ⟨rfl, b1⟩)
    go_ret
    exact ⟨ret_int (countF_no h1).symm, ((Below.refl _ _).alloc (Nat.le_refl _) _).trans (b1.mono (by simp))⟩
  obtain ⟨l1, l2, l3, l4, l5, l6, l7, l8⟩ := linesF_in h1
  have hf : countF rows cols a b = max (lineF cols a b (rows - 1) 0) (lineF cols a b (rows - 1) (cols - 1)) + 1 := by simp [countF, h1]
  obtain ⟨q1, q1'⟩ := lineF_bd (y := rows - 1) (x := 0) l3 l4 l5 l6 l7 l8 (by omega) (by omega) (by omega) (by omega)
  obtain ⟨q2, q2'⟩ := lineF_bd (y := rows - 1) (x := cols - 1) l3 l4 l5 l6 l7 l8 (by omega) (by omega) (by omega) (by omega)
  have HF := Lib.hid hf; clear hf
  have x1 : IntKind.i64.wrap (rows - 1) = rows - 1 := IntWalk.i64_in _ (by omega)
  have x2 : IntKind.i64.wrap (cols - 1) = cols - 1 := IntWalk.i64_in _ (by omega)
  go_enter Try.func106, Try.ntmps106
  go_wp2_with (go_at_call 118; refine (impl_linesOk _ _ _ _ _).mono ?_; rintro e w1 ⟨rfl, b1⟩; obtain ⟨c1, f1⟩ := bcell b1)
  have z1 : w.heap.size < w1.heap.size := by have := b1.size; simp at this; omega
  have e0 : w1.cell? ⟨w.heap.size, 0, none⟩ = some (.int .i64 a) := by rw [c1 _ _ (by simp)]; simp
  have e1 : w1.cell? ⟨w.heap.size, 1, none⟩ = some (.int .i64 b) := by rw [c1 _ _ (by simp)]; simp
  have B1 : Below w.heap.size w w1 := ((Below.refl _ _).alloc (Nat.le_refl _) _).trans (b1.mono (by simp))
  clear c1 f1 b1
  go_region_held3 (fun w' => w'.cell? ⟨w.heap.size, 0, none⟩ = some (.int .i64 a) ∧ w'.cell? ⟨w.heap.size, 1, none⟩ = some (.int .i64 b)) (go_keep)
      (first
        | (go_at_call 107
           refine (impl_lineOf _ _ _ _ _ _ l5 l6 l7 l8 l3 l4 (by omega) (by omega) (by omega) (by omega)).mono ?_
           rintro e w2 ⟨rfl, b2⟩
           have z2 : w.heap.size < w2.heap.size := by have := b2.size; (try simp at this); omega
           have k0 : w2.cell? ⟨w.heap.size, 0, none⟩ = some (.int .i64 a) := ((bcell b2).1 _ _ (by (try simp); omega)).trans (by first | exact e0 | assumption)
           have k1 : w2.cell? ⟨w.heap.size, 1, none⟩ = some (.int .i64 b) := ((bcell b2).1 _ _ (by (try simp); omega)).trans (by first | exact e1 | assumption)
           have B2 : Below w.heap.size w w2 := by
             refine Below.trans ?_ (b2.mono (by (try simp); omega))
             first | exact B1.drew | assumption))
  go_wp2
  all_goals
    go_ret
    refine ⟨ret_int ?_, B2⟩
    rw [IntWalk.i64_in _ (by omega), HF.out]
    omega

set_option maxHeartbeats 1000000 in
theorem spec_CountLines (rows cols a b : Int) (w : World) :
    Calls Try.prog 73 #[.int .i64 rows, .int .i64 cols, .agg #[.int .i64 a, .int .i64 b]] w fun e w' => e = .returned (.int .i64 (countF rows cols a b)) ∧ Below w.heap.size w w' := by
  by_cases h1 : sizeOk rows cols = true
  rotate_left
  · have h1 : sizeOk rows cols = false := by simpa using h1
    have GD := Lib.hid (countF_no (show linesF rows cols a b = false by simp [linesF, h1]))
    go_enter Try.func73, Try.ntmps73
    go_wp2_with (go_at_call 103; refine (spec_l03Size _ _ _).mono ?_; rintro e w' ⟨rfl, rfl⟩)
    go_ret
    exact ⟨ret_int GD.out.symm, (Below.refl _ _).alloc (Nat.le_refl _) _⟩
  by_cases h1b : dirOk a b = true
  rotate_left
  · have h1b : dirOk a b = false := by simpa using h1b
    have GD := Lib.hid (countF_no (show linesF rows cols a b = false by simp [linesF, h1b]))
    go_enter Try.func73, Try.ntmps73
    go_wp2_with (first
      | (go_at_call 103; refine (spec_l03Size _ _ _).mono ?_; rintro e w' ⟨rfl, rfl⟩)
      | (go_at_call 72; refine (spec_DirectionOk _ _ _).mono ?_; rintro e w1 ⟨rfl, b1⟩))
    go_ret
    exact ⟨ret_int GD.out.symm, ((Below.refl _ _).alloc (Nat.le_refl _) _).trans (b1.mono (by simp))⟩
  have hl : linesF rows cols a b = true := by simp [linesF, h1, h1b]
  have HL := Lib.hid hl
  obtain ⟨l1, l2, l3, l4, l5, l6, l7, l8⟩ := linesF_in hl
  clear hl
  go_enter Try.func73, Try.ntmps73
  go_wp2_with (first
      | (go_at_call 103; refine (spec_l03Size _ _ _).mono ?_; rintro e w' ⟨rfl, rfl⟩)
      | (go_at_call 72; refine (spec_DirectionOk _ _ _).mono ?_; rintro e w1 ⟨rfl, b1⟩; obtain ⟨c1, f1⟩ := bcell b1))
  have z1 : w.heap.size < w1.heap.size := by have := b1.size; simp at this; omega
  have e0 : w1.cell? ⟨w.heap.size, 0, none⟩ = some (.int .i64 a) := by rw [c1 _ _ (by simp)]; simp
  have e1 : w1.cell? ⟨w.heap.size, 1, none⟩ = some (.int .i64 b) := by rw [c1 _ _ (by simp)]; simp
  have B1 : Below w.heap.size w w1 := ((Below.refl _ _).alloc (Nat.le_refl _) _).trans (b1.mono (by simp))
  clear c1 f1 b1
  go_loopw [7, 8] (fun n y wr => ∃ N k : Int, 0 ≤ k ∧ k ≤ rows ∧ 0 ≤ N ∧ N ≤ 25 ∧ n = .int .i64 N ∧ y = .int .i64 k ∧ CntP cols a b N k 0 ∧ wr.cell? ⟨w.heap.size, 0, none⟩ = some (.int .i64 a) ∧ wr.cell? ⟨w.heap.size, 1, none⟩ = some (.int .i64 b) ∧ Below w.heap.size w wr ∧ w.heap.size < wr.heap.size)
    (fun _ y _ => (rows - intOf y).toNat)
  case atStart => exact ⟨0, 0, by omega, by omega, by omega, by omega, rfl, rfl, cnt_start _ _ _, e0, e1, B1, z1⟩
  case round =>
    obtain ⟨N, k, hk, hk', hN, hN', rfl, rfl, hP, g0, g1, gB, gz⟩ := hrel
    have HP := Lib.hid hP; clear hP
    clear e0 e1 B1 z1
    obtain ⟨wo, rfl⟩ : ∃ wo : World, wo = wr := ⟨_, rfl⟩
    by_cases hlt : k < rows
    · go_wp2_with fail
      go_loopw [7, 9] (fun n x wr => ∃ N j : Int, 0 ≤ j ∧ j ≤ cols ∧ 0 ≤ N ∧ N ≤ 25 ∧ n = .int .i64 N ∧ x = .int .i64 j ∧ CntP cols a b N k j ∧ wr.cell? ⟨w.heap.size, 0, none⟩ = some (.int .i64 a) ∧ wr.cell? ⟨w.heap.size, 1, none⟩ = some (.int .i64 b) ∧ Below w.heap.size w wr ∧ w.heap.size < wr.heap.size)
        (fun _ x _ => (cols - intOf x).toNat)
      case atStart => exact ⟨N, 0, by omega, by omega, hN, hN', rfl, rfl, HP.out, g0, g1, gB, gz⟩
      case round =>
        clear g0 g1 gB gz HP hN hN'
        obtain ⟨M, j, hj, hj', hM, hM', rfl, rfl, hP, g0, g1, gB, gz⟩ := hrel
        have HP := Lib.hid hP; clear hP
        by_cases hlt2 : j < cols
        · have GD := Lib.hid (lineR_yes (y := k) (x := j) HL.out (by simp [inB]; omega) (by simp [inB]; omega))
          obtain ⟨q1, q2⟩ := lineF_bd (cols := cols) (a := a) (b := b) (y := k) (x := j) l3 l4 l5 l6 l7 l8 hk (by omega) hj hlt2
          go_wp2_with (go_at_call 74; refine (spec_LineOf _ _ _ _ _ _ _).mono ?_; rw [GD.out]; rintro e w2 ⟨rfl, b2⟩)
          all_goals
            have k0 : w2.cell? ⟨w.heap.size, 0, none⟩ = some (.int .i64 a) := ((bcell b2).1 _ _ gz).trans g0
            have k1 : w2.cell? ⟨w.heap.size, 1, none⟩ = some (.int .i64 b) := ((bcell b2).1 _ _ gz).trans g1
            have z2 : w.heap.size < w2.heap.size := by have := b2.size; omega
            go_roundw
            case rel => exact ⟨max M (1 + lineF cols a b k j), j + 1, by omega, by omega, by omega, by omega, by first | rfl | (congr 1; omega), rfl, cnt_step HP.out hk hj hlt2, k0, k1, gB.trans (b2.mono (by omega)), z2⟩
            case measure => simp [intOf]; omega
        · go_wp2_with fail
          go_roundw
          case rel => exact ⟨M, k + 1, by omega, by omega, hM, hM', rfl, rfl, cnt_line HP.out hlt2, g0, g1, gB, gz⟩
          case measure => simp [intOf]; omega
    · go_wp2_with fail
      go_ret
      obtain rfl : k = rows := by omega
      exact ⟨ret_int (cnt_end HL.out HP.out), gB⟩

end Go.Proofs.Ytdgkiebgmhcmdaa
