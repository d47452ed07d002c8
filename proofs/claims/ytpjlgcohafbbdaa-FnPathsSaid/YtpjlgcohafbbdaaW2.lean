/- Walks: DirectionOk, LineOf, CountLines. -/
import Derived.Test.YtpjlgcohafbbdaaProg
import Derived.Test.YtpjlgcohafbbdaaW1
import Derived.WalkKit
import Derived.WalkSpells
import Derived.WalkLawsBesides
import Derived.KernelRfl
import Derived.Lib.Hide
import Derived.Deep.RegionHeld3
namespace Go.Proofs.Ytpjlgcohafbbdaa
open Go.RowKit
set_option linter.unusedVariables false
set_option linter.unusedSimpArgs false

def gcdF (a b : Int) : Int := (Nat.gcd a.natAbs b.natAbs : Nat)
def dirOk (a b : Int) : Bool := inB a 0 3 && inB b (-3) 3 && decide (gcdF a b = 1) && (decide (0 < a) || decide (b = 1))

theorem gcd_step (x y : Int) (hx : 0 ≤ x) (hy : 0 ≤ y) : gcdF y (x % y) = gcdF x y := by
  obtain ⟨n, rfl⟩ := Int.eq_ofNat_of_zero_le hx
  obtain ⟨m, rfl⟩ := Int.eq_ofNat_of_zero_le hy
  unfold gcdF
  rw [← Int.natCast_emod]
  simp only [Int.natAbs_natCast]
  rw [Nat.gcd_comm n m, Nat.gcd_comm m (n % m), ← Nat.gcd_rec]
theorem gcd_end (x : Int) (hx : 0 ≤ x) : gcdF x 0 = x := by
  unfold gcdF; simp; omega
theorem gcd_neg1 (a b : Int) : gcdF (-a) b = gcdF a b := by unfold gcdF; simp
theorem gcd_neg2 (a b : Int) : gcdF a (-b) = gcdF a b := by unfold gcdF; simp

theorem dirOk_no1 {a b : Int} (h : inB a 0 3 = false) : dirOk a b = false := by simp [dirOk, h]
theorem dirOk_no2 {a b : Int} (h : inB b (-3) 3 = false) : dirOk a b = false := by simp [dirOk, h]
theorem inB_true {n lo hi : Int} (h : inB n lo hi = true) : lo ≤ n ∧ n ≤ hi := by simpa [inB] using h
theorem dirOk_no3 {b : Int} (h : b ≠ 1) : dirOk 0 b = false := by simp [dirOk, h]
theorem dirOk_in {a b : Int} (h : dirOk a b = true) : 0 ≤ a ∧ a ≤ 3 ∧ -3 ≤ b ∧ b ≤ 3 ∧ (a = 0 → b = 1) := by
  simp [dirOk, inB] at h; omega

/-- The 28 pairs. -/
theorem dir28 (a b : Int) (ha : 0 ≤ a) (ha' : a ≤ 3) (hb : -3 ≤ b) (hb' : b ≤ 3) (p : Int → Int → Bool) (h : ∀ i : Fin 4, ∀ j : Fin 7, p (i.val : Int) ((j.val : Int) - 3) = true) : p a b = true := by
  have := h ⟨a.toNat, by omega⟩ ⟨(b + 3).toNat, by omega⟩
  simp only [] at this
  rw [show ((a.toNat : Nat) : Int) = a from by omega, show (((b + 3).toNat : Nat) : Int) - 3 = b from by omega] at this
  exact this
theorem dirOk_div {a b n : Int} (ha : 0 ≤ a) (ha' : a ≤ 3) (hb : -3 ≤ b) (hb' : b ≤ 3) (hn : 2 ≤ n) (hn' : n ≤ 3) (h1 : a % n = 0) (h2 : b.tmod n = 0) : dirOk a b = false := by
  have hc : n = 2 ∨ n = 3 := by omega
  rcases hc with rfl | rfl
  · have := dir28 a b ha ha' hb hb' (fun a b => !(a % 2 == 0 && b.tmod 2 == 0) || !dirOk a b) (by decide)
    simpa [h1, h2] using this
  · have := dir28 a b ha ha' hb hb' (fun a b => !(a % 3 == 0 && b.tmod 3 == 0) || !dirOk a b) (by decide)
    simpa [h1, h2] using this
theorem dirOk_yes {a b : Int} (ha : 0 ≤ a) (ha' : a ≤ 3) (hb : -3 ≤ b) (hb' : b ≤ 3) (h0 : a = 0 → b = 1) (h : ∀ n : Int, 2 ≤ n → n < 4 → ¬ (a % n = 0 ∧ b.tmod n = 0)) : dirOk a b = true := by
  have h2 := h 2 (by omega) (by omega)
  have h3 := h 3 (by omega) (by omega)
  have := dir28 a b ha ha' hb hb' (fun a b => decide ((a % 2 = 0 ∧ b.tmod 2 = 0) ∨ (a % 3 = 0 ∧ b.tmod 3 = 0) ∨ (a = 0 ∧ b ≠ 1) ∨ dirOk a b = true)) (by decide)
  have := of_decide_eq_true this
  rcases this with g | g | ⟨g1, g2⟩ | g
  · exact absurd g h2
  · exact absurd g h3
  · exact absurd (h0 g1) g2
  · exact g

theorem dirOk_gcd {a b : Int} (h : gcdF a b ≠ 1) : dirOk a b = false := by simp [dirOk, h]
theorem dirOk_fin {a b : Int} (hA : inB a 0 3 = true) (hB : inB b (-3) 3 = true) (h : gcdF a b = 1) (hx : 0 < a ∨ b = 1) : dirOk a b = true := by
  simp [dirOk, hA, hB, h, hx]
theorem dirOk_end {a b : Int} (h1 : ¬ 0 < a) (hx : b ≠ 1) : dirOk a b = false := by
  simp [dirOk, hx, h1]

def lineF (cols a b y x : Int) : Int := a * y - b * x + max 0 (b * (cols - 1))
theorem mul_bd {a y A Y : Int} (ha : 0 ≤ a) (ha' : a ≤ A) (hy : 0 ≤ y) (hy' : y ≤ Y) : 0 ≤ a * y ∧ a * y ≤ A * Y := by
  refine ⟨Int.mul_nonneg ha hy, ?_⟩
  exact Int.mul_le_mul ha' hy' hy (by omega)
theorem mul_bd2 {b x B X : Int} (hb : -B ≤ b) (hb' : b ≤ B) (hx : 0 ≤ x) (hx' : x ≤ X) (hB : 0 ≤ B) : -(B * X) ≤ b * x ∧ b * x ≤ B * X := by
  have h1 : b * x ≤ B * x := Int.mul_le_mul_of_nonneg_right hb' hx
  have h2 : B * x ≤ B * X := Int.mul_le_mul_of_nonneg_left hx' hB
  have h3 : -B * x ≤ b * x := Int.mul_le_mul_of_nonneg_right hb hx
  rw [Int.neg_mul] at h3
  omega

def sizeOk (rows cols : Int) : Bool := inB rows 1 5 && inB cols 1 5
def linesF (rows cols a b : Int) : Bool := sizeOk rows cols && dirOk a b
def lineR (rows cols a b y x : Int) : Int := if linesF rows cols a b = true ∧ inB y 0 (rows - 1) = true ∧ inB x 0 (cols - 1) = true then lineF cols a b y x else -1
theorem linesF_in {rows cols a b : Int} (h : linesF rows cols a b = true) : 1 ≤ rows ∧ rows ≤ 5 ∧ 1 ≤ cols ∧ cols ≤ 5 ∧ 0 ≤ a ∧ a ≤ 3 ∧ -3 ≤ b ∧ b ≤ 3 := by
  simp [linesF, sizeOk] at h
  obtain ⟨⟨h1, h2⟩, h3⟩ := h
  have := inB_true h1; have := inB_true h2; have := dirOk_in h3
  omega
theorem lineR_no1 {rows cols a b y x : Int} (h : linesF rows cols a b = false) : lineR rows cols a b y x = -1 := by simp [lineR, h]
theorem lineR_no2 {rows cols a b y x : Int} (h : inB y 0 (rows - 1) = false) : lineR rows cols a b y x = -1 := by simp [lineR, h]
theorem lineR_no3 {rows cols a b y x : Int} (h : inB x 0 (cols - 1) = false) : lineR rows cols a b y x = -1 := by simp [lineR, h]
theorem lineR_yes {rows cols a b y x : Int} (h1 : linesF rows cols a b = true) (h2 : inB y 0 (rows - 1) = true) (h3 : inB x 0 (cols - 1) = true) : lineR rows cols a b y x = lineF cols a b y x := by simp [lineR, h1, h2, h3]

theorem min_max_line (b cols : Int) : min 0 (-b * (cols - 1)) = - max 0 (b * (cols - 1)) := by
  rw [Int.neg_mul]; omega

def countF (rows cols a b : Int) : Int := if linesF rows cols a b = true then max (lineF cols a b (rows - 1) 0) (lineF cols a b (rows - 1) (cols - 1)) + 1 else -1

def CntP (cols a b N y x : Int) : Prop :=
  (∀ y' x', 0 ≤ y' → 0 ≤ x' → x' < cols → (y' < y ∨ (y' = y ∧ x' < x)) → 1 + lineF cols a b y' x' ≤ N) ∧
  (N = 0 ∨ ∃ y' x', 0 ≤ y' ∧ 0 ≤ x' ∧ x' < cols ∧ (y' < y ∨ (y' = y ∧ x' < x)) ∧ N = 1 + lineF cols a b y' x')
theorem cnt_start (cols a b : Int) : CntP cols a b 0 0 0 := ⟨fun _ _ _ _ _ h => by omega, .inl rfl⟩
theorem cnt_step {cols a b N y x : Int} (h : CntP cols a b N y x) (hy : 0 ≤ y) (hx : 0 ≤ x) (hx' : x < cols) : CntP cols a b (max N (1 + lineF cols a b y x)) y (x + 1) := by
  refine ⟨fun y' x' h1 h2 h3 h4 => ?_, ?_⟩
  · by_cases e : y' = y ∧ x' = x
    · obtain ⟨rfl, rfl⟩ := e; omega
    · have := h.1 y' x' h1 h2 h3 (by omega); omega
  · by_cases hm : N ≤ 1 + lineF cols a b y x
    · exact .inr ⟨y, x, hy, hx, hx', by omega, by omega⟩
    · rw [show max N (1 + lineF cols a b y x) = N by omega]
      rcases h.2 with h0 | ⟨y', x', q1, q2, q3, q4, q5⟩
      · exact .inl h0
      · exact .inr ⟨y', x', q1, q2, q3, by omega, q5⟩
theorem cnt_line {cols a b N y x : Int} (h : CntP cols a b N y x) (hx' : ¬ x < cols) : CntP cols a b N (y + 1) 0 := by
  refine ⟨fun y' x' h1 h2 h3 h4 => h.1 y' x' h1 h2 h3 (by omega), ?_⟩
  rcases h.2 with h0 | ⟨y', x', q1, q2, q3, q4, q5⟩
  · exact .inl h0
  · exact .inr ⟨y', x', q1, q2, q3, by omega, q5⟩
theorem lineF_bd {cols a b y x : Int} (l3 : 1 ≤ cols) (l4 : cols ≤ 5) (l5 : 0 ≤ a) (l6 : a ≤ 3) (l7 : -3 ≤ b) (l8 : b ≤ 3) (hy : 0 ≤ y) (hy' : y ≤ 4) (hx : 0 ≤ x) (hx' : x < cols) : 0 ≤ lineF cols a b y x ∧ lineF cols a b y x ≤ 24 := by
  obtain ⟨p1, p2⟩ := mul_bd l5 l6 hy hy'
  obtain ⟨p3, p4⟩ := mul_bd2 (X := 4) l7 l8 hx (by omega) (by omega)
  obtain ⟨p5, p6⟩ := mul_bd2 (x := cols - 1) (X := 4) l7 l8 (by omega) (by omega) (by omega)
  have h1 : b * x ≤ max 0 (b * (cols - 1)) := by
    by_cases hb : 0 ≤ b
    · have : b * x ≤ b * (cols - 1) := Int.mul_le_mul_of_nonneg_left (by omega) hb
      omega
    · have : b * x ≤ 0 := Int.mul_nonpos_of_nonpos_of_nonneg (by omega) hx
      omega
  have h2 : - b * x ≤ 12 - max 0 (b * (cols - 1)) + max 0 (b * (cols - 1)) := by rw [Int.neg_mul]; omega
  have h3 : -(b * x) + max 0 (b * (cols - 1)) ≤ 12 := by
    by_cases hb : 0 ≤ b
    · have : 0 ≤ b * x := Int.mul_nonneg hb hx
      have : b * (cols - 1) ≤ 12 := by omega
      omega
    · have : b * (cols - 1) ≤ 0 := Int.mul_nonpos_of_nonpos_of_nonneg (by omega) (by omega)
      omega
  unfold lineF; omega
theorem lineF_top {cols a b y x Y : Int} (l5 : 0 ≤ a) (hy' : y ≤ Y) (hx : 0 ≤ x) (hx' : x < cols) : lineF cols a b y x ≤ max (lineF cols a b Y 0) (lineF cols a b Y (cols - 1)) := by
  have h1 : a * y ≤ a * Y := Int.mul_le_mul_of_nonneg_left hy' l5
  unfold lineF
  by_cases hb : 0 ≤ b
  · have : 0 ≤ b * x := Int.mul_nonneg hb hx
    rw [Int.mul_zero]; omega
  · have : b * (cols - 1) ≤ b * x := by
      have := Int.mul_le_mul_of_nonpos_left (a := b) (b := cols - 1) (c := x) (by omega) (by omega)
      omega
    omega
theorem cnt_end {rows cols a b N : Int} (hl : linesF rows cols a b = true) (h : CntP cols a b N rows 0) : N = countF rows cols a b := by
  obtain ⟨l1, l2, l3, l4, l5, l6, l7, l8⟩ := linesF_in hl
  have hm1 := h.1 (rows - 1) 0 (by omega) (by omega) (by omega) (by omega)
  have hm2 := h.1 (rows - 1) (cols - 1) (by omega) (by omega) (by omega) (by omega)
  unfold countF
  rw [if_pos hl]
  rcases h.2 with h0 | ⟨y', x', q1, q2, q3, q4, q5⟩
  · have := (lineF_bd (y := rows - 1) (x := 0) l3 l4 l5 l6 l7 l8 (by omega) (by omega) (by omega) (by omega)).1
    omega
  · have := lineF_top (cols := cols) (a := a) (b := b) (y := y') (x := x') (Y := rows - 1) l5 (by omega) q2 q3
    omega
theorem countF_no {rows cols a b : Int} (h : linesF rows cols a b = false) : countF rows cols a b = -1 := by simp [countF, h]

end Go.Proofs.Ytpjlgcohafbbdaa
