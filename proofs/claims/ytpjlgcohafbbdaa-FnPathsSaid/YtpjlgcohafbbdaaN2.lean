/- Plain law: switches of images as a graph: neighbours are mutual, sums stay, and any two images with the same sums are joined by at most half as many switches as they differ in cells. No program in sight. -/
import Derived.Test.YtpjlgcohafbbdaaW3
import Derived.Test.YtpjlgcohafbbdaaW6
import Derived.Test.YtpjlgcohafbbdaaW8
import Derived.Test.YtpjlgcohafbbdaaW9
import Derived.Test.YtpjlgcohafbbdaaW21
import Derived.Test.YtpjlgcohafbbdaaW25
import Derived.Test.YtpjlgcohafbbdaaW30
import Derived.Test.YtpjlgcohafbbdaaPoke
import Derived.Test.YtpjlgcohafbbdaaR2
import Derived.Test.YtpjlgcohafbbdaaN1
namespace Go.Proofs.Ytpjlgcohafbbdaa
set_option linter.unusedVariables false
set_option linter.unusedSimpArgs false

abbrev Img := List (List Int)
/-! ### Sums -/
def sumN : Nat → (Nat → Int) → Int
  | 0, _ => 0
  | n + 1, f => sumN n f + f n
theorem sumN_congr {f g : Nat → Int} : ∀ n, (∀ x, x < n → f x = g x) → sumN n f = sumN n g
  | 0, _ => rfl
  | n + 1, h => by rw [sumN, sumN, sumN_congr n fun x hx => h x (by omega), h n (by omega)]
theorem sumN_one {f g : Nat → Int} (c : Nat) : ∀ n, c < n → (∀ x, x < n → x ≠ c → g x = f x) → sumN n g = sumN n f + (g c - f c)
  | 0, h, _ => by omega
  | n + 1, hc, h => by
    rw [sumN, sumN]
    by_cases e : c = n
    · subst e
      rw [sumN_congr c fun x hx => h x (by omega) (by omega)]; omega
    · rw [sumN_one c n (by omega) fun x hx hne => h x (by omega) hne, h n (by omega) (by omega)]; omega
theorem sumN_two {f g : Nat → Int} {c d n : Nat} (hc : c < n) (hd : d < n) (hne : c ≠ d) (h : ∀ x, x < n → x ≠ c → x ≠ d → g x = f x) : sumN n g = sumN n f + (g c - f c) + (g d - f d) := by
  have h1 := sumN_one (f := f) (g := fun x => if x = c then g c else f x) c n hc (fun x hx hx2 => by simp [hx2])
  have h2 := sumN_one (f := fun x => if x = c then g c else f x) (g := g) d n hd (fun x hx hx2 => by
    by_cases e : x = c
    · subst e; simp
    · simp [e, h x hx e hx2])
  have hdc : d ≠ c := fun e => hne e.symm
  simp [hdc] at h1 h2
  omega
theorem sumN_le {f g : Nat → Int} : ∀ n, (∀ x, x < n → f x ≤ g x) → sumN n f ≤ sumN n g
  | 0, _ => Int.le_refl _
  | n + 1, h => by have := sumN_le n fun x hx => h x (by omega); have := h n (by omega); rw [sumN, sumN]; omega
theorem sumN_lt {f g : Nat → Int} {c n : Nat} (hc : c < n) (h : ∀ x, x < n → f x ≤ g x) (hlt : f c < g c) : sumN n f < sumN n g := by
  have h1 := sumN_one (f := f) (g := fun x => if x = c then g c else f x) c n hc (fun x hx hx2 => by simp [hx2])
  have h2 := sumN_le (f := fun x => if x = c then g c else f x) (g := g) n (fun x hx => by
    by_cases e : x = c
    · subst e; simp
    · simp [e, h x hx])
  simp at h1
  omega
theorem sumN_nonneg {f : Nat → Int} : ∀ n, (∀ x, x < n → 0 ≤ f x) → 0 ≤ sumN n f
  | 0, _ => Int.le_refl _
  | n + 1, h => by have := sumN_nonneg n fun x hx => h x (by omega); have := h n (by omega); rw [sumN]; omega
/-- Where two rows have one sum and differ, one is above at one place and below at another. -/
theorem sumN_both {f g : Nat → Int} {n x : Nat} (h : sumN n f = sumN n g) (hx : x < n) (hne : f x ≠ g x) : (∃ c, c < n ∧ g c < f c) ∧ ∃ d, d < n ∧ f d < g d := by
  constructor
  · apply Classical.byContradiction
    intro hn
    have hle : ∀ c, c < n → f c ≤ g c := fun c hc => by
      rcases Int.lt_or_le (g c) (f c) with h1 | h1
      · exact absurd ⟨c, hc, h1⟩ hn
      · exact h1
    have := sumN_lt hx hle (by have := hle x hx; omega)
    omega
  · apply Classical.byContradiction
    intro hn
    have hle : ∀ c, c < n → g c ≤ f c := fun c hc => by
      rcases Int.lt_or_le (f c) (g c) with h1 | h1
      · exact absurd ⟨c, hc, h1⟩ hn
      · exact h1
    have := sumN_lt hx hle (by have := hle x hx; omega)
    omega

/-! ### A rectangle turned -/
def inRect (a b c d i j : Nat) : Prop := (i = a ∨ i = b) ∧ (j = c ∨ j = d)
instance (a b c d i j : Nat) : Decidable (inRect a b c d i j) := by unfold inRect; exact inferInstance
def turnM (g : Img) (R C a b c d : Nat) : Img := mkG R C fun i j => if inRect a b c d i j then 1 - cellN g i j else cellN g i j
theorem turn_cell {g : Img} {R C a b c d i j : Nat} (hi : i < R) (hj : j < C) : cellN (turnM g R C a b c d) i j = if inRect a b c d i j then 1 - cellN g i j else cellN g i j := cell_mk hi hj
theorem turn_bits {g : Img} {R C : Nat} (h : Bits g R C) (a b c d : Nat) : Bits (turnM g R C a b c d) R C := by
  refine ⟨shape_mk _ _ _, fun y x hy hx => ?_⟩
  rw [turn_cell hy hx]
  have := h.2 y x hy hx
  split <;> omega
theorem turn_swap (g : Img) (R C a b c d : Nat) : turnM g R C a b c d = turnM g R C b a c d := by
  unfold turnM inRect; congr 1; funext i j; simp only [or_comm (a := i = a)]
theorem turn_swap2 (g : Img) (R C a b c d : Nat) : turnM g R C a b c d = turnM g R C a b d c := by
  unfold turnM inRect; congr 1; funext i j; simp only [or_comm (a := j = c)]
theorem turn_turn {g : Img} {R C : Nat} (h : shape g R C) (a b c d : Nat) : turnM (turnM g R C a b c d) R C a b c d = g := by
  refine shape_ext (shape_mk _ _ _) h fun y x hy hx => ?_
  rw [turn_cell hy hx, turn_cell hy hx]
  split
  · rename_i hh; omega
  · rfl
/-- The rectangle's cells stand crosswise. -/
structure CrossM (g : Img) (R C a b c d : Nat) : Prop where
  a1 : a < R
  b1 : b < R
  c1 : c < C
  d1 : d < C
  ab : a ≠ b
  cd : c ≠ d
  e1 : cellN g a c = cellN g b d
  e2 : cellN g a d = cellN g b c
  ne : cellN g a c ≠ cellN g a d
theorem CrossM.swap {g : Img} {R C a b c d : Nat} (h : CrossM g R C a b c d) : CrossM g R C b a c d := ⟨h.b1, h.a1, h.c1, h.d1, fun e => h.ab e.symm, h.cd, h.e2.symm, h.e1.symm, fun e => h.ne (by rw [h.e1, h.e2, e])⟩
theorem CrossM.swap2 {g : Img} {R C a b c d : Nat} (h : CrossM g R C a b c d) : CrossM g R C a b d c := ⟨h.a1, h.b1, h.d1, h.c1, h.ab, fun e => h.cd e.symm, h.e2, h.e1, fun e => h.ne e.symm⟩
theorem CrossM.turned {g : Img} {R C a b c d : Nat} (h : CrossM g R C a b c d) : CrossM (turnM g R C a b c d) R C a b c d := by
  have t : ∀ i j, i < R → j < C → (i = a ∨ i = b) → (j = c ∨ j = d) → cellN (turnM g R C a b c d) i j = 1 - cellN g i j := fun i j hi hj h1 h2 => by rw [turn_cell hi hj, if_pos ⟨h1, h2⟩]
  refine ⟨h.a1, h.b1, h.c1, h.d1, h.ab, h.cd, ?_, ?_, ?_⟩
  · rw [t a c h.a1 h.c1 (.inl rfl) (.inl rfl), t b d h.b1 h.d1 (.inr rfl) (.inr rfl), h.e1]
  · rw [t a d h.a1 h.d1 (.inl rfl) (.inr rfl), t b c h.b1 h.c1 (.inr rfl) (.inl rfl), h.e2]
  · rw [t a c h.a1 h.c1 (.inl rfl) (.inl rfl), t a d h.a1 h.d1 (.inl rfl) (.inr rfl)]
    intro e; exact h.ne (by omega)
/-- What a cross knows of its four cells. -/
theorem CrossM.vals {g : Img} {R C a b c d : Nat} (h : CrossM g R C a b c d) (hb : Bits g R C) : cellN g a c + cellN g a d = 1 ∧ cellN g b c + cellN g b d = 1 ∧ cellN g a c + cellN g b c = 1 ∧ cellN g a d + cellN g b d = 1 := by
  have h1 := hb.2 a c h.a1 h.c1
  have h2 := hb.2 a d h.a1 h.d1
  have h3 := hb.2 b c h.b1 h.c1
  have h4 := hb.2 b d h.b1 h.d1
  have := h.e1; have := h.e2; have := h.ne
  omega

/-! ### Sums of lines stay -/
def rsN (g : Img) (C y : Nat) : Int := sumN C fun x => cellN g y x
def csN (g : Img) (R x : Nat) : Int := sumN R fun y => cellN g y x
def SameN (g h : Img) (R C : Nat) : Prop := (∀ y, y < R → rsN g C y = rsN h C y) ∧ ∀ x, x < C → csN g R x = csN h R x
theorem SameN.symm {g h : Img} {R C : Nat} (k : SameN g h R C) : SameN h g R C := ⟨fun y hy => (k.1 y hy).symm, fun x hx => (k.2 x hx).symm⟩
theorem SameN.trans {g h i : Img} {R C : Nat} (k : SameN g h R C) (l : SameN h i R C) : SameN g i R C := ⟨fun y hy => (k.1 y hy).trans (l.1 y hy), fun x hx => (k.2 x hx).trans (l.2 x hx)⟩
theorem turn_same {g : Img} {R C a b c d : Nat} (hb : Bits g R C) (h : CrossM g R C a b c d) : SameN (turnM g R C a b c d) g R C := by
  obtain ⟨v1, v2, v3, v4⟩ := h.vals hb
  have t : ∀ i j, i < R → j < C → cellN (turnM g R C a b c d) i j = if inRect a b c d i j then 1 - cellN g i j else cellN g i j := fun i j hi hj => turn_cell hi hj
  constructor
  · intro y hy
    unfold rsN
    by_cases hya : y = a ∨ y = b
    · rw [sumN_two (f := fun x => cellN g y x) h.c1 h.d1 h.cd (fun x hx n1 n2 => by
        rw [t y x hy hx, if_neg (fun hh => by rcases hh.2 with e | e <;> omega)])]
      rw [t y c hy h.c1, t y d hy h.d1, if_pos ⟨hya, .inl rfl⟩, if_pos ⟨hya, .inr rfl⟩]
      rcases hya with rfl | rfl <;> omega
    · exact sumN_congr _ fun x hx => by rw [t y x hy hx, if_neg (fun hh => hya hh.1)]
  · intro x hx
    unfold csN
    by_cases hxc : x = c ∨ x = d
    · rw [sumN_two (f := fun y => cellN g y x) h.a1 h.b1 h.ab (fun y hy n1 n2 => by
        rw [t y x hy hx, if_neg (fun hh => by rcases hh.1 with e | e <;> omega)])]
      rw [t a x h.a1 hx, t b x h.b1 hx, if_pos ⟨.inl rfl, hxc⟩, if_pos ⟨.inr rfl, hxc⟩]
      rcases hxc with rfl | rfl <;> omega
    · exact sumN_congr _ fun y hy => by rw [t y x hy hx, if_neg (fun hh => hxc hh.2)]

/-! ### How many cells differ -/
def dc (g h : Img) (y x : Nat) : Int := if cellN g y x = cellN h y x then 0 else 1
def dN (g h : Img) (R C : Nat) : Int := sumN R fun y => sumN C fun x => dc g h y x
theorem dc_symm (g h : Img) (y x : Nat) : dc g h y x = dc h g y x := by unfold dc; simp only [eq_comm]
theorem dN_symm (g h : Img) (R C : Nat) : dN g h R C = dN h g R C := by unfold dN; simp only [dc_symm g h]
theorem dN_nonneg (g h : Img) (R C : Nat) : 0 ≤ dN g h R C := sumN_nonneg _ fun y _ => sumN_nonneg _ fun x _ => by unfold dc; split <;> omega
theorem dN_zero {g h : Img} {R C : Nat} (hg : shape g R C) (hh : shape h R C) (e : dN g h R C = 0) : g = h := by
  refine shape_ext hg hh fun y x hy hx => ?_
  apply Classical.byContradiction
  intro hne
  have h0 : ∀ y x, 0 ≤ dc g h y x := fun y x => by unfold dc; split <;> omega
  have h1 : (0 : Int) < sumN C fun x => dc g h y x := by
    have := sumN_lt (f := fun _ => 0) (g := fun x => dc g h y x) hx (fun x _ => h0 y x) (by unfold dc; rw [if_neg hne]; decide)
    have h00 := sumN_nonneg (f := fun _ => 0) C fun _ _ => Int.le_refl _
    omega
  have h2 := sumN_lt (f := fun _ => 0) (g := fun y => sumN C fun x => dc g h y x) hy (fun y _ => sumN_nonneg _ fun x _ => h0 y x) h1
  have h00 := sumN_nonneg (f := fun _ => 0) R fun _ _ => Int.le_refl _
  unfold dN at e
  omega
/-- Turning a rectangle changes four cells' share. -/
theorem turn_dist {g h : Img} {R C a b c d : Nat} (k : CrossM g R C a b c d) : dN (turnM g R C a b c d) h R C = dN g h R C + (dc (turnM g R C a b c d) h a c - dc g h a c) + (dc (turnM g R C a b c d) h a d - dc g h a d) + (dc (turnM g R C a b c d) h b c - dc g h b c) + (dc (turnM g R C a b c d) h b d - dc g h b d) := by
  have off : ∀ i j, i < R → j < C → ¬ inRect a b c d i j → dc (turnM g R C a b c d) h i j = dc g h i j := fun i j hi hj hn => by unfold dc; rw [turn_cell hi hj, if_neg hn]
  have row : ∀ i, i < R → (sumN C fun x => dc (turnM g R C a b c d) h i x) = (sumN C fun x => dc g h i x) + (dc (turnM g R C a b c d) h i c - dc g h i c) + (dc (turnM g R C a b c d) h i d - dc g h i d) := fun i hi =>
    sumN_two (f := fun x => dc g h i x) (g := fun x => dc (turnM g R C a b c d) h i x) k.c1 k.d1 k.cd fun x hx n1 n2 => off i x hi hx fun hh => by rcases hh.2 with e | e <;> omega
  unfold dN
  rw [sumN_two (f := fun y => sumN C fun x => dc g h y x) (g := fun y => sumN C fun x => dc (turnM g R C a b c d) h y x) k.a1 k.b1 k.ab (fun y hy n1 n2 => sumN_congr _ fun x hx => off y x hy hx fun hh => by rcases hh.1 with e | e <;> omega)]
  rw [row a k.a1, row b k.b1]
  omega
/-- INTERCHANGE: two images with the same sums that differ: a rectangle of one of them, turned, brings them nearer by two cells at least. -/
theorem interchange {A B : Img} {R C : Nat} (hA : Bits A R C) (hB : Bits B R C) (hs : SameN A B R C) (hne : A ≠ B) :
    ∃ a b c d, (CrossM A R C a b c d ∧ dN (turnM A R C a b c d) B R C + 2 ≤ dN A B R C) ∨ (CrossM B R C a b c d ∧ dN A (turnM B R C a b c d) R C + 2 ≤ dN A B R C) := by
  obtain ⟨y, x, hy, hx, hd⟩ : ∃ y x, y < R ∧ x < C ∧ cellN A y x ≠ cellN B y x := by
    apply Classical.byContradiction
    intro hn
    exact hne (shape_ext hA.1 hB.1 fun y x hy hx => by
      apply Classical.byContradiction
      intro h; exact hn ⟨y, x, hy, hx, h⟩)
  obtain ⟨⟨c, hc, hc2⟩, ⟨d, hd1, hd2⟩⟩ := sumN_both (f := fun x => cellN A y x) (g := fun x => cellN B y x) (hs.1 y hy) hx hd
  have hcd : c ≠ d := by intro e; subst e; omega
  -- another row in which column c is below column d
  obtain ⟨z, hz, hz2⟩ : ∃ z, z < R ∧ cellN A z c - cellN B z c < cellN A z d - cellN B z d := by
    apply Classical.byContradiction
    intro hn
    have e1 := hs.2 c hc
    have e2 := hs.2 d hd1
    unfold csN at e1 e2
    have hsub : ∀ (f g : Nat → Int) (n : Nat), (sumN n fun i => f i - g i) = sumN n f - sumN n g := by
      intro f g n
      induction n with
      | zero => rfl
      | succ n ih => simp only [sumN, ih]; omega
    have hlt := sumN_lt (f := fun i => cellN A i d - cellN B i d) (g := fun i => cellN A i c - cellN B i c) hy (fun i hi => by
      rcases Int.lt_or_le (cellN A i c - cellN B i c) (cellN A i d - cellN B i d) with h1 | h1
      · exact absurd ⟨i, hi, h1⟩ hn
      · exact h1) (by omega)
    rw [hsub, hsub, e1, e2] at hlt
    omega
  have hyz : y ≠ z := by intro e; subst e; omega
  have a1 := hA.2 y c hy hc; have a2 := hA.2 y d hy hd1; have a3 := hA.2 z c hz hc; have a4 := hA.2 z d hz hd1
  have b1 := hB.2 y c hy hc; have b2 := hB.2 y d hy hd1; have b3 := hB.2 z c hz hc; have b4 := hB.2 z d hz hd1
  have turned : ∀ (g : Img) (i j : Nat), i < R → j < C → (i = y ∨ i = z) → (j = c ∨ j = d) → cellN (turnM g R C y z c d) i j = 1 - cellN g i j := fun g i j hi hj h1 h2 => by rw [turn_cell hi hj, if_pos ⟨h1, h2⟩]
  by_cases hcase : cellN A z c = 0 ∧ cellN A z d = 1
  · have k : CrossM A R C y z c d := ⟨hy, hz, hc, hd1, hyz, hcd, by omega, by omega, by omega⟩
    refine ⟨y, z, c, d, .inl ⟨k, ?_⟩⟩
    rw [turn_dist k]
    unfold dc
    rw [turned A y c hy hc (.inl rfl) (.inl rfl), turned A y d hy hd1 (.inl rfl) (.inr rfl), turned A z c hz hc (.inr rfl) (.inl rfl), turned A z d hz hd1 (.inr rfl) (.inr rfl)]
    repeat' split
    all_goals omega
  · have k : CrossM B R C y z c d := ⟨hy, hz, hc, hd1, hyz, hcd, by omega, by omega, by omega⟩
    refine ⟨y, z, c, d, .inr ⟨k, ?_⟩⟩
    rw [dN_symm A, dN_symm A, turn_dist k]
    unfold dc
    rw [turned B y c hy hc (.inl rfl) (.inl rfl), turned B y d hy hd1 (.inl rfl) (.inr rfl), turned B z c hz hc (.inr rfl) (.inl rfl), turned B z d hz hd1 (.inr rfl) (.inr rfl)]
    repeat' split
    all_goals omega
end Go.Proofs.Ytpjlgcohafbbdaa
