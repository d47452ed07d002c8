/- Plain law: the neighbours of an image by its switches; any two images with the same sums are joined. No program in sight. -/
import Derived.Test.YtpjlgcohafbbdaaW3
import Derived.Test.YtpjlgcohafbbdaaW6
import Derived.Test.YtpjlgcohafbbdaaW8
import Derived.Test.YtpjlgcohafbbdaaW9
import Derived.Test.YtpjlgcohafbbdaaW21
import Derived.Test.YtpjlgcohafbbdaaW25
import Derived.Test.YtpjlgcohafbbdaaW30
import Derived.Test.YtpjlgcohafbbdaaPoke
import Derived.Test.YtpjlgcohafbbdaaR2
import Derived.Test.YtpjlgcohafbbdaaN1
import Derived.Test.YtpjlgcohafbbdaaN2
namespace Go.Proofs.Ytpjlgcohafbbdaa
set_option linter.unusedVariables false
set_option linter.unusedSimpArgs false

theorem flips_turn {g : Img} {R C a b c d : Nat} (h : Bits g R C) (k : CrossM g R C a b c d) (hab : a < b) (hcd : c < d) : flips g a b c d 4 = turnM g R C a b c d := by
  refine shape_ext (flips_shape h.1 4) (shape_mk _ _ _) fun i j hi hj => ?_
  rw [turn_cell hi hj]
  have e : flips g a b c d 4 = putN (putN (putN (putN g a c (1 - cellN g a c)) a d (1 - cellN g a d)) b c (1 - cellN g b c)) b d (1 - cellN g b d) := by simp [flips, pick2]
  have s1 := shape_put h.1 (y := a) c (1 - cellN g a c)
  have s2 := shape_put s1 (y := a) d (1 - cellN g a d)
  have s3 := shape_put s2 (y := b) c (1 - cellN g b c)
  rw [e, cell_put s3 k.b1 k.d1, cell_put s2 k.b1 k.c1, cell_put s1 k.a1 k.d1, cell_put h.1 k.a1 k.c1]
  unfold inRect
  by_cases h1 : i = a <;> by_cases h2 : i = b <;> by_cases h3 : j = c <;> by_cases h4 : j = d <;> simp [h1, h2, h3, h4] <;> omega
/-- A good image of the size R by C. -/
structure Good (g : Img) (R C : Nat) : Prop where
  bits : Bits g R C
  r1 : 1 ≤ R
  r5 : R ≤ 5
  c1 : 1 ≤ C
  c5 : C ≤ 5
theorem Good.img {g : Img} {R C : Nat} (h : Good g R C) : imgOk g = true := bits_img h.bits h.r1 h.r5 h.c1 h.c5
theorem Good.len {g : Img} {R C : Nat} (h : Good g R C) : g.length = R := h.bits.1.1
theorem Good.hd {g : Img} {R C : Nat} (h : Good g R C) : (hd g).length = C := bits_hd h.bits h.r1
theorem Good.turn {g : Img} {R C : Nat} (h : Good g R C) (a b c d : Nat) : Good (turnM g R C a b c d) R C := ⟨turn_bits h.bits a b c d, h.r1, h.r5, h.c1, h.c5⟩
theorem hasF_good {g : Img} {R C y x : Nat} (h : Good g R C) (hy : y < R) (hx : x < C) : hasF g y x = true := by
  have h1 := h.len; have h2 := h.hd
  unfold hasF
  rw [h.img, h1, h2]
  simp only [Bool.true_and, Bool.and_eq_true, inB, decide_eq_true_eq]
  omega
theorem swOk_cross {g : Img} {R C a b c d : Nat} (h : Good g R C) : swOk g (a : Int) (b : Int) (c : Int) (d : Int) = true ↔ (a < b ∧ c < d ∧ CrossM g R C a b c d) := by
  have h1 := h.len; have h2 := h.hd
  constructor
  · intro k
    simp only [swOk, Bool.and_eq_true, decide_eq_true_eq, Int.toNat_natCast] at k
    obtain ⟨⟨⟨⟨⟨⟨k1, k2⟩, k3⟩, k4⟩, k5⟩, k6⟩, k7⟩ := k
    have p1 := hasF_in k1; have p2 := hasF_in k2
    rw [h1, h2] at p1 p2
    exact ⟨by omega, by omega, by omega, by omega, by omega, by omega, by omega, by omega, k5, k6, k7⟩
  · rintro ⟨k1, k2, k⟩
    simp only [swOk, Bool.and_eq_true, decide_eq_true_eq, Int.toNat_natCast]
    exact ⟨⟨⟨⟨⟨⟨hasF_good h k.a1 k.c1, hasF_good h k.b1 k.d1⟩, by omega⟩, by omega⟩, k.e1⟩, k.e2⟩, k.ne⟩
theorem swR_turn {g : Img} {R C a b c d : Nat} (h : Good g R C) (hab : a < b) (hcd : c < d) (k : CrossM g R C a b c d) : swR g (a : Int) (b : Int) (c : Int) (d : Int) = turnM g R C a b c d := by
  rw [swR_yes ((swOk_cross h).2 ⟨hab, hcd, k⟩), flips_turn h.bits k hab hcd]

/-! ### The list of switches -/
theorem mem_sw4 {g : Img} {a b c : Nat} {L : List Sw} {s : Sw} : ∀ n, s ∈ sw4 g a b c L n ↔ s ∈ L ∨ ∃ d : Nat, c < d ∧ d < c + 1 + n ∧ swOk g (a : Int) (b : Int) (c : Int) (d : Int) = true ∧ s = ((a : Int), (b : Int), (c : Int), (d : Int))
  | 0 => by
    simp only [sw4]
    constructor
    · exact .inl
    · rintro (h | ⟨d, h1, h2, _⟩)
      · exact h
      · omega
  | n + 1 => by
    rw [sw4]
    split
    · rename_i hh
      rw [List.mem_append, mem_sw4 n, List.mem_singleton]
      constructor
      · rintro ((h | ⟨d, h1, h2, h3, h4⟩) | h)
        · exact .inl h
        · exact .inr ⟨d, h1, by omega, h3, h4⟩
        · exact .inr ⟨c + 1 + n, by omega, by omega, hh, h⟩
      · rintro (h | ⟨d, h1, h2, h3, h4⟩)
        · exact .inl (.inl h)
        · by_cases e : d = c + 1 + n
          · subst e; exact .inr h4
          · exact .inl (.inr ⟨d, h1, by omega, h3, h4⟩)
    · rename_i hh
      rw [mem_sw4 n]
      constructor
      · rintro (h | ⟨d, h1, h2, h3, h4⟩)
        · exact .inl h
        · exact .inr ⟨d, h1, by omega, h3, h4⟩
      · rintro (h | ⟨d, h1, h2, h3, h4⟩)
        · exact .inl h
        · by_cases e : d = c + 1 + n
          · subst e; exact absurd h3 hh
          · exact .inr ⟨d, h1, by omega, h3, h4⟩
theorem mem_sw3 {g : Img} {C a b : Nat} {L : List Sw} {s : Sw} : ∀ k, k ≤ C → (s ∈ sw3 g C a b L k ↔ s ∈ L ∨ ∃ c d : Nat, c < k ∧ c < d ∧ d < C ∧ swOk g (a : Int) (b : Int) (c : Int) (d : Int) = true ∧ s = ((a : Int), (b : Int), (c : Int), (d : Int)))
  | 0, _ => by
    simp only [sw3]
    constructor
    · exact .inl
    · rintro (h | ⟨c, d, h1, _⟩)
      · exact h
      · omega
  | k + 1, hk => by
    rw [sw3, mem_sw4, mem_sw3 k (by omega)]
    constructor
    · rintro ((h | ⟨c, d, h1, h2, h3, h4⟩) | ⟨d, h1, h2, h3⟩)
      · exact .inl h
      · exact .inr ⟨c, d, by omega, h2, h3, h4⟩
      · exact .inr ⟨k, d, by omega, h1, by omega, h3⟩
    · rintro (h | ⟨c, d, h1, h2, h3, h4⟩)
      · exact .inl (.inl h)
      · by_cases e : c = k
        · subst e; exact .inr ⟨d, h2, by omega, h4⟩
        · exact .inl (.inr ⟨c, d, by omega, h2, h3, h4⟩)
theorem mem_sw2 {g : Img} {C a : Nat} {L : List Sw} {s : Sw} : ∀ n, s ∈ sw2 g C a L n ↔ s ∈ L ∨ ∃ b c d : Nat, a < b ∧ b < a + 1 + n ∧ c < d ∧ d < C ∧ swOk g (a : Int) (b : Int) (c : Int) (d : Int) = true ∧ s = ((a : Int), (b : Int), (c : Int), (d : Int))
  | 0 => by
    simp only [sw2]
    constructor
    · exact .inl
    · rintro (h | ⟨b, c, d, h1, h2, _⟩)
      · exact h
      · omega
  | n + 1 => by
    rw [sw2, mem_sw3 C (Nat.le_refl _), mem_sw2 n]
    constructor
    · rintro ((h | ⟨b, c, d, h1, h2, h3⟩) | ⟨c, d, h1, h2, h3, h4⟩)
      · exact .inl h
      · exact .inr ⟨b, c, d, h1, by omega, h3⟩
      · exact .inr ⟨a + 1 + n, c, d, by omega, by omega, h2, h3, h4⟩
    · rintro (h | ⟨b, c, d, h1, h2, h3, h4, h5⟩)
      · exact .inl (.inl h)
      · by_cases e : b = a + 1 + n
        · subst e; exact .inr ⟨c, d, by omega, h3, h4, h5⟩
        · exact .inl (.inr ⟨b, c, d, h1, by omega, h3, h4, h5⟩)
theorem mem_sw1 {g : Img} {R C : Nat} {s : Sw} : ∀ k, k ≤ R → (s ∈ sw1 g R C k ↔ ∃ a b c d : Nat, a < k ∧ a < b ∧ b < R ∧ c < d ∧ d < C ∧ swOk g (a : Int) (b : Int) (c : Int) (d : Int) = true ∧ s = ((a : Int), (b : Int), (c : Int), (d : Int)))
  | 0, _ => by
    simp only [sw1]
    constructor
    · intro h; simp at h
    · rintro ⟨a, b, c, d, h1, _⟩; omega
  | k + 1, hk => by
    rw [sw1, mem_sw2, mem_sw1 k (by omega)]
    constructor
    · rintro (⟨a, b, c, d, h1, h2⟩ | ⟨b, c, d, h1, h2, h3⟩)
      · exact ⟨a, b, c, d, by omega, h2⟩
      · exact ⟨k, b, c, d, by omega, h1, by omega, h3⟩
    · rintro ⟨a, b, c, d, h1, h2, h3, h4⟩
      by_cases e : a = k
      · subst e; exact .inr ⟨b, c, d, h2, by omega, h4⟩
      · exact .inl ⟨a, b, c, d, by omega, h2, h3, h4⟩
/-- The neighbours of an image. -/
def nbI (g : Img) : List (Sw × Img) := (swsR g).map fun s => (s, swR g s.1 s.2.1 s.2.2.1 s.2.2.2)
theorem nb_iff {g : Img} {R C : Nat} (h : Good g R C) (e : Sw × Img) : e ∈ nbI g ↔ ∃ a b c d : Nat, a < b ∧ c < d ∧ CrossM g R C a b c d ∧ e = (((a : Int), (b : Int), (c : Int), (d : Int)), turnM g R C a b c d) := by
  unfold nbI
  rw [List.mem_map, sws_yes h.img, h.len, h.hd]
  constructor
  · rintro ⟨s, hs, rfl⟩
    obtain ⟨a, b, c, d, h1, h2, h3, h4, h5, h6, rfl⟩ := (mem_sw1 R (Nat.le_refl _)).1 hs
    obtain ⟨k1, k2, k3⟩ := (swOk_cross h).1 h6
    exact ⟨a, b, c, d, h2, h4, k3, by rw [swR_turn h k1 k2 k3]⟩
  · rintro ⟨a, b, c, d, h1, h2, k, rfl⟩
    refine ⟨_, (mem_sw1 R (Nat.le_refl _)).2 ⟨a, b, c, d, k.a1, h1, k.b1, h2, k.d1, (swOk_cross h).2 ⟨h1, h2, k⟩, rfl⟩, ?_⟩
    rw [swR_turn h h1 h2 k]
theorem nb_good {g : Img} {R C : Nat} (h : Good g R C) {e : Sw × Img} (he : e ∈ nbI g) : Good e.2 R C ∧ SameN e.2 g R C ∧ (e.1, g) ∈ nbI e.2 := by
  obtain ⟨a, b, c, d, h1, h2, k, rfl⟩ := (nb_iff h e).1 he
  refine ⟨h.turn a b c d, turn_same h.bits k, (nb_iff (h.turn a b c d) _).2 ⟨a, b, c, d, h1, h2, k.turned, ?_⟩⟩
  rw [turn_turn h.bits.1]
/-- A cross gives a neighbour, whatever the order of its lines. -/
theorem nb_cross {g : Img} {R C a b c d : Nat} (h : Good g R C) (k : CrossM g R C a b c d) : ∃ s : Sw, (s, turnM g R C a b c d) ∈ nbI g := by
  have hab := k.ab; have hcd := k.cd
  by_cases h1 : a < b
  · by_cases h2 : c < d
    · exact ⟨_, (nb_iff h _).2 ⟨a, b, c, d, h1, h2, k, rfl⟩⟩
    · exact ⟨_, (nb_iff h _).2 ⟨a, b, d, c, h1, by omega, k.swap2, by rw [turn_swap2]⟩⟩
  · by_cases h2 : c < d
    · exact ⟨_, (nb_iff h _).2 ⟨b, a, c, d, by omega, h2, k.swap, by rw [turn_swap]⟩⟩
    · exact ⟨_, (nb_iff h _).2 ⟨b, a, d, c, by omega, by omega, k.swap.swap2, by rw [turn_swap, turn_swap2]⟩⟩

/-! ### Reaching -/
/-- From g one comes to h in n switches. -/
inductive ReachI : Nat → Img → Img → Prop
  | here (g : Img) : ReachI 0 g g
  | step {n : Nat} {g h : Img} {e : Sw × Img} (he : e ∈ nbI g) (k : ReachI n e.2 h) : ReachI (n + 1) g h
theorem ReachI.snoc {n : Nat} {g h : Img} {e : Sw × Img} (k : ReachI n g h) : e ∈ nbI h → ReachI (n + 1) g e.2 := by
  induction k with
  | here g => intro he; exact .step he (.here _)
  | step he' _ ih => intro he; exact .step he' (ih he)
/-- ANY TWO IMAGES WITH THE SAME SUMS ARE JOINED, by at most half as many switches as cells differ. -/
theorem joined {R C : Nat} : ∀ (n : Nat) (A B : Img), Good A R C → Good B R C → SameN A B R C → dN A B R C ≤ n → ∃ k : Nat, 2 * (k : Int) ≤ dN A B R C ∧ ReachI k A B := by
  intro n
  induction n with
  | zero =>
    intro A B hA hB hs hd
    have h0 := dN_nonneg A B R C
    have e := dN_zero hA.bits.1 hB.bits.1 (by omega)
    subst e
    exact ⟨0, by simpa using h0, .here _⟩
  | succ n ih =>
    intro A B hA hB hs hd
    by_cases e : A = B
    · subst e
      exact ⟨0, by have := dN_nonneg A A R C; simpa using this, .here _⟩
    obtain ⟨a, b, c, d, ⟨k, hk⟩ | ⟨k, hk⟩⟩ := interchange hA.bits hB.bits hs e
    · obtain ⟨s, hs'⟩ := nb_cross hA k
      obtain ⟨m, h1, h2⟩ := ih _ B (hA.turn a b c d) hB ((turn_same hA.bits k).trans hs) (by omega)
      exact ⟨m + 1, by push_cast; omega, .step hs' h2⟩
    · obtain ⟨s, hs'⟩ := nb_cross hB k
      obtain ⟨m, h1, h2⟩ := ih A _ hA (hB.turn a b c d) (hs.trans (turn_same hB.bits k).symm) (by omega)
      exact ⟨m + 1, by push_cast; omega, h2.snoc (e := (s, B)) (nb_good hB hs').2.2⟩
/-- A switch changes four cells. -/
theorem reach_dist {R C : Nat} {n : Nat} {A B : Img} (k : ReachI n A B) : Good A R C → dN A B R C ≤ 4 * (n : Int) := by
  induction k with
  | here g =>
    intro _
    have : dN g g R C = 0 := by
      unfold dN dc
      have z : ∀ m, (sumN m fun _ => (0 : Int)) = 0 := by intro m; induction m with | zero => rfl | succ m ih => rw [sumN, ih]; rfl
      simp [z]
    rw [this]; decide
  | @step n' g' h' e he k ih =>
    intro hA
    have hg := (nb_good hA he).1
    have := ih hg
    obtain ⟨a, b, c, d, h1, h2, kk, rfl⟩ := (nb_iff hA _).1 he
    have ht := turn_dist (h := h') kk
    rw [ht] at this
    unfold dc at this
    push_cast
    repeat' split at this
    all_goals omega
section
variable {t : Img} {S : Img → Prop} {D : Img → Nat} (F : FarB nbI t S D)
include F
theorem far_reach {n : Nat} {g : Img} (k : ReachI n g t) : S g → D g ≤ n := by
  induction k with
  | here g => intro _; rw [F.zero]; exact Nat.le_refl _
  | step he _ ih =>
    intro hg
    obtain ⟨q, hq⟩ := List.mem_iff_getElem?.1 he
    obtain ⟨l1, l2⟩ := F.lip _ q _ hg hq
    have := ih F l1
    omega
theorem reach_in {n : Nat} {g h : Img} (k : ReachI n g h) : S g → S h := by
  induction k with
  | here g => exact id
  | step he _ ih =>
    intro hg
    obtain ⟨q, hq⟩ := List.mem_iff_getElem?.1 he
    exact ih (F.lip _ q _ hg hq).1
end
end Go.Proofs.Ytpjlgcohafbbdaa
