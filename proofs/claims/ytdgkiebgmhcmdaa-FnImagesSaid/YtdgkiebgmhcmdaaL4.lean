/- Plain laws of images: turned, mirrored and inverted twice; counts; distances. No program in sight. -/
import Derived.Test.YtdgkiebgmhcmdaaW1
import Derived.Test.YtdgkiebgmhcmdaaW3
import Derived.Test.YtdgkiebgmhcmdaaW6
import Derived.Test.YtdgkiebgmhcmdaaW8
import Derived.Test.YtdgkiebgmhcmdaaW13
import Derived.Test.YtdgkiebgmhcmdaaW19
import Derived.Test.YtdgkiebgmhcmdaaR2
import Derived.Test.YtdgkiebgmhcmdaaL1
import Derived.Test.YtdgkiebgmhcmdaaPoke
namespace Go.Proofs.Ytdgkiebgmhcmdaa
set_option linter.unusedVariables false
set_option linter.unusedSimpArgs false

def sumN (n : Nat) (f : Nat → Int) : Int := ((List.range n).map f).sum
theorem sumN_zero (f : Nat → Int) : sumN 0 f = 0 := rfl
theorem sumN_succ (n : Nat) (f : Nat → Int) : sumN (n + 1) f = sumN n f + f n := by
  unfold sumN; rw [List.range_succ, List.map_append, List.sum_append]; simp
theorem sumN_head (n : Nat) (f : Nat → Int) : sumN (n + 1) f = f 0 + sumN n fun x => f (x + 1) := by
  unfold sumN; rw [List.range_succ_eq_map, List.map_cons, List.sum_cons, List.map_map]; rfl
theorem sumN_congr {n : Nat} {f g : Nat → Int} (h : ∀ x, x < n → f x = g x) : sumN n f = sumN n g := by
  unfold sumN; rw [List.map_congr_left fun x hx => h x (List.mem_range.1 hx)]
theorem sumN_add (f g : Nat → Int) : ∀ n, sumN n (fun x => f x + g x) = sumN n f + sumN n g
  | 0 => rfl
  | n + 1 => by rw [sumN_succ, sumN_succ, sumN_succ, sumN_add f g n]; omega
theorem sumN_const (c : Int) : ∀ n : Nat, sumN n (fun _ => c) = n * c
  | 0 => by simp [sumN_zero]
  | n + 1 => by rw [sumN_succ, sumN_const c n]; push_cast; rw [Int.add_mul, Int.one_mul]
theorem sumN_rev (f : Nat → Int) : ∀ n : Nat, sumN n (fun x => f (n - 1 - x)) = sumN n f
  | 0 => rfl
  | n + 1 => by
    have ih := sumN_rev f n
    rw [sumN_head, sumN_succ, ← ih]
    have : sumN n (fun x => f (n + 1 - 1 - (x + 1))) = sumN n fun x => f (n - 1 - x) := sumN_congr fun x hx => by congr 1; omega
    rw [this]
    simp only [Nat.add_sub_cancel, Nat.sub_zero]; omega
theorem sumN_swap (F : Nat → Nat → Int) (C : Nat) : ∀ R : Nat, sumN R (fun y => sumN C fun x => F y x) = sumN C fun x => sumN R fun y => F y x
  | 0 => by simp only [sumN_zero]; rw [sumN_const]; simp
  | R + 1 => by
    rw [sumN_succ, sumN_swap F C R, ← sumN_add]
    exact sumN_congr fun x _ => (sumN_succ R fun y => F y x).symm
theorem sumN_nonneg {f : Nat → Int} : ∀ {n : Nat}, (∀ x, x < n → 0 ≤ f x) → 0 ≤ sumN n f
  | 0, _ => by simp [sumN_zero]
  | n + 1, h => by
    have := sumN_nonneg (n := n) fun x hx => h x (by omega)
    have := h n (by omega)
    rw [sumN_succ]; omega
theorem sumN_pos {f : Nat → Int} : ∀ {n : Nat}, (∀ x, x < n → 0 ≤ f x) → sumN n f = 0 → ∀ x, x < n → f x = 0
  | 0, _, _ => fun x hx => by omega
  | n + 1, h, e => fun x hx => by
    have h1 := sumN_nonneg (n := n) fun x hx => h x (by omega)
    have h2 := h n (by omega)
    rw [sumN_succ] at e
    by_cases hxn : x = n
    · subst hxn; omega
    · exact sumN_pos (n := n) (fun x hx => h x (by omega)) (by omega) x (by omega)
theorem black_mk (R C : Nat) (F : Nat → Nat → Int) : blackF (mkG R C F) = sumN R fun y => sumN C fun x => F y x := by
  unfold blackF mkG sumN; rw [List.map_map]; rfl

section
variable {m b : List (List Int)} {R C : Nat}
theorem bits_len (h : Bits m R C) (h1 : 1 ≤ R) : m.length = R ∧ (hd m).length = C := ⟨h.1.1, bits_hd h h1⟩
theorem trans_eq (h : Bits m R C) (h1 : 1 ≤ R) (h2 : R ≤ 5) (h3 : 1 ≤ C) (h4 : C ≤ 5) : transR m = mkG C R (fun y x => cellN m x y) ∧ Bits (transR m) C R := by
  obtain ⟨e1, e2⟩ := bits_len h h1
  have e : transR m = mkG C R (fun y x => cellN m x y) := by rw [transR, ifImg_yes (bits_img h h1 h2 h3 h4), e1, e2]
  exact ⟨e, by rw [e]; exact bits_mk fun y x hy hx => h.2 x y hx hy⟩
theorem mirr_eq (h : Bits m R C) (h1 : 1 ≤ R) (h2 : R ≤ 5) (h3 : 1 ≤ C) (h4 : C ≤ 5) : mirrR m = mkG R C (fun y x => cellN m y (C - 1 - x)) ∧ Bits (mirrR m) R C := by
  obtain ⟨e1, e2⟩ := bits_len h h1
  have e : mirrR m = mkG R C (fun y x => cellN m y (C - 1 - x)) := by rw [mirrR, ifImg_yes (bits_img h h1 h2 h3 h4), e1, e2]
  exact ⟨e, by rw [e]; exact bits_mk fun y x hy hx => h.2 y _ hy (by omega)⟩
theorem inv_eq (h : Bits m R C) (h1 : 1 ≤ R) (h2 : R ≤ 5) (h3 : 1 ≤ C) (h4 : C ≤ 5) : invR m = mkG R C (fun y x => 1 - cellN m y x) ∧ Bits (invR m) R C := by
  obtain ⟨e1, e2⟩ := bits_len h h1
  have e : invR m = mkG R C (fun y x => 1 - cellN m y x) := by rw [invR, ifImg_yes (bits_img h h1 h2 h3 h4), e1, e2]
  exact ⟨e, by rw [e]; exact bits_mk fun y x hy hx => by have := h.2 y x hy hx; omega⟩
theorem trans_trans (h : Bits m R C) (h1 : 1 ≤ R) (h2 : R ≤ 5) (h3 : 1 ≤ C) (h4 : C ≤ 5) : transR (transR m) = m := by
  obtain ⟨e, hb⟩ := trans_eq h h1 h2 h3 h4
  obtain ⟨e2, _⟩ := trans_eq hb h3 h4 h1 h2
  rw [e2]
  refine shape_ext (shape_mk R C _) h.1 fun y x hy hx => ?_
  rw [cell_mk hy hx, e, cell_mk hx hy]
theorem mirr_mirr (h : Bits m R C) (h1 : 1 ≤ R) (h2 : R ≤ 5) (h3 : 1 ≤ C) (h4 : C ≤ 5) : mirrR (mirrR m) = m := by
  obtain ⟨e, hb⟩ := mirr_eq h h1 h2 h3 h4
  obtain ⟨e2, _⟩ := mirr_eq hb h1 h2 h3 h4
  rw [e2]
  refine shape_ext (shape_mk R C _) h.1 fun y x hy hx => ?_
  rw [cell_mk hy hx, e, cell_mk hy (by omega)]
  congr 1; omega
theorem inv_inv (h : Bits m R C) (h1 : 1 ≤ R) (h2 : R ≤ 5) (h3 : 1 ≤ C) (h4 : C ≤ 5) : invR (invR m) = m := by
  obtain ⟨e, hb⟩ := inv_eq h h1 h2 h3 h4
  obtain ⟨e2, _⟩ := inv_eq hb h1 h2 h3 h4
  rw [e2]
  refine shape_ext (shape_mk R C _) h.1 fun y x hy hx => ?_
  rw [cell_mk hy hx, e, cell_mk hy hx]; omega
theorem black_bits (h : Bits m R C) (h1 : 1 ≤ R) (h2 : R ≤ 5) (h3 : 1 ≤ C) (h4 : C ≤ 5) : blackR m = sumN R fun y => sumN C fun x => cellN m y x := by
  rw [blackR, if_pos (bits_img h h1 h2 h3 h4)]
  conv => lhs; rw [shape_eq h.1]
  exact black_mk R C _
theorem black_rng (h : Bits m R C) (h1 : 1 ≤ R) (h2 : R ≤ 5) (h3 : 1 ≤ C) (h4 : C ≤ 5) : 0 ≤ blackR m ∧ blackR m ≤ 25 := by
  have hi := bits_img h h1 h2 h3 h4
  have := black_bd hi m.length
  rw [List.take_length] at this
  have e := h.1.1
  rw [blackR, if_pos hi]
  omega
theorem black_trans (h : Bits m R C) (h1 : 1 ≤ R) (h2 : R ≤ 5) (h3 : 1 ≤ C) (h4 : C ≤ 5) : blackR (transR m) = blackR m := by
  obtain ⟨e, hb⟩ := trans_eq h h1 h2 h3 h4
  rw [black_bits hb h3 h4 h1 h2, black_bits h h1 h2 h3 h4, sumN_swap (fun y x => cellN m y x)]
  exact sumN_congr fun y hy => sumN_congr fun x hx => by rw [e, cell_mk hy hx]
theorem black_mirr (h : Bits m R C) (h1 : 1 ≤ R) (h2 : R ≤ 5) (h3 : 1 ≤ C) (h4 : C ≤ 5) : blackR (mirrR m) = blackR m := by
  obtain ⟨e, hb⟩ := mirr_eq h h1 h2 h3 h4
  rw [black_bits hb h1 h2 h3 h4, black_bits h h1 h2 h3 h4]
  refine sumN_congr fun y hy => ?_
  rw [← sumN_rev (fun x => cellN m y x) C]
  exact sumN_congr fun x hx => by rw [e, cell_mk hy hx]
theorem black_inv (h : Bits m R C) (h1 : 1 ≤ R) (h2 : R ≤ 5) (h3 : 1 ≤ C) (h4 : C ≤ 5) : blackR (invR m) = (R : Int) * C - blackR m := by
  obtain ⟨e, hb⟩ := inv_eq h h1 h2 h3 h4
  rw [black_bits hb h1 h2 h3 h4, black_bits h h1 h2 h3 h4]
  have q : (sumN R fun y => sumN C fun x => cellN (invR m) y x) + (sumN R fun y => sumN C fun x => cellN m y x) = R * C := by
    rw [← sumN_add, ← sumN_const]
    refine sumN_congr fun y hy => ?_
    rw [← sumN_add]
    have := sumN_const 1 C
    rw [Int.mul_one] at this
    rw [← this]
    exact sumN_congr fun x hx => by rw [e, cell_mk hy hx]; omega
  omega
theorem same_bits (h : Bits m R C) (k : Bits b R C) (h1 : 1 ≤ R) (h2 : R ≤ 5) (h3 : 1 ≤ C) (h4 : C ≤ 5) : sameF m b = true := by
  obtain ⟨e1, e2⟩ := bits_len h h1
  obtain ⟨e3, e4⟩ := bits_len k h1
  exact sameF_5 (bits_img h h1 h2 h3 h4) (bits_img k h1 h2 h3 h4) (by omega) (by omega)
theorem dist_bits (h : Bits m R C) (k : Bits b R C) (h1 : 1 ≤ R) (h2 : R ≤ 5) (h3 : 1 ≤ C) (h4 : C ≤ 5) : distR m b = sumN R fun y => sumN C fun x => if cellN m y x = cellN b y x then 0 else 1 := by
  obtain ⟨e1, e2⟩ := bits_len h h1
  rw [distR_yes (same_bits h k h1 h2 h3 h4), e1, e2]; rfl
theorem dist_rng (h : Bits m R C) (k : Bits b R C) (h1 : 1 ≤ R) (h2 : R ≤ 5) (h3 : 1 ≤ C) (h4 : C ≤ 5) : 0 ≤ distR m b ∧ distR m b ≤ 25 := by
  obtain ⟨e1, e2⟩ := bits_len h h1
  rw [distR_yes (same_bits h k h1 h2 h3 h4), e1, e2]
  have := dAll_bd m b C h4 R
  omega
theorem dist_symm (h : Bits m R C) (k : Bits b R C) (h1 : 1 ≤ R) (h2 : R ≤ 5) (h3 : 1 ≤ C) (h4 : C ≤ 5) : distR b m = distR m b := by
  rw [dist_bits h k h1 h2 h3 h4, dist_bits k h h1 h2 h3 h4]
  exact sumN_congr fun y _ => sumN_congr fun x _ => by simp only [eq_comm]
theorem dist_zero (h : Bits m R C) (k : Bits b R C) (h1 : 1 ≤ R) (h2 : R ≤ 5) (h3 : 1 ≤ C) (h4 : C ≤ 5) : distR m b = 0 ↔ m = b := by
  rw [dist_bits h k h1 h2 h3 h4]
  constructor
  · intro e
    refine shape_ext h.1 k.1 fun y x hy hx => ?_
    have q1 := sumN_pos (fun y _ => sumN_nonneg fun x _ => by split <;> omega) e y hy
    have q2 := sumN_pos (fun x _ => by split <;> omega) q1 x hx
    split at q2
    · assumption
    · cases q2
  · rintro rfl
    simp only [if_true]
    rw [sumN_congr (g := fun _ => (0 : Int)) fun y _ => by rw [sumN_const]; simp, sumN_const]; simp
theorem dist_inv (h : Bits m R C) (h1 : 1 ≤ R) (h2 : R ≤ 5) (h3 : 1 ≤ C) (h4 : C ≤ 5) : distR m (invR m) = (R : Int) * C := by
  obtain ⟨e, hb⟩ := inv_eq h h1 h2 h3 h4
  rw [dist_bits h hb h1 h2 h3 h4, ← sumN_const]
  refine sumN_congr fun y hy => ?_
  have := sumN_const 1 C
  rw [Int.mul_one] at this
  rw [← this]
  refine sumN_congr fun x hx => ?_
  rw [e, cell_mk hy hx, if_neg (by omega)]
theorem cell_trans (h : Bits m R C) (h1 : 1 ≤ R) (h2 : R ≤ 5) (h3 : 1 ≤ C) (h4 : C ≤ 5) : cellR (transR m) 0 ((R : Int) - 1) = cellN m (R - 1) 0 := by
  obtain ⟨e, hb⟩ := trans_eq h h1 h2 h3 h4
  obtain ⟨e1, e2⟩ := bits_len hb h3
  have hf : hasF (transR m) 0 ((R : Int) - 1) = true := by
    unfold hasF
    rw [bits_img hb h3 h4 h1 h2, e1, e2]
    simp [inB]; omega
  have q : ((R : Int) - 1).toNat = R - 1 := by omega
  rw [cellR, if_pos hf, e, q, Int.toNat_zero, cell_mk (by omega) (by omega)]
end
end Go.Proofs.Ytdgkiebgmhcmdaa
