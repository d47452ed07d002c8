/- Plain laws of images: what the cells of an image are, sums, conjugates, staircases. No program in sight. -/
import Derived.Test.YtpjlgcohafbbdaaW1
import Derived.Test.YtpjlgcohafbbdaaW3
import Derived.Test.YtpjlgcohafbbdaaW4
import Derived.Test.YtpjlgcohafbbdaaW6
import Derived.Test.YtpjlgcohafbbdaaW8
import Derived.Test.YtpjlgcohafbbdaaW9
import Derived.Test.YtpjlgcohafbbdaaW12
import Derived.Test.YtpjlgcohafbbdaaW13
import Derived.Test.YtpjlgcohafbbdaaW16
import Derived.Test.YtpjlgcohafbbdaaW21
import Derived.Test.YtpjlgcohafbbdaaW30
import Derived.Test.YtpjlgcohafbbdaaR2
import Derived.Test.YtpjlgcohafbbdaaPoke
namespace Go.Proofs.Ytpjlgcohafbbdaa
set_option linter.unusedVariables false
set_option linter.unusedSimpArgs false

theorem bits_mk {R C : Nat} {F : Nat → Nat → Int} (h : ∀ y x, y < R → x < C → 0 ≤ F y x ∧ F y x ≤ 1) : Bits (mkG R C F) R C :=
  ⟨shape_mk R C F, fun y x hy hx => by rw [cell_mk hy hx]; exact h y x hy hx⟩
theorem shape_of_img {g : List (List Int)} (h : imgOk g = true) : shape g g.length (hd g).length :=
  ⟨rfl, fun y r hr => ((imgOk_in h).2.2.2.2 r (List.mem_of_getElem? hr)).1⟩
theorem cell_mem {g : List (List Int)} {R C y x : Nat} (h : shape g R C) (hy : y < R) (hx : x < C) : ∃ r ∈ g, cellN g y x ∈ r := by
  obtain ⟨r, h1, h2, h3⟩ := shape_cell h hy hx
  exact ⟨r, List.mem_of_getElem? h1, List.mem_of_getElem? h3⟩
theorem bits_of_img {g : List (List Int)} (h : imgOk g = true) : Bits g g.length (hd g).length := by
  refine ⟨shape_of_img h, fun y x hy hx => ?_⟩
  obtain ⟨r, hr, hc⟩ := cell_mem (shape_of_img h) hy hx
  exact ((imgOk_in h).2.2.2.2 r hr).2 _ hc
theorem shape_eq {g : List (List Int)} {R C : Nat} (h : shape g R C) : g = mkG R C (cellN g) :=
  shape_ext h (shape_mk R C _) fun y x hy hx => by rw [cell_mk hy hx]
theorem hd_mk {R C : Nat} {F : Nat → Nat → Int} (h : 1 ≤ R) : (hd (mkG R C F)).length = C := by
  have hs := shape_mk R C F
  exact hs.2 0 _ (hd_get (g := mkG R C F) (by rw [hs.1]; omega))
theorem len_mk {R C : Nat} {F : Nat → Nat → Int} : (mkG R C F).length = R := (shape_mk R C F).1

/-- How many of the first n numbers lie below m. -/
theorem range_below : ∀ (n m : Nat), m ≤ n → ((List.range n).filter fun (k : Nat) => decide (k < m)).length = m
  | 0, m, h => by simp at h ⊢; omega
  | n + 1, m, h => by
    rw [List.range_succ, List.filter_append, List.length_append]
    by_cases e : m = n + 1
    · subst e
      have ih := range_below n n (Nat.le_refl _)
      have : (List.range n).filter (fun k => decide (k < n + 1)) = (List.range n).filter fun k => decide (k < n) := by
        apply List.filter_congr
        intro x hx
        have := List.mem_range.1 hx
        simp; omega
      rw [this, ih]
      simp
    · rw [range_below n m (by omega)]
      have : ¬ n < m := by omega
      simp [this]
theorem sum_ind {α : Type} (p : α → Bool) : ∀ l : List α, (l.map fun x => if p x = true then (1 : Int) else 0).sum = ((l.filter p).length : Int)
  | [] => rfl
  | x :: l => by
    have ih := sum_ind p l
    rw [List.map_cons, List.sum_cons, ih, List.filter_cons]
    by_cases h : p x = true
    · simp [h]; omega
    · simp [h]
theorem getD_map_range (l : List Int) : (List.range l.length).map (fun y => l.getD y 0) = l := by
  refine List.ext_getElem? fun k => ?_
  by_cases hk : k < l.length
  · simp [hk]
  · rw [List.getElem?_eq_none (by simp; omega), List.getElem?_eq_none (by omega)]
theorem map_range_getD {α : Type} (l : List Int) (f : Int → α) : (List.range l.length).map (fun y => f (l.getD y 0)) = l.map f := by
  have h := congrArg (List.map f) (getD_map_range l)
  rw [List.map_map] at h
  exact h
/-- A list that falls: those above t are the first ones. -/
theorem fall_count : ∀ (q : List Int) (t : Int) (j : Nat) (z : Int), q.Pairwise (fun x y => y ≤ x) → q[j]? = some z → (j < (q.filter fun x => decide (t < x)).length ↔ t < z)
  | [], t, j, z, _, h => by simp at h
  | a :: q, t, j, z, hs, h => by
    obtain ⟨h1, h2⟩ := List.pairwise_cons.1 hs
    by_cases ha : t < a
    · rw [List.filter_cons, if_pos (by simpa using ha), List.length_cons]
      match j, h with
      | 0, h => simp at h; subst h; simp [ha]
      | j + 1, h =>
        have ih := fall_count q t j z h2 (by simpa using h)
        rw [← ih]; omega
    · have hz : z ≤ a := by
        match j, h with
        | 0, h => simp at h; omega
        | j + 1, h => exact h1 z (List.mem_of_getElem? (by simpa using h))
      have : (List.filter (fun x => decide (t < x)) (a :: q)) = [] := by
        rw [List.filter_eq_nil_iff]
        intro x hx
        rcases List.mem_cons.1 hx with rfl | hx
        · simpa using ha
        · have := h1 x hx
          simp; omega
      rw [this]
      simp; omega
theorem conj_perm {l m : List Int} (n : Nat) (h : l.Perm m) : conjF l n = conjF m n := by
  unfold conjF
  apply List.map_congr_left
  intro k _
  rw [(h.filter _).length_eq]
/-- The conjugate of the conjugate of a falling list is that list. -/
theorem conj_conj (q : List Int) (C : Nat) (hs : q.Pairwise (fun x y => y ≤ x)) (hb : ∀ x ∈ q, 0 ≤ x ∧ x ≤ C) : conjF (conjF q C) q.length = q := by
  refine List.ext_getElem? fun j => ?_
  by_cases hj : j < q.length
  rotate_left
  · rw [List.getElem?_eq_none (by rw [conjF_len]; omega), List.getElem?_eq_none (by omega)]
  obtain ⟨z, hz⟩ := get_of_lt q j hj
  have hzb := hb z (List.mem_of_getElem? hz)
  rw [hz]
  unfold conjF
  rw [List.getElem?_map, List.getElem?_range hj, Option.map_some, List.filter_map, List.length_map]
  congr 1
  have e : (List.range C).filter ((fun x => decide ((j : Int) < x)) ∘ fun (k : Nat) => ((q.filter fun x => decide ((k : Int) < x)).length : Int)) = (List.range C).filter fun k => decide (k < z.toNat) := by
    apply List.filter_congr
    intro k _
    have := fall_count q k j z hs hz
    simp only [Function.comp]
    rw [decide_eq_decide]
    omega
  rw [e, range_below C z.toNat (by omega)]
  omega
theorem incF_sum : ∀ (c : List Int) (k : Nat), k ≤ c.length → (incF c k).sum = c.sum + k
  | c, 0, _ => by rw [incF_zero]; simp
  | [], k + 1, h => by simp at h
  | x :: c, k + 1, h => by
    have ih := incF_sum c k (by simpa using h)
    unfold incF at ih ⊢
    simp only [List.take_succ_cons, List.drop_succ_cons, List.map_cons, List.cons_append, List.sum_cons]
    rw [ih]; push_cast; omega
theorem conj_sum (n : Nat) : ∀ (k : Nat) (l : List Int), l.length = k → (∀ x ∈ l, 0 ≤ x ∧ x ≤ n) → (conjF l n).sum = l.sum
  | 0, l, hk, _ => by
    have : l = [] := List.eq_nil_of_length_eq_zero hk
    subst this
    rw [conjF_nil]; simp
  | k + 1, l, hk, h => by
    rcases List.eq_nil_or_concat l with rfl | ⟨m, x, rfl⟩
    · simp at hk
    · have hm : m.length = k := by simpa using hk
      have hx := h x (by simp)
      have ih := conj_sum n k m hm (fun y hy => h y (by simp [hy]))
      rw [List.concat_eq_append, conjF_snoc m x n hx.1 hx.2, incF_sum _ _ (by rw [conjF_len]; omega), ih, sum_snoc]
      omega

theorem stF01 (l : List Int) (y x : Nat) : 0 ≤ stF l y x ∧ stF l y x ≤ 1 := by
  unfold stF; split <;> omega
theorem stairs_img {l : List Int} {n : Nat} (h : conjOk l n = true) (h1 : 1 ≤ l.length) : imgOk (stairsR l n) = true := by
  obtain ⟨a, b, c, d⟩ := conjOk_in h
  rw [stairs_yes h]
  exact bits_img (bits_mk fun y x _ _ => stF01 l y x) h1 c (by omega) (by omega)
theorem stairs_stair {l : List Int} {n : Nat} (h : conjOk l n = true) (h1 : 1 ≤ l.length) : stairR (stairsR l n) = true := by
  refine stair_yes (stairs_img h h1) ?_
  rw [stairs_yes h]
  intro r hr i hi x y hx hy
  simp only [mkG, List.mem_map, List.mem_range] at hr
  obtain ⟨k, hk, rfl⟩ := hr
  have i1 : i + 1 < n := by simpa using (List.getElem?_eq_some_iff.1 hy).1
  rw [List.getElem?_map, List.getElem?_range (by omega)] at hx
  rw [List.getElem?_map, List.getElem?_range i1] at hy
  simp only [Option.map_some] at hx hy
  injection hx with hx; injection hy with hy
  subst hx; subst hy
  unfold stF
  split <;> split <;> omega
theorem bar_sum (n : Nat) (z : Int) (h0 : 0 ≤ z) (h1 : z ≤ n) : ((List.range n).map fun (x : Nat) => if (x : Int) < z then (1 : Int) else 0).sum = z := by
  have e := sum_ind (fun (x : Nat) => decide (x < z.toNat)) (List.range n)
  rw [range_below n z.toNat (by omega)] at e
  have e2 : ((List.range n).map fun (x : Nat) => if (x : Int) < z then (1 : Int) else 0) = (List.range n).map fun (x : Nat) => if decide (x < z.toNat) = true then (1 : Int) else 0 := by
    apply List.map_congr_left
    intro x _
    by_cases h : (x : Int) < z
    · have : x < z.toNat := by omega
      simp [h, this]
    · have : ¬ x < z.toNat := by omega
      simp [h, this]
  rw [e2, e]; omega
theorem stairs_rows {l : List Int} {n : Nat} (h : conjOk l n = true) (h1 : 1 ≤ l.length) : rowSumsR (stairsR l n) = l := by
  obtain ⟨a, b, c, d⟩ := conjOk_in h
  rw [rowSumsR, if_pos (stairs_img h h1), stairs_yes h]
  simp only [mkG, List.map_map]
  have e : ∀ y ∈ List.range l.length, (List.sum ∘ fun y => (List.range n).map fun x => stF l y x) y = l.getD y 0 := by
    intro y hy
    have hy2 := List.mem_range.1 hy
    have hz := d (l.getD y 0) (by rw [List.getD_eq_getElem?_getD, List.getElem?_eq_getElem hy2]; exact List.getElem_mem hy2)
    exact bar_sum n _ hz.1 hz.2
  rw [List.map_congr_left e, getD_map_range]
theorem stairs_cols {l : List Int} {n : Nat} (h : conjOk l n = true) (h1 : 1 ≤ l.length) : rowSumsR (transR (stairsR l n)) = conjF l n := by
  obtain ⟨a, b, c, d⟩ := conjOk_in h
  have hi := stairs_img h h1
  rw [transR, ifImg_yes hi, stairs_yes h, hd_mk h1, len_mk]
  have hb : Bits (mkG n l.length fun y x => cellN (mkG l.length n (stF l)) x y) n l.length := bits_mk fun y x hy hx => by rw [cell_mk hx hy]; exact stF01 l x y
  rw [rowSumsR, if_pos (bits_img hb (by omega) (by omega) h1 c)]
  simp only [mkG, List.map_map]
  unfold conjF
  apply List.map_congr_left
  intro x hx
  have hx2 := List.mem_range.1 hx
  simp only [Function.comp]
  have e : (List.range l.length).map (fun y => cellN ((List.range l.length).map fun y => (List.range n).map fun x => stF l y x) y x) = (List.range l.length).map fun y => (fun z => if decide ((x : Int) < z) = true then (1 : Int) else 0) (l.getD y 0) := by
    apply List.map_congr_left
    intro y hy
    have := cell_mk (F := stF l) (List.mem_range.1 hy) hx2
    unfold mkG at this
    rw [this]
    simp [stF]
  rw [e, map_range_getD l (fun z => if decide ((x : Int) < z) = true then (1 : Int) else 0), sum_ind]

/-- No switch at all: the list of switches is empty. -/
theorem sw4_none {g : List (List Int)} (h : ∀ a b c d : Nat, swOk g a b c d = false) (a b c : Nat) (L : List Sw) : ∀ n, sw4 g a b c L n = L
  | 0 => rfl
  | n + 1 => by rw [sw4, if_neg (by rw [h]; simp), sw4_none h a b c L n]
theorem sw3_none {g : List (List Int)} (h : ∀ a b c d : Nat, swOk g a b c d = false) (C a b : Nat) (L : List Sw) : ∀ n, sw3 g C a b L n = L
  | 0 => rfl
  | n + 1 => by rw [sw3, sw4_none h, sw3_none h C a b L n]
theorem sw2_none {g : List (List Int)} (h : ∀ a b c d : Nat, swOk g a b c d = false) (C a : Nat) (L : List Sw) : ∀ n, sw2 g C a L n = L
  | 0 => rfl
  | n + 1 => by rw [sw2, sw3_none h, sw2_none h C a L n]
theorem sw1_none {g : List (List Int)} (h : ∀ a b c d : Nat, swOk g a b c d = false) (R C : Nat) : ∀ n, sw1 g R C n = []
  | 0 => rfl
  | n + 1 => by rw [sw1, sw2_none h, sw1_none h R C n]
theorem swsR_none {g : List (List Int)} (h : ∀ a b c d : Nat, swOk g a b c d = false) : swsR g = [] := by
  unfold swsR
  split
  · exact sw1_none h _ _ _
  · rfl
theorem stairs_unique {l : List Int} {n : Nat} (h : conjOk l n = true) (h1 : 1 ≤ l.length) : swsR (stairsR l n) = [] := by
  apply swsR_none
  intro a b c d
  cases hh : swOk (stairsR l n) a b c d
  · rfl
  · exfalso
    simp only [swOk, Bool.and_eq_true, decide_eq_true_eq] at hh
    obtain ⟨⟨⟨⟨⟨⟨p1, p2⟩, p3⟩, p4⟩, p5⟩, p6⟩, p7⟩ := hh
    obtain ⟨_, _, q1, _, q2⟩ := hasF_in p1
    obtain ⟨_, _, q3, _, q4⟩ := hasF_in p2
    rw [stairs_yes h] at p5 p6 p7 q1 q2 q3 q4
    rw [len_mk] at q1 q3
    rw [hd_mk h1] at q2 q4
    simp only [Int.toNat_natCast] at p5 p6 p7
    have a1 : a < l.length := by omega
    have b1 : b < l.length := by omega
    have c1 : c < n := by omega
    have d1 : d < n := by omega
    rw [cell_mk a1 c1, cell_mk b1 d1] at p5
    rw [cell_mk a1 d1, cell_mk b1 c1] at p6
    rw [cell_mk a1 c1, cell_mk a1 d1] at p7
    have p4' : c < d := by omega
    unfold stF at p5 p6 p7
    generalize l.getD a 0 = A at p5 p6 p7
    generalize l.getD b 0 = B at p5 p6 p7
    by_cases h1 : (c : Int) < A <;> by_cases h2 : (d : Int) < A <;> by_cases h3 : (c : Int) < B <;> by_cases h4 : (d : Int) < B
    all_goals
      simp only [h1, h2, h3, h4, if_true, if_false] at p5 p6 p7
      omega
end Go.Proofs.Ytpjlgcohafbbdaa
