/- Plain law: the greatest left sums first. The order of the columns (greatest left first, then the leftmost), the stable insertion sort that makes it, the row that it fills. No program in sight. -/
import Derived.Test.YtdgkiebgmhcmdaaW3
import Derived.Sort.LotA
import Derived.Sort.WalkA
import Derived.Sort.Lot0
namespace Go.Proofs.Ytdgkiebgmhcmdaa
open Go.Sort
set_option linter.unusedVariables false
set_option linter.unusedSimpArgs false

def lv (left : List Int) (x : Nat) : Int := left.getD x 0
/-- Column x comes before column y. -/
def ltB (left : List Int) (x y : Nat) : Bool := decide (lv left y < lv left x ∨ (lv left y = lv left x ∧ x < y))
theorem ltB_iff {left : List Int} {x y : Nat} : ltB left x y = true ↔ lv left y < lv left x ∨ (lv left y = lv left x ∧ x < y) := by simp [ltB]
theorem ltB_not {left : List Int} {x y : Nat} : ltB left x y = false ↔ ¬ (lv left y < lv left x ∨ (lv left y = lv left x ∧ x < y)) := by simp only [ltB, decide_eq_false_iff_not]
theorem ltB_tot {left : List Int} {x y : Nat} (h : x ≠ y) : ltB left x y = true ∨ ltB left y x = true := by rw [ltB_iff, ltB_iff]; omega
theorem ltB_asym {left : List Int} {x y : Nat} (h : ltB left x y = true) : ltB left y x = false := by rw [ltB_iff] at h; rw [ltB_not]; omega
def qOf (left : List Int) : List Nat := (List.range left.length).mergeSort fun x y => !ltB left y x
/-- The columns in order. -/
structure IsQ (left : List Int) (q : List Nat) : Prop where
  perm : q.Perm (List.range left.length)
  sorted : q.Pairwise fun x y => ltB left x y = true
theorem q_isQ (left : List Int) : IsQ left (qOf left) := by
  have hp : (qOf left).Perm (List.range left.length) := List.mergeSort_perm _ _
  refine ⟨hp, ?_⟩
  have h := List.pairwise_mergeSort (le := fun x y => !ltB left y x) (by
    intro x y z h1 h2
    simp only [Bool.not_eq_true', ltB_not] at h1 h2 ⊢
    omega) (by
    intro x y
    simp only [Bool.or_eq_true, Bool.not_eq_true', ltB_not]
    omega) (List.range left.length)
  have hn : (qOf left).Nodup := hp.symm.nodup List.nodup_range
  unfold qOf at hn ⊢
  refine (List.pairwise_and_iff.2 ⟨h, hn⟩).imp ?_
  intro x y ⟨h1, h2⟩
  rcases ltB_tot (left := left) h2 with h3 | h3
  · exact h3
  · simp [h3] at h1
theorem isQ_eq {left : List Int} {p q : List Nat} (hp : IsQ left p) (hq : IsQ left q) : p = q :=
  List.Perm.eq_of_pairwise (fun a b _ _ h1 h2 => by have := ltB_asym h1; rw [this] at h2; cases h2) hp.sorted hq.sorted (hp.perm.trans hq.perm.symm)
theorem q_len (left : List Int) : (qOf left).length = left.length := by rw [(q_isQ left).perm.length_eq, List.length_range]
theorem q_nodup (left : List Int) : (qOf left).Nodup := (q_isQ left).perm.symm.nodup List.nodup_range
theorem q_mem {left : List Int} {x : Nat} : x ∈ qOf left ↔ x < left.length := by rw [(q_isQ left).perm.mem_iff, List.mem_range]
theorem q_lt {left : List Int} {i x : Nat} (h : (qOf left)[i]? = some x) : x < left.length := q_mem.1 (List.mem_of_getElem? h)
/-- The element at place i is none of those before. -/
theorem q_fresh {left : List Int} {i x : Nat} (h : (qOf left)[i]? = some x) : x ∉ (qOf left).take i := by
  obtain ⟨hi, rfl⟩ := List.getElem?_eq_some_iff.1 h
  intro hm
  obtain ⟨j, hj, e⟩ := List.getElem_of_mem hm
  rw [List.length_take] at hj
  rw [List.getElem_take] at e
  exact (List.pairwise_iff_getElem.1 (q_nodup left)) j i (by omega) hi (by omega) e
/-- The place i holds the first, in the order, of those that are not before it. -/
theorem q_first {left : List Int} {i x y : Nat} (h : (qOf left)[i]? = some x) (hy : y < left.length) (hn : y ∉ (qOf left).take i) (hne : y ≠ x) : ltB left x y = true := by
  obtain ⟨hi, e⟩ := List.getElem?_eq_some_iff.1 h
  have hm : y ∈ qOf left := q_mem.2 hy
  obtain ⟨j, hj, ej⟩ := List.getElem_of_mem hm
  have hij : i < j := by
    rcases Nat.lt_trichotomy j i with h1 | h1 | h1
    · exact absurd (List.mem_of_getElem? (i := j) (by rw [List.getElem?_take, if_pos h1, List.getElem?_eq_getElem hj, ej])) hn
    · subst h1; exact absurd (ej.symm.trans e) hne
    · exact h1
  have := List.pairwise_iff_getElem.1 (q_isQ left).sorted i j hi hj hij
  rw [e, ej] at this
  exact this

/-- 1 in the first n columns of the order. -/
def mk01 (left : List Int) (n : Nat) (x : Nat) : Int := if x ∈ (qOf left).take n then 1 else 0
def fillR (left : List Int) (n : Nat) : List Int := (List.range left.length).map fun x => mk01 left n x
def restR (left : List Int) (n : Nat) : List Int := (List.range left.length).map fun x => lv left x - mk01 left n x
theorem fill_len (left : List Int) (n : Nat) : (fillR left n).length = left.length := by simp [fillR]
theorem rest_len (left : List Int) (n : Nat) : (restR left n).length = left.length := by simp [restR]
theorem fill_get {left : List Int} {n x : Nat} (h : x < left.length) : (fillR left n)[x]? = some (mk01 left n x) := by simp [fillR, h]
theorem rest_get {left : List Int} {n x : Nat} (h : x < left.length) : (restR left n)[x]? = some (lv left x - mk01 left n x) := by simp [restR, h]
theorem fill_zero (left : List Int) : fillR left 0 = List.replicate left.length 0 := by
  refine List.ext_getElem? fun x => ?_
  by_cases h : x < left.length
  · rw [fill_get h]; simp [mk01, h]
  · rw [List.getElem?_eq_none (by rw [fill_len]; omega), List.getElem?_eq_none (by simp; omega)]
theorem rest_zero (left : List Int) : restR left 0 = left := by
  refine List.ext_getElem? fun x => ?_
  by_cases h : x < left.length
  · rw [rest_get h]; simp [mk01, lv, h]
  · rw [List.getElem?_eq_none (by rw [rest_len]; omega), List.getElem?_eq_none (by omega)]
theorem take_q_snoc {left : List Int} {i x : Nat} (h : (qOf left)[i]? = some x) : (qOf left).take (i + 1) = (qOf left).take i ++ [x] := by
  rw [List.take_add_one, h]; rfl
theorem mk01_step {left : List Int} {i x : Nat} (h : (qOf left)[i]? = some x) (y : Nat) : mk01 left (i + 1) y = if y = x then 1 else mk01 left i y := by
  unfold mk01
  rw [take_q_snoc h]
  by_cases e : y = x
  · simp [e]
  · simp [e]
theorem fillB_step {left : List Int} {i x : Nat} (h : (qOf left)[i]? = some x) : (fillR left i).set x 1 = fillR left (i + 1) := by
  refine List.ext_getElem? fun y => ?_
  by_cases hy : y < left.length
  · rw [fill_get hy, mk01_step h, List.getElem?_set, fill_len]
    by_cases e : y = x
    · subst e; simp [hy]
    · rw [if_neg (fun hh => e hh.symm), fill_get hy, if_neg e]
  · rw [List.getElem?_eq_none (by rw [List.length_set, fill_len]; omega), List.getElem?_eq_none (by rw [fill_len]; omega)]
theorem mk01_fresh {left : List Int} {i x : Nat} (h : (qOf left)[i]? = some x) : mk01 left i x = 0 := by rw [mk01, if_neg (q_fresh h)]
theorem rest_step {left : List Int} {i x : Nat} (h : (qOf left)[i]? = some x) : (restR left i).set x (lv left x - 1) = restR left (i + 1) := by
  refine List.ext_getElem? fun y => ?_
  by_cases hy : y < left.length
  · rw [rest_get hy, mk01_step h, List.getElem?_set, rest_len]
    by_cases e : y = x
    · subst e; simp [hy]
    · rw [if_neg (fun hh => e hh.symm), rest_get hy, if_neg e]
  · rw [List.getElem?_eq_none (by rw [List.length_set, rest_len]; omega), List.getElem?_eq_none (by rw [rest_len]; omega)]
theorem rest_at {left : List Int} {i x : Nat} (h : (qOf left)[i]? = some x) : (restR left i)[x]? = some (lv left x) := by
  rw [rest_get (q_lt h), mk01_fresh h]; simp
theorem mk01_bd (left : List Int) (n x : Nat) : 0 ≤ mk01 left n x ∧ mk01 left n x ≤ 1 := by unfold mk01; split <;> omega

/-! ### The insertion sort -/
section
variable {c : Nat}
/-- What the program's comparison tells: the greater left sum first. -/
def cfB (left : List Int) (x y : Fin (c + 1)) : Int := lv left y.val - lv left x.val
def lt1 (left : List Int) (x y : Fin (c + 1)) : Bool := decide (cfB left x y < 0)
def lt2 (left : List Int) (x y : Fin (c + 1)) : Bool := ltB left x.val y.val
theorem lt12 {left : List Int} {x y : Fin (c + 1)} (h : y.val < x.val) : lt1 left x y = lt2 left x y := by
  rw [lt1, lt2, ltB, decide_eq_decide, cfB]
  omega
theorem swo2 (left : List Int) : SWO (lt2 (c := c) left) where
  irrefl x := by rw [lt2, ltB_not]; omega
  trans x y z h1 h2 := by rw [lt2, ltB_iff] at *; omega
  ntrans x y z h1 h2 := by rw [lt2, ltB_not] at *; omega
theorem swp_size (d : Array (Fin (c + 1))) (i j : Nat) : (swp d i j).size = d.size := by simp [swp]
theorem swp_get (d : Array (Fin (c + 1))) {i j k : Nat} (hi : i < d.size) (hj : j < d.size) : (swp d i j)[k]! = if k = j then d[i]! else if k = i then d[j]! else d[k]! := by
  unfold swp
  simp only [Array.getElem!_eq_getD, Array.getD_eq_getD_getElem?, Array.getElem?_setIfInBounds, Array.size_setIfInBounds]
  by_cases h1 : k = j
  · subst h1; simp [hj]
  · by_cases h2 : k = i
    · subst h2; simp [h1, Ne.symm h1, hi]
    · simp [h1, h2, Ne.symm h1, Ne.symm h2]
theorem inner_eq (left : List Int) : ∀ (j : Nat) (d : Array (Fin (c + 1))), j < d.size → (∀ k, k < j → d[k]!.val < d[j]!.val) → insInner (lt1 left) 0 j d = insInner (lt2 left) 0 j d
  | 0, d, _, _ => rfl
  | j + 1, d, hj, h => by
    unfold insInner
    have e := lt12 (left := left) (h j (by omega))
    rw [e]
    have ih := inner_eq left j (swp d (j + 1) j) (by rw [swp_size]; omega) (fun k hk => by
      rw [swp_get d hj (by omega), swp_get d hj (by omega)]
      rw [if_neg (by omega), if_neg (by omega), if_pos rfl]
      exact h k (by omega))
    rw [ih]
/-- What holds after the first i are sorted among themselves. -/
def Up (i : Nat) (d : Array (Fin (c + 1))) : Prop := d.size = c + 1 ∧ (∀ k, k < i → d[k]!.val < i) ∧ (∀ k, i ≤ k → k < c + 1 → d[k]!.val = k)
theorem inner_up {lt : Fin (c + 1) → Fin (c + 1) → Bool} (i : Nat) (hi : i < c + 1) : ∀ (j : Nat) (d : Array (Fin (c + 1))), j ≤ i → d.size = c + 1 → (∀ k, k ≤ i → d[k]!.val ≤ i) → (∀ k, i < k → k < c + 1 → d[k]!.val = k) →
    (insInner lt 0 j d).size = c + 1 ∧ (∀ k, k ≤ i → (insInner lt 0 j d)[k]!.val ≤ i) ∧ (∀ k, i < k → k < c + 1 → (insInner lt 0 j d)[k]!.val = k)
  | 0, d, _, h1, h2, h3 => ⟨h1, h2, h3⟩
  | j + 1, d, hj, h1, h2, h3 => by
    unfold insInner
    split
    · refine inner_up i hi j _ (by omega) (by rw [swp_size]; exact h1) (fun k hk => ?_) (fun k hk hc => ?_)
      · rw [swp_get d (by omega) (by omega)]
        split
        · exact h2 _ (by omega)
        · split
          · exact h2 _ (by omega)
          · exact h2 _ hk
      · rw [swp_get d (by omega) (by omega), if_neg (by omega), if_neg (by omega)]
        exact h3 k hk hc
    · exact ⟨h1, h2, h3⟩
theorem outer_eq (left : List Int) : ∀ (n i : Nat) (d : Array (Fin (c + 1))), c + 1 - i = n → 1 ≤ i → Up i d → insOuter (lt1 left) 0 (c + 1) i d = insOuter (lt2 left) 0 (c + 1) i d
  | 0, i, d, hn, _, _ => by
    rw [insOuter_stop (lt := lt1 left) (h := by omega), insOuter_stop (lt := lt2 left) (h := by omega)]
  | n + 1, i, d, hn, h1, ⟨u1, u2, u3⟩ => by
    have hi : i < c + 1 := by omega
    rw [insOuter_go (lt := lt1 left) (h := hi), insOuter_go (lt := lt2 left) (h := hi)]
    have e := inner_eq left i d (by omega) (fun k hk => by rw [u3 i (Nat.le_refl _) hi]; exact u2 k hk)
    rw [e]
    refine outer_eq left n (i + 1) _ (by omega) (by omega) ?_
    obtain ⟨q1, q2, q3⟩ := inner_up (lt := lt2 left) i hi i d (Nat.le_refl _) u1 (fun k hk => by
      by_cases e : k = i
      · subst e; rw [u3 k (Nat.le_refl _) hi]; exact Nat.le_refl _
      · have := u2 k (by omega); omega) (fun k hk hc => u3 k (by omega) hc)
    exact ⟨q1, fun k hk => by have := q2 k (by omega); omega, fun k hk hc => q3 k (by omega) hc⟩
/-- The columns as they stand before the sort. -/
def d0 (c : Nat) : Array (Fin (c + 1)) := Array.ofFn fun i => i
theorem d0_size (c : Nat) : (d0 c).size = c + 1 := by simp [d0]
theorem d0_get {c k : Nat} (h : k < c + 1) : (d0 c)[k]!.val = k := by
  simp [d0, Array.getElem!_eq_getD, Array.getD_eq_getD_getElem?, h]
theorem d0_up (c : Nat) : Up 1 (d0 c) := ⟨d0_size c, fun k hk => by
  obtain rfl : k = 0 := by omega
  rw [d0_get (by omega)]; omega, fun k _ hc => d0_get hc⟩
def sortedB (left : List Int) (c : Nat) : Array (Fin (c + 1)) := insertionSort (lt1 left) (d0 c) 0 (c + 1)
theorem sortedB_eq (left : List Int) (c : Nat) : sortedB left c = insertionSort (lt2 left) (d0 c) 0 (c + 1) := outer_eq left _ 1 _ rfl (by omega) (d0_up c)
theorem extract_all {α : Type} (d : Array α) (n : Nat) (h : n = d.size) : d.extract 0 n = d := by subst h; simp
theorem sortedB_q (left : List Int) (c : Nat) (hl : left.length = c + 1) : (sortedB left c).toList.map Fin.val = qOf left := by
  obtain ⟨⟨p1, p2, p3⟩, hs⟩ := insertionSort_holds (lt := lt2 left) (swo2 left) (d0 c) 0 (c + 1) (by omega) (by rw [d0_size]; omega)
  rw [← sortedB_eq] at p1 p3 hs
  rw [d0_size] at p1
  rw [extract_all _ _ p1.symm, extract_all _ _ (d0_size c).symm] at p3
  have hperm : ((sortedB left c).toList.map Fin.val).Perm (List.range left.length) := by
    refine (p3.map Fin.val).trans ?_
    have : (d0 c).toList.map Fin.val = List.range left.length := by
      rw [hl]
      refine List.ext_getElem? fun k => ?_
      simp only [d0, List.getElem?_map, Array.getElem?_toList]
      by_cases hk : k < c + 1
      · simp [hk]
      · rw [Array.getElem?_eq_none (by simp; omega), List.getElem?_eq_none (by simp; omega)]; rfl
    rw [this]
  have hnd : ((sortedB left c).toList.map Fin.val).Nodup := hperm.symm.nodup List.nodup_range
  refine isQ_eq ⟨hperm, ?_⟩ (q_isQ left)
  rw [List.pairwise_iff_getElem]
  intro i j hi hj hij
  simp only [List.length_map, Array.length_toList] at hi hj
  have h1 := hs i j (by omega) hij (by omega)
  have hne := (List.pairwise_iff_getElem.1 hnd) i j (by simpa using hi) (by simpa using hj) hij
  simp only [List.getElem_map, Array.getElem_toList] at hne ⊢
  have g1 : (sortedB left c)[i]! = (sortedB left c)[i] := by simp [hi]
  have g2 : (sortedB left c)[j]! = (sortedB left c)[j] := by simp [hj]
  rw [g1, g2] at h1
  rcases ltB_tot (left := left) hne with h3 | h3
  · exact h3
  · unfold lt2 at h1; rw [h3] at h1; cases h1
end
end Go.Proofs.Ytdgkiebgmhcmdaa
