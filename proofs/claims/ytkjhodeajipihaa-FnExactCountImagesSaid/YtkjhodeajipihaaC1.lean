/- Plain law: how many images have given sums. Two ways of counting (row by row over all rows; cell by cell) tell one number; where it is not 0, the inequalities hold. No program in sight. -/
import Derived.Test.YtkjhodeajipihaaW3
import Derived.Test.YtkjhodeajipihaaW4
import Derived.Test.YtkjhodeajipihaaS1
import Derived.Test.YtkjhodeajipihaaS3
namespace Go.Proofs.Ytkjhodeajipihaa
set_option linter.unusedVariables false
set_option linter.unusedSimpArgs false

theorem r01C {r : List Int} (h : ∀ x ∈ r, 0 ≤ x ∧ x ≤ 1) (k : Nat) : 0 ≤ (r.take k).sum ∧ (r.take k).sum ≤ k := by
  have g : ∀ m : List Int, (∀ x ∈ m, 0 ≤ x ∧ x ≤ 1) → 0 ≤ m.sum ∧ m.sum ≤ m.length := by
    intro m
    induction m with
    | nil => intro _; simp
    | cons x t ih =>
      intro hm
      have h1 := hm x (by simp)
      have h2 := ih (fun y hy => hm y (by simp [hy]))
      simp only [List.sum_cons, List.length_cons]
      omega
  have h1 := g (r.take k) (fun x hx => h x (List.mem_of_mem_take hx))
  have h2 : (r.take k).length ≤ k := List.length_take_le _ _
  omega
/-- The ways to go on in a row: zs are the sums of the columns to come, acc what is left of those behind. -/
def cntW (F : List Int → Nat) : List Int → List Int → Nat → Nat
  | [], acc, need => if need = 0 then F acc else 0
  | z :: zs, acc, need => cntW F zs (acc ++ [z]) need + (if 0 < need ∧ 0 < z then cntW F zs (acc ++ [z - 1]) (need - 1) else 0)
def allZero (l : List Int) : Bool := l.all fun z => decide (z = 0)
/-- The number of images. -/
def cntN : List Int → List Int → Nat
  | [], left => if allZero left = true then 1 else 0
  | n :: rs, left => cntW (cntN rs) left [] n.toNat

/-! ### All rows -/
def rowsL : Nat → Nat → List (List Int)
  | 0, b => if b = 0 then [[]] else []
  | c + 1, b => (rowsL c b).map (0 :: ·) ++ (if 1 ≤ b then (rowsL c (b - 1)).map (1 :: ·) else [])
def fits : List Int → List Int → Bool
  | k :: cols, r :: row => decide (r ≤ k) && fits cols row
  | _, _ => true
def minusL : List Int → List Int → List Int
  | k :: cols, r :: row => (k - r) :: minusL cols row
  | _, _ => []
theorem rowsL_len : ∀ (c b : Nat) (r : List Int), r ∈ rowsL c b → r.length = c
  | 0, b, r, h => by
    unfold rowsL at h
    split at h
    · simp at h; subst h; rfl
    · simp at h
  | c + 1, b, r, h => by
    unfold rowsL at h
    rcases List.mem_append.1 h with h | h
    · obtain ⟨s, hs, rfl⟩ := List.mem_map.1 h
      rw [List.length_cons, rowsL_len c b s hs]
    · split at h
      · obtain ⟨s, hs, rfl⟩ := List.mem_map.1 h
        rw [List.length_cons, rowsL_len c (b - 1) s hs]
      · simp at h
theorem rowsL_01 : ∀ (c b : Nat) (r : List Int), r ∈ rowsL c b → (∀ z ∈ r, 0 ≤ z ∧ z ≤ 1) ∧ r.sum = b
  | 0, b, r, h => by
    unfold rowsL at h
    split at h
    · simp at h; subst h; rename_i hb; subst hb; simp
    · simp at h
  | c + 1, b, r, h => by
    unfold rowsL at h
    rcases List.mem_append.1 h with h | h
    · obtain ⟨s, hs, rfl⟩ := List.mem_map.1 h
      obtain ⟨h1, h2⟩ := rowsL_01 c b s hs
      refine ⟨fun z hz => ?_, by rw [List.sum_cons, h2]; omega⟩
      rcases List.mem_cons.1 hz with rfl | hz
      · omega
      · exact h1 z hz
    · split at h
      · obtain ⟨s, hs, rfl⟩ := List.mem_map.1 h
        obtain ⟨h1, h2⟩ := rowsL_01 c (b - 1) s hs
        refine ⟨fun z hz => ?_, by rw [List.sum_cons, h2]; omega⟩
        rcases List.mem_cons.1 hz with rfl | hz
        · omega
        · exact h1 z hz
      · simp at h
theorem minusL_len : ∀ (l r : List Int), l.length = r.length → (minusL l r).length = l.length
  | [], [], _ => rfl
  | k :: l, x :: r, h => by rw [minusL, List.length_cons, minusL_len l r (by simpa using h), List.length_cons]
  | [], _ :: _, h => by simp at h
  | _ :: _, [], h => by simp at h
theorem minusL_sum : ∀ (l r : List Int), l.length = r.length → (minusL l r).sum = l.sum - r.sum
  | [], [], _ => rfl
  | k :: l, x :: r, h => by rw [minusL, List.sum_cons, minusL_sum l r (by simpa using h), List.sum_cons, List.sum_cons]; omega
  | [], _ :: _, h => by simp at h
  | _ :: _, [], h => by simp at h
theorem minusL_nonneg : ∀ (l r : List Int), fits l r = true → ∀ z ∈ minusL l r, 0 ≤ z
  | [], _, _, z, hz => by simp [minusL] at hz
  | _ :: _, [], _, z, hz => by simp [minusL] at hz
  | k :: l, x :: r, h, z, hz => by
    simp only [fits, Bool.and_eq_true, decide_eq_true_eq] at h
    rw [minusL] at hz
    rcases List.mem_cons.1 hz with rfl | hz
    · omega
    · exact minusL_nonneg l r h.2 z hz
theorem minusL_le : ∀ (l r : List Int) (m : Int), (∀ x ∈ r, 0 ≤ x) → (∀ z ∈ l, z ≤ m) → ∀ z ∈ minusL l r, z ≤ m
  | [], _, _, _, _, z, hz => by simp [minusL] at hz
  | _ :: _, [], _, _, _, z, hz => by simp [minusL] at hz
  | k :: l, x :: r, m, h1, h2, z, hz => by
    rw [minusL] at hz
    rcases List.mem_cons.1 hz with rfl | hz
    · have := h1 x (by simp); have := h2 k (by simp); omega
    · exact minusL_le l r m (fun y hy => h1 y (by simp [hy])) (fun y hy => h2 y (by simp [hy])) z hz
theorem nat_sum_zero : ∀ l : List Nat, (∀ y ∈ l, y = 0) → l.sum = 0
  | [], _ => rfl
  | x :: l, h => by rw [List.sum_cons, h x (by simp), nat_sum_zero l fun y hy => h y (by simp [hy])]
theorem perm_sum {l m : List Int} (h : l.Perm m) : l.sum = m.sum := by
  induction h with
  | nil => rfl
  | cons x _ ih => rw [List.sum_cons, List.sum_cons, ih]
  | swap x y l => rw [List.sum_cons, List.sum_cons, List.sum_cons, List.sum_cons]; omega
  | trans _ _ ih1 ih2 => exact ih1.trans ih2
/-- Cell by cell is row by row. -/
theorem cntW_rows (F : List Int → Nat) : ∀ (zs acc : List Int) (need : Nat), (∀ z ∈ zs, 0 ≤ z) → cntW F zs acc need = ((rowsL zs.length need).map fun r => if fits zs r = true then F (acc ++ minusL zs r) else 0).sum
  | [], acc, need, _ => by
    simp only [cntW, List.length_nil, rowsL]
    by_cases h : need = 0
    · simp [h, fits, minusL]
    · simp [h]
  | z :: zs, acc, need, hz => by
    have hz' : ∀ y ∈ zs, 0 ≤ y := fun y hy => hz y (by simp [hy])
    have h0 := hz z (by simp)
    simp only [cntW, List.length_cons, rowsL, List.map_append, List.sum_append]
    congr 1
    · rw [cntW_rows F zs (acc ++ [z]) need hz', List.map_map]
      congr 1
      apply List.map_congr_left
      intro r _
      simp [fits, minusL, h0, List.append_assoc]
    · by_cases hn : 0 < need
      · have hn1 : 1 ≤ need := hn
        rw [if_pos hn1, List.map_map]
        by_cases h1 : 0 < z
        · rw [if_pos ⟨hn, h1⟩, cntW_rows F zs (acc ++ [z - 1]) (need - 1) hz']
          congr 1
          apply List.map_congr_left
          intro r _
          have : (1 : Int) ≤ z := by omega
          simp [fits, minusL, this, List.append_assoc]
        · rw [if_neg (fun h => h1 h.2)]
          have : ¬ (1 : Int) ≤ z := by omega
          symm
          apply nat_sum_zero
          intro y hy
          obtain ⟨r, _, rfl⟩ := List.mem_map.1 hy
          simp [fits, this]
      · rw [if_neg (fun h => hn h.1), if_neg (by omega)]
        simp

/-! ### What cannot be: too much left, too much needed -/
theorem cntW_need (F : List Int → Nat) : ∀ (zs acc : List Int) (need : Nat), zs.length < need → cntW F zs acc need = 0
  | [], acc, need, h => by rw [cntW, if_neg (by simp at h; omega)]
  | z :: zs, acc, need, h => by
    simp only [List.length_cons] at h
    rw [cntW, cntW_need F zs _ need (by omega)]
    split
    · rw [cntW_need F zs _ (need - 1) (by omega)]
    · rfl
theorem cntW_high (F : List Int → Nat) (m : Int) (hF : ∀ l : List Int, (∃ z ∈ l, m < z) → F l = 0) : ∀ (zs acc : List Int) (need : Nat), (∃ z ∈ acc, m < z) ∨ (∃ z ∈ zs, m + 1 < z) → cntW F zs acc need = 0
  | [], acc, need, h => by
    rcases h with h | ⟨z, hz, _⟩
    · rw [cntW]; split
      · exact hF _ h
      · rfl
    · simp at hz
  | z :: zs, acc, need, h => by
    have key : ∀ y : Int, z - 1 ≤ y → (∃ u ∈ acc ++ [y], m < u) ∨ (∃ u ∈ zs, m + 1 < u) := by
      intro y hy
      rcases h with ⟨u, hu, h1⟩ | ⟨u, hu, h1⟩
      · exact .inl ⟨u, by simp [hu], h1⟩
      · rcases List.mem_cons.1 hu with rfl | hu
        · exact .inl ⟨y, by simp, by omega⟩
        · exact .inr ⟨u, hu, h1⟩
    rw [cntW, cntW_high F m hF zs _ need (key z (by omega))]
    split
    · rw [cntW_high F m hF zs _ (need - 1) (key (z - 1) (by omega))]
    · rfl
theorem cntN_high : ∀ (rs left : List Int), (∃ z ∈ left, (rs.length : Int) < z) → cntN rs left = 0
  | [], left, ⟨z, hz, h⟩ => by
    rw [cntN, if_neg]
    intro ha
    have := List.all_eq_true.1 ha z hz
    simp at this h; omega
  | n :: rs, left, ⟨z, hz, h⟩ => by
    rw [cntN]
    refine cntW_high _ rs.length (fun l hl => cntN_high rs l hl) left [] _ (.inr ⟨z, hz, ?_⟩)
    simp only [List.length_cons] at h; push_cast at h; omega

/-! ### Where there is an image, the inequalities hold -/
/-- There is an image with these sums. -/
def Has : List Int → List Int → Prop
  | [], left => ∀ z ∈ left, z = 0
  | n :: rs, left => ∃ row : List Int, row.length = left.length ∧ (∀ z ∈ row, 0 ≤ z ∧ z ≤ 1) ∧ row.sum = n ∧ Has rs (minusL left row)
theorem sum_zero_all : ∀ (l : List Nat), l.sum ≠ 0 → ∃ x ∈ l, x ≠ 0
  | [], h => by simp at h
  | x :: l, h => by
    by_cases hx : x = 0
    · rw [List.sum_cons, hx, Nat.zero_add] at h
      obtain ⟨y, hy, h2⟩ := sum_zero_all l h
      exact ⟨y, by simp [hy], h2⟩
    · exact ⟨x, by simp, hx⟩
theorem has_of_cnt : ∀ (rs left : List Int), (∀ n ∈ rs, 0 ≤ n) → (∀ z ∈ left, 0 ≤ z) → cntN rs left ≠ 0 → Has rs left
  | [], left, _, _, h => by
    unfold cntN at h
    split at h
    · rename_i ha
      intro z hz
      simpa using List.all_eq_true.1 ha z hz
    · exact absurd rfl h
  | n :: rs, left, hn, hl, h => by
    rw [cntN, cntW_rows _ _ _ _ hl] at h
    obtain ⟨x, hx, h2⟩ := sum_zero_all _ h
    obtain ⟨row, hr, rfl⟩ := List.mem_map.1 hx
    have h0 := hn n (by simp)
    split at h2
    · rename_i hf
      rw [List.nil_append] at h2
      obtain ⟨q1, q2⟩ := rowsL_01 _ _ _ hr
      refine ⟨row, rowsL_len _ _ _ hr, q1, by rw [q2]; omega, has_of_cnt rs _ (fun m hm => hn m (by simp [hm])) (minusL_nonneg _ _ hf) h2⟩
    · exact absurd rfl h2
theorem lift_perm {α β : Type} (f : α → β) {a b : List β} (h : a.Perm b) : ∀ l : List α, l.map f = a → ∃ m : List α, m.Perm l ∧ m.map f = b := by
  induction h with
  | nil => intro l hl; exact ⟨l, List.Perm.refl _, hl⟩
  | cons x _ ih =>
    intro l hl
    cases l with
    | nil => simp at hl
    | cons y l =>
      simp only [List.map_cons, List.cons.injEq] at hl
      obtain ⟨m, h1, h2⟩ := ih l hl.2
      exact ⟨y :: m, h1.cons y, by rw [List.map_cons, h2, hl.1]⟩
  | swap x y l' =>
    intro l hl
    match l, hl with
    | u :: v :: l, hl =>
      simp only [List.map_cons, List.cons.injEq] at hl
      exact ⟨v :: u :: l, List.Perm.swap _ _ _, by rw [List.map_cons, List.map_cons, hl.1, hl.2.1, hl.2.2]⟩
    | [_], hl => simp at hl
    | [], hl => simp at hl
  | trans _ _ ih1 ih2 =>
    intro l hl
    obtain ⟨m, h1, h2⟩ := ih1 l hl
    obtain ⟨k, h3, h4⟩ := ih2 m h2
    exact ⟨k, h3.trans h1, h4⟩
theorem zip_fst : ∀ (l r : List Int), l.length = r.length → (l.zip r).map Prod.fst = l
  | [], [], _ => rfl
  | x :: l, y :: r, h => by rw [List.zip_cons_cons, List.map_cons, zip_fst l r (by simpa using h)]
  | [], _ :: _, h => by simp at h
  | _ :: _, [], h => by simp at h
theorem zip_snd : ∀ (l r : List Int), l.length = r.length → (l.zip r).map Prod.snd = r
  | [], [], _ => rfl
  | x :: l, y :: r, h => by rw [List.zip_cons_cons, List.map_cons, zip_snd l r (by simpa using h)]
  | [], _ :: _, h => by simp at h
  | _ :: _, [], h => by simp at h
theorem minus_pairs : ∀ p : List (Int × Int), minusL (p.map Prod.fst) (p.map Prod.snd) = p.map fun q => q.1 - q.2
  | [] => rfl
  | q :: p => by simp only [List.map_cons, minusL, minus_pairs p]
theorem has_perm : ∀ (rs a b : List Int), a.Perm b → Has rs a → Has rs b
  | [], a, b, hp, h => fun z hz => h z (hp.mem_iff.2 hz)
  | n :: rs, a, b, hp, ⟨row, h1, h2, h3, h4⟩ => by
    obtain ⟨m, hm, hm2⟩ := lift_perm Prod.fst hp (a.zip row) (zip_fst a row h1.symm)
    have hs : (m.map Prod.snd).Perm row := by
      have := hm.map Prod.snd
      rwa [zip_snd a row h1.symm] at this
    refine ⟨m.map Prod.snd, by rw [List.length_map, ← hm2, List.length_map], fun z hz => h2 z (hs.mem_iff.1 hz), ?_, ?_⟩
    · rw [← h3]; exact perm_sum hs
    · refine has_perm rs _ _ ?_ h4
      have e1 := minus_pairs (a.zip row)
      rw [zip_fst a row h1.symm, zip_snd a row h1.symm] at e1
      have e2 := minus_pairs m
      rw [hm2] at e2
      rw [e1, e2]
      exact (hm.map _).symm
def mins (k : Nat) (rs : List Int) : Int := (rs.map fun r => min (k : Int) r).sum
theorem take_le_sum : ∀ (l : List Int) (k : Nat), (∀ z ∈ l, 0 ≤ z ∧ z ≤ 1) → (l.take k).sum ≤ min (k : Int) l.sum
  | [], k, _ => by simp; omega
  | x :: l, 0, h => by
    have h0 : 0 ≤ (x :: l).sum := by
      have := r01C h (x :: l).length
      rw [List.take_length] at this; exact this.1
    rw [List.take_zero]; simp only [List.sum_nil]; omega
  | x :: l, k + 1, h => by
    have ih := take_le_sum l k fun z hz => h z (by simp [hz])
    have hx := h x (by simp)
    rw [List.take_succ_cons, List.sum_cons, List.sum_cons]
    push_cast
    omega
theorem minusL_take : ∀ (l r : List Int) (k : Nat), l.length = r.length → ((minusL l r).take k).sum = (l.take k).sum - (r.take k).sum
  | _, _, 0, _ => by simp
  | [], [], k + 1, _ => by simp [minusL]
  | x :: l, y :: r, k + 1, h => by
    have ih := minusL_take l r k (by simpa using h)
    rw [minusL, List.take_succ_cons, List.take_succ_cons, List.take_succ_cons, List.sum_cons, List.sum_cons, List.sum_cons, ih]; omega
  | [], _ :: _, _, h => by simp at h
  | _ :: _, [], _, h => by simp at h
theorem has_take : ∀ (rs left : List Int) (k : Nat), Has rs left → (left.take k).sum ≤ mins k rs
  | [], left, k, h => by
    have : ∀ l : List Int, (∀ z ∈ l, z = 0) → l.sum = 0 := by
      intro l hl
      induction l with
      | nil => rfl
      | cons x l ih => rw [List.sum_cons, hl x (by simp), ih fun z hz => hl z (by simp [hz])]; rfl
    rw [this _ fun z hz => h z (List.mem_of_mem_take hz)]
    simp [mins]
  | n :: rs, left, k, ⟨row, h1, h2, h3, h4⟩ => by
    have ih := has_take rs _ k h4
    rw [minusL_take _ _ _ h1.symm] at ih
    have := take_le_sum row k h2
    rw [h3] at this
    simp only [mins, List.map_cons, List.sum_cons] at ih ⊢
    omega
theorem has_sum : ∀ (rs left : List Int), Has rs left → left.sum = rs.sum
  | [], left, h => by
    induction left with
    | nil => rfl
    | cons x l ih =>
      have hx := h x (by simp)
      have := ih fun z hz => h z (by simp [hz])
      rw [List.sum_cons, hx, this]; rfl
  | n :: rs, left, ⟨row, h1, h2, h3, h4⟩ => by
    have ih := has_sum rs _ h4
    rw [minusL_sum _ _ h1.symm, h3] at ih
    rw [List.sum_cons]; omega
theorem has_rows : ∀ (rs left : List Int), Has rs left → ∀ n ∈ rs, 0 ≤ n ∧ n ≤ left.length
  | [], _, _, n, hn => by simp at hn
  | m :: rs, left, ⟨row, h1, h2, h3, h4⟩, n, hn => by
    rcases List.mem_cons.1 hn with rfl | hn
    · have := r01C h2 row.length
      rw [List.take_length, h3, h1] at this
      exact this
    · have := has_rows rs _ h4 n hn
      rwa [minusL_len _ _ h1.symm] at this
theorem has_cols : ∀ (rs left : List Int), Has rs left → ∀ z ∈ left, 0 ≤ z ∧ z ≤ rs.length
  | [], left, h, z, hz => by rw [h z hz]; simp
  | n :: rs, left, ⟨row, h1, h2, h3, h4⟩, z, hz => by
    have ih := has_cols rs _ h4
    have : ∀ (l r : List Int), l.length = r.length → (∀ x ∈ r, 0 ≤ x ∧ x ≤ 1) → (∀ x ∈ minusL l r, 0 ≤ x ∧ x ≤ rs.length) → ∀ x ∈ l, 0 ≤ x ∧ x ≤ (rs.length : Int) + 1 := by
      intro l
      induction l with
      | nil => intro r _ _ _ x hx; simp at hx
      | cons k l ihl =>
        intro r hl hr hm x hx
        cases r with
        | nil => simp at hl
        | cons y r =>
          rw [minusL] at hm
          rcases List.mem_cons.1 hx with rfl | hx
          · have a1 := hm (x - y) (by simp)
            have a2 := hr y (by simp)
            omega
          · exact ihl r (by simpa using hl) (fun u hu => hr u (by simp [hu])) (fun u hu => hm u (by simp [hu])) x hx
    have := this left row h1.symm h2 ih z hz
    simp only [List.length_cons]; push_cast; exact this
theorem incF_take : ∀ (c : List Int) (m k : Nat), m ≤ c.length → k ≤ c.length → ((incF c m).take k).sum = (c.take k).sum + min (k : Int) m
  | c, 0, k, _, _ => by rw [incF_zero]; simp; omega
  | c, m + 1, 0, _, _ => by simp; omega
  | [], m + 1, k + 1, h, _ => by simp at h
  | x :: c, m + 1, k + 1, h1, h2 => by
    have ih := incF_take c m k (by simpa using h1) (by simpa using h2)
    unfold incF at ih ⊢
    simp only [List.take_succ_cons, List.drop_succ_cons, List.map_cons, List.cons_append, List.sum_cons]
    rw [ih]; push_cast; omega
theorem mins_snoc (k : Nat) (l : List Int) (x : Int) : mins k (l ++ [x]) = mins k l + min (k : Int) x := by simp [mins]
theorem conj_take (n : Nat) : ∀ (j : Nat) (l : List Int) (k : Nat), l.length = j → (∀ x ∈ l, 0 ≤ x ∧ x ≤ n) → k ≤ n → ((conjF l n).take k).sum = mins k l
  | 0, l, k, hj, _, _ => by
    have : l = [] := List.eq_nil_of_length_eq_zero hj
    subst this
    rw [conjF_nil]; simp [mins]
  | j + 1, l, k, hj, h, hk => by
    rcases List.eq_nil_or_concat l with rfl | ⟨m, x, rfl⟩
    · simp at hj
    · have hm : m.length = j := by simpa using hj
      have hx := h x (by simp)
      have ih := conj_take n j m k hm (fun y hy => h y (by simp [hy])) hk
      rw [List.concat_eq_append, conjF_snoc m x n hx.1 hx.2, incF_take _ _ _ (by rw [conjF_len]; omega) (by rw [conjF_len]; omega), ih, mins_snoc]
      omega
theorem worst_zero (f : Nat → Int) : ∀ (n k : Nat), (∀ i, k ≤ i → i < k + n → 0 ≤ f i) → worstG f n k = 0
  | 0, k, _ => rfl
  | n + 1, k, h => by
    rw [worstG, if_neg (by have := h k (Nat.le_refl _) (by omega); omega)]
    exact worst_zero f n (k + 1) fun i h1 h2 => h i (by omega) (by omega)
/-- NECESSITY: where there is an image, the inequalities hold. -/
theorem has_exists {rs left : List Int} (h1 : 1 ≤ rs.length) (h2 : rs.length ≤ 5) (h3 : 1 ≤ left.length) (h4 : left.length ≤ 5) (h : Has rs left) : existsR rs left = true := by
  have hs : sumsOk rs left = true := by
    simp only [sumsOk, Bool.and_eq_true, decide_eq_true_eq]
    refine ⟨⟨⟨⟨?_, ?_⟩, ?_⟩, ?_⟩, (has_sum rs left h).symm⟩
    · simp only [inB, Bool.and_eq_true, decide_eq_true_eq]; omega
    · simp only [inB, Bool.and_eq_true, decide_eq_true_eq]; omega
    · exact List.all_eq_true.2 fun n hn => by have := has_rows rs left h n hn; simp only [inB, Bool.and_eq_true, decide_eq_true_eq]; exact this
    · exact List.all_eq_true.2 fun n hn => by have := has_cols rs left h n hn; simp only [inB, Bool.and_eq_true, decide_eq_true_eq]; exact this
  rw [existsR, hs, Bool.true_and, decide_eq_true_eq, worstR, if_pos hs]
  apply worst_zero
  intro k hk1 hk2
  have hp := has_take rs _ k (has_perm rs _ _ (sortD_perm left).symm h)
  have hc := conj_take left.length _ rs k rfl (has_rows rs left h) (by omega)
  unfold gapF
  omega

/-! ### The reference's way: rows, those cut off that cannot go on -/
def goOn (rs left : List Int) : Bool := if rs = [] then decide (left.sum = 0) else existsR rs left
def cntS : List Int → List Int → Nat
  | [], _ => 1
  | n :: rs, left => ((rowsL left.length n.toNat).map fun r => if fits left r = true ∧ goOn rs (minusL left r) = true then cntS rs (minusL left r) else 0).sum
theorem zero_of_sum : ∀ (l : List Int), (∀ z ∈ l, 0 ≤ z) → l.sum = 0 → allZero l = true
  | [], _, _ => rfl
  | x :: l, h, hs => by
    have hx := h x (by simp)
    have h0 : ∀ m : List Int, (∀ z ∈ m, 0 ≤ z) → 0 ≤ m.sum := by
      intro m hm
      induction m with
      | nil => simp
      | cons y m ih => have := hm y (by simp); have := ih fun z hz => hm z (by simp [hz]); rw [List.sum_cons]; omega
    have h1 := h0 l fun z hz => h z (by simp [hz])
    rw [List.sum_cons] at hs
    have ih := zero_of_sum l (fun z hz => h z (by simp [hz])) (by omega)
    have : x = 0 := by omega
    simp only [allZero, List.all_cons, Bool.and_eq_true] at ih ⊢
    exact ⟨by simpa using this, ih⟩
theorem sum_of_zero : ∀ (l : List Int), allZero l = true → l.sum = 0
  | [], _ => rfl
  | x :: l, h => by
    simp only [allZero, List.all_cons, Bool.and_eq_true, decide_eq_true_eq] at h
    rw [List.sum_cons, h.1, sum_of_zero l h.2]; rfl
theorem cntS_eq : ∀ (rs left : List Int), rs ≠ [] → (∀ n ∈ rs, 0 ≤ n) → (∀ z ∈ left, 0 ≤ z) → rs.length ≤ 5 → 1 ≤ left.length → left.length ≤ 5 → cntS rs left = cntN rs left
  | [], _, h, _, _, _, _, _ => absurd rfl h
  | n :: rs, left, _, hn, hl, h5, l1, l5 => by
    rw [cntS, cntN, cntW_rows _ _ _ _ hl]
    congr 1
    apply List.map_congr_left
    intro r hr
    have hrl := rowsL_len _ _ _ hr
    rw [List.nil_append]
    by_cases hf : fits left r = true
    rotate_left
    · rw [if_neg (fun h => hf h.1), if_neg hf]
    rw [if_pos hf]
    have hm0 := minusL_nonneg left r hf
    have hml : (minusL left r).length = left.length := minusL_len _ _ hrl.symm
    have hn' : ∀ m ∈ rs, 0 ≤ m := fun m hm => hn m (by simp [hm])
    by_cases hrs : rs = []
    · subst hrs
      simp only [goOn, if_true, cntS, cntN, decide_eq_true_eq]
      by_cases hz : (minusL left r).sum = 0
      · rw [if_pos ⟨hf, hz⟩, if_pos (zero_of_sum _ hm0 hz)]
      · rw [if_neg (fun h => hz h.2), if_neg (fun h => hz (sum_of_zero _ h))]
    · have hg : goOn rs (minusL left r) = existsR rs (minusL left r) := by rw [goOn, if_neg hrs]
      rw [hg]
      by_cases he : existsR rs (minusL left r) = true
      · rw [if_pos ⟨hf, he⟩]
        exact cntS_eq rs _ hrs hn' hm0 (by simp at h5; omega) (by omega) (by omega)
      · rw [if_neg (fun h => he h.2)]
        by_cases hc : cntN rs (minusL left r) = 0
        · rw [hc]
        · exact absurd (has_exists (by cases rs with | nil => exact absurd rfl hrs | cons _ _ => simp) (by simp at h5; omega) (by omega) (by omega) (has_of_cnt rs _ hn' hm0 hc)) he
/-- The whole count. -/
theorem cnt_top {rs left : List Int} (h : sumsOk rs left = true) : (if existsR rs left = true then cntS rs left else 0) = cntN rs left := by
  have h' := h
  simp only [sumsOk, Bool.and_eq_true] at h'
  obtain ⟨⟨⟨⟨h1, h2⟩, h3⟩, h4⟩, h5⟩ := h'
  have q1 := inB_true h1
  have q2 := inB_true h2
  have hn : ∀ n ∈ rs, 0 ≤ n := fun n hn => (inB_true (List.all_eq_true.1 h3 n hn)).1
  have hl : ∀ z ∈ left, 0 ≤ z := fun z hz => (inB_true (List.all_eq_true.1 h4 z hz)).1
  have hne : rs ≠ [] := by intro e; subst e; simp at q1
  split
  · exact cntS_eq rs left hne hn hl (by omega) (by omega) (by omega)
  · rename_i he
    by_cases hc : cntN rs left = 0
    · exact hc.symm
    · exact absurd (has_exists (by omega) (by omega) (by omega) (by omega) (has_of_cnt rs left hn hl hc)) he

/-! ### Bounds -/
theorem cntW_bd (F : List Int → Nat) (m : Nat) (hF : ∀ l, F l ≤ m) : ∀ (zs acc : List Int) (need : Nat), cntW F zs acc need ≤ 2 ^ zs.length * m
  | [], acc, need => by
    rw [cntW]; split
    · simpa using hF acc
    · simp
  | z :: zs, acc, need => by
    have h1 := cntW_bd F m hF zs (acc ++ [z]) need
    have h2 := cntW_bd F m hF zs (acc ++ [z - 1]) (need - 1)
    rw [cntW, List.length_cons, Nat.pow_succ]
    have : 2 ^ zs.length * 2 * m = 2 ^ zs.length * m + 2 ^ zs.length * m := by rw [Nat.mul_assoc, Nat.mul_comm 2 m, ← Nat.mul_assoc, Nat.mul_two]
    split <;> omega
end Go.Proofs.Ytkjhodeajipihaa
