/- Plain law: searching in breadth. The list of what has been found, the way to each, and which step found it; the way to a vertex is the way that goes down by the first lower neighbour. No program in sight. -/
namespace Go.Proofs.Ytpjlgcohafbbdaa
set_option linter.unusedVariables false
set_option linter.unusedSimpArgs false

/-- A vertex that has been found: x, by the way w, as neighbour q of the vertex at place p. -/
structure Vx (α β : Type) where
  x : α
  w : List β
  p : Nat
  q : Nat
section
variable {α β : Type}
/-- The search from m: vertex i is being worked at, j of its neighbours are done. -/
structure InvB (nb : α → List (β × α)) (m : α) (L : List (Vx α β)) (i j : Nat) : Prop where
  nodup : ∀ (k k' : Nat) (v v' : Vx α β), L[k]? = some v → L[k']? = some v' → v.x = v'.x → k = k'
  start : L[0]? = some ⟨m, [], 0, 0⟩
  came : ∀ (k : Nat) (v : Vx α β), L[k]? = some v → 0 < k → ∃ (u : Vx α β) (e : β × α), L[v.p]? = some u ∧ (nb u.x)[v.q]? = some e ∧ v.x = e.2 ∧ v.w = u.w ++ [e.1] ∧ v.p < k ∧ (v.p < i ∨ v.p = i ∧ v.q < j)
  early : ∀ (k : Nat) (v : Vx α β), L[k]? = some v → 0 < k → ∀ (p q : Nat) (u : Vx α β) (e : β × α), L[p]? = some u → (nb u.x)[q]? = some e → e.2 = v.x → v.p < p ∨ v.p = p ∧ v.q ≤ q
  order : ∀ (k k' : Nat) (v v' : Vx α β), L[k]? = some v → L[k']? = some v' → 0 < k → k < k' → v.p < v'.p ∨ v.p = v'.p ∧ v.q < v'.q
  closed : ∀ (p q : Nat) (u : Vx α β) (e : β × α), L[p]? = some u → (nb u.x)[q]? = some e → (p < i ∨ p = i ∧ q < j) → ∃ (k : Nat) (v : Vx α β), L[k]? = some v ∧ v.x = e.2
theorem get_snoc {γ : Type} {L : List γ} {a v : γ} {k : Nat} (h : (L ++ [a])[k]? = some v) : L[k]? = some v ∨ (k = L.length ∧ v = a) := by
  by_cases hk : k < L.length
  · rw [List.getElem?_append_left hk] at h; exact .inl h
  · rw [List.getElem?_append_right (by omega)] at h
    have h1 := (List.getElem?_eq_some_iff.1 h).1
    simp at h1
    have : k = L.length := by omega
    subst this
    simp at h
    exact .inr ⟨rfl, h.symm⟩
theorem get_old {γ : Type} {L : List γ} {a v : γ} {k : Nat} (h : L[k]? = some v) : (L ++ [a])[k]? = some v := by
  rw [List.getElem?_append_left (List.getElem?_eq_some_iff.1 h).1]; exact h
theorem get_lt {γ : Type} {L : List γ} {v : γ} {k : Nat} (h : L[k]? = some v) : k < L.length := (List.getElem?_eq_some_iff.1 h).1
variable {nb : α → List (β × α)} {m : α} {L : List (Vx α β)} {i j : Nat}
theorem InvB.begin (nb : α → List (β × α)) (m : α) : InvB nb m [⟨m, [], 0, 0⟩] 0 0 := by
  refine ⟨fun k k' v v' h h' _ => ?_, rfl, fun k v h hk => ?_, fun k v h hk => ?_, fun k k' v v' h h' hk hkk => ?_, fun p q u e h he hpq => by omega⟩
  · have := get_lt h; have := get_lt h'; simp at *; omega
  · have := get_lt h; simp at this; omega
  · have := get_lt h; simp at this; omega
  · have := get_lt h'; simp at this; omega
theorem InvB.seen (h : InvB nb m L i j) {u : Vx α β} {e : β × α} (hu : L[i]? = some u) (he : (nb u.x)[j]? = some e) (hs : ∃ (k : Nat) (v : Vx α β), L[k]? = some v ∧ v.x = e.2) : InvB nb m L i (j + 1) := by
  refine ⟨h.nodup, h.start, fun k v hk h0 => ?_, h.early, h.order, fun p q u' e' h1 h2 h3 => ?_⟩
  · obtain ⟨u', e', q1, q2, q3, q4, q5, q6⟩ := h.came k v hk h0
    exact ⟨u', e', q1, q2, q3, q4, q5, by omega⟩
  · by_cases hh : p < i ∨ p = i ∧ q < j
    · exact h.closed p q u' e' h1 h2 hh
    · obtain ⟨rfl, rfl⟩ : p = i ∧ q = j := by omega
      rw [hu] at h1; injection h1 with h1; subst h1
      rw [he] at h2; injection h2 with h2; subst h2
      exact hs
theorem InvB.add (h : InvB nb m L i j) {u : Vx α β} {e : β × α} (hu : L[i]? = some u) (he : (nb u.x)[j]? = some e) (hs : ∀ (k : Nat) (v : Vx α β), L[k]? = some v → v.x ≠ e.2) : InvB nb m (L ++ [⟨e.2, u.w ++ [e.1], i, j⟩]) i (j + 1) := by
  have hi := get_lt hu
  have h0 := get_lt h.start
  refine ⟨fun k k' v v' h1 h2 hx => ?_, get_old h.start, fun k v h1 hk => ?_, fun k v h1 hk p q u' e' h2 h3 hx => ?_, fun k k' v v' h1 h2 hk hkk => ?_, fun p q u' e' h1 h2 h3 => ?_⟩
  · rcases get_snoc h1 with h1 | ⟨rfl, rfl⟩
    · rcases get_snoc h2 with h2 | ⟨rfl, rfl⟩
      · exact h.nodup k k' v v' h1 h2 hx
      · exact absurd hx (hs k v h1)
    · rcases get_snoc h2 with h2 | ⟨rfl, rfl⟩
      · exact absurd hx.symm (hs k' v' h2)
      · rfl
  · rcases get_snoc h1 with h1 | ⟨rfl, rfl⟩
    · obtain ⟨u', e', q1, q2, q3, q4, q5, q6⟩ := h.came k v h1 hk
      exact ⟨u', e', get_old q1, q2, q3, q4, q5, by omega⟩
    · exact ⟨u, e, get_old hu, he, rfl, rfl, hi, .inr ⟨rfl, Nat.lt_succ_self _⟩⟩
  · rcases get_snoc h1 with h1 | ⟨rfl, rfl⟩
    · rcases get_snoc h2 with h2 | ⟨rfl, rfl⟩
      · exact h.early k v h1 hk p q u' e' h2 h3 hx
      · obtain ⟨_, _, _, _, _, _, q5, _⟩ := h.came k v h1 hk
        have := get_lt h1
        exact .inl (by omega)
    · rcases get_snoc h2 with h2 | ⟨rfl, rfl⟩
      · by_cases hh : p < i ∨ p = i ∧ q < j
        · obtain ⟨k, v, hk', hv⟩ := h.closed p q u' e' h2 h3 hh
          exact absurd (hv.trans hx) (hs k v hk')
        · simp only; omega
      · exact .inl hi
  · rcases get_snoc h1 with h1 | ⟨rfl, rfl⟩
    · rcases get_snoc h2 with h2 | ⟨rfl, rfl⟩
      · exact h.order k k' v v' h1 h2 hk hkk
      · obtain ⟨_, _, _, _, _, _, _, q6⟩ := h.came k v h1 hk
        exact q6
    · have := get_lt h2; simp at this; omega
  · by_cases hh : p < i ∨ p = i ∧ q < j
    · rcases get_snoc h1 with h1 | ⟨rfl, rfl⟩
      · obtain ⟨k, v, hk, hv⟩ := h.closed p q u' e' h1 h2 hh
        exact ⟨k, v, get_old hk, hv⟩
      · omega
    · obtain ⟨rfl, rfl⟩ : p = i ∧ q = j := by omega
      rw [get_old hu] at h1; injection h1 with h1; subst h1
      rw [he] at h2; injection h2 with h2; subst h2
      exact ⟨L.length, ⟨e.2, u.w ++ [e.1], p, q⟩, by simp, rfl⟩
theorem InvB.next (h : InvB nb m L i j) {u : Vx α β} (hu : L[i]? = some u) (hj : (nb u.x).length ≤ j) : InvB nb m L (i + 1) 0 := by
  refine ⟨h.nodup, h.start, fun k v hk h0 => ?_, h.early, h.order, fun p q u' e' h1 h2 h3 => ?_⟩
  · obtain ⟨u', e', q1, q2, q3, q4, q5, q6⟩ := h.came k v hk h0
    exact ⟨u', e', q1, q2, q3, q4, q5, by omega⟩
  · refine h.closed p q u' e' h1 h2 ?_
    by_cases hp : p = i
    · subst hp
      rw [hu] at h1; injection h1 with h1; subst h1
      have := get_lt h2
      exact .inr ⟨rfl, by omega⟩
    · omega

/-! ### When all is found -/
section
variable (h : InvB nb m L L.length 0)
include h
theorem InvB.shut {p q : Nat} {u : Vx α β} {e : β × α} (h1 : L[p]? = some u) (h2 : (nb u.x)[q]? = some e) : ∃ (k : Nat) (v : Vx α β), L[k]? = some v ∧ v.x = e.2 := h.closed p q u e h1 h2 (.inl (get_lt h1))
theorem InvB.mono : ∀ (n k k' : Nat) (v v' : Vx α β), k' < n → L[k]? = some v → L[k']? = some v' → k ≤ k' → v.w.length ≤ v'.w.length := by
  intro n
  induction n with
  | zero => intro k k' v v' hn; omega
  | succ n ih =>
    intro k k' v v' hn h1 h2 hk
    by_cases e : k = k'
    · subst e; rw [h1] at h2; injection h2 with h2; subst h2; exact Nat.le_refl _
    by_cases k0 : k = 0
    · subst k0
      rw [h.start] at h1; injection h1 with h1; subst h1
      exact Nat.zero_le _
    · obtain ⟨u, e1, q1, _, _, q4, q5, _⟩ := h.came k v h1 (by omega)
      obtain ⟨u', e1', q1', _, _, q4', q5', _⟩ := h.came k' v' h2 (by omega)
      have ho := h.order k k' v v' h1 h2 (by omega) (by omega)
      have := ih v.p v'.p u u' (by omega) q1 q1' (by omega)
      rw [q4, q4', List.length_append, List.length_append]; simpa using this
theorem InvB.near {a q k : Nat} {u v : Vx α β} {e : β × α} (h1 : L[a]? = some u) (h2 : (nb u.x)[q]? = some e) (h3 : L[k]? = some v) (hx : v.x = e.2) : v.w.length ≤ u.w.length + 1 := by
  by_cases k0 : k = 0
  · subst k0; rw [h.start] at h3; injection h3 with h3; subst h3; exact Nat.zero_le _
  · obtain ⟨u', e', q1, _, _, q4, q5, _⟩ := h.came k v h3 (by omega)
    have he := h.early k v h3 (by omega) a q u e h1 h2 hx.symm
    have := h.mono (a + 1) v.p a u' u (Nat.lt_succ_self _) q1 h1 (by omega)
    rw [q4, List.length_append]; simpa using this
end

/-- How far each vertex of S is from t. -/
structure FarB (nb : α → List (β × α)) (t : α) (S : α → Prop) (D : α → Nat) : Prop where
  here : S t
  zero : D t = 0
  only : ∀ x, S x → D x = 0 → x = t
  down : ∀ x, S x → 0 < D x → ∃ (q : Nat) (e : β × α), (nb x)[q]? = some e ∧ D e.2 + 1 = D x
  lip : ∀ (x : α) (q : Nat) (e : β × α), S x → (nb x)[q]? = some e → S e.2 ∧ D x ≤ D e.2 + 1
/-- Down by the first lower neighbour. -/
def lowB (nb : α → List (β × α)) (D : α → Nat) (x : α) : Option (β × α) := (nb x).find? fun e => decide (D e.2 < D x)
def grB (nb : α → List (β × α)) (D : α → Nat) : Nat → α → List β
  | 0, _ => []
  | n + 1, x => match lowB nb D x with
    | some e => e.1 :: grB nb D n e.2
    | none => []
theorem find_idx {γ : Type} (p : γ → Bool) : ∀ (l : List γ) (e : γ), l.find? p = some e → ∃ q : Nat, l[q]? = some e ∧ p e = true ∧ ∀ (q' : Nat) (e' : γ), q' < q → l[q']? = some e' → p e' = false
  | [], e, h => by simp at h
  | a :: l, e, h => by
    rw [List.find?_cons] at h
    cases hp : p a with
    | true => rw [hp] at h; injection h with h; subst h; exact ⟨0, rfl, hp, fun q' e' hq => by omega⟩
    | false =>
      rw [hp] at h
      obtain ⟨q, h1, h2, h3⟩ := find_idx p l e h
      refine ⟨q + 1, h1, h2, fun q' e' hq h' => ?_⟩
      cases q' with
      | zero => simp at h'; subst h'; exact hp
      | succ q' => exact h3 q' e' (by omega) (by simpa using h')
theorem find_some {γ : Type} (p : γ → Bool) {l : List γ} {q : Nat} {e : γ} (h : l[q]? = some e) (hp : p e = true) : ∃ e', l.find? p = some e' := by
  cases hf : l.find? p with
  | some e' => exact ⟨e', rfl⟩
  | none =>
    have := List.find?_eq_none.1 hf e (List.mem_of_getElem? h)
    exact absurd hp this
theorem low_some {t : α} {S : α → Prop} {D : α → Nat} (F : FarB nb t S D) {x : α} (hx : S x) (h0 : 0 < D x) : ∃ (q : Nat) (e : β × α), lowB nb D x = some e ∧ (nb x)[q]? = some e ∧ D e.2 + 1 = D x ∧ S e.2 ∧ ∀ (q' : Nat) (e' : β × α), q' < q → (nb x)[q']? = some e' → D x ≤ D e'.2 := by
  obtain ⟨q0, e0, h1, h2⟩ := F.down x hx h0
  obtain ⟨e, he⟩ := find_some (fun e : β × α => decide (D e.2 < D x)) h1 (by simp; omega)
  obtain ⟨q, g1, g2, g3⟩ := find_idx _ _ _ he
  have g4 := F.lip x q e hx g1
  have g5 : D e.2 < D x := by simpa using g2
  exact ⟨q, e, he, g1, by omega, g4.1, fun q' e' hq h' => by have := g3 q' e' hq h'; simp at this; exact this⟩
theorem gr_len {t : α} {S : α → Prop} {D : α → Nat} (F : FarB nb t S D) : ∀ (n : Nat) (x : α), S x → D x = n → (grB nb D n x).length = n := by
  intro n
  induction n with
  | zero => intro x _ _; rfl
  | succ n ih =>
    intro x hx hD
    obtain ⟨q, e, h1, h2, h3, h4, _⟩ := low_some F hx (by omega)
    rw [grB, h1]
    simp only [List.length_cons]
    rw [ih e.2 h4 (by omega)]
theorem InvB.below (h : InvB nb m L L.length 0) {t : α} {S : α → Prop} {D : α → Nat} (F : FarB nb t S D) (hm : S m) : ∀ (n k : Nat) (v : Vx α β), k < n → L[k]? = some v → S v.x ∧ D m ≤ v.w.length + D v.x := by
  intro n
  induction n with
  | zero => intro k v hn; omega
  | succ n ih =>
    intro k v hn hk
    by_cases k0 : k = 0
    · subst k0; rw [h.start] at hk; injection hk with hk; subst hk
      exact ⟨hm, by simp⟩
    · obtain ⟨u, e, q1, q2, q3, q4, q5, _⟩ := h.came k v hk (by omega)
      obtain ⟨i1, i2⟩ := ih v.p u (by omega) q1
      obtain ⟨l1, l2⟩ := F.lip u.x v.q e i1 q2
      rw [q3, q4, List.length_append]
      exact ⟨l1, by simp; omega⟩
theorem InvB.above (h : InvB nb m L L.length 0) {t : α} {S : α → Prop} {D : α → Nat} (F : FarB nb t S D) (hm : S m) {kt : Nat} {vt : Vx α β} (ht : L[kt]? = some vt) (hx : vt.x = t) :
    ∀ (n k : Nat) (v : Vx α β), L[k]? = some v → D v.x = n → vt.w.length ≤ v.w.length + n := by
  intro n
  induction n with
  | zero =>
    intro k v hk hD
    have hS := (h.below F hm (k + 1) k v (Nat.lt_succ_self _) hk).1
    have := F.only v.x hS hD
    have hkt := h.nodup k kt v vt hk ht (this.trans hx.symm)
    subst hkt; rw [hk] at ht; injection ht with ht; subst ht; exact Nat.le_refl _
  | succ n ih =>
    intro k v hk hD
    have hS := (h.below F hm (k + 1) k v (Nat.lt_succ_self _) hk).1
    obtain ⟨q, e, h1, h2⟩ := F.down v.x hS (by omega)
    obtain ⟨k1, v1, g1, g2⟩ := h.shut hk h1
    have := ih k1 v1 g1 (by rw [g2]; omega)
    have := h.near hk h1 g1 g2
    omega
/-- THE WAY that the search finds to t goes down by the first lower neighbour. -/
theorem InvB.way (h : InvB nb m L L.length 0) {t : α} {S : α → Prop} {D : α → Nat} (F : FarB nb t S D) (hm : S m) {kt : Nat} {vt : Vx α β} (ht : L[kt]? = some vt) (hx : vt.x = t) : vt.w = grB nb D (D m) m := by
  have hT : vt.w.length = D m := by
    have h1 := (h.below F hm (kt + 1) kt vt (Nat.lt_succ_self _) ht).2
    rw [hx, F.zero] at h1
    have h2 := h.above F hm ht hx (D m) 0 _ h.start rfl
    simp at h2
    omega
  have main : ∀ (n k : Nat) (v : Vx α β), L[k]? = some v → D v.x = n → v.w.length + n = D m → (∀ (k' : Nat) (v' : Vx α β), L[k']? = some v' → v'.w.length = v.w.length → D v'.x = n → k ≤ k') → vt.w = v.w ++ grB nb D n v.x := by
    intro n
    induction n with
    | zero =>
      intro k v hk hD _ _
      have hS := (h.below F hm (k + 1) k v (Nat.lt_succ_self _) hk).1
      have h1 := F.only v.x hS hD
      have hkt := h.nodup k kt v vt hk ht (h1.trans hx.symm)
      subst hkt; rw [hk] at ht; injection ht with ht; subst ht
      simp [grB]
    | succ n ih =>
      intro k v hk hD hlen hmin
      have hS := (h.below F hm (k + 1) k v (Nat.lt_succ_self _) hk).1
      obtain ⟨q, e, h1, h2, h3, h4, h5⟩ := low_some F hS (by omega)
      obtain ⟨k1, v1, g1, g2⟩ := h.shut hk h2
      have hDe : D e.2 = n := by omega
      have up : ∀ (k' : Nat) (v' : Vx α β), L[k']? = some v' → D v'.x = n → v'.w.length = v.w.length + 1 → ∃ (u : Vx α β) (e' : β × α), L[v'.p]? = some u ∧ (nb u.x)[v'.q]? = some e' ∧ v'.x = e'.2 ∧ v'.w = u.w ++ [e'.1] ∧ k ≤ v'.p ∧ 0 < k' := by
        intro k' v' hk' hD' hl'
        have k0 : 0 < k' := by
          rcases Nat.eq_zero_or_pos k' with h0 | h0
          · subst h0; rw [h.start] at hk'; injection hk' with hk'; subst hk'; simp at hl'
          · exact h0
        obtain ⟨u, e', q1, q2, q3, q4, q5, _⟩ := h.came k' v' hk' k0
        have hu := h.below F hm (v'.p + 1) v'.p u (Nat.lt_succ_self _) q1
        have hl := (F.lip u.x v'.q e' hu.1 q2).2
        rw [q4, List.length_append] at hl'
        simp at hl'
        rw [q3] at hD'
        exact ⟨u, e', q1, q2, q3, q4, hmin v'.p u q1 hl' (by omega), k0⟩
      have hl1 : v1.w.length = v.w.length + 1 := by
        have a1 := h.near hk h2 g1 g2
        have a2 := (h.below F hm (k1 + 1) k1 v1 (Nat.lt_succ_self _) g1).2
        rw [g2, hDe] at a2
        omega
      obtain ⟨u, e1, q1, q2, q3, q4, q5, k10⟩ := up k1 v1 g1 (by rw [g2]; exact hDe) hl1
      have he := h.early k1 v1 g1 k10 k q v e hk h2 g2.symm
      have hp : v1.p = k := by omega
      rw [hp, hk] at q1
      injection q1 with q1
      subst q1
      have hq : v1.q = q := by
        rcases Nat.lt_or_ge v1.q q with hlt | hge
        · have := h5 v1.q e1 hlt q2
          rw [← q3, g2, hDe] at this; omega
        · omega
      rw [hq, h2] at q2
      injection q2 with q2
      subst q2
      have hm1 := ih k1 v1 g1 (by rw [g2]; exact hDe) (by omega) (fun k' v' hk' hl' hD' => by
        obtain ⟨u', e', r1, r2, r3, r4, r5, r6⟩ := up k' v' hk' hD' (by omega)
        rcases Nat.lt_or_ge k' k1 with hlt | hge
        · have ho := h.order k' k1 v' v1 hk' g1 r6 hlt
          rw [hp, hq] at ho
          obtain ⟨rfl, hlq⟩ : v'.p = k ∧ v'.q < q := by omega
          rw [hk] at r1; injection r1 with r1; subst r1
          have := h5 v'.q e' hlq r2
          rw [← r3, hD'] at this; omega
        · exact hge)
      rw [hm1, q4, grB, h1, g2]
      simp
  have := main (D m) 0 _ h.start rfl (by simp) (fun k' v' _ _ _ => Nat.zero_le _)
  simpa using this
/-- How far a found vertex is. -/
def dOf [DecidableEq α] (L : List (Vx α β)) (x : α) : Nat := match L.find? (fun v => decide (v.x = x)) with
  | some v => v.w.length
  | none => 0
theorem dOf_get [DecidableEq α] (h : ∀ (k k' : Nat) (v v' : Vx α β), L[k]? = some v → L[k']? = some v' → v.x = v'.x → k = k') {k : Nat} {v : Vx α β} (hk : L[k]? = some v) : dOf L v.x = v.w.length := by
  obtain ⟨v', hv'⟩ := find_some (fun u : Vx α β => decide (u.x = v.x)) hk (by simp)
  obtain ⟨q, g1, g2, _⟩ := find_idx _ _ _ hv'
  have := h q k v' v g1 hk (by simpa using g2)
  subst this
  rw [hk] at g1; injection g1 with g1; subst g1
  unfold dOf; rw [hv']
/-- A search tells how far all that it has found is from where it began, where neighbours are mutual. -/
theorem InvB.far [DecidableEq α] (h : InvB nb m L L.length 0) (sym : ∀ (k q : Nat) (u : Vx α β) (e : β × α), L[k]? = some u → (nb u.x)[q]? = some e → ∃ (q' : Nat) (e' : β × α), (nb e.2)[q']? = some e' ∧ e'.2 = u.x) : FarB nb m (fun x => ∃ (k : Nat) (v : Vx α β), L[k]? = some v ∧ v.x = x) (dOf L) := by
  refine ⟨⟨0, _, h.start, rfl⟩, ?_, ?_, ?_, ?_⟩
  · have := dOf_get h.nodup h.start
    simpa using this
  · rintro x ⟨k, v, hk, rfl⟩ hD
    rw [dOf_get h.nodup hk] at hD
    rcases Nat.eq_zero_or_pos k with h0 | h0
    · subst h0; rw [h.start] at hk; injection hk with hk; subst hk; rfl
    · obtain ⟨u, e, _, _, _, q4, _, _⟩ := h.came k v hk h0
      rw [q4] at hD; simp at hD
  · rintro x ⟨k, v, hk, rfl⟩ hD
    rw [dOf_get h.nodup hk] at hD
    rcases Nat.eq_zero_or_pos k with h0 | h0
    · subst h0; rw [h.start] at hk; injection hk with hk; subst hk; simp at hD
    · obtain ⟨u, e, q1, q2, q3, q4, _, _⟩ := h.came k v hk h0
      obtain ⟨q', e', s1, s2⟩ := sym v.p v.q u e q1 q2
      refine ⟨q', e', by rw [q3]; exact s1, ?_⟩
      rw [s2, dOf_get h.nodup q1, dOf_get h.nodup hk, q4]; simp
  · rintro x q e ⟨k, v, hk, rfl⟩ he
    obtain ⟨k1, v1, g1, g2⟩ := h.shut hk he
    refine ⟨⟨k1, v1, g1, g2⟩, ?_⟩
    obtain ⟨q', e', s1, s2⟩ := sym k q v e hk he
    rw [← g2] at s1
    have := h.near g1 s1 hk s2.symm
    rw [dOf_get h.nodup hk, ← g2, dOf_get h.nodup g1]; exact this
end
end Go.Proofs.Ytpjlgcohafbbdaa
