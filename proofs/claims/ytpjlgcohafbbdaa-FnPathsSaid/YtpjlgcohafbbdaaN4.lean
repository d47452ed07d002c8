/- Words: reading in blocks that have a property (those that nothing writes any more); an image as a number. -/
import Derived.Test.YtpjlgcohafbbdaaMem
import Derived.Test.YtpjlgcohafbbdaaW3
import Derived.Test.YtpjlgcohafbbdaaW6
import Derived.Test.YtpjlgcohafbbdaaW8
import Derived.Test.YtpjlgcohafbbdaaSw
import Derived.Test.YtpjlgcohafbbdaaPoke
import Derived.Test.YtpjlgcohafbbdaaR2
import Derived.Test.YtpjlgcohafbbdaaN1
import Derived.Test.YtpjlgcohafbbdaaN2
import Derived.Test.YtpjlgcohafbbdaaN3
import Derived.WalkKit
import Derived.Lib.Hide
namespace Go.Proofs.Ytpjlgcohafbbdaa
open Go.RowKit
set_option linter.unusedVariables false
set_option linter.unusedSimpArgs false

/-- v reads as xs; its cells lie in a block with the property X. -/
def RdP (X : Nat → Prop) (w : World) (v : Value) (xs : List Value) : Prop :=
  ∃ A c, v = .slice A xs.length c ∧ xs.length ≤ c ∧ c ≤ maxLen ∧ ∀ k u, xs[k]? = some u → ∃ b o, A = some ⟨b, o, none⟩ ∧ X b ∧ w.cell? ⟨b, o + k, none⟩ = some u
def RdPG (X : Nat → Prop) (w : World) (v : Value) (g : List (List Int)) : Prop :=
  ∃ vs, vs.length = g.length ∧ RdP X w v vs ∧ ∀ (k : Nat) (u : Value) (r : List Int), vs[k]? = some u → g[k]? = some r → RdP X w u (ints r)
def RdPS (X : Nat → Prop) (w : World) (v : Value) (l : List Sw) : Prop :=
  ∃ A c, v = .slice A l.length c ∧ l.length ≤ c ∧ c ≤ maxLen ∧ ∀ k s, l[k]? = some s → ∃ b o, A = some ⟨b, o, none⟩ ∧ X b ∧ b < w.heap.size ∧ ∀ j u, (swCells s)[j]? = some u → w.cell? ⟨b, o + (k * 4 + j), none⟩ = some u
section
variable {X Y : Nat → Prop} {w w' : World} {v : Value} {xs : List Value} {g : List (List Int)} {l : List Sw} {lo hi : Nat}
/-- Nothing of the property has changed from w to w', and what had the property X then has Y now. -/
def KeepP (X Y : Nat → Prop) (w w' : World) : Prop := ∀ b, b < w.heap.size → X b → w'.heap[b]? = w.heap[b]? ∧ Y b
theorem KeepP.trans {Z : Nat → Prop} {w'' : World} (h : KeepP X Y w w') (k : KeepP Y Z w' w'') (hs : w.heap.size ≤ w'.heap.size) : KeepP X Z w w'' := fun b hb hx => by
  obtain ⟨h1, h2⟩ := h b hb hx
  obtain ⟨k1, k2⟩ := k b (by omega) h2
  exact ⟨k1.trans h1, k2⟩
theorem RdP.move (h : RdP X w v xs) (k : KeepP X Y w w') : RdP Y w' v xs := by
  obtain ⟨A, c, rfl, h1, h2, h3⟩ := h
  refine ⟨A, c, rfl, h1, h2, fun j u hu => ?_⟩
  obtain ⟨b, o, rfl, hb, hc⟩ := h3 j u hu
  have hlt := World.block_lt_of_cell? w _ hc
  obtain ⟨k1, k2⟩ := k b hlt hb
  exact ⟨b, o, rfl, k2, (World.cell?_of_block (w := w) (a := ⟨b, o + j, none⟩) k1).trans hc⟩
theorem RdPG.move (h : RdPG X w v g) (k : KeepP X Y w w') : RdPG Y w' v g := by
  obtain ⟨vs, e, h1, h2⟩ := h
  exact ⟨vs, e, h1.move k, fun j u r hu hr => (h2 j u r hu hr).move k⟩
theorem RdPS.move (h : RdPS X w v l) (k : KeepP X Y w w') (hs : w.heap.size ≤ w'.heap.size) : RdPS Y w' v l := by
  obtain ⟨A, c, rfl, h1, h2, h3⟩ := h
  refine ⟨A, c, rfl, h1, h2, fun j s hs' => ?_⟩
  obtain ⟨b, o, rfl, hb, hlt, hc⟩ := h3 j s hs'
  obtain ⟨k1, k2⟩ := k b hlt hb
  exact ⟨b, o, rfl, k2, by omega, fun i u hu => (World.cell?_of_block (w := w) (a := ⟨b, _, none⟩) k1).trans (hc i u hu)⟩
theorem RdP.of (h : Rd w lo hi v xs) (hX : ∀ b, lo ≤ b → b < hi → b < w.heap.size → X b) : RdP X w v xs := by
  obtain ⟨A, c, rfl, h1, h2, h3⟩ := h
  refine ⟨A, c, rfl, h1, h2, fun j u hu => ?_⟩
  obtain ⟨b, o, rfl, q1, q2, hc⟩ := h3 j u hu
  exact ⟨b, o, rfl, hX b q1 q2 (World.block_lt_of_cell? w _ hc), hc⟩
theorem RdPG.of (h : RdG w lo hi v g) (hX : ∀ b, lo ≤ b → b < hi → b < w.heap.size → X b) : RdPG X w v g := by
  obtain ⟨vs, e, h1, h2⟩ := h
  exact ⟨vs, e, RdP.of h1 hX, fun j u r hu hr => RdP.of (h2 j u r hu hr) hX⟩
theorem RdPS.of (h : RdS w lo hi v l) (hX : ∀ b, lo ≤ b → b < hi → b < w.heap.size → X b) : RdPS X w v l := by
  obtain ⟨A, c, rfl, h1, h2, h3⟩ := h
  refine ⟨A, c, rfl, h1, h2, fun j s hs => ?_⟩
  obtain ⟨b, o, rfl, q1, q2, q3, q4⟩ := h3 j s hs
  exact ⟨b, o, rfl, hX b q1 q2 q3, q3, q4⟩
theorem RdP.rd (h : RdP X w v xs) : Rd w 0 w.heap.size v xs := by
  obtain ⟨A, c, rfl, h1, h2, h3⟩ := h
  refine ⟨A, c, rfl, h1, h2, fun j u hu => ?_⟩
  obtain ⟨b, o, rfl, _, hc⟩ := h3 j u hu
  exact ⟨b, o, rfl, Nat.zero_le _, World.block_lt_of_cell? w _ hc, hc⟩
theorem RdPG.rd (h : RdPG X w v g) : RdG w 0 w.heap.size v g := by
  obtain ⟨vs, e, h1, h2⟩ := h
  exact ⟨vs, e, h1.rd, fun j u r hu hr => (h2 j u r hu hr).rd⟩
theorem RdPS.rd (h : RdPS X w v l) : RdS w 0 w.heap.size v l := by
  obtain ⟨A, c, rfl, h1, h2, h3⟩ := h
  refine ⟨A, c, rfl, h1, h2, fun j s hs => ?_⟩
  obtain ⟨b, o, rfl, _, hlt, hc⟩ := h3 j s hs
  exact ⟨b, o, rfl, Nat.zero_le _, hlt, hlt, hc⟩
end

/-! ### An image as a number -/
def kL (n : Int) (l : List Int) : Int := l.foldl (fun n c => 2 * n + c) n
def kG (n : Int) (g : List (List Int)) : Int := g.foldl kL n
theorem kL_snoc (n : Int) (l : List Int) (c : Int) : kL n (l ++ [c]) = 2 * kL n l + c := by simp [kL]
theorem kG_snoc (n : Int) (g : List (List Int)) (r : List Int) : kG n (g ++ [r]) = kL (kG n g) r := by simp [kG]
theorem kL_bd : ∀ (l : List Int) (n : Int), 0 ≤ n → (∀ x ∈ l, 0 ≤ x ∧ x ≤ 1) → 0 ≤ kL n l ∧ kL n l < (n + 1) * 2 ^ l.length
  | [], n, h, _ => by simp [kL]; omega
  | c :: l, n, h, hl => by
    have h1 := hl c (by simp)
    have ih := kL_bd l (2 * n + c) (by omega) fun x hx => hl x (by simp [hx])
    have e : kL n (c :: l) = kL (2 * n + c) l := rfl
    rw [e, List.length_cons, Int.pow_succ]
    refine ⟨ih.1, Int.lt_of_lt_of_le ih.2 ?_⟩
    have hp : (0 : Int) ≤ 2 ^ l.length := Int.le_of_lt (Int.pow_pos (by decide))
    have : (2 * n + c + 1) * 2 ^ l.length ≤ (2 * (n + 1)) * 2 ^ l.length := Int.mul_le_mul_of_nonneg_right (by omega) hp
    calc (2 * n + c + 1) * 2 ^ l.length ≤ (2 * (n + 1)) * 2 ^ l.length := this
      _ = (n + 1) * (2 ^ l.length * 2) := by rw [Int.mul_comm 2 (n + 1), Int.mul_assoc, Int.mul_comm 2]
theorem kL_inj : ∀ (l l' : List Int) (n n' : Int), l.length = l'.length → (∀ x ∈ l, 0 ≤ x ∧ x ≤ 1) → (∀ x ∈ l', 0 ≤ x ∧ x ≤ 1) → kL n l = kL n' l' → n = n' ∧ l = l'
  | [], [], n, n', _, _, _, h => ⟨h, rfl⟩
  | c :: l, c' :: l', n, n', hlen, h1, h2, h => by
    have q1 := h1 c (by simp); have q2 := h2 c' (by simp)
    obtain ⟨e1, e2⟩ := kL_inj l l' (2 * n + c) (2 * n' + c') (by simpa using hlen) (fun x hx => h1 x (by simp [hx])) (fun x hx => h2 x (by simp [hx])) h
    have e3 : n = n' := by omega
    have e4 : c = c' := by omega
    subst e3; subst e4; subst e2
    exact ⟨rfl, rfl⟩
  | [], _ :: _, _, _, h, _, _, _ => by simp at h
  | _ :: _, [], _, _, h, _, _, _ => by simp at h
theorem kG_inj : ∀ (g g' : List (List Int)) (n n' : Int) (C : Nat), g.length = g'.length → (∀ r ∈ g, r.length = C ∧ ∀ x ∈ r, 0 ≤ x ∧ x ≤ 1) → (∀ r ∈ g', r.length = C ∧ ∀ x ∈ r, 0 ≤ x ∧ x ≤ 1) → kG n g = kG n' g' → n = n' ∧ g = g'
  | [], [], n, n', _, _, _, _, h => ⟨h, rfl⟩
  | r :: g, r' :: g', n, n', C, hlen, h1, h2, h => by
    have q1 := h1 r (by simp); have q2 := h2 r' (by simp)
    obtain ⟨e1, e2⟩ := kG_inj g g' (kL n r) (kL n' r') C (by simpa using hlen) (fun x hx => h1 x (by simp [hx])) (fun x hx => h2 x (by simp [hx])) h
    obtain ⟨e3, e4⟩ := kL_inj r r' n n' (q1.1.trans q2.1.symm) q1.2 q2.2 e1
    subst e3; subst e4; subst e2
    exact ⟨rfl, rfl⟩
  | [], _ :: _, _, _, _, h, _, _, _ => by simp at h
  | _ :: _, [], _, _, _, h, _, _, _ => by simp at h
theorem kG_bd {C : Nat} : ∀ (k : Nat) (g : List (List Int)), g.length = k → (∀ r ∈ g, r.length = C ∧ ∀ x ∈ r, 0 ≤ x ∧ x ≤ 1) → 0 ≤ kG 0 g ∧ kG 0 g < 2 ^ (C * k)
  | 0, g, hk, _ => by
    have : g = [] := List.eq_nil_of_length_eq_zero hk
    subst this; simp [kG]
  | k + 1, g, hk, h => by
    rcases List.eq_nil_or_concat g with rfl | ⟨m, r, rfl⟩
    · simp at hk
    rw [List.concat_eq_append] at *
    have hm : m.length = k := by simpa using hk
    have ih := kG_bd k m hm fun r' hr' => h r' (by simp [hr'])
    have hr := h r (by simp)
    have hb := kL_bd r (kG 0 m) ih.1 hr.2
    rw [kG_snoc]
    refine ⟨hb.1, Int.lt_of_lt_of_le hb.2 ?_⟩
    have hp : (0 : Int) ≤ 2 ^ r.length := Int.le_of_lt (Int.pow_pos (by decide))
    have := Int.mul_le_mul_of_nonneg_right (show kG 0 m + 1 ≤ 2 ^ (C * k) by omega) hp
    refine Int.le_trans this ?_
    rw [hr.1, ← Int.pow_add, Nat.mul_succ]
    exact Int.le_refl _
/-- The number of an image. -/
def keyR (g : List (List Int)) : Int := kG 0 g
theorem good_rows {g : Img} {R C : Nat} (h : Good g R C) : ∀ r ∈ g, r.length = C ∧ ∀ x ∈ r, 0 ≤ x ∧ x ≤ 1 := by
  have := (imgOk_in h.img).2.2.2.2
  rw [h.hd] at this; exact this
theorem key_inj {g h : Img} {R C : Nat} (hg : Good g R C) (hh : Good h R C) (e : keyR g = keyR h) : g = h := (kG_inj g h 0 0 C (hg.len.trans hh.len.symm) (good_rows hg) (good_rows hh) e).2
theorem key_bd {g : Img} {R C : Nat} (hg : Good g R C) (h4 : R ≤ 4) (h5 : C ≤ 4) : 0 ≤ keyR g ∧ keyR g < 65536 := by
  obtain ⟨h1, h2⟩ := kG_bd (C := C) R g hg.len (good_rows hg)
  refine ⟨h1, Int.lt_of_lt_of_le h2 ?_⟩
  have hm : C * R ≤ 16 := Nat.mul_le_mul h5 h4
  have := Nat.pow_le_pow_right (show 0 < 2 by decide) hm
  have e : ((2 ^ (C * R) : Nat) : Int) = (2 : Int) ^ (C * R) := by push_cast; rfl
  rw [← e]
  have : ((2 ^ (C * R) : Nat) : Int) ≤ ((2 ^ 16 : Nat) : Int) := by exact_mod_cast this
  simpa using this

/-! ### Not more found than there are numbers -/
theorem nodup_bd : ∀ (N : Nat) (l : List Nat), l.Nodup → (∀ x ∈ l, x < N) → l.length ≤ N
  | 0, l, _, h => by
    cases l with
    | nil => simp
    | cons x l => have := h x (by simp); omega
  | N + 1, l, hn, h => by
    by_cases hN : N ∈ l
    · have h1 := nodup_bd N (l.erase N) (hn.erase N) (fun x hx => by
        have := (hn.mem_erase_iff).1 hx
        have := h x this.2
        omega)
      rw [List.length_erase_of_mem hN] at h1
      omega
    · have := nodup_bd N l hn (fun x hx => by
        have := h x hx
        have : x ≠ N := fun e => hN (e ▸ hx)
        omega)
      omega
theorem found_bd {L : List (Vx Img Sw)} {R C : Nat} (hn : ∀ (k k' : Nat) (v v' : Vx Img Sw), L[k]? = some v → L[k']? = some v' → v.x = v'.x → k = k') (hg : ∀ (k : Nat) (v : Vx Img Sw), L[k]? = some v → Good v.x R C) (h4 : R ≤ 4) (h5 : C ≤ 4) : L.length ≤ 65536 := by
  have h1 : (L.map fun v => (keyR v.x).toNat).Nodup := by
    unfold List.Nodup
    rw [List.pairwise_iff_getElem]
    intro i j hi hj hij e
    rw [List.length_map] at hi hj
    simp only [List.getElem_map] at e
    have g1 := hg i _ (List.getElem?_eq_getElem (by omega : i < L.length))
    have g2 := hg j _ (List.getElem?_eq_getElem hj)
    have k1 := key_bd g1 h4 h5
    have k2 := key_bd g2 h4 h5
    have := hn i j _ _ (List.getElem?_eq_getElem (by omega : i < L.length)) (List.getElem?_eq_getElem hj) (key_inj g1 g2 (by omega))
    omega
  have h2 := nodup_bd 65536 _ h1 (fun x hx => by
    obtain ⟨v, hv, rfl⟩ := List.mem_map.1 hx
    obtain ⟨k, hk⟩ := List.mem_iff_getElem?.1 hv
    have := key_bd (hg k v hk) h4 h5
    omega)
  simpa using h2
end Go.Proofs.Ytpjlgcohafbbdaa
