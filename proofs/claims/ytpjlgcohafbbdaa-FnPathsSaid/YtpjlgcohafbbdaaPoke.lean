/- Grids by their cells: shape, putN, mkG; writes of one cell into an owned grid. -/
import Derived.Test.YtpjlgcohafbbdaaMem
import Derived.Test.YtpjlgcohafbbdaaW3
import Derived.Test.YtpjlgcohafbbdaaW6
import Derived.Test.YtpjlgcohafbbdaaW8
import Derived.Lib.Hide
import Derived.WalkKit
import Derived.Below
namespace Go.Proofs.Ytpjlgcohafbbdaa
open Go.RowKit
set_option linter.unusedVariables false
set_option linter.unusedSimpArgs false

def shape (G : List (List Int)) (R C : Nat) : Prop := G.length = R ∧ ∀ (y : Nat) (r : List Int), G[y]? = some r → r.length = C
def putN (G : List (List Int)) (y x : Nat) (z : Int) : List (List Int) := G.set y ((G.getD y []).set x z)
def mkG (R C : Nat) (F : Nat → Nat → Int) : List (List Int) := (List.range R).map fun y => (List.range C).map fun x => F y x

theorem shape_row {G : List (List Int)} {R C y : Nat} (h : shape G R C) (hy : y < R) : ∃ r, G[y]? = some r ∧ r.length = C := by
  obtain ⟨h1, h2⟩ := h
  have : y < G.length := by omega
  exact ⟨G[y], List.getElem?_eq_getElem this, h2 y _ (List.getElem?_eq_getElem this)⟩
theorem shape_cell {G : List (List Int)} {R C y x : Nat} (h : shape G R C) (hy : y < R) (hx : x < C) : ∃ r, G[y]? = some r ∧ r.length = C ∧ r[x]? = some (cellN G y x) := by
  obtain ⟨r, h1, h2⟩ := shape_row h hy
  obtain ⟨z, hz⟩ := get_of_lt r x (by omega)
  exact ⟨r, h1, h2, by rw [cellN_get h1 hz]; exact hz⟩
theorem putN_eq {G : List (List Int)} {y : Nat} {r : List Int} (h : G[y]? = some r) (x : Nat) (z : Int) : putN G y x z = G.set y (r.set x z) := by
  unfold putN; rw [List.getD_eq_getElem?_getD, h]; rfl
theorem shape_put {G : List (List Int)} {R C y : Nat} (h : shape G R C) (x : Nat) (z : Int) : shape (putN G y x z) R C := by
  refine ⟨by unfold putN; rw [List.length_set]; exact h.1, fun i r hr => ?_⟩
  unfold putN at hr
  by_cases e : i = y
  · subst e
    have hl : i < G.length := by have := (List.getElem?_eq_some_iff.1 hr).1; simpa using this
    rw [List.getElem?_set_self hl] at hr
    injection hr with hr; subst hr
    rw [List.length_set, List.getD_eq_getElem?_getD, List.getElem?_eq_getElem hl]
    exact h.2 i _ (List.getElem?_eq_getElem hl)
  · rw [List.getElem?_set_ne (fun c => e c.symm)] at hr
    exact h.2 i r hr
theorem cell_put {G : List (List Int)} {R C y x : Nat} (h : shape G R C) (hy : y < R) (hx : x < C) (z : Int) (i j : Nat) : cellN (putN G y x z) i j = if i = y ∧ j = x then z else cellN G i j := by
  obtain ⟨r, h1, h2⟩ := shape_row h hy
  rw [putN_eq h1]
  have hl : y < G.length := by have := h.1; omega
  unfold cellN
  simp only [List.getD_eq_getElem?_getD]
  by_cases e : i = y
  · subst e
    rw [List.getElem?_set_self hl, h1]
    simp only [Option.getD_some, true_and]
    by_cases e2 : j = x
    · subst e2; rw [List.getElem?_set_self (by omega), if_pos rfl]; rfl
    · rw [List.getElem?_set_ne (fun c => e2 c.symm), if_neg e2]
  · rw [List.getElem?_set_ne (fun c => e c.symm), if_neg (fun c => e c.1)]
theorem shape_ext {G H : List (List Int)} {R C : Nat} (hG : shape G R C) (hH : shape H R C) (h : ∀ y x, y < R → x < C → cellN G y x = cellN H y x) : G = H := by
  refine List.ext_getElem? fun y => ?_
  by_cases hy : y < R
  · obtain ⟨r, h1, h2⟩ := shape_row hG hy
    obtain ⟨s, h3, h4⟩ := shape_row hH hy
    rw [h1, h3]
    congr 1
    refine List.ext_getElem? fun x => ?_
    by_cases hx : x < C
    · obtain ⟨a, ha⟩ := get_of_lt r x (by omega)
      obtain ⟨b, hb⟩ := get_of_lt s x (by omega)
      have := h y x hy hx
      rw [cellN_get h1 ha, cellN_get h3 hb] at this
      rw [ha, hb, this]
    · rw [List.getElem?_eq_none (by omega), List.getElem?_eq_none (by omega)]
  · rw [List.getElem?_eq_none (by have := hG.1; omega), List.getElem?_eq_none (by have := hH.1; omega)]
theorem shape_mk (R C : Nat) (F : Nat → Nat → Int) : shape (mkG R C F) R C := by
  refine ⟨by simp [mkG], fun y r h => ?_⟩
  obtain ⟨h1, rfl⟩ := List.getElem?_eq_some_iff.1 h
  simp [mkG]
theorem cell_mk {R C y x : Nat} {F : Nat → Nat → Int} (hy : y < R) (hx : x < C) : cellN (mkG R C F) y x = F y x := by
  simp [mkG, cellN, List.getD_eq_getElem?_getD, hy, hx]
theorem shape_zeros (R C : Nat) : shape (zeros R C) R C := by
  refine ⟨by simp [zeros], fun y r h => ?_⟩
  obtain ⟨h1, rfl⟩ := List.getElem?_eq_some_iff.1 h
  simp [zeros]
theorem cell_zeros (R C y x : Nat) : cellN (zeros R C) y x = 0 := by
  unfold cellN zeros
  simp only [List.getD_eq_getElem?_getD]
  by_cases hy : y < R
  · rw [List.getElem?_replicate, if_pos hy]
    simp only [Option.getD_some, List.getElem?_replicate]
    split <;> rfl
  · rw [List.getElem?_replicate, if_neg hy]; rfl
theorem mk_of {G : List (List Int)} {R C : Nat} {F : Nat → Nat → Int} (hG : shape G R C) (h : ∀ y x, y < R → x < C → cellN G y x = F y x) : G = mkG R C F :=
  shape_ext hG (shape_mk R C F) fun y x hy hx => by rw [h y x hy hx, cell_mk hy hx]
theorem img_shape {g : List (List Int)} (h : imgOk g = true) : shape g g.length (hd g).length := by
  obtain ⟨_, _, _, _, h5⟩ := imgOk_in h
  exact ⟨rfl, fun y r hr => (h5 r (List.mem_of_getElem? hr)).1⟩
theorem img_cell01 {g : List (List Int)} (h : imgOk g = true) {y x : Nat} (hy : y < g.length) (hx : x < (hd g).length) : 0 ≤ cellN g y x ∧ cellN g y x ≤ 1 := by
  obtain ⟨r, z, _, _, _, e, h01⟩ := img_cell h hy hx
  omega
theorem mkG_total (R C : Nat) (F : Nat → Nat → Int) : total (mkG R C F) = R * C := by
  have : ∀ n : Nat, total ((List.range n).map fun y => (List.range C).map fun x => F y x) = n * C := by
    intro n
    induction n with
    | zero => simp [total]
    | succ n ih => rw [List.range_succ, List.map_append, List.map_cons, List.map_nil, total_snoc, ih]; simp [Nat.succ_mul]
  exact this R

/-- A grid of target cells F, filled up to place (k, j) of the source; S: the source's place of a target cell. -/
def Prog (G : List (List Int)) (R C : Nat) (S : Nat → Nat → Nat × Nat) (F : Nat → Nat → Int) (k j : Nat) : Prop :=
  shape G R C ∧ ∀ y x, y < R → x < C → cellN G y x = if (S y x).1 < k ∨ ((S y x).1 = k ∧ (S y x).2 < j) then F y x else 0
theorem Prog.start (R C : Nat) (S : Nat → Nat → Nat × Nat) (F : Nat → Nat → Int) : Prog (zeros R C) R C S F 0 0 :=
  ⟨shape_zeros R C, fun y x _ _ => by rw [cell_zeros, if_neg (by omega)]⟩
theorem Prog.step {G : List (List Int)} {R C k j ty tx : Nat} {S : Nat → Nat → Nat × Nat} {F : Nat → Nat → Int} (h : Prog G R C S F k j) (hy : ty < R) (hx : tx < C) (hS : S ty tx = (k, j))
    (hI : ∀ y x, y < R → x < C → S y x = (k, j) → y = ty ∧ x = tx) {z : Int} (hz : z = F ty tx) : Prog (putN G ty tx z) R C S F k (j + 1) := by
  refine ⟨shape_put h.1 _ _, fun y x h1 h2 => ?_⟩
  rw [cell_put h.1 hy hx]
  by_cases e : y = ty ∧ x = tx
  · obtain ⟨rfl, rfl⟩ := e
    rw [if_pos ⟨rfl, rfl⟩, hS, if_pos (by simp), hz]
  · rw [if_neg e, h.2 y x h1 h2]
    have hne : S y x ≠ (k, j) := fun c => e (hI y x h1 h2 c)
    have : ((S y x).1 < k ∨ ((S y x).1 = k ∧ (S y x).2 < j)) ↔ ((S y x).1 < k ∨ ((S y x).1 = k ∧ (S y x).2 < j + 1)) := by
      constructor
      · omega
      · rintro (h3 | ⟨h3, h4⟩)
        · exact .inl h3
        · by_cases h5 : (S y x).2 = j
          · exact absurd (Prod.ext h3 h5) hne
          · right; omega
    simp only [this]
theorem Prog.next {G : List (List Int)} {R C k j : Nat} {S : Nat → Nat → Nat × Nat} {F : Nat → Nat → Int} (h : Prog G R C S F k j) (hj : ∀ y x, y < R → x < C → (S y x).2 < j) : Prog G R C S F (k + 1) 0 := by
  refine ⟨h.1, fun y x h1 h2 => ?_⟩
  rw [h.2 y x h1 h2]
  have := hj y x h1 h2
  have e : ((S y x).1 < k ∨ ((S y x).1 = k ∧ (S y x).2 < j)) ↔ ((S y x).1 < k + 1 ∨ ((S y x).1 = k + 1 ∧ (S y x).2 < 0)) := by omega
  simp only [e]
theorem Prog.fin {G : List (List Int)} {R C k j : Nat} {S : Nat → Nat → Nat × Nat} {F : Nat → Nat → Int} (h : Prog G R C S F k j) (hk : ∀ y x, y < R → x < C → (S y x).1 < k) : G = mkG R C F :=
  mk_of h.1 fun y x h1 h2 => by rw [h.2 y x h1 h2, if_pos (.inl (hk y x h1 h2))]

/-- The same over a grid that held B. -/
def PB (G : List (List Int)) (R C : Nat) (S : Nat → Nat → Nat × Nat) (F B : Nat → Nat → Int) (k j : Nat) : Prop :=
  shape G R C ∧ ∀ y x, y < R → x < C → cellN G y x = if (S y x).1 < k ∨ ((S y x).1 = k ∧ (S y x).2 < j) then F y x else B y x
theorem PB.start {G : List (List Int)} {R C : Nat} (h : shape G R C) (S : Nat → Nat → Nat × Nat) (F B : Nat → Nat → Int) (hB : ∀ y x, y < R → x < C → cellN G y x = B y x) : PB G R C S F B 0 0 :=
  ⟨h, fun y x h1 h2 => by rw [if_neg (by omega), hB y x h1 h2]⟩
theorem PB.cur {G : List (List Int)} {R C k j y x : Nat} {S : Nat → Nat → Nat × Nat} {F B : Nat → Nat → Int} (h : PB G R C S F B k j) (hy : y < R) (hx : x < C) (hS : S y x = (k, j)) : cellN G y x = B y x := by
  rw [h.2 y x hy hx, hS, if_neg (by simp)]
theorem PB.step {G : List (List Int)} {R C k j ty tx : Nat} {S : Nat → Nat → Nat × Nat} {F B : Nat → Nat → Int} (h : PB G R C S F B k j) (hy : ty < R) (hx : tx < C) (hS : S ty tx = (k, j))
    (hI : ∀ y x, y < R → x < C → S y x = (k, j) → y = ty ∧ x = tx) {z : Int} (hz : z = F ty tx) : PB (putN G ty tx z) R C S F B k (j + 1) := by
  refine ⟨shape_put h.1 _ _, fun y x h1 h2 => ?_⟩
  rw [cell_put h.1 hy hx]
  by_cases e : y = ty ∧ x = tx
  · obtain ⟨rfl, rfl⟩ := e
    rw [if_pos ⟨rfl, rfl⟩, hS, if_pos (by simp), hz]
  · rw [if_neg e, h.2 y x h1 h2]
    have hne : S y x ≠ (k, j) := fun c => e (hI y x h1 h2 c)
    have : ((S y x).1 < k ∨ ((S y x).1 = k ∧ (S y x).2 < j)) ↔ ((S y x).1 < k ∨ ((S y x).1 = k ∧ (S y x).2 < j + 1)) := by
      constructor
      · omega
      · rintro (h3 | ⟨h3, h4⟩)
        · exact .inl h3
        · by_cases h5 : (S y x).2 = j
          · exact absurd (Prod.ext h3 h5) hne
          · right; omega
    simp only [this]
theorem PB.next {G : List (List Int)} {R C k j : Nat} {S : Nat → Nat → Nat × Nat} {F B : Nat → Nat → Int} (h : PB G R C S F B k j) (hj : ∀ y x, y < R → x < C → (S y x).2 < j) : PB G R C S F B (k + 1) 0 := by
  refine ⟨h.1, fun y x h1 h2 => ?_⟩
  rw [h.2 y x h1 h2]
  have := hj y x h1 h2
  have e : ((S y x).1 < k ∨ ((S y x).1 = k ∧ (S y x).2 < j)) ↔ ((S y x).1 < k + 1 ∨ ((S y x).1 = k + 1 ∧ (S y x).2 < 0)) := by omega
  simp only [e]
theorem PB.fin {G : List (List Int)} {R C k j : Nat} {S : Nat → Nat → Nat × Nat} {F B : Nat → Nat → Int} (h : PB G R C S F B k j) (hk : ∀ y x, y < R → x < C → (S y x).1 < k) : G = mkG R C F :=
  mk_of h.1 fun y x h1 h2 => by rw [h.2 y x h1 h2, if_pos (.inl (hk y x h1 h2))]

section
variable {w : World} {lo hi : Nat} {T I : TypeId} {v : Value} {G : List (List Int)}
/-- A cell of an owned grid, ready to be read and written. -/
theorem OwG.poke {R C y x : Nat} (h : OwG w lo hi T I v G) (hTI : T ≠ I) (hs : shape G R C) (hy : y < R) (hx : x < C) :
    ∃ b cap c cc, v = .slice (some ⟨b, 0, none⟩) R cap ∧ R ≤ cap ∧ cap ≤ 9223372036854775807 ∧ w.cell? ⟨b, y, none⟩ = some (.slice (some ⟨c, 0, none⟩) C cc) ∧ C ≤ cc ∧ cc ≤ 9223372036854775807 ∧
      w.cell? ⟨c, x, none⟩ = some (.int .i64 (cellN G y x)) ∧ w.frozen? ⟨c, x, none⟩ = false ∧ lo ≤ c ∧ b ≠ c ∧
      Hid (∀ z : Int, OwG (w.setCell ⟨c, x, none⟩ (.int .i64 z)) lo hi T I (.slice (some ⟨b, 0, none⟩) R cap) (putN G y x z)) := by
  obtain ⟨r, hr, hrl, hz⟩ := shape_cell hs hy hx
  obtain ⟨A, cap, rfl, h1, h2⟩ := h.form'
  obtain ⟨b, u, rfl, q1, q2, q3, q4, q5, q6⟩ := h.at_ hr
  obtain ⟨A2, cc, rfl, h3, h4⟩ := q6.form'
  have hl : (ints r).length = r.length := by simp [ints]
  have hxl : (ints r)[x]? = some (.int .i64 (cellN G y x)) := by simp [ints, hz]
  obtain ⟨c, rfl, p1, p2, p3, p4, p5⟩ := q6.at_ hxl
  have hGl := hs.1
  have hbc : b ≠ c := by
    obtain ⟨vs, he, k1, k2, k3⟩ := h
    have := q6.ne_ k1 (fun e => hTI e.symm) (k := c) rfl
    intro e; subst e; exact this rfl
  rw [hl, hrl] at q4 h3
  rw [hGl] at h1
  refine ⟨b, cap, c, cc, by rw [hGl], h1, h2, q4, h3, h4, p4, p5, p1, hbc, Lib.hid fun z => ?_⟩
  rw [putN_eq hr]
  have hw := Ow.set' (n := (ints r).length) rfl q6 x (.int .i64 z)
  rw [ints_set] at hw
  rw [← hrl, ← hl] at q4
  have := h.row' hTI hr q4 (w' := w.setCell ⟨c, x, none⟩ (.int .i64 z)) (grown_setCell (World.grownBy.refl _ _) x _) hw
  rw [hGl] at this
  exact this
/-- The same, where the row's own value is known. -/
theorem OwG.poke_at {R C y x b cap c cc n m : Nat} (h : OwG w lo hi T I (.slice (some ⟨b, 0, none⟩) n cap) G) (hc : w.cell? ⟨b, y, none⟩ = some (.slice (some ⟨c, 0, none⟩) m cc)) (hTI : T ≠ I) (hs : shape G R C) (hy : y < R) (hx : x < C) :
    m = C ∧ w.cell? ⟨c, x, none⟩ = some (.int .i64 (cellN G y x)) ∧ w.frozen? ⟨c, x, none⟩ = false ∧ lo ≤ c ∧ b ≠ c ∧ C ≤ cc ∧ cc ≤ 9223372036854775807 ∧
      Hid (∀ z : Int, OwG (w.setCell ⟨c, x, none⟩ (.int .i64 z)) lo hi T I (.slice (some ⟨b, 0, none⟩) n cap) (putN G y x z)) := by
  obtain ⟨b', cap', c', cc', e, h1, h2, h3, h4, h5, h6, h7, h8, h9, h10⟩ := h.poke hTI hs hy hx
  injection e with e1 e2 e3; injection e1 with e1; injection e1 with e1
  subst e1; subst e2; subst e3
  rw [hc] at h3
  injection h3 with h3; injection h3 with q1 q2 q3; injection q1 with q1; injection q1 with q1
  subst q1; subst q2; subst q3
  exact ⟨rfl, h6, h7, h8, h9, h4, h5, h10⟩
/-- The row's value. -/
theorem OwG.rowv {R C y : Nat} (h : OwG w lo hi T I v G) (hTI : T ≠ I) (hs : shape G R C) (hy : y < R) (hC : 0 < C) :
    ∃ b cap c cc, v = .slice (some ⟨b, 0, none⟩) R cap ∧ R ≤ cap ∧ cap ≤ 9223372036854775807 ∧ w.cell? ⟨b, y, none⟩ = some (.slice (some ⟨c, 0, none⟩) C cc) ∧ C ≤ cc ∧ cc ≤ 9223372036854775807 ∧ lo ≤ c := by
  obtain ⟨b', cap', c', cc', e, h1, h2, h3, h4, h5, h6, h7, h8, h9, h10⟩ := h.poke hTI hs hy hC
  exact ⟨b', cap', c', cc', e, h1, h2, h3, h4, h5, h8⟩
theorem cell_far {p q : Addr} {u : Value} (h : w.cell? p = some u) (hne : p.block ≠ q.block) (z : Value) : (w.setCell q z).cell? p = some u := by
  rw [World.cell?_setCell_other (h := fun e => hne (by rw [e]))]; exact h
/-- A cell of a read grid. -/
theorem RdG.peek {R C y x : Nat} (h : RdG w lo hi v G) (hs : shape G R C) (hy : y < R) (hx : x < C) :
    ∃ b o cap c p cc, v = .slice (some ⟨b, o, none⟩) R cap ∧ R ≤ cap ∧ cap ≤ 9223372036854775807 ∧ w.cell? ⟨b, o + y, none⟩ = some (.slice (some ⟨c, p, none⟩) C cc) ∧ C ≤ cc ∧ cc ≤ 9223372036854775807 ∧
      w.cell? ⟨c, p + x, none⟩ = some (.int .i64 (cellN G y x)) := by
  obtain ⟨r, hr, hrl, hz⟩ := shape_cell hs hy hx
  obtain ⟨A, cap, rfl, h1, h2⟩ := h.form
  have hGl := hs.1
  obtain ⟨b, o, rfl, _, _⟩ := h.some_ (by omega)
  obtain ⟨A1, c1, hc1, h3, h4, hrow1⟩ := h.row hr
  obtain ⟨c, p, rfl, _, _⟩ := hrow1.some_ (by omega)
  have hc2 := hrow1.cell hz
  exact ⟨b, o, cap, c, p, c1, by rw [hGl], by omega, h2, by rw [hc1, hrl], by omega, h4, hc2⟩
end
end Go.Proofs.Ytpjlgcohafbbdaa
