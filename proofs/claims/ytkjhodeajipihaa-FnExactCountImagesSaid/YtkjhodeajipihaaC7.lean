/- Words for the closure of AllImages: what its boxes hold, and the count cell by cell. -/
import Derived.Test.YtkjhodeajipihaaProg
import Derived.Test.YtkjhodeajipihaaW1
import Derived.Test.YtkjhodeajipihaaW3
import Derived.Test.YtkjhodeajipihaaW4
import Derived.Test.YtkjhodeajipihaaW6
import Derived.Test.YtkjhodeajipihaaPoke
import Derived.Test.YtkjhodeajipihaaC1
import Derived.Test.YtkjhodeajipihaaC3
import Derived.Test.YtkjhodeajipihaaC4
import Derived.Test.YtkjhodeajipihaaMem
import Derived.WalkKit
import Derived.KernelRfl
import Derived.Lib.Hide
namespace Go.Proofs.Ytkjhodeajipihaa
open Go.RowKit
set_option linter.unusedVariables false
set_option linter.unusedSimpArgs false

structure PEnv where
  a0 : Nat
  bc : Nat
  br : Nat
  bo : Nat
  bm : Nat
  bl : Nat
  bp : Nat
  g1 : Nat
  g2 : Nat
  l1 : Nat
  l2 : Nat
  B0 : Nat
  cA : Option Addr
  cc : Nat
  rb : Nat
  ro : Nat
  rc : Nat
  mb : Nat
  mc : Nat
  lb : Nat
  lc : Nat
  R : Nat
  C : Nat
  rows : List Int
def fnv (e : PEnv) : Value := .func (.func 16) #[] #[.pointer (some ⟨e.bc, 0, none⟩), .pointer (some ⟨e.br, 0, none⟩), .pointer (some ⟨e.bo, 0, none⟩), .pointer (some ⟨e.bm, 0, none⟩), .pointer (some ⟨e.bl, 0, none⟩), .pointer (some ⟨e.bp, 0, none⟩)]
structure LayP (e : PEnv) : Prop where
  p1 : e.a0 ≤ e.br
  p2 : e.br < e.bc
  p3 : e.bc < e.bo
  p4 : e.bo < e.g1
  p5 : e.g1 ≤ e.g2
  p6 : e.g2 ≤ e.bm
  p7 : e.bm < e.l1
  p8 : e.l1 ≤ e.l2
  p9 : e.l2 ≤ e.bl
  p10 : e.bl < e.bp
  p11 : e.bp < e.B0
  q1 : e.R ≤ 5
  q2 : e.C ≤ 5
  q3 : 1 ≤ e.C
  q4 : 1 ≤ e.R
  q5 : e.rows.length = e.R
  q6 : ∀ n ∈ e.rows, 0 ≤ n ∧ n ≤ 5
  q7 : e.R ≤ e.mc ∧ e.mc ≤ 9223372036854775807
  q8 : e.C ≤ e.lc ∧ e.lc ≤ 9223372036854775807
  q9 : e.R ≤ e.rc ∧ e.rc ≤ 9223372036854775807
  q10 : e.C ≤ e.cc ∧ e.cc ≤ 9223372036854775807
structure PutS (e : PEnv) (w : World) (O : Value) (os : List Value) (G : List (List Int)) (L : List Int) : Prop where
  cC : w.cell? ⟨e.bc, 0, none⟩ = some (.slice e.cA e.C e.cc)
  cR : w.cell? ⟨e.br, 0, none⟩ = some (.slice (some ⟨e.rb, e.ro, none⟩) e.R e.rc)
  cM : w.cell? ⟨e.bm, 0, none⟩ = some (.slice (some ⟨e.mb, 0, none⟩) e.R e.mc)
  cL : w.cell? ⟨e.bl, 0, none⟩ = some (.slice (some ⟨e.lb, 0, none⟩) e.C e.lc)
  cP : w.cell? ⟨e.bp, 0, none⟩ = some (fnv e)
  cO : w.cell? ⟨e.bo, 0, none⟩ = some O
  fO : w.frozen? ⟨e.bo, 0, none⟩ = false
  hG : OwG w e.g1 e.g2 22 3 (.slice (some ⟨e.mb, 0, none⟩) e.R e.mc) G
  sh : shape G e.R e.C
  hL : Ow w e.l1 e.l2 3 (.slice (some ⟨e.lb, 0, none⟩) e.C e.lc) (ints L)
  hO : Ow w e.B0 w.heap.size 30 O os
  rR : RdI w 0 e.a0 (.slice (some ⟨e.rb, e.ro, none⟩) e.R e.rc) e.rows
  sz : e.B0 ≤ w.heap.size

section
variable {e : PEnv} {w w' : World} {O : Value} {os : List Value} {G : List (List Int)} {L : List Int}
theorem cell_below {B : Nat} {p : Addr} {u : Value} (h : w.cell? p = some u) (hb : Below B w w') (hp : p.block < B) : w'.cell? p = some u := (World.cell?_of_block (hb.block p.block hp)).trans h
theorem frozen_far {p q : Addr} (hne : p.block ≠ q.block) (z : Value) : (w.setCell q z).frozen? p = w.frozen? p := World.frozen?_of_block (Below.heap_setCell _ _ _ _ hne)
/-- The list has grown, in new memory. -/
theorem PutS.pushed (hl : LayP e) (h : PutS e w O os G L) (hb : Below e.B0 w w') {V : Value} {vs : List Value} (hV : Ow w' e.B0 w'.heap.size 30 V vs) : PutS e (w'.setCell ⟨e.bo, 0, none⟩ V) V vs G L := by
  obtain ⟨p1, p2, p3, p4, p5, p6, p7, p8, p9, p10, p11, q1, q2, q3, q4, q5, q6, q7, q8, q9, q10⟩ := hl
  obtain ⟨h1, h2, h3, h4, h5, h6, h7, h8, h9, h10, h11, h12, h13⟩ := h
  have hc : Chg e.B0 w.heap.size w w' := Chg.ofBelow hb _ (Nat.le_refl _)
  have hs := hb.size
  have sz' : (w'.setCell ⟨e.bo, 0, none⟩ V).heap.size = w'.heap.size := by simp [World.setCell]
  have hbo : w'.cell? ⟨e.bo, 0, none⟩ = some O := cell_below h6 hb (by simp only; omega)
  have hfo : w'.frozen? ⟨e.bo, 0, none⟩ = false := by
    rw [← h7]; exact World.frozen?_of_block (hb.block _ (by simp only; omega))
  refine ⟨cell_far (cell_below h1 hb (by simp only; omega)) (by simp only; omega) _, cell_far (cell_below h2 hb (by simp only; omega)) (by simp only; omega) _, cell_far (cell_below h3 hb (by simp only; omega)) (by simp only; omega) _,
    cell_far (cell_below h4 hb (by simp only; omega)) (by simp only; omega) _, cell_far (cell_below h5 hb (by simp only; omega)) (by simp only; omega) _, ?_, ?_, ?_, h9, ?_, ?_, ?_, by omega⟩
  · exact World.cell?_setCell_same _ _ _ hbo
  · rw [World.frozen?_setCell]; exact hfo
  · exact (h8.chg hc (.inl (by omega))).chg ((Chg.refl e.bo (e.bo + 1) w').setCell (.inl ⟨Nat.le_refl _, Nat.lt_succ_self _⟩) V) (.inr (.inl (by omega)))
  · exact (h10.chg hc (.inl (by omega))).chg ((Chg.refl e.bo (e.bo + 1) w').setCell (.inl ⟨Nat.le_refl _, Nat.lt_succ_self _⟩) V) (.inr (.inl (by omega)))
  · rw [sz']; exact hV.chg ((Chg.refl e.bo (e.bo + 1) w').setCell (.inl ⟨Nat.le_refl _, Nat.lt_succ_self _⟩) V) (.inr (.inl (by omega)))
  · exact (h12.chg hc (.inl (by omega))).chg ((Chg.refl e.bo (e.bo + 1) w').setCell (.inl ⟨Nat.le_refl _, Nat.lt_succ_self _⟩) V) (.inl (by omega))
/-- A cell of the grid is written. -/
theorem PutS.grid (hl : LayP e) (h : PutS e w O os G L) {c x : Nat} {z : Value} {G' : List (List Int)} (hc : e.g1 ≤ c ∧ c < e.g2) (hG : OwG (w.setCell ⟨c, x, none⟩ z) e.g1 e.g2 22 3 (.slice (some ⟨e.mb, 0, none⟩) e.R e.mc) G') (hs : shape G' e.R e.C) : PutS e (w.setCell ⟨c, x, none⟩ z) O os G' L := by
  obtain ⟨p1, p2, p3, p4, p5, p6, p7, p8, p9, p10, p11, q1, q2, q3, q4, q5, q6, q7, q8, q9, q10⟩ := hl
  obtain ⟨h1, h2, h3, h4, h5, h6, h7, h8, h9, h10, h11, h12, h13⟩ := h
  have sz' : (w.setCell ⟨c, x, none⟩ z).heap.size = w.heap.size := by simp [World.setCell]
  have hch : Chg c (c + 1) w (w.setCell ⟨c, x, none⟩ z) := (Chg.refl c (c + 1) w).setCell (.inl ⟨Nat.le_refl _, Nat.lt_succ_self _⟩) z
  refine ⟨cell_far h1 (by simp only; omega) _, cell_far h2 (by simp only; omega) _, cell_far h3 (by simp only; omega) _, cell_far h4 (by simp only; omega) _, cell_far h5 (by simp only; omega) _, cell_far h6 (by simp only; omega) _, ?_, hG, hs, ?_, ?_, ?_, by omega⟩
  · rw [frozen_far (by simp only; omega)]; exact h7
  · exact h10.chg hch (.inr (.inl (by omega)))
  · rw [sz']; exact h11.chg hch (.inr (.inl (by omega)))
  · exact h12.chg hch (.inl (by omega))
/-- What is left of a column is written. -/
theorem PutS.left (hl : LayP e) (h : PutS e w O os G L) (x : Nat) (z : Int) : PutS e (w.setCell ⟨e.lb, x, none⟩ (.int .i64 z)) O os G (L.set x z) := by
  obtain ⟨p1, p2, p3, p4, p5, p6, p7, p8, p9, p10, p11, q1, q2, q3, q4, q5, q6, q7, q8, q9, q10⟩ := hl
  obtain ⟨h1, h2, h3, h4, h5, h6, h7, h8, h9, h10, h11, h12, h13⟩ := h
  have sz' : (w.setCell ⟨e.lb, x, none⟩ (.int .i64 z)).heap.size = w.heap.size := by simp [World.setCell]
  have hlb := h10.blk (k := e.lb) rfl
  have hch : Chg e.lb (e.lb + 1) w (w.setCell ⟨e.lb, x, none⟩ (.int .i64 z)) := (Chg.refl e.lb (e.lb + 1) w).setCell (.inl ⟨Nat.le_refl _, Nat.lt_succ_self _⟩) _
  refine ⟨cell_far h1 (by simp only; omega) _, cell_far h2 (by simp only; omega) _, cell_far h3 (by simp only; omega) _, cell_far h4 (by simp only; omega) _, cell_far h5 (by simp only; omega) _, cell_far h6 (by simp only; omega) _, ?_, ?_, h9, ?_, ?_, ?_, by omega⟩
  · rw [frozen_far (by simp only; omega)]; exact h7
  · exact h8.chg hch (.inl (by omega))
  · rw [← ints_set]
    exact Ow.set' h10.len_.1 h10 x _
  · rw [sz']; exact h11.chg hch (.inr (.inl (by omega)))
  · exact h12.chg hch (.inl (by omega))
theorem OwG.poke2 {lo hi : Nat} {T I : TypeId} {v : Value} {R C y x : Nat} (h : OwG w lo hi T I v G) (hTI : T ≠ I) (hs : shape G R C) (hy : y < R) (hx : x < C) :
    ∃ b cap c cc, v = .slice (some ⟨b, 0, none⟩) R cap ∧ w.cell? ⟨b, y, none⟩ = some (.slice (some ⟨c, 0, none⟩) C cc) ∧ C ≤ cc ∧ cc ≤ 9223372036854775807 ∧ b ≠ c ∧ 
      w.cell? ⟨c, x, none⟩ = some (.int .i64 (cellN G y x)) ∧ w.frozen? ⟨c, x, none⟩ = false ∧ (lo ≤ c ∧ c < hi) ∧
      (∀ z : Int, OwG (w.setCell ⟨c, x, none⟩ (.int .i64 z)) lo hi T I (.slice (some ⟨b, 0, none⟩) R cap) (putN G y x z)) := by
  obtain ⟨b, cap, c, cc, rfl, k1, k2, k3, k4, k5, k6, k7, k8, k9, k10⟩ := h.poke hTI hs hy hx
  obtain ⟨r, hr, hrl, hz⟩ := shape_cell hs hy hx
  obtain ⟨b', u, e1, u2, u3, u4, u5, u6, u7⟩ := h.at_ hr
  injection e1 with e1; injection e1 with e1; subst e1
  rw [k3] at u5
  injection u5 with u5; subst u5
  have := u7.blk (k := c) rfl
  exact ⟨b, cap, c, cc, rfl, k3, k4, k5, k9, k6, k7, ⟨k8, this.2.1⟩, k10.out⟩
end

/-! ### The count -/
/-- What is counted from a cell on. -/
def cntP (rows : List Int) (L : List Int) (y x need : Nat) : Nat := cntW (cntN (rows.drop (y + 1))) (L.drop x) (L.take x) need
/-- The columns' bounds at a cell. -/
def BdP (R : Nat) (L : List Int) (y x : Nat) : Prop := ∀ (i : Nat) (z : Int), L[i]? = some z → 0 ≤ z ∧ z ≤ (R : Int) - y ∧ (i < x → z ≤ (R : Int) - y - 1)
theorem BdP.next {R : Nat} {L : List Int} {y x : Nat} {z : Int} (h : BdP R L y x) (hz : L[x]? = some z) (hle : z ≤ (R : Int) - y - 1) : BdP R L y (x + 1) := by
  intro i u hu
  obtain ⟨h1, h2, h3⟩ := h i u hu
  refine ⟨h1, h2, fun hi => ?_⟩
  by_cases e : i = x
  · subst e; rw [hz] at hu; injection hu with hu; omega
  · exact h3 (by omega)
theorem BdP.dec {R : Nat} {L : List Int} {y x : Nat} {z : Int} (h : BdP R L y x) (hz : L[x]? = some z) (h0 : 0 < z) : BdP R (L.set x (z - 1)) y (x + 1) := by
  intro i u hu
  by_cases e : i = x
  · subst e
    obtain ⟨h1, h2, h3⟩ := h i z hz
    rw [List.getElem?_set_self (List.getElem?_eq_some_iff.1 hz).1] at hu
    injection hu with hu
    omega
  · rw [List.getElem?_set_ne (fun hh => e hh.symm)] at hu
    obtain ⟨h1, h2, h3⟩ := h i u hu
    exact ⟨h1, h2, fun hi => h3 (by omega)⟩
theorem BdP.wrap {R : Nat} {L : List Int} {y : Nat} (h : BdP R L y L.length) : BdP R L (y + 1) 0 := by
  intro i z hz
  obtain ⟨h1, h2, h3⟩ := h i z hz
  have := h3 (List.getElem?_eq_some_iff.1 hz).1
  exact ⟨h1, by push_cast; omega, fun h => by omega⟩
theorem cntP_end {rows L : List Int} {y need : Nat} (h : need ≠ 0) : cntP rows L y L.length need = 0 := by
  unfold cntP; rw [List.drop_length, cntW, if_neg h]
theorem cntP_last {rows L : List Int} {y : Nat} (hy : y + 1 = rows.length) (h : BdP rows.length L y L.length) : cntP rows L y L.length 0 = 1 := by
  unfold cntP
  rw [List.drop_length, cntW, if_pos rfl, List.take_length, hy, List.drop_length, cntN, if_pos]
  refine List.all_eq_true.2 fun z hz => ?_
  obtain ⟨i, hi, rfl⟩ := List.mem_iff_getElem.1 hz
  obtain ⟨h1, h2, h3⟩ := h i _ (List.getElem?_eq_getElem hi)
  have := h3 hi
  simp only [decide_eq_true_eq]; omega
theorem cntP_wrap {rows L : List Int} {y : Nat} {r : Int} (hr : rows[y + 1]? = some r) : cntP rows L y L.length 0 = cntP rows L (y + 1) 0 r.toNat := by
  unfold cntP
  rw [List.drop_length, cntW, if_pos rfl, List.take_length]
  obtain ⟨hlt, e⟩ := List.getElem?_eq_some_iff.1 hr
  rw [List.drop_eq_getElem_cons hlt, e, cntN, List.drop_zero, List.take_zero]
theorem cntP_step {rows L : List Int} {y x need : Nat} {z : Int} (hz : L[x]? = some z) : cntP rows L y x need = cntP rows L y (x + 1) need + (if 0 < need ∧ 0 < z then cntP rows (L.set x (z - 1)) y (x + 1) (need - 1) else 0) := by
  obtain ⟨hlt, e⟩ := List.getElem?_eq_some_iff.1 hz
  unfold cntP
  rw [List.drop_eq_getElem_cons hlt, e, cntW, ← take_snoc hz]
  have h1 : (L.set x (z - 1)).drop (x + 1) = L.drop (x + 1) := by rw [List.drop_set_of_lt (by omega)]
  have h2 : (L.set x (z - 1)).take (x + 1) = L.take x ++ [z - 1] := by
    rw [take_snoc (List.getElem?_set_self hlt), List.take_set_of_le (Nat.le_refl _)]
  rw [h1, h2]
theorem cntP_no {rows L : List Int} {y x need : Nat} {z : Int} (hz : L[x]? = some z) (hy : y < rows.length) (h : L.length < need + x + 1 ∨ (rows.length : Int) - y - 1 < z) : cntP rows L y (x + 1) need = 0 := by
  unfold cntP
  rcases h with h | h
  · exact cntW_need _ _ _ _ (by rw [List.length_drop]; have := (List.getElem?_eq_some_iff.1 hz).1; omega)
  · refine cntW_high _ ((rows.drop (y + 1)).length : Int) (fun l hl => cntN_high _ l hl) _ _ _ (.inl ⟨z, ?_, ?_⟩)
    · rw [take_snoc hz]; simp
    · rw [List.length_drop]; omega
end Go.Proofs.Ytkjhodeajipihaa
