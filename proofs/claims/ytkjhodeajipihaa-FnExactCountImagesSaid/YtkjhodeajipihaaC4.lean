/- Words: reading beside a row that grows. -/
import Derived.Test.YtkjhodeajipihaaProg
import Derived.Test.YtkjhodeajipihaaW1
import Derived.Test.YtkjhodeajipihaaW3
import Derived.Test.YtkjhodeajipihaaW4
import Derived.Test.YtkjhodeajipihaaW6
import Derived.Test.YtkjhodeajipihaaS3
import Derived.Test.YtkjhodeajipihaaC1
import Derived.Test.YtkjhodeajipihaaC2
import Derived.Test.YtkjhodeajipihaaC3
import Derived.Test.YtkjhodeajipihaaMem
import Derived.WalkKit
import Derived.KernelRfl
import Derived.Lib.Hide
import Derived.Deep.RegionHeld3
import Derived.Deep.QuietTactic
import Derived.BigQuiet
namespace Go.Proofs.Ytkjhodeajipihaa
open Go.RowKit
set_option linter.unusedVariables false
set_option linter.unusedSimpArgs false

theorem grid_info : (Try.prog.info? 30).map (fun i => (i.zero, i.size, i.bytes)) = some (some (.slice none 0 0), 1, 24) := by kernel_rfl

/-- The block that V owns lies outside the range. -/
def Off (V : Value) (a b : Nat) : Prop := ∀ q, V.ownBlock = some q → q < a ∨ b ≤ q
/-- V' owns what V owned, or something new. -/
def NewV (w : World) (V V' : Value) : Prop := V'.ownBlock = V.ownBlock ∨ ∀ q, V'.ownBlock = some q → w.heap.size ≤ q
theorem NewV.refl (w : World) (V : Value) : NewV w V V := .inl rfl
theorem NewV.trans {w w' : World} {V V' V'' : Value} (h : NewV w V V') (k : NewV w' V' V'') (hs : w.heap.size ≤ w'.heap.size) : NewV w V V'' := by
  rcases k with k | k
  · rcases h with h | h
    · exact .inl (k.trans h)
    · exact .inr fun q hq => h q (by rw [← k]; exact hq)
  · exact .inr fun q hq => Nat.le_trans hs (k q hq)
theorem NewV.mono {w w' : World} {V V' : Value} (h : NewV w' V V') (hs : w.heap.size ≤ w'.heap.size) : NewV w V V' := by
  rcases h with h | h
  · exact .inl h
  · exact .inr fun q hq => Nat.le_trans hs (h q hq)
theorem grownBy_of {w w' : World} (h : Below w.heap.size w w') (row : Option Nat) : w.grownBy w' row := ⟨h.os, h.tape, h.output, h.size, fun k hk _ => h.block k hk⟩
theorem grownBy_drew (w : World) (row : Option Nat) : w.grownBy w.drew row := ⟨rfl, rfl, rfl, Nat.le_refl _, fun _ _ _ => rfl⟩
theorem grownBy_trans {a b c : World} {row : Option Nat} (h : a.grownBy b row) (k : b.grownBy c row) : a.grownBy c row :=
  ⟨k.os.trans h.os, k.tape.trans h.tape, k.output.trans h.output, Nat.le_trans h.size k.size, fun i hi hne => (k.block i (Nat.lt_of_lt_of_le hi h.size) hne).trans (h.block i hi hne)⟩
theorem grownBy_step {a w w' : World} {V O : Value} (h : a.grownBy w V.ownBlock) (hn : NewV a V O) (k : w.grownBy w' O.ownBlock) : a.grownBy w' V.ownBlock :=
  ⟨k.os.trans h.os, k.tape.trans h.tape, k.output.trans h.output, Nat.le_trans h.size k.size, fun i hi hne => (k.block i (Nat.lt_of_lt_of_le hi h.size) (fun e => by
    rcases hn with hn | hn
    · exact hne (by rw [← hn]; exact e)
    · have := hn i e.symm; omega)).trans (h.block i hi hne)⟩

def RdIo (w : World) (V v : Value) (l : List Int) : Prop := ∃ a b, RdI w a b v l ∧ Off V a b
def RdGo (w : World) (V v : Value) (g : List (List Int)) : Prop :=
  ∃ vs, vs.length = g.length ∧ (∃ a b, Rd w a b v vs ∧ Off V a b) ∧ ∀ (k : Nat) (u : Value) (r : List Int), vs[k]? = some u → g[k]? = some r → RdIo w V u r
section
variable {w w' : World} {V V' v : Value} {l : List Int} {g : List (List Int)}
theorem Off.clip {a b : Nat} (h : Off V a b) (k : NewV w V V') : Off V' a (min b w.heap.size) := by
  intro q hq
  rcases k with k | k
  · have := h q (by rw [← k]; exact hq); omega
  · have := k q hq; omega
theorem Rd.min_ {a b : Nat} {xs : List Value} (h : Rd w a b v xs) : Rd w a (min b w.heap.size) v xs := by
  obtain ⟨A, c, rfl, h1, h2, h3⟩ := h
  refine ⟨A, c, rfl, h1, h2, fun k u hu => ?_⟩
  obtain ⟨q, o, q1, q2, q3, q4⟩ := h3 k u hu
  have := World.block_lt_of_cell? _ _ q4
  exact ⟨q, o, q1, q2, by simp at this; omega, q4⟩
theorem Rd.grownOff {a b : Nat} {xs : List Value} {blk : Option Nat} (h : Rd w a b v xs) (hg : w.grownBy w' blk) (hd : ∀ q, blk = some q → q < a ∨ b ≤ q) : Rd w' a b v xs := by
  cases blk with
  | none => exact h.chg ((Chg.refl 0 0 w).grown hg (fun k e => by cases e)) (.inr (.inr (.inl (Nat.le_refl _))))
  | some q => exact h.chg ((Chg.refl q (q + 1) w).grown hg (fun k e => by injection e with e; subst e; exact .inl ⟨Nat.le_refl _, Nat.lt_succ_self _⟩)) (by have := hd q rfl; omega)
theorem RdIo.grown (h : RdIo w V v l) (hg : w.grownBy w' V.ownBlock) : RdIo w' V v l := by
  obtain ⟨a, b, h1, h2⟩ := h
  exact ⟨a, b, Rd.grownOff h1 hg h2, h2⟩
theorem RdIo.turn (h : RdIo w V v l) (k : NewV w V V') : RdIo w V' v l := by
  obtain ⟨a, b, h1, h2⟩ := h
  exact ⟨a, _, Rd.min_ h1, h2.clip k⟩
theorem RdIo.move (h : RdIo w V v l) (k : NewV w V V') (hg : w.grownBy w' V.ownBlock) : RdIo w' V' v l := by
  obtain ⟨a, b, h1, h2⟩ := h
  exact ⟨a, _, Rd.grownOff h1.min_ hg (fun q hq => by have := h2 q hq; omega), h2.clip k⟩
theorem RdIo.rd (h : RdIo w V v l) : RdI w 0 w.heap.size v l := by
  obtain ⟨a, b, h1, h2⟩ := h
  exact (Rd.min_ h1).mono (Nat.zero_le _) (Nat.min_le_right _ _)
theorem RdGo.grown (h : RdGo w V v g) (hg : w.grownBy w' V.ownBlock) : RdGo w' V v g := by
  obtain ⟨vs, e, ⟨a, b, h1, h2⟩, h3⟩ := h
  exact ⟨vs, e, ⟨a, b, h1.grownOff hg h2, h2⟩, fun k u r hu hr => (h3 k u r hu hr).grown hg⟩
theorem RdGo.turn (h : RdGo w V v g) (k : NewV w V V') : RdGo w V' v g := by
  obtain ⟨vs, e, ⟨a, b, h1, h2⟩, h3⟩ := h
  exact ⟨vs, e, ⟨a, _, h1.min_, h2.clip k⟩, fun j u r hu hr => (h3 j u r hu hr).turn k⟩
theorem RdGo.move (h : RdGo w V v g) (k : NewV w V V') (hg : w.grownBy w' V.ownBlock) : RdGo w' V' v g := by
  obtain ⟨vs, e, ⟨a, b, h1, h2⟩, h3⟩ := h
  exact ⟨vs, e, ⟨a, _, h1.min_.grownOff hg (fun q hq => by have := h2 q hq; omega), h2.clip k⟩, fun j u r hu hr => (h3 j u r hu hr).move k hg⟩
theorem RdGo.at_ {A : Option Addr} {n c k : Nat} {r : List Int} (h : RdGo w V (.slice A n c) g) (hr : g[k]? = some r) : ∃ b o u, A = some ⟨b, o, none⟩ ∧ b < w.heap.size ∧ w.cell? ⟨b, o + k, none⟩ = some u ∧ RdIo w V u r := by
  obtain ⟨vs, e, ⟨a, b, h1, h2⟩, h3⟩ := h
  have hk : k < vs.length := by rw [e]; exact (List.getElem?_eq_some_iff.1 hr).1
  obtain ⟨b', o', q1, q2, q3, q4, q5⟩ := Rd.at_ h1 (List.getElem?_eq_getElem hk)
  exact ⟨b', o', _, q1, q4, q5, h3 k _ r (List.getElem?_eq_getElem hk) hr⟩
theorem RdGo.rd (h : RdGo w V v g) : RdG w 0 w.heap.size v g := by
  obtain ⟨vs, e, ⟨a, b, h1, h2⟩, h3⟩ := h
  exact ⟨vs, e, h1.min_.mono (Nat.zero_le _) (Nat.min_le_right _ _), fun k u r hu hr => (h3 k u r hu hr).rd⟩
/-- What lies behind all that V owns. -/
theorem Off.new {e : TypeId} {xs : List Value} (h : Ow w 0 w.heap.size e V xs) {a b : Nat} (ha : w.heap.size ≤ a) : Off V a b := fun q hq => .inl (Nat.lt_of_lt_of_le (h.blk hq).2.2 ha)
theorem RdIo.of (h : RdI w' w.heap.size w'.heap.size v l) {e : TypeId} {xs : List Value} (ho : Ow w 0 w.heap.size e V xs) : RdIo w' V v l := ⟨_, _, h, Off.new ho (Nat.le_refl _)⟩
theorem Ow.grownOff {e : TypeId} {xs : List Value} (h : Ow w 0 w.heap.size e V xs) (hb : Below w.heap.size w w') : Ow w' 0 w'.heap.size e V xs := (h.new hb).mono (Nat.le_refl _) hb.size
end

theorem step_append_rd {P : Program} {ops : Array Oper} {o : Oper} {a : Act} {w : World} {K : Act → World → Prop} {Q : Exit → Act → World → Prop} {E : Prop} {lo hi : Nat} (hgd : o.guard = none) (s x : Operand) (t : TypeId)
    (ho : o.op = .call { callee := .builtin .append, args := #[s, x], argTypes := #[t, t] })
    (base : Nat) (e : TypeId) (i : TypeInfo) (z : Value) (bytes : Nat) (ht : P.underlying t = some (.slice e)) (hi0 : P.info? e = some i) (hz : i.zero = some z)
    (hsize : i.size = 1) (hby : i.bytes = bytes) (hzs : z.cells.size = 1)
    (v : Value) (n : Nat) (xs : List Value) (hs : a.eval s = v) (hown : w.ownsRow base e 1 v n xs)
    (A : Option Addr) (m c : Nat) (news : List Value) (hx : a.eval x = .slice A m c) (hr : Rd w lo hi (.slice A m c) news) (h1 : ∀ u ∈ news, u.oneCell' = true)
    (h63 : n + m ≤ maxLen) (hbytes : (n + m) * bytes ≤ 140737488355328) (hbase : base ≤ w.heap.size)
    (hK : ∀ v' w', w'.ownsRow base e 1 v' (n + m) (xs ++ news) → w.grownBy w' v.ownBlock → (v'.ownBlock = v.ownBlock ∨ v'.ownBlock = some w.heap.size) → K (a.put o.dst v') w') :
    if Region.wanted o (yielded ops a.tmps) = true then Oper.wp P o a w K Q else E := by
  have hw : Region.wanted o (yielded ops a.tmps) = true := by simp [Region.wanted, hgd]
  rw [if_pos hw]
  obtain ⟨v', w', hrun, h2, h3, h4⟩ := run_append_rd (P := P) base t o.type e i z bytes ht hi0 hz hsize hby hzs v n xs hown A m c news hr h1 h63 hbytes hbase
  unfold Oper.wp execOp
  simp only [ho, resolve, invoke, builtin, Sem.run_bind, Sem.run_pure, Result.andThen_ok, List.map_toArray, List.map_cons, List.map_nil, hs, hx, hrun]
  exact hK _ _ h2 h3 h4

theorem step_call {P : Program} {ops : Array Oper} {o : Oper} {a : Act} {w : World} {K : Act → World → Prop} {Q : Exit → Act → World → Prop} {E : Prop} (hgd : o.guard = none) (f : FuncId) (args : Array Operand) (tys : Array TypeId)
    (ho : o.op = .call { callee := .value (.func f), args := args, argTypes := tys }) (vals : Array Value) (hrun : (execOp a.eval o).run P w = .ok (.enter f vals) w) {R : Ending → World → Prop} (hc : Calls P f vals w R)
    (hR : ∀ e w', R e w' → ∃ v, e = .returned v) (hK : ∀ v w', R (.returned v) w' → K (a.put o.dst v) w') : if Region.wanted o (yielded ops a.tmps) = true then Oper.wp P o a w K Q else E := by
  have hw : Region.wanted o (yielded ops a.tmps) = true := by simp [Region.wanted, hgd]
  rw [if_pos hw]
  unfold Oper.wp
  rw [hrun, Oper.upon_enter]
  refine hc.mono fun e w'' hh => ?_
  obtain ⟨v, rfl⟩ := hR _ _ hh
  exact hK _ _ hh

/-- A grid that a call has made, and one more row that lies elsewhere. -/
theorem RdGo.snoc {w : World} {V v' u : Value} {vs : List Value} {g : List (List Int)} {r : List Int} {a b : Nat} (he : vs.length = g.length) (h3 : ∀ (k : Nat) (u : Value) (r : List Int), vs[k]? = some u → g[k]? = some r → RdIo w V u r)
    (h : Rd w a b v' (vs ++ [u])) (ho : Off V a b) (hu : RdIo w V u r) : RdGo w V v' (g ++ [r]) := by
  refine ⟨vs ++ [u], by simp [he], ⟨a, b, h, ho⟩, fun k x s hx hs => ?_⟩
  by_cases hk : k < vs.length
  · rw [List.getElem?_append_left hk] at hx
    rw [List.getElem?_append_left (by omega)] at hs
    exact h3 k x s hx hs
  · have hk2 : k = vs.length := by
      have := (List.getElem?_eq_some_iff.1 hx).1
      simp at this; omega
    subst hk2
    simp at hx
    rw [he] at hs
    simp at hs
    subst hx; subst hs
    exact hu

/-- A copied grid to which one more row is appended, beside O. w0: the world ahead of the copy. -/
theorem pushed {w0 W w5 : World} {T I T3 : TypeId} {O vcp v5 u : Value} {us os : List Value} {g : List (List Int)} {r : List Int} {n : Nat} (hTI : T ≠ I) (ho0 : Ow w0 0 w0.heap.size T3 O os) (hus : Ow W w0.heap.size W.heap.size T vcp us) (he : us.length = g.length)
    (hrows : ∀ (k : Nat) (u : Value) (r : List Int), us[k]? = some u → g[k]? = some r → Ow W w0.heap.size W.heap.size I u (ints r)) (hbW : Below w0.heap.size w0 W) (hu : RdIo w0 O u r) (hown5 : w5.ownsRow w0.heap.size T 1 v5 n (us ++ [u])) (hg5 : W.grownBy w5 vcp.ownBlock) :
    RdGo w5 O v5 (g ++ [r]) ∧ Below w0.heap.size w0 w5 := by
  have hb5 : Below w0.heap.size w0 w5 := hbW.grown hg5 hbW.size (fun k hk => (hus.blk hk).1)
  refine ⟨RdGo.snoc he (fun k x s hx hs => ?_) (Ow.of_top hown5).rd (Off.new ho0 (Nat.le_refl _)) (hu.grown (grownBy_of hb5 _)), hb5⟩
  have h := hrows k x s hx hs
  exact ⟨_, _, (h.grown hg5 (fun k hk hc => h.ne_ hus (fun e => hTI e.symm) hk hc)).rd, Off.new ho0 (Nat.le_refl _)⟩

/-! ### Numbers -/
theorem sum_le_mul : ∀ (l : List Nat) (m : Nat), (∀ x ∈ l, x ≤ m) → l.sum ≤ l.length * m
  | [], m, _ => by simp
  | x :: l, m, h => by
    have h1 := h x (by simp)
    have h2 := sum_le_mul l m fun y hy => h y (by simp [hy])
    rw [List.sum_cons, List.length_cons, Nat.add_mul, Nat.one_mul]; omega
def fS (rs left : List Int) (r : List Int) : Nat := if fits left r = true ∧ goOn rs (minusL left r) = true then cntS rs (minusL left r) else 0
theorem cntS_cons (n : Int) (rs left : List Int) : cntS (n :: rs) left = ((rowsL left.length n.toNat).map (fS rs left)).sum := rfl
theorem cntS_bd : ∀ (rs left : List Int), left.length ≤ 5 → cntS rs left ≤ 32 ^ rs.length
  | [], left, _ => by simp [cntS]
  | n :: rs, left, h => by
    rw [cntS_cons, List.length_cons, Nat.pow_succ]
    have h1 := rowsL_num left.length n.toNat
    have h2 : 2 ^ left.length ≤ 2 ^ 5 := Nat.pow_le_pow_right (by omega) h
    have h3 : ((rowsL left.length n.toNat).map (fS rs left)).sum ≤ ((rowsL left.length n.toNat).map (fS rs left)).length * 32 ^ rs.length := by
      refine sum_le_mul _ _ fun x hx => ?_
      obtain ⟨r, hr, rfl⟩ := List.mem_map.1 hx
      unfold fS
      split
      · exact cntS_bd rs _ (by rw [minusL_len _ _ (rowsL_len _ _ _ hr).symm]; exact h)
      · exact Nat.zero_le _
    rw [List.length_map] at h3
    have h4 : (rowsL left.length n.toNat).length * 32 ^ rs.length ≤ 32 * 32 ^ rs.length := Nat.mul_le_mul_right _ (by omega)
    omega
theorem fS_bd (rs left r : List Int) (h : left.length ≤ 5) (hr : r.length = left.length) : fS rs left r ≤ 32 ^ rs.length := by
  unfold fS
  split
  · exact cntS_bd rs _ (by rw [minusL_len _ _ hr.symm]; exact h)
  · exact Nat.zero_le _
theorem part_bd (R : List (List Int)) (rs left : List Int) (j : Nat) (h : left.length ≤ 5) (hR : ∀ r ∈ R, r.length = left.length) : ((R.take j).map (fS rs left)).sum ≤ j * 32 ^ rs.length := by
  have h1 : ((R.take j).map (fS rs left)).sum ≤ ((R.take j).map (fS rs left)).length * 32 ^ rs.length := by
    refine sum_le_mul _ _ fun x hx => ?_
    obtain ⟨r, hr, rfl⟩ := List.mem_map.1 hx
    exact fS_bd rs left r h (hR r (List.mem_of_mem_take hr))
  have h2 : ((R.take j).map (fS rs left)).length ≤ j := by rw [List.length_map]; exact List.length_take_le _ _
  exact Nat.le_trans h1 (Nat.mul_le_mul_right _ h2)
theorem part_step {R : List (List Int)} {j : Nat} {r : List Int} (rs left : List Int) (h : R[j]? = some r) : ((R.take (j + 1)).map (fS rs left)).sum = ((R.take j).map (fS rs left)).sum + fS rs left r := by
  rw [map_take_snoc _ h, List.sum_append]; simp
theorem tail_rd {w : World} {a b : Nat} {B o n c : Nat} {x : Int} {l : List Int} (h : RdI w a b (.slice (some ⟨B, o, none⟩) n c) (x :: l)) : RdI w a b (.slice (some ⟨B, o + 1, none⟩) l.length (c - 1)) l := by
  obtain ⟨A, c', e, h1, h2, h3⟩ := h
  injection e with e1 e2 e3
  subst e1; subst e3
  rw [ints_len] at h1
  simp only [List.length_cons] at h1
  refine ⟨_, c - 1, by rw [ints_len], by rw [ints_len]; omega, by omega, fun k u hu => ?_⟩
  obtain ⟨b', o', q1, q2, q3, q4⟩ := h3 (k + 1) u (by simpa [ints] using hu)
  injection q1 with q1; injection q1 with q1 q5; subst q1; subst q5
  exact ⟨_, _, rfl, q2, q3, by have : o + 1 + k = o + (k + 1) := by omega
                               rw [this]; exact q4⟩
end Go.Proofs.Ytkjhodeajipihaa
