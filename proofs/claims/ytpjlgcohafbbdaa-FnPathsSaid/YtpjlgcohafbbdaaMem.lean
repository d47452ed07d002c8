/- Words for memory: what a slice value reads as (Rd), what it owns (Ow), what a call has changed (Chg). Blocks are told by ranges of their numbers. -/
import Derived.WalkKit
import Derived.Lib.Hide
import Derived.Maps.AppendAt
import Derived.Deep.Draws
namespace Go.Proofs.Ytpjlgcohafbbdaa
open Go.RowKit
set_option linter.unusedVariables false

/-- Of the blocks that were there only those from lo up to hi may have changed. -/
structure Chg (lo hi : Nat) (w w' : World) : Prop where
  os : w'.os = w.os
  tape : w'.tape = w.tape
  output : w'.output = w.output
  size : w.heap.size ≤ w'.heap.size
  block : ∀ k, k < w.heap.size → (k < lo ∨ hi ≤ k) → w'.heap[k]? = w.heap[k]?

theorem Chg.refl (lo hi : Nat) (w : World) : Chg lo hi w w := ⟨rfl, rfl, rfl, Nat.le_refl _, fun _ _ _ => rfl⟩
theorem Chg.trans {lo hi : Nat} {a b c : World} (h : Chg lo hi a b) (k : Chg lo hi b c) : Chg lo hi a c :=
  ⟨k.os.trans h.os, k.tape.trans h.tape, k.output.trans h.output, Nat.le_trans h.size k.size, fun i hi ho => (k.block i (Nat.lt_of_lt_of_le hi h.size) ho).trans (h.block i hi ho)⟩
theorem Chg.mono {lo hi lo' hi' : Nat} {a b : World} (h : Chg lo hi a b) (h1 : lo' ≤ lo) (h2 : hi ≤ hi') : Chg lo' hi' a b :=
  ⟨h.os, h.tape, h.output, h.size, fun i hi ho => h.block i hi (by omega)⟩
/-- What changed beyond the old heap's end is new. -/
theorem Chg.wide {lo hi lo' hi' : Nat} {a b : World} (h : Chg lo hi a b) (h1 : hi ≤ lo ∨ a.heap.size ≤ lo) : Chg lo' hi' a b :=
  ⟨h.os, h.tape, h.output, h.size, fun i hi ho => h.block i hi (by omega)⟩
theorem Chg.drew {lo hi : Nat} {a w : World} (h : Chg lo hi a w) : Chg lo hi a w.drew := ⟨h.os, h.tape, h.output, h.size, h.block⟩
theorem Chg.drewN {lo hi : Nat} {a w : World} (h : Chg lo hi a w) (n : Nat) : Chg lo hi a (w.drewN n) := ⟨h.os, h.tape, h.output, h.size, h.block⟩
theorem Chg.alloc {lo hi : Nat} {a w : World} (h : Chg lo hi a w) (o : Obj) : Chg lo hi a (w.alloc o) :=
  h.trans ⟨rfl, rfl, rfl, by simp, fun k hk _ => Below.heap_alloc _ _ _ hk⟩
theorem Chg.setCell {lo hi : Nat} {a w : World} (h : Chg lo hi a w) {p : Addr} (hp : (lo ≤ p.block ∧ p.block < hi) ∨ a.heap.size ≤ p.block) (u : Value) : Chg lo hi a (w.setCell p u) :=
  ⟨h.os, h.tape, h.output, by simpa [World.setCell] using h.size, fun k hk ho => (Below.heap_setCell _ _ _ _ (by omega)).trans (h.block k hk ho)⟩
theorem Chg.grown {lo hi : Nat} {a w w' : World} {row : Option Nat} (h : Chg lo hi a w) (hg : w.grownBy w' row) (hr : ∀ k, row = some k → (lo ≤ k ∧ k < hi) ∨ a.heap.size ≤ k) : Chg lo hi a w' :=
  ⟨hg.os.trans h.os, hg.tape.trans h.tape, hg.output.trans h.output, Nat.le_trans h.size hg.size, fun i hi ho =>
    (hg.block i (Nat.lt_of_lt_of_le hi h.size) (fun e => by have := hr i e.symm; omega)).trans (h.block i hi ho)⟩
theorem Chg.ofBelow {B : Nat} {w w' : World} (h : Below B w w') (hi : Nat) (hh : w.heap.size ≤ hi) : Chg B hi w w' := ⟨h.os, h.tape, h.output, h.size, fun k hk ho => h.block k (by omega)⟩
theorem Chg.ofNew {lo hi : Nat} {w w' : World} (h : Below w.heap.size w w') : Chg lo hi w w' := ⟨h.os, h.tape, h.output, h.size, fun k hk _ => h.block k hk⟩
theorem Chg.new {lo hi : Nat} {w w' : World} (h : Chg lo hi w w') (h1 : hi ≤ lo ∨ w.heap.size ≤ lo) : Below w.heap.size w w' := ⟨h.os, h.tape, h.output, h.size, fun k hk => h.block k hk (by omega)⟩
theorem Chg.below {lo hi B : Nat} {w w' : World} (h : Chg lo hi w w') (h1 : B ≤ lo) (h2 : B ≤ w.heap.size) : Below B w w' := ⟨h.os, h.tape, h.output, h.size, fun k hk => h.block k (by omega) (by omega)⟩
theorem Chg.cell {lo hi : Nat} {w w' : World} (h : Chg lo hi w w') {p : Addr} (h1 : p.block < w.heap.size) (hp : p.block < lo ∨ hi ≤ p.block) : w'.cell? p = w.cell? p :=
  World.cell?_of_block (w := w) (h.block p.block h1 hp)
theorem Chg.frozen {lo hi : Nat} {w w' : World} (h : Chg lo hi w w') {p : Addr} (h1 : p.block < w.heap.size) (hp : p.block < lo ∨ hi ≤ p.block) : w'.frozen? p = w.frozen? p :=
  World.frozen?_of_block (w := w) (h.block p.block h1 hp)
/-- A chain that goes through new memory only, then a change of what is new to the first world. -/
theorem Chg.after {lo hi lo' hi' : Nat} {a b c : World} (h : Chg lo hi a b) (k : Chg lo' hi' b c) (hk : (lo ≤ lo' ∧ hi' ≤ hi) ∨ a.heap.size ≤ lo' ∨ hi' ≤ lo') : Chg lo hi a c :=
  ⟨k.os.trans h.os, k.tape.trans h.tape, k.output.trans h.output, Nat.le_trans h.size k.size, fun i hi ho =>
    (k.block i (Nat.lt_of_lt_of_le hi h.size) (by omega)).trans (h.block i hi ho)⟩

/-- The slice value v reads as the cells xs, one cell an element; they lie in a block from lo up to hi. -/
def Rd (w : World) (lo hi : Nat) (v : Value) (xs : List Value) : Prop :=
  ∃ A c, v = .slice A xs.length c ∧ xs.length ≤ c ∧ c ≤ maxLen ∧
    ∀ k u, xs[k]? = some u → ∃ b o, A = some ⟨b, o, none⟩ ∧ lo ≤ b ∧ b < hi ∧ w.cell? ⟨b, o + k, none⟩ = some u
def ints (l : List Int) : List Value := l.map (Value.int .i64)
theorem ints_len (l : List Int) : (ints l).length = l.length := by simp [ints]
theorem ints_get (l : List Int) (k : Nat) : (ints l)[k]? = (l[k]?).map (Value.int .i64) := by simp [ints]
def RdI (w : World) (lo hi : Nat) (v : Value) (l : List Int) : Prop := Rd w lo hi v (ints l)
def RdG (w : World) (lo hi : Nat) (v : Value) (g : List (List Int)) : Prop :=
  ∃ vs, vs.length = g.length ∧ Rd w lo hi v vs ∧ ∀ (k : Nat) (u : Value) (r : List Int), vs[k]? = some u → g[k]? = some r → RdI w lo hi u r

section
variable {w w' : World} {lo hi lo' hi' : Nat} {v : Value} {xs : List Value} {l : List Int} {g : List (List Int)}
theorem Rd.chg (h : Rd w lo hi v xs) (c : Chg lo' hi' w w') (hd : hi ≤ lo' ∨ hi' ≤ lo ∨ hi' ≤ lo' ∨ w.heap.size ≤ lo') : Rd w' lo hi v xs := by
  obtain ⟨A, cp, e, h1, h2, h3⟩ := h
  refine ⟨A, cp, e, h1, h2, fun k u hu => ?_⟩
  obtain ⟨b, o, eA, hb, hb', hc⟩ := h3 k u hu
  have hlt := World.block_lt_of_cell? w _ hc
  simp only at hlt
  exact ⟨b, o, eA, hb, hb', (c.cell (p := ⟨b, o + k, none⟩) hlt (by simp only; omega)).trans hc⟩
theorem RdI.chg (h : RdI w lo hi v l) (c : Chg lo' hi' w w') (hd : hi ≤ lo' ∨ hi' ≤ lo ∨ hi' ≤ lo' ∨ w.heap.size ≤ lo') : RdI w' lo hi v l := Rd.chg h c hd
theorem RdG.chg (h : RdG w lo hi v g) (c : Chg lo' hi' w w') (hd : hi ≤ lo' ∨ hi' ≤ lo ∨ hi' ≤ lo' ∨ w.heap.size ≤ lo') : RdG w' lo hi v g := by
  obtain ⟨vs, e, h1, h2⟩ := h
  exact ⟨vs, e, h1.chg c hd, fun k u r hu hr => (h2 k u r hu hr).chg c hd⟩
theorem Rd.drew (h : Rd w lo hi v xs) : Rd w.drew lo hi v xs := h
theorem Rd.drewN (h : Rd w lo hi v xs) (n : Nat) : Rd (w.drewN n) lo hi v xs := h
theorem RdI.drewN (h : RdI w lo hi v l) (n : Nat) : RdI (w.drewN n) lo hi v l := h
theorem RdG.drewN (h : RdG w lo hi v g) (n : Nat) : RdG (w.drewN n) lo hi v g := h
theorem Rd.mono (h : Rd w lo hi v xs) (h1 : lo' ≤ lo) (h2 : hi ≤ hi') : Rd w lo' hi' v xs := by
  obtain ⟨A, cp, e, g1, g2, h3⟩ := h
  refine ⟨A, cp, e, g1, g2, fun k u hu => ?_⟩
  obtain ⟨b, o, eA, hb, hb', hc⟩ := h3 k u hu
  exact ⟨b, o, eA, by omega, by omega, hc⟩
theorem RdI.mono (h : RdI w lo hi v l) (h1 : lo' ≤ lo) (h2 : hi ≤ hi') : RdI w lo' hi' v l := Rd.mono h h1 h2
theorem RdG.mono (h : RdG w lo hi v g) (h1 : lo' ≤ lo) (h2 : hi ≤ hi') : RdG w lo' hi' v g := by
  obtain ⟨vs, e, g1, g2⟩ := h
  exact ⟨vs, e, g1.mono h1 h2, fun k u r hu hr => (g2 k u r hu hr).mono h1 h2⟩
theorem Rd.len (h : Rd w lo hi v xs) : xs.length ≤ maxLen := by obtain ⟨A, c, e, h1, h2, h3⟩ := h; omega
theorem Rd.nil (w : World) (lo hi : Nat) : Rd w lo hi (.slice none 0 0) [] := ⟨none, 0, rfl, by simp, by simp, fun k u hu => by simp at hu⟩
/-- For a walk over a slice of ints. -/
theorem RdI.open_ (h : RdI w lo hi v l) : ∃ A c, v = .slice A l.length c ∧ l.length ≤ c ∧ c ≤ maxLen ∧
    ∀ k x, l[k]? = some x → ∃ b o, A = some ⟨b, o, none⟩ ∧ lo ≤ b ∧ b < hi ∧ w.cell? ⟨b, o + k, none⟩ = some (.int .i64 x) := by
  obtain ⟨A, c, e, h1, h2, h3⟩ := h
  rw [ints_len] at e h1
  exact ⟨A, c, e, h1, h2, fun k x hx => h3 k _ (by rw [ints_get, hx]; rfl)⟩
theorem RdG.open_ (h : RdG w lo hi v g) : ∃ A c, v = .slice A g.length c ∧ g.length ≤ c ∧ c ≤ maxLen ∧
    ∀ k r, g[k]? = some r → ∃ b o u, A = some ⟨b, o, none⟩ ∧ lo ≤ b ∧ b < hi ∧ w.cell? ⟨b, o + k, none⟩ = some u ∧ RdI w lo hi u r := by
  obtain ⟨vs, e, ⟨A, c, ev, h1, h2, h3⟩, h4⟩ := h
  rw [e] at ev h1
  refine ⟨A, c, ev, h1, h2, fun k r hr => ?_⟩
  have hk : k < vs.length := by rw [e]; exact (List.getElem?_eq_some_iff.1 hr).1
  obtain ⟨b, o, q1, q2, q3, q4⟩ := h3 k vs[k] (List.getElem?_eq_getElem hk)
  exact ⟨b, o, vs[k], q1, q2, q3, q4, h4 k vs[k] r (List.getElem?_eq_getElem hk) hr⟩
end

/-- The slice value v owns the cells xs (element type e, one cell an element) in a block from lo up to hi, or is nil. -/
def Ow (w : World) (lo hi : Nat) (e : TypeId) (v : Value) (xs : List Value) : Prop :=
  w.ownsRow lo e 1 v xs.length xs ∧ ∀ k, v.ownBlock = some k → k < hi
section
variable {w w' : World} {lo hi lo' hi' : Nat} {e : TypeId} {v : Value} {xs : List Value}
theorem Ow.nil (w : World) (lo hi : Nat) (e : TypeId) : Ow w lo hi e (.slice none 0 0) [] := ⟨World.ownsRow_nil _ _ _ _, fun k hk => by simp [Value.ownBlock] at hk⟩
theorem Ow.blk (h : Ow w lo hi e v xs) {k : Nat} (hk : v.ownBlock = some k) : lo ≤ k ∧ k < hi ∧ k < w.heap.size := ⟨(h.1.lt k hk).1, h.2 k hk, (h.1.lt k hk).2⟩
theorem Ow.chg (h : Ow w lo hi e v xs) (c : Chg lo' hi' w w') (hd : hi ≤ lo' ∨ hi' ≤ lo ∨ hi' ≤ lo' ∨ w.heap.size ≤ lo') : Ow w' lo hi e v xs := by
  refine ⟨⟨h.1.1, ?_⟩, h.2⟩
  rcases h.1.2 with hn | ⟨g, cap, cur, rfl, hb, hg, rest⟩
  · exact .inl hn
  · have hlt : g < w.heap.size := (Array.getElem?_eq_some_iff.1 hg).1
    have hh : g < hi := h.2 g rfl
    exact .inr ⟨g, cap, cur, rfl, hb, (c.block g hlt (by omega)).trans hg, rest⟩
/-- The block of v is not the one that has changed. -/
theorem Ow.grown (h : Ow w lo hi e v xs) {row : Option Nat} (hg : w.grownBy w' row) (hne : ∀ k, v.ownBlock = some k → row ≠ some k) : Ow w' lo hi e v xs := by
  refine ⟨h.1.kept hg ?_, h.2⟩
  cases hv : v.ownBlock with
  | none => exact .inl rfl
  | some k => exact .inr (fun e => hne k hv e.symm)
theorem Ow.mono (h : Ow w lo hi e v xs) (h1 : lo' ≤ lo) (h2 : hi ≤ hi') : Ow w lo' hi' e v xs := by
  refine ⟨⟨h.1.1, ?_⟩, fun k hk => Nat.lt_of_lt_of_le (h.2 k hk) h2⟩
  rcases h.1.2 with hn | ⟨g, cap, cur, rfl, hb, rest⟩
  · exact .inl hn
  · exact .inr ⟨g, cap, cur, rfl, by omega, rest⟩
theorem Ow.drew (h : Ow w lo hi e v xs) : Ow w.drew lo hi e v xs := h
theorem Ow.drewN (h : Ow w lo hi e v xs) (n : Nat) : Ow (w.drewN n) lo hi e v xs := h
/-- Its form: nil, or a block that is known whole. -/
theorem Ow.form (h : Ow w lo hi e v xs) : (v = .slice none 0 0 ∧ xs = []) ∨ ∃ g cap, v = .slice (some ⟨g, 0, none⟩) xs.length cap ∧ lo ≤ g ∧ g < hi ∧ g < w.heap.size ∧ xs.length ≤ cap ∧ cap ≤ maxLen ∧
    (∀ k u, xs[k]? = some u → w.cell? ⟨g, k, none⟩ = some u) ∧ (∀ k, w.frozen? ⟨g, k, none⟩ = false) := by
  rcases h.1.2 with ⟨rfl, hn⟩ | ⟨g, cap, cur, rfl, hb, hg, hnc, hcm, hcs, htake⟩
  · exact .inl ⟨rfl, List.eq_nil_of_length_eq_zero hn⟩
  · refine .inr ⟨g, cap, rfl, hb, h.2 g rfl, (Array.getElem?_eq_some_iff.1 hg).1, hnc, hcm, fun k u hu => ?_, fun k => ?_⟩
    · have hk : k < xs.length := (List.getElem?_eq_some_iff.1 hu).1
      rw [h.1.cellAt k (by omega)]; exact hu
    · exact h.1.frozenAt k
theorem Ow.rd (h : Ow w lo hi e v xs) : Rd w lo hi v xs := by
  rcases h.form with ⟨rfl, rfl⟩ | ⟨g, cap, rfl, h1, h2, _, h3, h4, h5, _⟩
  · exact Rd.nil _ _ _
  · exact ⟨some ⟨g, 0, none⟩, cap, rfl, h3, h4, fun k u hu => ⟨g, 0, rfl, h1, h2, by rw [Nat.zero_add]; exact h5 k u hu⟩⟩
theorem Ow.len (h : Ow w lo hi e v xs) : xs.length ≤ maxLen := h.rd.len
/-- Element k is written. -/
theorem Ow.set {g cap : Nat} (h : Ow w lo hi e (.slice (some ⟨g, 0, none⟩) xs.length cap) xs) (k : Nat) (u : Value) : Ow (w.setCell ⟨g, k, none⟩ u) lo hi e (.slice (some ⟨g, 0, none⟩) xs.length cap) (xs.set k u) := by
  have hs := (h.1.stored k u).1
  refine ⟨?_, h.2⟩
  rw [List.length_set]
  exact hs
theorem Ow.set' {g n cap : Nat} (hn : n = xs.length) (h : Ow w lo hi e (.slice (some ⟨g, 0, none⟩) n cap) xs) (k : Nat) (u : Value) : Ow (w.setCell ⟨g, k, none⟩ u) lo hi e (.slice (some ⟨g, 0, none⟩) n cap) (xs.set k u) := by
  subst hn; exact h.set k u
theorem Ow.far (h : Ow w lo hi e v xs) {p : Addr} (hp : ∀ k, v.ownBlock = some k → k ≠ p.block) (u : Value) : Ow (w.setCell p u) lo hi e v xs := by
  refine ⟨⟨h.1.1, ?_⟩, h.2⟩
  rcases h.1.2 with hn | ⟨g, cap, cur, rfl, hb, hg, rest⟩
  · exact .inl hn
  · exact .inr ⟨g, cap, cur, rfl, hb, (Below.heap_setCell _ _ _ _ (hp g rfl)).trans hg, rest⟩
/-- Out of the kit's words. -/
theorem Ow.of_ {n : Nat} (h : w.ownsRow lo e 1 v n xs) (hh : ∀ k, v.ownBlock = some k → k < hi) : Ow w lo hi e v xs := by
  have hn : xs.length = n := by have := h.1; omega
  subst hn
  exact ⟨h, hh⟩
theorem Ow.of_top {n : Nat} (h : w.ownsRow lo e 1 v n xs) : Ow w lo w.heap.size e v xs := Ow.of_ h (fun k hk => (h.lt k hk).2)
/-- Two rows of different element types never share a block. -/
theorem Ow.ne_ {e' : TypeId} {v' : Value} {xs' : List Value} (h : Ow w lo hi e v xs) (h' : Ow w lo' hi' e' v' xs') (hne : e ≠ e') {k : Nat} (hk : v.ownBlock = some k) : v'.ownBlock ≠ some k := by
  intro hk'
  rcases h.1.2 with ⟨rfl, _⟩ | ⟨g, cap, cur, rfl, _, hg, _⟩
  · simp [Value.ownBlock] at hk
  rcases h'.1.2 with ⟨rfl, _⟩ | ⟨g', cap', cur', rfl, _, hg', _⟩
  · simp [Value.ownBlock] at hk'
  simp [Value.ownBlock] at hk hk'
  subst hk; subst hk'
  rw [hg] at hg'
  injection hg' with h1
  injection h1 with _ h2
  exact hne h2
end

/-- A grid of ints that is owned whole: the outer row (element type T) and each inner row (element type I); no two inner rows share a block. -/
def OwG (w : World) (lo hi : Nat) (T I : TypeId) (v : Value) (g : List (List Int)) : Prop :=
  ∃ vs, vs.length = g.length ∧ Ow w lo hi T v vs ∧ (∀ (k : Nat) (u : Value) (r : List Int), vs[k]? = some u → g[k]? = some r → Ow w lo hi I u (ints r)) ∧
    ∀ (i j : Nat) (a b : Value), i ≠ j → vs[i]? = some a → vs[j]? = some b → ∀ k, a.ownBlock = some k → b.ownBlock ≠ some k
section
variable {w w' : World} {lo hi lo' hi' : Nat} {T I : TypeId} {v : Value} {g : List (List Int)}
theorem OwG.chg (h : OwG w lo hi T I v g) (c : Chg lo' hi' w w') (hd : hi ≤ lo' ∨ hi' ≤ lo ∨ hi' ≤ lo' ∨ w.heap.size ≤ lo') : OwG w' lo hi T I v g := by
  obtain ⟨vs, e, h1, h2, h3⟩ := h
  exact ⟨vs, e, h1.chg c hd, fun k u r hu hr => (h2 k u r hu hr).chg c hd, h3⟩
theorem OwG.mono (h : OwG w lo hi T I v g) (h1 : lo' ≤ lo) (h2 : hi ≤ hi') : OwG w lo' hi' T I v g := by
  obtain ⟨vs, e, g1, g2, g3⟩ := h
  exact ⟨vs, e, g1.mono h1 h2, fun k u r hu hr => (g2 k u r hu hr).mono h1 h2, g3⟩
theorem OwG.drewN (h : OwG w lo hi T I v g) (n : Nat) : OwG (w.drewN n) lo hi T I v g := h
theorem OwG.rd (h : OwG w lo hi T I v g) : RdG w lo hi v g := by
  obtain ⟨vs, e, h1, h2, h3⟩ := h
  exact ⟨vs, e, h1.rd, fun k u r hu hr => (h2 k u r hu hr).rd⟩
theorem OwG.nil (w : World) (lo hi : Nat) (T I : TypeId) : OwG w lo hi T I (.slice none 0 0) [] :=
  ⟨[], rfl, Ow.nil _ _ _ _, fun k u r hu => by simp at hu, fun i j a b _ hu => by simp at hu⟩
theorem OwG.form (h : OwG w lo hi T I v g) : (v = .slice none 0 0 ∧ g = []) ∨ ∃ b cap, v = .slice (some ⟨b, 0, none⟩) g.length cap ∧ lo ≤ b ∧ b < hi ∧ b < w.heap.size ∧ g.length ≤ cap ∧ cap ≤ maxLen ∧
    (∀ k r, g[k]? = some r → ∃ u, w.cell? ⟨b, k, none⟩ = some u ∧ Ow w lo hi I u (ints r)) ∧ (∀ k, w.frozen? ⟨b, k, none⟩ = false) := by
  obtain ⟨vs, e, h1, h2, h3⟩ := h
  rcases h1.form with ⟨rfl, rfl⟩ | ⟨b, cap, rfl, q1, q2, q3, q4, q5, q6, q7⟩
  · exact .inl ⟨rfl, List.eq_nil_of_length_eq_zero (by simpa using e.symm)⟩
  · rw [e] at q4 ⊢
    refine .inr ⟨b, cap, rfl, q1, q2, q3, q4, q5, fun k r hr => ?_, q7⟩
    have hk : k < vs.length := by rw [e]; exact (List.getElem?_eq_some_iff.1 hr).1
    exact ⟨vs[k], q6 k _ (List.getElem?_eq_getElem hk), h2 k _ r (List.getElem?_eq_getElem hk) hr⟩
/-- Row k has become r' by writes to its own block. -/
theorem OwG.row {k : Nat} {u : Value} {r r' : List Int} (h : OwG w lo hi T I v g) (hTI : T ≠ I) (hr : g[k]? = some r) (hb : ∀ b cap n, v = .slice (some ⟨b, 0, none⟩) n cap → w.cell? ⟨b, k, none⟩ = some u)
    (hg : w.grownBy w' u.ownBlock) (hu : Ow w' lo hi I u (ints r')) : OwG w' lo hi T I v (g.set k r') := by
  obtain ⟨vs, e, h1, h2, h3⟩ := h
  have hk : k < g.length := (List.getElem?_eq_some_iff.1 hr).1
  have hkv : vs[k]? = some u := by
    rcases h1.form with ⟨rfl, rfl⟩ | ⟨b, cap, rfl, q1, q2, q3, q4, q5, q6, q7⟩
    · simp at e; omega
    · have := hb b cap _ rfl
      have h4 := q6 k vs[k] (List.getElem?_eq_getElem (by omega))
      rw [this] at h4
      rw [List.getElem?_eq_getElem (by omega), ← Option.some.inj h4]
  have hur := h2 k u r hkv hr
  refine ⟨vs, by simpa using e, h1.grown hg (fun j hj hc => hur.ne_ h1 (fun e => hTI e.symm) hc hj), fun j a s ha hs => ?_, h3⟩
  by_cases hjk : j = k
  · subst hjk
    rw [hkv] at ha; injection ha with ha; subst ha
    rw [List.getElem?_set_self (by omega)] at hs; injection hs with hs; subst hs
    exact hu
  · rw [List.getElem?_set_ne (fun e => hjk e.symm)] at hs
    exact (h2 j a s ha hs).grown hg (fun b hb' hc => h3 k j u a (fun e => hjk e.symm) hkv ha b hc hb')
end

section
variable {w w' : World} {lo hi : Nat} {A : Option Addr} {n c k : Nat}
theorem Rd.at_ {xs : List Value} {u : Value} (h : Rd w lo hi (.slice A n c) xs) (hx : xs[k]? = some u) : ∃ b o, A = some ⟨b, o, none⟩ ∧ lo ≤ b ∧ b < hi ∧ b < w.heap.size ∧ w.cell? ⟨b, o + k, none⟩ = some u := by
  obtain ⟨A', c', e, h1, h2, h3⟩ := h
  injection e with e1 e2 e3
  subst e1
  obtain ⟨b, o, q1, q2, q3, q4⟩ := h3 k u hx
  exact ⟨b, o, q1, q2, q3, World.block_lt_of_cell? w _ q4, q4⟩
theorem Rd.cap {xs : List Value} (h : Rd w lo hi (.slice A n c) xs) : n = xs.length ∧ n ≤ c ∧ c ≤ 9223372036854775807 := by
  obtain ⟨A', c', e, h1, h2, h3⟩ := h
  injection e with e1 e2 e3
  subst e2; subst e3
  unfold maxLen at h2
  exact ⟨rfl, h1, by omega⟩
theorem RdI.at_ {l : List Int} {x : Int} (h : RdI w lo hi (.slice A n c) l) (hx : l[k]? = some x) : ∃ b o, A = some ⟨b, o, none⟩ ∧ lo ≤ b ∧ b < hi ∧ b < w.heap.size ∧ w.cell? ⟨b, o + k, none⟩ = some (.int .i64 x) :=
  Rd.at_ h (by rw [ints_get, hx]; rfl)
theorem RdG.at_ {g : List (List Int)} {r : List Int} (h : RdG w lo hi (.slice A n c) g) (hx : g[k]? = some r) : ∃ b o u, A = some ⟨b, o, none⟩ ∧ lo ≤ b ∧ b < hi ∧ b < w.heap.size ∧ w.cell? ⟨b, o + k, none⟩ = some u ∧ RdI w lo hi u r := by
  obtain ⟨vs, e, h1, h2⟩ := h
  have hk : k < vs.length := by rw [e]; exact (List.getElem?_eq_some_iff.1 hx).1
  obtain ⟨b, o, q1, q2, q3, q4, q5⟩ := h1.at_ (List.getElem?_eq_getElem hk)
  exact ⟨b, o, vs[k], q1, q2, q3, q4, q5, h2 k _ r (List.getElem?_eq_getElem hk) hx⟩
/-- The form of a slice that reads as a list. -/
theorem RdI.form {v : Value} {l : List Int} (h : RdI w lo hi v l) : ∃ A c, v = .slice A l.length c ∧ l.length ≤ c ∧ c ≤ 9223372036854775807 := by
  obtain ⟨A, c, e, h1, h2, h3⟩ := h
  rw [ints_len] at e h1
  unfold maxLen at h2
  exact ⟨A, c, e, h1, by omega⟩
theorem RdG.form {v : Value} {g : List (List Int)} (h : RdG w lo hi v g) : ∃ A c, v = .slice A g.length c ∧ g.length ≤ c ∧ c ≤ 9223372036854775807 := by
  obtain ⟨vs, e, ⟨A, c, ev, h1, h2, h3⟩, h4⟩ := h
  rw [e] at ev h1
  unfold maxLen at h2
  exact ⟨A, c, ev, h1, by omega⟩
theorem Ow.slot {e : TypeId} {g cap : Nat} {xs : List Value} (h : Ow w lo hi e (.slice (some ⟨g, 0, none⟩) n cap) xs) (hk : k < xs.length) : ∃ u, w.cell? ⟨g, k, none⟩ = some u ∧ w.frozen? ⟨g, k, none⟩ = false := by
  rcases h.form with ⟨e1, _⟩ | ⟨g', cap', e1, q1, q2, q3, q4, q5, q6, q7⟩
  · cases e1
  · injection e1 with e1 e2 e3
    injection e1 with e1
    injection e1 with e1
    subst e1
    exact ⟨xs[k], q6 k _ (List.getElem?_eq_getElem hk), q7 k⟩
end
theorem made_ints (n : Nat) : (madeCells (Value.cells (.int .i64 0)) (n * 1)).toList = ints (List.replicate n 0) := by
  rw [Nat.mul_one]
  show (madeCells #[.int .i64 0] n).toList = _
  rw [toList_madeCells_one]
  simp [ints]
theorem made_rows (n : Nat) : (madeCells (Value.cells (.slice none 0 0)) (n * 1)).toList = List.replicate n (.slice none 0 0) := by
  rw [Nat.mul_one]
  exact toList_madeCells_one _ _
theorem ints_set (l : List Int) (k : Nat) (x : Int) : (ints l).set k (.int .i64 x) = ints (l.set k x) := by simp [ints, List.map_set]
theorem ints_app (l m : List Int) : ints (l ++ m) = ints l ++ ints m := by simp [ints]
theorem fill_step {l : List Int} {k : Nat} {x : Int} (h : l[k]? = some x) : (ints (l.take k ++ List.replicate (l.length - k) 0)).set k (.int .i64 x) = ints (l.take (k + 1) ++ List.replicate (l.length - (k + 1)) 0) := by
  have hk : k < l.length := (List.getElem?_eq_some_iff.1 h).1
  obtain ⟨m, hm⟩ : ∃ m, l.length - k = m + 1 := ⟨l.length - k - 1, by omega⟩
  have hm' : l.length - (k + 1) = m := by omega
  have ht : (l.take k).length = k := by rw [List.length_take]; omega
  have e1 : l.take (k + 1) = l.take k ++ [x] := by
    obtain ⟨_, rfl⟩ := List.getElem?_eq_some_iff.1 h
    rw [List.take_succ_eq_append_getElem hk]
  rw [ints_set, hm, hm', e1, List.replicate_succ, List.set_append_right _ _ (by omega), ht]
  simp

section
variable {w w' : World} {lo hi : Nat} {v : Value}
theorem Rd.clip {xs : List Value} (h : Rd w lo hi v xs) : Rd w lo w.heap.size v xs := by
  obtain ⟨A, c, e, h1, h2, h3⟩ := h
  refine ⟨A, c, e, h1, h2, fun k u hu => ?_⟩
  obtain ⟨b, o, q1, q2, q3, q4⟩ := h3 k u hu
  exact ⟨b, o, q1, q2, World.block_lt_of_cell? w _ q4, q4⟩
theorem RdI.clip {l : List Int} (h : RdI w lo hi v l) : RdI w lo w.heap.size v l := Rd.clip h
theorem RdG.clip {g : List (List Int)} (h : RdG w lo hi v g) : RdG w lo w.heap.size v g := by
  obtain ⟨vs, e, h1, h2⟩ := h
  exact ⟨vs, e, h1.clip, fun k u r hu hr => (h2 k u r hu hr).clip⟩
theorem Rd.far {xs : List Value} (h : Rd w lo hi v xs) {p : Addr} (hp : hi ≤ p.block) (u : Value) : Rd (w.setCell p u) lo hi v xs :=
  h.chg ((Chg.refl p.block (p.block + 1) w).setCell (by omega) u) (.inl hp)
theorem RdI.far {l : List Int} (h : RdI w lo hi v l) {p : Addr} (hp : hi ≤ p.block) (u : Value) : RdI (w.setCell p u) lo hi v l := Rd.far h hp u
theorem RdG.far {g : List (List Int)} (h : RdG w lo hi v g) {p : Addr} (hp : hi ≤ p.block) (u : Value) : RdG (w.setCell p u) lo hi v g :=
  h.chg ((Chg.refl p.block (p.block + 1) w).setCell (by omega) u) (.inl hp)
theorem RdI.below {B : Nat} {l : List Int} (h : RdI w lo hi v l) (hb : Below B w w') (hh : hi ≤ B) : RdI w' lo hi v l :=
  h.chg (lo' := B) (hi' := max B w.heap.size) (Chg.ofBelow hb _ (by omega)) (.inl hh)
theorem RdG.below {B : Nat} {g : List (List Int)} (h : RdG w lo hi v g) (hb : Below B w w') (hh : hi ≤ B) : RdG w' lo hi v g :=
  h.chg (lo' := B) (hi' := max B w.heap.size) (Chg.ofBelow hb _ (by omega)) (.inl hh)
/-- A call that only makes memory. -/
theorem RdI.new {l : List Int} (h : RdI w lo hi v l) (hb : Below w.heap.size w w') : RdI w' lo hi v l := h.chg (lo' := 0) (hi' := 0) (Chg.ofNew hb) (by omega)
theorem RdG.new {g : List (List Int)} (h : RdG w lo hi v g) (hb : Below w.heap.size w w') : RdG w' lo hi v g := h.chg (lo' := 0) (hi' := 0) (Chg.ofNew hb) (by omega)
theorem Rd.new {xs : List Value} (h : Rd w lo hi v xs) (hb : Below w.heap.size w w') : Rd w' lo hi v xs := h.chg (lo' := 0) (hi' := 0) (Chg.ofNew hb) (by omega)
theorem Ow.new {e : TypeId} {xs : List Value} (h : Ow w lo hi e v xs) (hb : Below w.heap.size w w') : Ow w' lo hi e v xs := h.chg (lo' := 0) (hi' := 0) (Chg.ofNew hb) (by omega)
theorem OwG.new {T I : TypeId} {g : List (List Int)} (h : OwG w lo hi T I v g) (hb : Below w.heap.size w w') : OwG w' lo hi T I v g := h.chg (lo' := 0) (hi' := 0) (Chg.ofNew hb) (by omega)
theorem Ow.rdI {e : TypeId} {l : List Int} (h : Ow w lo hi e v (ints l)) : RdI w lo hi v l := Ow.rd h
end

section
variable {w w' : World} {lo hi : Nat} {v : Value} {e : TypeId} {xs : List Value} {A : Option Addr} {n c k : Nat}
theorem Ow.form' (h : Ow w lo hi e v xs) : ∃ A c, v = .slice A xs.length c ∧ xs.length ≤ c ∧ c ≤ 9223372036854775807 := by
  rcases h.form with ⟨rfl, rfl⟩ | ⟨g, cap, rfl, h1, h2, _, h3, h4, h5, _⟩
  · exact ⟨none, 0, rfl, by simp, by simp⟩
  · unfold maxLen at h4
    exact ⟨_, cap, rfl, h3, by omega⟩
theorem Ow.at_ {u : Value} (h : Ow w lo hi e (.slice A n c) xs) (hx : xs[k]? = some u) : ∃ g, A = some ⟨g, 0, none⟩ ∧ lo ≤ g ∧ g < hi ∧ g < w.heap.size ∧ w.cell? ⟨g, k, none⟩ = some u ∧ w.frozen? ⟨g, k, none⟩ = false := by
  rcases h.form with ⟨e1, rfl⟩ | ⟨g', cap', e1, q1, q2, q3, q4, q5, q6, q7⟩
  · simp at hx
  · injection e1 with e1 e2 e3
    exact ⟨g', e1, q1, q2, q3, q6 k u hx, q7 k⟩
theorem grown_setCell {a w : World} {g : Nat} (h : a.grownBy w (some g)) (k : Nat) (u : Value) : a.grownBy (w.setCell ⟨g, k, none⟩ u) (some g) :=
  ⟨h.os, h.tape, h.output, by simpa [World.setCell] using h.size, fun i hi hne => (Below.heap_setCell w ⟨g, k, none⟩ u i (by
    rintro rfl
    exact hne rfl)).trans (h.block i hi hne)⟩
theorem Ow.chgOf (h : Ow w lo hi e v xs) (hg : w.grownBy w' v.ownBlock) : Chg lo hi w w' :=
  (Chg.refl lo hi w).grown hg (fun k hk => .inl ⟨(h.blk hk).1, (h.blk hk).2.1⟩)
theorem Ow.len_ (h : Ow w lo hi e (.slice A n c) xs) : n = xs.length ∧ n ≤ c ∧ c ≤ 9223372036854775807 := by
  obtain ⟨A', c', e1, h1, h2⟩ := h.form'
  injection e1 with e1 e2 e3
  omega
end

/-! Grids that grow. -/
section
variable {w w' : World} {lo hi : Nat} {T I : TypeId} {v : Value} {g : List (List Int)}
theorem Ow.alloc {e : TypeId} {xs : List Value} (h : Ow w lo hi e v xs) (o : Obj) : Ow (w.alloc o) lo hi e v xs := h.chg ((Chg.refl 0 0 w).alloc o) (by omega)
theorem OwG.alloc (h : OwG w lo hi T I v g) (o : Obj) : OwG (w.alloc o) lo hi T I v g := h.chg ((Chg.refl 0 0 w).alloc o) (by omega)
/-- A new row u has been appended to the outer row. w: the world before u was made; W: the world of the append. -/
theorem OwG.push {w0 W w' : World} {vs : List Value} {v' u : Value} {r : List Int} {hiu : Nat} (hTI : T ≠ I) (h1 : Ow w0 lo hi T v vs) (he : vs.length = g.length) (h2 : ∀ (k : Nat) (u : Value) (r : List Int), vs[k]? = some u → g[k]? = some r → Ow w0 lo hi I u (ints r))
    (h3 : ∀ (i j : Nat) (a b : Value), i ≠ j → vs[i]? = some a → vs[j]? = some b → ∀ k, a.ownBlock = some k → b.ownBlock ≠ some k)
    (hlo : lo ≤ w0.heap.size) (hh : hi ≤ w0.heap.size) (hb : Below w0.heap.size w0 W) (hu : Ow W w0.heap.size hiu I u (ints r)) {n : Nat} (hown : w'.ownsRow lo T 1 v' n (vs ++ [u])) (hg : W.grownBy w' v.ownBlock) :
    OwG w' lo w'.heap.size T I v' (g ++ [r]) := by
  have hs := hb.size
  have hs' := hg.size
  have hW : Ow W lo hi T v vs := h1.new hb
  have keep : ∀ {x : Value} {s : List Int} {a b : Nat}, Ow W a b I x (ints s) → Ow w' a b I x (ints s) := fun hx => hx.grown hg (fun k hk hc => hx.ne_ hW (fun e => hTI e.symm) hk hc)
  have hlt : ∀ {x : Value} {s : List Int} {a b : Nat}, Ow W a b I x (ints s) → ∀ k, x.ownBlock = some k → k < w'.heap.size := fun hx k hk => Nat.lt_of_lt_of_le (hx.blk hk).2.2 hs'
  refine ⟨vs ++ [u], by simp [he], Ow.of_top hown, fun k a s ha hsr => ?_, fun i j a b hij ha hb' k hk => ?_⟩
  · by_cases hk : k < vs.length
    · rw [List.getElem?_append_left hk] at ha
      rw [List.getElem?_append_left (by omega)] at hsr
      have := (h2 k a s ha hsr).new hb
      exact ⟨((keep this).mono (Nat.le_refl _) (Nat.le_refl _)).1, hlt this⟩
    · rw [List.getElem?_append_right (by omega)] at ha
      rw [List.getElem?_append_right (by omega)] at hsr
      have hk0 : k = vs.length := by
        have := (List.getElem?_eq_some_iff.1 ha).1; simp at this; omega
      subst hk0
      simp [he] at ha hsr
      subst ha; subst hsr
      exact ((keep hu).mono hlo (by have := keep hu; omega : hiu ≤ max hiu w'.heap.size)).1 |> fun h => ⟨h, hlt hu⟩
  · by_cases hi' : i < vs.length
    · rw [List.getElem?_append_left hi'] at ha
      by_cases hj' : j < vs.length
      · rw [List.getElem?_append_left hj'] at hb'
        exact h3 i j a b hij ha hb' k hk
      · rw [List.getElem?_append_right (by omega)] at hb'
        have hj0 : j = vs.length := by have := (List.getElem?_eq_some_iff.1 hb').1; simp at this; omega
        subst hj0
        simp at hb'; subst hb'
        obtain ⟨s, hsr⟩ : ∃ s, g[i]? = some s := ⟨g[i], List.getElem?_eq_getElem (by omega)⟩
        have h4 := (h2 i a s ha hsr).blk hk
        intro hc
        have := (hu.blk hc).1
        omega
    · rw [List.getElem?_append_right (by omega)] at ha
      have hi0 : i = vs.length := by have := (List.getElem?_eq_some_iff.1 ha).1; simp at this; omega
      subst hi0
      simp at ha; subst ha
      by_cases hj' : j < vs.length
      · rw [List.getElem?_append_left hj'] at hb'
        obtain ⟨s, hsr⟩ : ∃ s, g[j]? = some s := ⟨g[j], List.getElem?_eq_getElem (by omega)⟩
        intro hc
        have h4 := (h2 j b s hb' hsr).blk hc
        have := (hu.blk hk).1
        omega
      · rw [List.getElem?_append_right (by omega)] at hb'
        have hj0 : j = vs.length := by have := (List.getElem?_eq_some_iff.1 hb').1; simp at this; omega
        omega
/-- An outer row of n nil rows, as make leaves it. -/
theorem OwG.blank {n : Nat} (h : Ow w lo hi T v (List.replicate n (.slice none 0 0))) : OwG w lo hi T I v (List.replicate n []) := by
  refine ⟨_, by simp, h, fun k u r hu hr => ?_, fun i j a b _ ha hb k hk => ?_⟩
  · obtain ⟨h1, rfl⟩ := List.getElem?_eq_some_iff.1 hu
    obtain ⟨h2, rfl⟩ := List.getElem?_eq_some_iff.1 hr
    simp only [List.getElem_replicate]
    exact Ow.nil _ _ _ _
  · obtain ⟨h1, rfl⟩ := List.getElem?_eq_some_iff.1 ha
    simp [Value.ownBlock] at hk
/-- Slot k of the outer row, which held an empty row, is set to a new row u. w0: the world before u was made. -/
theorem OwG.put {w0 W : World} {u : Value} {r : List Int} {hiu b cap n k : Nat} (hTI : T ≠ I) (h : OwG w0 lo hi T I (.slice (some ⟨b, 0, none⟩) n cap) g) (hk : k < g.length)
    (hlo : lo ≤ w0.heap.size) (hh : hi ≤ w0.heap.size) (hb : Below w0.heap.size w0 W) (hu : Ow W w0.heap.size hiu I u (ints r)) :
    OwG (W.setCell ⟨b, k, none⟩ u) lo (W.setCell ⟨b, k, none⟩ u).heap.size T I (.slice (some ⟨b, 0, none⟩) n cap) (g.set k r) := by
  obtain ⟨vs, he, h1, h2, h3⟩ := h
  have hn := h1.len_.1
  have hs := hb.size
  have hsz : (W.setCell ⟨b, k, none⟩ u).heap.size = W.heap.size := by simp [World.setCell]
  have hW : Ow W lo hi T (.slice (some ⟨b, 0, none⟩) n cap) vs := h1.new hb
  have keep : ∀ {x : Value} {s : List Int} {a c : Nat}, Ow W a c I x (ints s) → Ow (W.setCell ⟨b, k, none⟩ u) a c I x (ints s) := fun hx => hx.far (fun j hj hc => by
    have := hx.ne_ hW (fun e => hTI e.symm) hj
    simp [Value.ownBlock] at this
    exact this hc.symm) u
  rw [hsz]
  refine ⟨vs.set k u, by simp [he], (Ow.set' hn hW k u).mono (Nat.le_refl _) (by omega), fun j a s ha hsr => ?_, fun i j a c hij ha hc m hm => ?_⟩
  · by_cases hjk : j = k
    · subst hjk
      rw [List.getElem?_set_self (by omega)] at ha
      rw [List.getElem?_set_self (by omega)] at hsr
      injection ha with ha; injection hsr with hsr
      subst ha; subst hsr
      have := keep hu
      exact ⟨(this.mono hlo (Nat.le_refl _)).1, fun m hm => (hu.blk hm).2.2⟩
    · rw [List.getElem?_set_ne (fun e => hjk e.symm)] at ha hsr
      have := (h2 j a s ha hsr).new hb
      exact ⟨(keep this).1, fun m hm => (this.blk hm).2.2⟩
  · by_cases hik : i = k
    · subst hik
      rw [List.getElem?_set_self (by omega)] at ha
      injection ha with ha; subst ha
      rw [List.getElem?_set_ne hij] at hc
      have hjl : j < vs.length := (List.getElem?_eq_some_iff.1 hc).1
      intro hcm
      have h4 := (h2 j c g[j] hc (List.getElem?_eq_getElem (by omega))).blk hcm
      have := (hu.blk hm).1
      omega
    · rw [List.getElem?_set_ne (fun e => hik e.symm)] at ha
      have hil : i < vs.length := (List.getElem?_eq_some_iff.1 ha).1
      have h4 := (h2 i a g[i] ha (List.getElem?_eq_getElem (by omega))).blk hm
      by_cases hjk : j = k
      · subst hjk
        rw [List.getElem?_set_self (by omega)] at hc
        injection hc with hc; subst hc
        intro hcm
        have := (hu.blk hcm).1
        omega
      · rw [List.getElem?_set_ne (fun e => hjk e.symm)] at hc
        exact h3 i j a c hij ha hc m hm
/-- For a walk: row k of an owned grid. -/
theorem OwG.at_ {A : Option Addr} {n c k : Nat} {r : List Int} (h : OwG w lo hi T I (.slice A n c) g) (hx : g[k]? = some r) : ∃ b u, A = some ⟨b, 0, none⟩ ∧ lo ≤ b ∧ b < hi ∧ b < w.heap.size ∧ w.cell? ⟨b, k, none⟩ = some u ∧ w.frozen? ⟨b, k, none⟩ = false ∧ Ow w lo hi I u (ints r) := by
  obtain ⟨vs, he, h1, h2, h3⟩ := h
  have hk : k < vs.length := by rw [he]; exact (List.getElem?_eq_some_iff.1 hx).1
  obtain ⟨b, q1, q2, q3, q4, q5, q6⟩ := h1.at_ (List.getElem?_eq_getElem hk)
  exact ⟨b, vs[k], q1, q2, q3, q4, q5, q6, h2 k _ r (List.getElem?_eq_getElem hk) hx⟩
theorem OwG.form' (h : OwG w lo hi T I v g) : ∃ A c, v = .slice A g.length c ∧ g.length ≤ c ∧ c ≤ 9223372036854775807 := h.rd.form
theorem OwG.len_ {A : Option Addr} {n c : Nat} (h : OwG w lo hi T I (.slice A n c) g) : n = g.length := by
  obtain ⟨A', c', e, h1, h2⟩ := h.form'
  injection e
/-- Row k has become r' by writes to its own block, the outer row in block b. -/
theorem OwG.row' {b n cap k : Nat} {u : Value} {r r' : List Int} (h : OwG w lo hi T I (.slice (some ⟨b, 0, none⟩) n cap) g) (hTI : T ≠ I) (hr : g[k]? = some r) (hc : w.cell? ⟨b, k, none⟩ = some u)
    (hg : w.grownBy w' u.ownBlock) (hu : Ow w' lo hi I u (ints r')) : OwG w' lo hi T I (.slice (some ⟨b, 0, none⟩) n cap) (g.set k r') :=
  h.row hTI hr (fun b' cap' n' e => by injection e with e; injection e with e; injection e with e; subst e; exact hc) hg hu
end

/-! For walks over grids that are only read. -/
section
variable {w : World} {lo hi b o n c k : Nat} {A : Option Addr} {g : List (List Int)} {l r : List Int} {x : Int}
theorem RdG.some_ (h : RdG w lo hi (.slice A n c) g) (hl : 0 < g.length) : ∃ b o, A = some ⟨b, o, none⟩ ∧ lo ≤ b ∧ b < hi := by
  obtain ⟨b, o, u, q1, q2, q3, _⟩ := h.at_ (k := 0) (List.getElem?_eq_getElem hl)
  exact ⟨b, o, q1, q2, q3⟩
theorem RdG.row (h : RdG w lo hi (.slice (some ⟨b, o, none⟩) n c) g) (hx : g[k]? = some r) :
    ∃ A' c', w.cell? ⟨b, o + k, none⟩ = some (.slice A' r.length c') ∧ r.length ≤ c' ∧ c' ≤ 9223372036854775807 ∧ RdI w lo hi (.slice A' r.length c') r := by
  obtain ⟨b', o', u, q1, q2, q3, q4, q5, q6⟩ := h.at_ hx
  injection q1 with q1; injection q1 with e1 e2; subst e1; subst e2
  obtain ⟨A', c', rfl, g1, g2⟩ := q6.form
  exact ⟨A', c', q5, g1, g2, q6⟩
theorem RdG.row0 (h : RdG w lo hi (.slice (some ⟨b, o, none⟩) n c) g) (hx : g[0]? = some r) :
    ∃ A' c', w.cell? ⟨b, o, none⟩ = some (.slice A' r.length c') ∧ r.length ≤ c' ∧ c' ≤ 9223372036854775807 ∧ RdI w lo hi (.slice A' r.length c') r := h.row hx
theorem RdI.cell (h : RdI w lo hi (.slice (some ⟨b, o, none⟩) n c) l) (hx : l[k]? = some x) : w.cell? ⟨b, o + k, none⟩ = some (.int .i64 x) := by
  obtain ⟨b', o', q1, q2, q3, q4, q5⟩ := h.at_ hx
  injection q1 with q1; injection q1 with e1 e2; subst e1; subst e2
  exact q5
theorem RdI.some_ (h : RdI w lo hi (.slice A n c) l) (hl : 0 < l.length) : ∃ b o, A = some ⟨b, o, none⟩ ∧ lo ≤ b ∧ b < hi := by
  obtain ⟨b, o, q1, q2, q3, _⟩ := h.at_ (k := 0) (List.getElem?_eq_getElem hl)
  exact ⟨b, o, q1, q2, q3⟩
theorem RdG.cap_ (h : RdG w lo hi (.slice A n c) g) : n = g.length := by
  obtain ⟨A', c', e, h1, h2⟩ := h.form
  injection e
end

/-! append of whatever reads as a list, nil or not. -/
section
variable {P : Program} {w : World}
theorem run_append_rd {lo hi : Nat} (base : Nat) (t ty e : TypeId) (i : TypeInfo) (z : Value) (bytes : Nat) (ht : P.underlying t = some (.slice e)) (hi0 : P.info? e = some i) (hz : i.zero = some z)
    (hsize : i.size = 1) (hby : i.bytes = bytes) (hzs : z.cells.size = 1)
    (v : Value) (n : Nat) (xs : List Value) (hown : w.ownsRow base e 1 v n xs)
    (A : Option Addr) (m c : Nat) (news : List Value) (hr : Rd w lo hi (.slice A m c) news) (h1 : ∀ u ∈ news, u.oneCell' = true)
    (h63 : n + m ≤ maxLen) (hbytes : (n + m) * bytes ≤ 140737488355328) (hbase : base ≤ w.heap.size) :
    ∃ v' w', (Builtin.append_ #[t, t] ty #[v, .slice A m c]).run P w = .ok v' w' ∧ w'.ownsRow base e 1 v' (n + m) (xs ++ news) ∧ w.grownBy w' v.ownBlock ∧
      (v'.ownBlock = v.ownBlock ∨ v'.ownBlock = some w.heap.size) := by
  have hm : m = news.length := hr.cap.1
  cases A with
  | none =>
    have hn : news = [] := by
      cases news with
      | nil => rfl
      | cons x l =>
        obtain ⟨b, o, q, _⟩ := hr.at_ (k := 0) rfl
        cases q
    subst hn
    simp at hm; subst hm
    refine ⟨v, w, ?_, by simpa using hown, World.grownBy.refl _ _, .inl rfl⟩
    rcases hown.2 with ⟨rfl, rfl⟩ | ⟨g, cap, cur, rfl, _, _, hnc, _⟩
    · simp [Builtin.append_, run_underlying ht, sizeOf, typeInfo, hi0, Builtin.lenOf, Builtin.firstCells]
    · simp [Builtin.append_, run_underlying ht, sizeOf, typeInfo, hi0, Builtin.lenOf, Builtin.firstCells, hnc, storeCells]
  | some ad =>
    have hcells : ∀ j u, news[j]? = some u → w.cell? (ad.add j) = some u := by
      intro j u hu
      obtain ⟨b, o, q, _, _, _, q5⟩ := hr.at_ hu
      injection q with q; subst q
      rw [Addr.add_lit]; exact q5
    obtain ⟨v', w', hrun, h2, h3, _, h5⟩ := run_append_own_at (P := P) w base t ty e i z 1 bytes ht hi0 hz hsize hby hzs (by omega) v n xs hown ad m c news (by omega) hcells h1 h63 hbytes hbase
    exact ⟨v', w', hrun, h2, h3, h5⟩
theorem wpList_append_rd {lo hi : Nat} {ops : Array Oper} {rest : List Oper} {o : Oper} {a : Act} {Q : Exit → Act → World → Prop} (hgd : o.guard = none) (s x : Operand) (t : TypeId)
    (ho : o.op = .call { callee := .builtin .append, args := #[s, x], argTypes := #[t, t] })
    (base : Nat) (e : TypeId) (i : TypeInfo) (z : Value) (bytes : Nat) (ht : P.underlying t = some (.slice e)) (hi0 : P.info? e = some i) (hz : i.zero = some z)
    (hsize : i.size = 1) (hby : i.bytes = bytes) (hzs : z.cells.size = 1)
    (v : Value) (n : Nat) (xs : List Value) (hs : a.eval s = v) (hown : w.ownsRow base e 1 v n xs)
    (A : Option Addr) (m c : Nat) (news : List Value) (hx : a.eval x = .slice A m c) (hr : Rd w lo hi (.slice A m c) news) (h1 : ∀ u ∈ news, u.oneCell' = true)
    (h63 : n + m ≤ maxLen) (hbytes : (n + m) * bytes ≤ 140737488355328) (hbase : base ≤ w.heap.size)
    (h : ∀ v' w', w'.ownsRow base e 1 v' (n + m) (xs ++ news) → w.grownBy w' v.ownBlock → (v'.ownBlock = v.ownBlock ∨ v'.ownBlock = some w.heap.size) → wpList P ops Q rest (a.put o.dst v') w') :
    wpList P ops Q (o :: rest) a w := by
  refine wpList_plain hgd fun K hK => ?_
  obtain ⟨v', w', hrun, h2, h3, h4⟩ := run_append_rd (P := P) base t o.type e i z bytes ht hi0 hz hsize hby hzs v n xs hown A m c news hr h1 h63 hbytes hbase
  unfold Oper.wp execOp
  simp only [ho, resolve, invoke, builtin, Sem.run_bind, Sem.run_pure, Result.andThen_ok, List.map_toArray, List.map_cons, List.map_nil, hs, hx, hrun]
  exact hK _ _ (h v' w' h2 h3 h4)
theorem ints_one (l : List Int) : ∀ u ∈ ints l, u.oneCell' = true := by
  intro u hu
  simp only [ints, List.mem_map] at hu
  obtain ⟨x, _, rfl⟩ := hu
  rfl
end

/-- Only draws have been made. -/
def Drew (w w' : World) : Prop := ∃ n, w' = w.drewN n
theorem Drew.refl (w : World) : Drew w w := ⟨0, rfl⟩
theorem Drew.drewN {w w' : World} (h : Drew w w') (n : Nat) : Drew w (w'.drewN n) := by
  obtain ⟨m, rfl⟩ := h
  exact ⟨m + n, by rw [World.drewN_drewN]⟩
theorem Drew.trans {a b c : World} (h : Drew a b) (k : Drew b c) : Drew a c := by
  obtain ⟨n, rfl⟩ := k
  exact h.drewN n
theorem Drew.below {w w' : World} (h : Drew w w') (B : Nat) : Below B w w' := by
  obtain ⟨n, rfl⟩ := h
  exact ⟨rfl, rfl, rfl, Nat.le_refl _, fun _ _ => rfl⟩
theorem Drew.rdI {w w' : World} {lo hi : Nat} {v : Value} {l : List Int} (h : Drew w w') (hr : RdI w lo hi v l) : RdI w' lo hi v l := by
  obtain ⟨n, rfl⟩ := h; exact hr
theorem Drew.rdG {w w' : World} {lo hi : Nat} {v : Value} {g : List (List Int)} (h : Drew w w') (hr : RdG w lo hi v g) : RdG w' lo hi v g := by
  obtain ⟨n, rfl⟩ := h; exact hr

/-- An empty literal: a block without cells. -/
theorem own_empty (w : World) (base : Nat) (e : TypeId) (hb : base ≤ w.heap.size) : (w.alloc (.cells #[] e)).ownsRow base e 1 (.slice (some ⟨w.heap.size, 0, none⟩) 0 0) 0 [] :=
  World.ownsRow_lit w #[] 0 hb (Nat.zero_le _) rfl
theorem Ow.empty (w : World) (base : Nat) (e : TypeId) (hb : base ≤ w.heap.size) : Ow (w.alloc (.cells #[] e)) base (w.heap.size + 1) e (.slice (some ⟨w.heap.size, 0, none⟩) 0 0) [] :=
  Ow.of_ (own_empty w base e hb) (fun k hk => by simp [Value.ownBlock] at hk; omega)
theorem OwG.empty (w : World) (base : Nat) (T I : TypeId) (hb : base ≤ w.heap.size) : OwG (w.alloc (.cells #[] T)) base (w.heap.size + 1) T I (.slice (some ⟨w.heap.size, 0, none⟩) 0 0) [] :=
  ⟨[], rfl, Ow.empty w base T hb, fun k u r hu => by simp at hu, fun i j a b _ hu => by simp at hu⟩
end Go.Proofs.Ytpjlgcohafbbdaa
