/- Words for rows of switches (four cells an element): OwS (owned), RdS (read). -/
import Derived.Test.YtpjlgcohafbbdaaMem
import Derived.Test.YtpjlgcohafbbdaaW3
import Derived.WalkKit
import Derived.Below
import Derived.Lib.Hide
namespace Go.Proofs.Ytpjlgcohafbbdaa
open Go.RowKit
set_option linter.unusedVariables false

abbrev Sw := Int × Int × Int × Int
def swCells (s : Sw) : List Value := [.int .i64 s.1, .int .i64 s.2.1, .int .i64 s.2.2.1, .int .i64 s.2.2.2]
def swFlat (l : List Sw) : List Value := l.flatMap swCells
theorem swFlat_len : ∀ l : List Sw, (swFlat l).length = l.length * 4
  | [] => rfl
  | s :: t => by
    have := swFlat_len t
    simp only [swFlat, List.flatMap_cons, List.length_append, List.length_cons] at this ⊢
    rw [this]; simp [swCells]; omega
theorem swFlat_app (l m : List Sw) : swFlat (l ++ m) = swFlat l ++ swFlat m := by simp [swFlat]
theorem swFlat_one (s : Sw) : swFlat [s] = swCells s := by simp [swFlat]
theorem swFlat_get : ∀ (l : List Sw) (k : Nat) (s : Sw) (j : Nat), l[k]? = some s → j < 4 → (swFlat l)[k * 4 + j]? = (swCells s)[j]?
  | [], _, _, _, h, _ => by simp at h
  | t :: l, 0, s, j, h, hj => by
    simp at h; subst h
    simp only [swFlat, List.flatMap_cons, Nat.zero_mul, Nat.zero_add]
    rw [List.getElem?_append_left (by simp [swCells]; omega)]
  | t :: l, k + 1, s, j, h, hj => by
    have ih := swFlat_get l k s j (by simpa using h) hj
    simp only [swFlat, List.flatMap_cons] at ih ⊢
    rw [List.getElem?_append_right (by simp [swCells]; omega), ← ih]
    congr 1; simp [swCells]; omega
/-- The slice value v reads as the switches l. -/
def RdS (w : World) (lo hi : Nat) (v : Value) (l : List Sw) : Prop :=
  ∃ A c, v = .slice A l.length c ∧ l.length ≤ c ∧ c ≤ maxLen ∧
    ∀ k s, l[k]? = some s → ∃ b o, A = some ⟨b, o, none⟩ ∧ lo ≤ b ∧ b < hi ∧ b < w.heap.size ∧ ∀ j u, (swCells s)[j]? = some u → w.cell? ⟨b, o + (k * 4 + j), none⟩ = some u
def OwS (w : World) (lo hi : Nat) (T : TypeId) (v : Value) (l : List Sw) : Prop :=
  w.ownsRow lo T 4 v l.length (swFlat l) ∧ ∀ k, v.ownBlock = some k → k < hi
section
variable {w w' : World} {lo hi lo' hi' : Nat} {T : TypeId} {v : Value} {l : List Sw}
theorem OwS.nil (w : World) (lo hi : Nat) (T : TypeId) : OwS w lo hi T (.slice none 0 0) [] := ⟨World.ownsRow_nil _ _ _ _, fun k hk => by simp [Value.ownBlock] at hk⟩
theorem OwS.blk (h : OwS w lo hi T v l) {k : Nat} (hk : v.ownBlock = some k) : lo ≤ k ∧ k < hi ∧ k < w.heap.size := ⟨(h.1.lt k hk).1, h.2 k hk, (h.1.lt k hk).2⟩
theorem OwS.chg (h : OwS w lo hi T v l) (c : Chg lo' hi' w w') (hd : hi ≤ lo' ∨ hi' ≤ lo ∨ hi' ≤ lo' ∨ w.heap.size ≤ lo') : OwS w' lo hi T v l := by
  refine ⟨⟨h.1.1, ?_⟩, h.2⟩
  rcases h.1.2 with hn | ⟨g, cap, cur, rfl, hb, hg, rest⟩
  · exact .inl hn
  · have hlt : g < w.heap.size := (Array.getElem?_eq_some_iff.1 hg).1
    have hh : g < hi := h.2 g rfl
    exact .inr ⟨g, cap, cur, rfl, hb, (c.block g hlt (by omega)).trans hg, rest⟩
theorem OwS.new (h : OwS w lo hi T v l) (hb : Below w.heap.size w w') : OwS w' lo hi T v l := h.chg (lo' := 0) (hi' := 0) (Chg.ofNew hb) (by omega)
theorem OwS.alloc (h : OwS w lo hi T v l) (o : Obj) : OwS (w.alloc o) lo hi T v l := h.chg ((Chg.refl 0 0 w).alloc o) (by omega)
theorem OwS.mono (h : OwS w lo hi T v l) (h1 : lo' ≤ lo) (h2 : hi ≤ hi') : OwS w lo' hi' T v l := by
  refine ⟨⟨h.1.1, ?_⟩, fun k hk => Nat.lt_of_lt_of_le (h.2 k hk) h2⟩
  rcases h.1.2 with hn | ⟨g, cap, cur, rfl, hb, rest⟩
  · exact .inl hn
  · exact .inr ⟨g, cap, cur, rfl, by omega, rest⟩
theorem OwS.drew (h : OwS w lo hi T v l) : OwS w.drew lo hi T v l := h
theorem OwS.drewN (h : OwS w lo hi T v l) (n : Nat) : OwS (w.drewN n) lo hi T v l := h
theorem OwS.of_top {n : Nat} {xs : List Value} (h : w.ownsRow lo T 4 v n xs) (hx : xs = swFlat l) : OwS w lo w.heap.size T v l := by
  subst hx
  have hn : l.length = n := by have := h.1; rw [swFlat_len] at this; omega
  subst hn
  exact ⟨h, fun k hk => (h.lt k hk).2⟩
theorem OwS.form (h : OwS w lo hi T v l) : (v = .slice none 0 0 ∧ l = []) ∨ ∃ g cap, v = .slice (some ⟨g, 0, none⟩) l.length cap ∧ lo ≤ g ∧ g < hi ∧ g < w.heap.size ∧ l.length ≤ cap ∧ cap ≤ maxLen ∧
    (∀ k u, (swFlat l)[k]? = some u → w.cell? ⟨g, k, none⟩ = some u) ∧ (∀ k, w.frozen? ⟨g, k, none⟩ = false) := by
  rcases h.1.2 with ⟨rfl, hn⟩ | ⟨g, cap, cur, rfl, hb, hg, hnc, hcm, hcs, htake⟩
  · exact .inl ⟨rfl, List.eq_nil_of_length_eq_zero hn⟩
  · refine .inr ⟨g, cap, rfl, hb, h.2 g rfl, (Array.getElem?_eq_some_iff.1 hg).1, hnc, hcm, fun k u hu => ?_, fun k => ?_⟩
    · have hk : k < (swFlat l).length := (List.getElem?_eq_some_iff.1 hu).1
      rw [swFlat_len] at hk
      rw [h.1.cellAt k (by omega)]; exact hu
    · exact h.1.frozenAt k
theorem OwS.form' (h : OwS w lo hi T v l) : ∃ A c, v = .slice A l.length c ∧ l.length ≤ c ∧ c ≤ 9223372036854775807 := by
  rcases h.form with ⟨rfl, rfl⟩ | ⟨g, cap, rfl, _, _, _, h3, h4, _⟩
  · exact ⟨none, 0, rfl, Nat.le_refl _, by omega⟩
  · exact ⟨_, cap, rfl, h3, by unfold maxLen at h4; omega⟩
theorem OwS.rd (h : OwS w lo hi T v l) : RdS w lo hi v l := by
  rcases h.form with ⟨rfl, rfl⟩ | ⟨g, cap, rfl, h1, h2, h2', h3, h4, h5, _⟩
  · exact ⟨none, 0, rfl, by simp, by simp [maxLen], fun k s hs => by simp at hs⟩
  · refine ⟨some ⟨g, 0, none⟩, cap, rfl, h3, h4, fun k s hs => ⟨g, 0, rfl, h1, h2, h2', fun j u hu => ?_⟩⟩
    rw [Nat.zero_add]
    refine h5 _ _ ?_
    rw [swFlat_get l k s j hs (by have := (List.getElem?_eq_some_iff.1 hu).1; simpa [swCells] using this)]
    exact hu
theorem RdS.form (h : RdS w lo hi v l) : ∃ A c, v = .slice A l.length c ∧ l.length ≤ c ∧ c ≤ 9223372036854775807 := by
  obtain ⟨A, c, rfl, h1, h2, _⟩ := h; exact ⟨A, c, rfl, h1, by unfold maxLen at h2; omega⟩
theorem RdS.chg (h : RdS w lo hi v l) (c : Chg lo' hi' w w') (hd : hi ≤ lo' ∨ hi' ≤ lo ∨ hi' ≤ lo' ∨ w.heap.size ≤ lo') : RdS w' lo hi v l := by
  obtain ⟨A, cc, rfl, h1, h2, h3⟩ := h
  refine ⟨A, cc, rfl, h1, h2, fun k s hs => ?_⟩
  obtain ⟨b, o, rfl, q1, q2, q3, q4⟩ := h3 k s hs
  refine ⟨b, o, rfl, q1, q2, Nat.lt_of_lt_of_le q3 c.size, fun j u hu => ?_⟩
  by_cases hh : b < lo' ∨ hi' ≤ b
  · rw [c.cell (p := ⟨b, _, none⟩) q3 hh]; exact q4 j u hu
  · exact absurd hh (by omega)
theorem RdS.clip (h : RdS w lo hi v l) : RdS w lo w.heap.size v l := by
  obtain ⟨A, cc, rfl, h1, h2, h3⟩ := h
  refine ⟨A, cc, rfl, h1, h2, fun k s hs => ?_⟩
  obtain ⟨b, o, rfl, q1, q2, q3, q4⟩ := h3 k s hs
  exact ⟨b, o, rfl, q1, q3, q3, q4⟩
theorem RdS.new (h : RdS w lo hi v l) (hb : Below w.heap.size w w') : RdS w' lo hi v l := h.chg (lo' := 0) (hi' := 0) (Chg.ofNew hb) (by omega)
theorem RdS.drewN (h : RdS w lo hi v l) (n : Nat) : RdS (w.drewN n) lo hi v l := h
theorem RdS.drew (h : RdS w lo hi v l) : RdS w.drew lo hi v l := h
/-- The four cells of element k. -/
theorem RdS.at_ {A : Option Addr} {n c k : Nat} {s : Sw} (h : RdS w lo hi (.slice A n c) l) (hs : l[k]? = some s) : ∃ b o, A = some ⟨b, o, none⟩ ∧ lo ≤ b ∧ b < hi ∧ b < w.heap.size ∧
    w.cell? ⟨b, o + k * 4, none⟩ = some (.int .i64 s.1) ∧ w.cell? ⟨b, o + k * 4 + 1, none⟩ = some (.int .i64 s.2.1) ∧ w.cell? ⟨b, o + k * 4 + 2, none⟩ = some (.int .i64 s.2.2.1) ∧ w.cell? ⟨b, o + k * 4 + 3, none⟩ = some (.int .i64 s.2.2.2) := by
  obtain ⟨A', c', e, h1, h2, h3⟩ := h
  injection e with e1 e2 e3; subst e1
  obtain ⟨b, o, rfl, q1, q2, q3, q4⟩ := h3 k s hs
  exact ⟨b, o, rfl, q1, q2, q3, q4 0 _ rfl, q4 1 _ rfl, q4 2 _ rfl, q4 3 _ rfl⟩
/-- For a walk: element k of an owned row of switches. -/
theorem OwS.at_ {A : Option Addr} {n c k : Nat} {s : Sw} (h : OwS w lo hi T (.slice A n c) l) (hs : l[k]? = some s) : ∃ g, A = some ⟨g, 0, none⟩ ∧ lo ≤ g ∧ g < hi ∧ g < w.heap.size ∧
    w.cell? ⟨g, k * 4, none⟩ = some (.int .i64 s.1) ∧ w.cell? ⟨g, k * 4 + 1, none⟩ = some (.int .i64 s.2.1) ∧ w.cell? ⟨g, k * 4 + 2, none⟩ = some (.int .i64 s.2.2.1) ∧ w.cell? ⟨g, k * 4 + 3, none⟩ = some (.int .i64 s.2.2.2) ∧ (∀ j, w.frozen? ⟨g, j, none⟩ = false) := by
  rcases h.form with ⟨e1, rfl⟩ | ⟨g', cap', e1, q1, q2, q3, q4, q5, q6, q7⟩
  · simp at hs
  · injection e1 with e1 e2 e3
    exact ⟨g', e1, q1, q2, q3, q6 _ _ (by rw [show k * 4 = k * 4 + 0 from rfl, swFlat_get l k s 0 hs (by omega)]; rfl), q6 _ _ (by rw [swFlat_get l k s 1 hs (by omega)]; rfl), q6 _ _ (by rw [swFlat_get l k s 2 hs (by omega)]; rfl), q6 _ _ (by rw [swFlat_get l k s 3 hs (by omega)]; rfl), q7⟩
theorem OwS.len_ {A : Option Addr} {n c : Nat} (h : OwS w lo hi T (.slice A n c) l) : n = l.length ∧ n ≤ c ∧ c ≤ 9223372036854775807 := by
  obtain ⟨A', c', e1, h1, h2⟩ := h.form'
  injection e1 with e1 e2 e3
  omega
theorem swFlat_cons (s : Sw) (l : List Sw) : swFlat (s :: l) = .int .i64 s.1 :: .int .i64 s.2.1 :: .int .i64 s.2.2.1 :: .int .i64 s.2.2.2 :: swFlat l := by simp [swFlat, swCells]
theorem swFlat_set : ∀ (l : List Sw) (k : Nat) (s : Sw), ((((swFlat l).set (k * 4) (.int .i64 s.1)).set (k * 4 + 1) (.int .i64 s.2.1)).set (k * 4 + 2) (.int .i64 s.2.2.1)).set (k * 4 + 3) (.int .i64 s.2.2.2) = swFlat (l.set k s)
  | [], _, _ => by simp [swFlat]
  | t :: l, 0, s => by simp [swFlat_cons]
  | t :: l, k + 1, s => by
    have ih := swFlat_set l k s
    rw [List.set_cons_succ, swFlat_cons, swFlat_cons, ← ih, show (k + 1) * 4 = k * 4 + 4 by omega]
    simp only [List.set_cons_succ]
theorem OwS.set4 {g n cap : Nat} (h : OwS w lo hi T (.slice (some ⟨g, 0, none⟩) n cap) l) (k : Nat) (s : Sw) :
    OwS ((((w.setCell ⟨g, k * 4, none⟩ (.int .i64 s.1)).setCell ⟨g, k * 4 + 1, none⟩ (.int .i64 s.2.1)).setCell ⟨g, k * 4 + 2, none⟩ (.int .i64 s.2.2.1)).setCell ⟨g, k * 4 + 3, none⟩ (.int .i64 s.2.2.2)) lo hi T (.slice (some ⟨g, 0, none⟩) n cap) (l.set k s) := by
  have hn := h.len_.1
  subst hn
  refine ⟨?_, h.2⟩
  have := (((((h.1.stored (k * 4) (.int .i64 s.1)).1).stored (k * 4 + 1) (.int .i64 s.2.1)).1.stored (k * 4 + 2) (.int .i64 s.2.2.1)).1.stored (k * 4 + 3) (.int .i64 s.2.2.2)).1
  rw [swFlat_set] at this
  rw [List.length_set]
  exact this
/-- The switches numbered on from k: four numbers each. -/
def markSw (n : Nat) (k : Int) : List Sw := (List.range n).map fun (i : Nat) => (k + 4 * (i : Int), k + 4 * (i : Int) + 1, k + 4 * (i : Int) + 2, k + 4 * (i : Int) + 3)
theorem markSw_len (n : Nat) (k : Int) : (markSw n k).length = n := by simp [markSw]
theorem markSw_succ (n : Nat) (k : Int) : markSw (n + 1) k = markSw n k ++ [(k + 4 * (n : Int), k + 4 * (n : Int) + 1, k + 4 * (n : Int) + 2, k + 4 * (n : Int) + 3)] := by simp [markSw, List.range_succ]
theorem markSw_get {n i : Nat} (k : Int) (h : i < n) : (markSw n k)[i]? = some (k + 4 * (i : Int), k + 4 * (i : Int) + 1, k + 4 * (i : Int) + 2, k + 4 * (i : Int) + 3) := by simp [markSw, h]
theorem markSw_step {l : List Sw} {i : Nat} {k : Int} (h : i < l.length) : (markSw i k ++ l.drop i).set i (k + 4 * (i : Int), k + 4 * (i : Int) + 1, k + 4 * (i : Int) + 2, k + 4 * (i : Int) + 3) = markSw (i + 1) k ++ l.drop (i + 1) := by
  rw [markSw_succ, List.set_append_right _ _ (by simp [markSw_len]), markSw_len, Nat.sub_self, List.drop_eq_getElem_cons h, List.set_cons_zero, List.append_assoc]
  rfl
theorem sw_fill_step {l : List Sw} {k : Nat} {x z : Sw} (h : l[k]? = some x) : (l.take k ++ List.replicate (l.length - k) z).set k x = l.take (k + 1) ++ List.replicate (l.length - (k + 1)) z := by
  have hk : k < l.length := (List.getElem?_eq_some_iff.1 h).1
  obtain ⟨m, hm⟩ : ∃ m, l.length - k = m + 1 := ⟨l.length - k - 1, by omega⟩
  have hm' : l.length - (k + 1) = m := by omega
  have ht : (l.take k).length = k := by rw [List.length_take]; omega
  have e1 : l.take (k + 1) = l.take k ++ [x] := by
    obtain ⟨_, rfl⟩ := List.getElem?_eq_some_iff.1 h
    rw [List.take_succ_eq_append_getElem hk]
  rw [hm, hm', e1, List.replicate_succ, List.set_append_right _ _ (by omega), ht]
  simp
theorem OwS.chgOf (h : OwS w lo hi T v l) (hg : w.grownBy w' v.ownBlock) : Chg lo hi w w' :=
  (Chg.refl lo hi w).grown hg (fun k hk => .inl ⟨(h.blk hk).1, (h.blk hk).2.1⟩)
end
end Go.Proofs.Ytpjlgcohafbbdaa
