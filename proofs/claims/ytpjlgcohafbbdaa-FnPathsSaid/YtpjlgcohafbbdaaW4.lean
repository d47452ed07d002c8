/- Walks: sums, SumsOk, ConjugateOf, MostIn. -/
import Derived.Test.YtpjlgcohafbbdaaProg
import Derived.Test.YtpjlgcohafbbdaaW1
import Derived.Test.YtpjlgcohafbbdaaW2
import Derived.Test.YtpjlgcohafbbdaaW3
import Derived.Test.YtpjlgcohafbbdaaMem
import Derived.WalkKit
import Derived.WalkSpells
import Derived.WalkLawsBesides
import Derived.KernelRfl
import Derived.Lib.Hide
import Derived.Deep.QuietTactic
import Derived.BigQuiet
namespace Go.Proofs.Ytpjlgcohafbbdaa
open Go.RowKit
set_option linter.unusedVariables false
set_option linter.unusedSimpArgs false

theorem sum_snoc (l : List Int) (x : Int) : (l ++ [x]).sum = l.sum + x := by simp
theorem sum_bd (M : Int) (hM : 0 ≤ M) : ∀ l : List Int, (∀ x ∈ l, -M ≤ x ∧ x ≤ M) → -(l.length * M) ≤ l.sum ∧ l.sum ≤ l.length * M
  | [], _ => by simp
  | x :: t, h => by
    have h1 := h x (by simp)
    have h2 := sum_bd M hM t (fun y hy => h y (by simp [hy]))
    have e : ((t.length + 1 : Nat) : Int) * M = t.length * M + M := by rw [Int.natCast_add, Int.add_mul]; simp
    simp only [List.sum_cons, List.length_cons, e]
    omega
theorem sum_bd20 {l : List Int} (hl : l.length ≤ 1048576) (h : ∀ x ∈ l, -1048576 ≤ x ∧ x ≤ 1048576) (k : Nat) : -1099511627776 ≤ (l.take k).sum ∧ (l.take k).sum ≤ 1099511627776 := by
  have := sum_bd 1048576 (by omega) (l.take k) (fun x hx => h x (List.mem_of_mem_take hx))
  have h2 : (l.take k).length ≤ l.length := by rw [List.length_take]; omega
  omega
def small (l : List Int) : Prop := l.length ≤ 1048576 ∧ ∀ x ∈ l, -1048576 ≤ x ∧ x ≤ 1048576
theorem small_of {l : List Int} {lo hi : Int} (hl : l.length ≤ 1048576) (h : l.all (inB · lo hi) = true) (h1 : -1048576 ≤ lo) (h2 : hi ≤ 1048576) : small l :=
  ⟨hl, fun x hx => by have := inB_true (List.all_eq_true.1 h x hx); omega⟩

set_option maxHeartbeats 400000 in
theorem impl_sumOf (l : List Int) (v : Value) (w : World) (a b : Nat) (hr : RdI w a b v l) (hs : small l) :
    Calls Try.prog 52 #[v] w fun e w' => e = .returned (.int .i64 l.sum) ∧ w = w' := by
  obtain ⟨A, c, rfl, hlc, hcm⟩ := hr.form
  go_enter Try.func52, Try.ntmps52
  go_wp2_with fail
  go_loop [3, 8] (fun n i => ∃ k : Nat, k ≤ l.length ∧ i = .int .i64 k ∧ n = .int .i64 (l.take k).sum) (fun _ i => l.length - (intOf i).toNat)
  case atStart => exact ⟨0, Nat.zero_le _, rfl, rfl⟩
  case round =>
    obtain ⟨k, hk, rfl, rfl⟩ := hrel
    by_cases hlt : k < l.length
    · obtain ⟨x, hx⟩ := get_of_lt l k hlt
      obtain ⟨b', o', rfl, h1, h2, h3, hc⟩ := hr.at_ hx
      obtain ⟨s1, s2⟩ := sum_bd20 hs.1 hs.2 k
      obtain ⟨t1, t2⟩ := hs.2 x (List.mem_of_getElem? hx)
      have e := sum_snoc (l.take k) x
      rw [← take_snoc hx] at e
      have He := Lib.hid e; clear e hx
      go_wp2_with fail
      go_round
      case rel => exact ⟨k + 1, by omega, by go_num, by rw [He.out]⟩
      case measure => simp [intOf]; omega
    · have Hlt := Lib.hid (take_all hlt)
      go_wp2_with fail
      go_ret
      exact ⟨ret_int (by rw [Hlt.out]), rfl⟩

def sumsOk (rows cols : List Int) : Bool := inB rows.length 1 5 && inB cols.length 1 5 && rows.all (inB · 0 cols.length) && cols.all (inB · 0 rows.length) && decide (rows.sum = cols.sum)
theorem sumsOk_1 {rows cols : List Int} (h : inB rows.length 1 5 = false) : sumsOk rows cols = false := by simp [sumsOk, h]
theorem sumsOk_2 {rows cols : List Int} (h : inB cols.length 1 5 = false) : sumsOk rows cols = false := by simp [sumsOk, h]
theorem sumsOk_3 {rows cols : List Int} (h : rows.all (inB · 0 cols.length) = false) : sumsOk rows cols = false := by simp [sumsOk, h]
theorem sumsOk_4 {rows cols : List Int} (h : cols.all (inB · 0 rows.length) = false) : sumsOk rows cols = false := by simp [sumsOk, h]
theorem sumsOk_5 {rows cols : List Int} (h1 : inB rows.length 1 5 = true) (h2 : inB cols.length 1 5 = true) (h3 : rows.all (inB · 0 cols.length) = true) (h4 : cols.all (inB · 0 rows.length) = true) : sumsOk rows cols = (rows.sum == cols.sum) := by
  simp only [sumsOk, h1, h2, h3, h4, Bool.true_and]
  rw [Bool.eq_iff_iff]; simp

/-- How many elements of l are at least k + 1, for k from 0 up to n. -/
def conjF (l : List Int) (n : Nat) : List Int := (List.range n).map fun (k : Nat) => ((l.filter fun x => decide ((k : Int) < x)).length : Int)
def incF (c : List Int) (k : Nat) : List Int := (c.take k).map (· + 1) ++ c.drop k
theorem conjF_len (l : List Int) (n : Nat) : (conjF l n).length = n := by simp [conjF]
theorem incF_len (c : List Int) (k : Nat) : (incF c k).length = c.length := by simp [incF]; omega
theorem conjF_nil (n : Nat) : conjF [] n = List.replicate n 0 := by
  apply List.ext_getElem
  · simp [conjF]
  · intro i h1 h2; simp [conjF]
theorem incF_zero (c : List Int) : incF c 0 = c := by simp [incF]
theorem incF_get {c : List Int} {k : Nat} {y : Int} (h : c[k]? = some y) : (incF c k)[k]? = some y := by
  have hk := (List.getElem?_eq_some_iff.1 h).1
  unfold incF
  rw [List.getElem?_append_right (by simp; omega)]
  simp [Nat.min_eq_left (Nat.le_of_lt hk), h]
theorem incF_set {c : List Int} {k : Nat} {y : Int} (h : c[k]? = some y) : (incF c k).set k (y + 1) = incF c (k + 1) := by
  have hk := (List.getElem?_eq_some_iff.1 h).1
  unfold incF
  rw [take_snoc h, List.map_append, List.set_append_right _ _ (by simp; omega)]
  have e : k - (List.map (· + 1) (List.take k c)).length = 0 := by simp; omega
  rw [e, List.drop_eq_getElem_cons hk, List.set_cons_zero]
  simp
theorem conjF_snoc (l : List Int) (x : Int) (n : Nat) (h0 : 0 ≤ x) (hn : x ≤ n) : conjF (l ++ [x]) n = incF (conjF l n) x.toNat := by
  apply List.ext_getElem
  · simp [conjF_len, incF_len]
  · intro i h1 h2
    simp only [conjF, List.getElem_map, List.getElem_range, List.filter_append, List.length_append]
    simp only [incF, conjF]
    by_cases hi : i < x.toNat
    · have : (i : Int) < x := by omega
      rw [List.getElem_append_left (by simp [conjF] at h1 ⊢; omega)]
      simp [this]
    · have : ¬ (i : Int) < x := by omega
      rw [List.getElem_append_right (by simp [conjF] at h1 ⊢; omega)]
      simp only [List.getElem_drop, List.getElem_map, List.getElem_range]
      have e : x.toNat + (i - (List.map (· + 1) (List.take x.toNat (List.map (fun (k : Nat) => ((l.filter fun x => decide ((k : Int) < x)).length : Int)) (List.range n)))).length) = i := by
        simp [conjF] at h1 ⊢; omega
      rw [e]
      simp [this]
theorem conjF_bd {l : List Int} {n : Nat} (hl : l.length ≤ 5) {k : Nat} {y : Int} (h : (conjF l n)[k]? = some y) : 0 ≤ y ∧ y ≤ 5 := by
  obtain ⟨hk, rfl⟩ := List.getElem?_eq_some_iff.1 h
  simp only [conjF, List.getElem_map, List.getElem_range]
  have := List.length_filter_le (fun x => decide (((k : Nat) : Int) < x)) l
  omega

/-- May the conjugate be taken? -/
def conjOk (l : List Int) (n : Int) : Bool := inB n 1 5 && decide (l.length ≤ 5) && l.all (inB · 0 n)
def conjR (l : List Int) (n : Int) : List Int := if conjOk l n = true then conjF l n.toNat else []
theorem conjOk_1 {l : List Int} {n : Int} (h : inB n 1 5 = false) : conjOk l n = false := by simp [conjOk, h]
theorem conjOk_2 {l : List Int} {n : Int} (h : ¬ l.length ≤ 5) : conjOk l n = false := by simp [conjOk, h]
theorem conjOk_3 {l : List Int} {n : Int} (h : l.all (inB · 0 n) = false) : conjOk l n = false := by simp [conjOk, h]
theorem conjOk_4 {l : List Int} {n : Int} (h1 : inB n 1 5 = true) (h2 : l.length ≤ 5) (h : l.all (inB · 0 n) = true) : conjOk l n = true := by simp [conjOk, h, h1, h2]
theorem conjOk_in {l : List Int} {n : Int} (h : conjOk l n = true) : 1 ≤ n ∧ n ≤ 5 ∧ l.length ≤ 5 ∧ ∀ x ∈ l, 0 ≤ x ∧ x ≤ n := by
  simp only [conjOk, Bool.and_eq_true, decide_eq_true_eq] at h
  obtain ⟨⟨h1, h2⟩, h3⟩ := h
  have := inB_true h1
  exact ⟨this.1, this.2, h2, fun x hx => inB_true (List.all_eq_true.1 h3 x hx)⟩

/-- The post of ConjugateOf: nil where it may not be taken, else a new row. -/
def RetC (w : World) (l : List Int) (n : Int) (e : Ending) (w' : World) : Prop :=
  ∃ v, e = .returned v ∧ Ow w' w.heap.size w'.heap.size 3 v (ints (conjR l n)) ∧ Below w.heap.size w w' ∧
    ((conjOk l n = false ∧ v = .slice none 0 0) ∨ (conjOk l n = true ∧ ∃ g c, v = .slice (some ⟨g, 0, none⟩) n.toNat c))
theorem RetC_no {w w' : World} {l : List Int} {n : Int} (h : conjOk l n = false) (hb : Below w.heap.size w w') : RetC w l n (.returned (.slice none 0 0)) w' :=
  ⟨_, rfl, by simp only [conjR, h]; exact Ow.nil _ _ _ _, hb, .inl ⟨h, rfl⟩⟩

def mostF (l : List Int) (k : Int) : Int := (l.map fun x => min k x).sum
def mostR (l : List Int) (k n : Int) : Int := if conjOk l n = true ∧ inB k 0 n = true then mostF l k else -1
theorem mostR_1 {l : List Int} (k : Int) {n : Int} (h : conjOk l n = false) : mostR l k n = -1 := by simp [mostR, h]
theorem mostR_2 {l : List Int} {k n : Int} (h : inB k 0 n = false) : mostR l k n = -1 := by simp [mostR, h]
theorem mostR_3 {l : List Int} {k n : Int} (h : conjOk l n = true) (h' : inB k 0 n = true) : mostR l k n = mostF l k := by simp [mostR, h, h']
theorem mostF_snoc (l : List Int) (x k : Int) : mostF (l ++ [x]) k = mostF l k + min k x := by simp [mostF]
theorem mostF_bd {l : List Int} {k n : Int} (hl : l.length ≤ 5) (h : ∀ x ∈ l, 0 ≤ x ∧ x ≤ n) (hk : 0 ≤ k) (hn : n ≤ 5) (j : Nat) : 0 ≤ mostF (l.take j) k ∧ mostF (l.take j) k ≤ 25 := by
  have g : ∀ m : List Int, (∀ x ∈ m, 0 ≤ x ∧ x ≤ n) → 0 ≤ mostF m k ∧ mostF m k ≤ 5 * m.length := by
    intro m
    induction m with
    | nil => intro _; simp [mostF]
    | cons x t ih =>
      intro hm
      have h1 := hm x (by simp)
      have h2 := ih (fun y hy => hm y (by simp [hy]))
      simp only [mostF, List.map_cons, List.sum_cons, List.length_cons] at h2 ⊢
      omega
  have h1 := g (l.take j) (fun x hx => h x (List.mem_of_mem_take hx))
  have h2 : (l.take j).length ≤ l.length := by rw [List.length_take]; omega
  omega

end Go.Proofs.Ytpjlgcohafbbdaa
