/- Walks: the stable sort of the columns (SortStableFunc, stableCmpFunc) by the program's comparison. -/
import Derived.Test.YtdgkiebgmhcmdaaProg
import Derived.Test.YtdgkiebgmhcmdaaW1
import Derived.Test.YtdgkiebgmhcmdaaW3
import Derived.Test.YtdgkiebgmhcmdaaW4
import Derived.Test.YtdgkiebgmhcmdaaS1
import Derived.Test.YtdgkiebgmhcmdaaS2
import Derived.Test.YtdgkiebgmhcmdaaB1
import Derived.Test.YtdgkiebgmhcmdaaShelf
import Derived.Test.YtdgkiebgmhcmdaaMem
import Derived.Shelf.SlSortCmp.Insertion
import Derived.Sort.AtCall
import Derived.WalkKit
import Derived.WalkSpells
import Derived.WalkLawsBesides
import Derived.KernelRfl
import Derived.Lib.Hide
import Derived.Lib.SortBridge
import Derived.Deep.QuietTactic
import Derived.BigQuiet
namespace Go.Proofs.Ytdgkiebgmhcmdaa
open Go.RowKit Go.Sort Go.Lib
set_option linter.unusedVariables false
set_option linter.unusedSimpArgs false

def encF {c : Nat} (x : Fin (c + 1)) : Value := .int .i64 (x.val : Int)
def natI (q : List Nat) : List Int := q.map fun (x : Nat) => (x : Int)
theorem natI_len (q : List Nat) : (natI q).length = q.length := by simp [natI]
theorem natI_get (q : List Nat) (k : Nat) : (natI q)[k]? = (q[k]?).map fun (x : Nat) => (x : Int) := by simp [natI]

set_option maxHeartbeats 1000000 in
theorem closureB (left : List Int) (b0 lb lo cap n : Nat) (x y : Nat) (W : World) (hn : n = left.length) (hx : x < n) (hy : y < n)
    (h0 : W.cell? ⟨b0, 0, none⟩ = some (.slice (some ⟨lb, lo, none⟩) n cap)) (hc : ∀ k, k < n → W.cell? ⟨lb, lo + k, none⟩ = some (.int .i64 (lv left k))) (hb : ∀ k, k < n → -100 ≤ lv left k ∧ lv left k ≤ 100) :
    Calls Try.prog 98 #[.int .i64 x, .int .i64 y, .pointer (some ⟨b0, 0, none⟩)] W fun e w' => e = .returned (.int .i64 (lv left y - lv left x)) ∧ ∃ q, w' = W.drewN q := by
  have h1 := hc x hx
  have h2 := hc y hy
  obtain ⟨A, hA⟩ : ∃ A, A = lv left x := ⟨_, rfl⟩
  obtain ⟨B, hB⟩ : ∃ B, B = lv left y := ⟨_, rfl⟩
  have g1 := hb x hx
  have g2 := hb y hy
  rw [← hA] at h1 g1 ⊢
  rw [← hB] at h2 g2 ⊢
  obtain ⟨g3, g4⟩ := g1
  obtain ⟨g5, g6⟩ := g2
  have i1 : (x : Int) < (n : Int) := by omega
  have i2 : (y : Int) < (n : Int) := by omega
  have e : IntKind.i64.wrap (B - A) = B - A := by rw [IntKind.wrap_i64]; omega
  clear hc hb hn hA hB
  go_enter Try.func98, Try.ntmps98
  go_wp2_with fail
  go_quiet (fail)
  go_wp2_with fail
  go_ret
  exact ⟨ret_int (by first | rfl | exact e), ⟨_, rfl⟩⟩

theorem encF_one {c : Nat} : OneCell (encF (c := c)) := fun _ => rfl
theorem sortedB_list (left : List Int) (c : Nat) (hl : left.length = c + 1) : (sortedB left c).toList.map encF = ints (natI (qOf left)) := by
  rw [← sortedB_q left c hl]
  simp [natI, ints, encF, Function.comp]

theorem insB (left : List Int) (c b0 lb lo cap g gc l h : Nat) (w : World) (hl : left.length = c + 1) (h5 : c + 1 ≤ 5) (hb : ∀ k, k < c + 1 → -100 ≤ lv left k ∧ lv left k ≤ 100)
    (h0 : w.cell? ⟨b0, 0, none⟩ = some (.slice (some ⟨lb, lo, none⟩) (c + 1) cap)) (hc : ∀ k, k < c + 1 → w.cell? ⟨lb, lo + k, none⟩ = some (.int .i64 (lv left k)))
    (n0 : b0 ≠ g) (n1 : lb ≠ g) (ho : Ow w l h 3 (.slice (some ⟨g, 0, none⟩) (c + 1) gc) (ints (natI (List.range (c + 1))))) :
    Calls Try.prog 125 #[.slice (some ⟨g, 0, none⟩) (c + 1) gc, .int .i64 0, .int .i64 (c + 1 : Nat), .func (.func 98) #[] #[.pointer (some ⟨b0, 0, none⟩)]] w fun e w' =>
      e = .returned (.tuple #[]) ∧ Ow w' l h 3 (.slice (some ⟨g, 0, none⟩) (c + 1) gc) (ints (natI (qOf left))) ∧ Chg l h w w' := by
  have hgb := ho.blk (k := g) rfl
  have hH : Holds encF w g 0 (d0 c) := by
    intro j hj
    rw [d0_size] at hj
    obtain ⟨g', eg, _, _, _, hcell, hf⟩ := ho.at_ (k := j) (u := .int .i64 j) (by rw [ints_get, natI_get, List.getElem?_range hj]; rfl)
    injection eg with eg; injection eg with eg; subst eg
    rw [Nat.zero_add]
    refine ⟨?_, hf⟩
    rw [hcell, encF, d0_get hj]
  have eg : ∀ args w, (callFunc 98 args).run Try.prog w = .ok (.enter 98 args) w := enters_of Try.func98 (by kernel_rfl) rfl
  have hcmp : CmpReads Try.prog 98 #[.pointer (some ⟨b0, 0, none⟩)] (encF (c := c)) (cfB (c := c) left) g 0 (d0 c).size w := by
    intro m os dk hdk x y
    have cellOf : ∀ (B O : Nat) (v : Value), B ≠ g → w.cell? ⟨B, O, none⟩ = some v → (sortWorld (encF (c := c)) w g 0 m dk os).cell? ⟨B, O, none⟩ = some v := by
      intro B O v hB hv
      have hlt := World.block_lt_of_cell? _ _ hv
      unfold sortWorld
      rw [cell?_grow _ os _ (by rw [size_putRow]; exact hlt), cell?_putRow_other _ _ _ _ _ _ (.inl hB)]
      exact hv
    exact closureB left b0 lb lo cap (c + 1) x.val y.val _ hl.symm x.isLt y.isLt (cellOf _ _ _ n0 h0) (fun k hk => cellOf _ _ _ n1 (hc k hk)) hb
  have hS := Any.insertionSortCmpFunc_one (P := Try.prog) (ρ := Try.sortL_ren) { Try.sortL with } (encF (c := c)) encF_one (cfB (c := c) left) 98 #[.pointer (some ⟨b0, 0, none⟩)] g 0 gc 0 (c + 1) (d0 c) w eg hcmp hH (by omega) (by rw [d0_size]; omega) (by rw [d0_size]; omega)
  rw [d0_size] at hS
  change Calls Try.prog 125 _ _ _ at hS
  refine hS.mono ?_
  rintro e w' ⟨rfl, q, hw⟩
  have hlen : (sortedB left c).toList.length = c + 1 := by
    have := congrArg List.length (sortedB_q left c hl)
    rw [List.length_map, q_len, hl] at this
    exact this
  have hw2 : w' = (w.drewN q).setCells g 0 (ints (natI (qOf left))) := by
    rw [hw, ← sortedB_list left c hl]
    have := Lib.sorted_world encF w g 0 q (d0 c) (sortedB left c).toList #[] hH (by rw [hlen, d0_size])
    rw [grow_empty, grow_empty, Array.toArray_toList] at this
    exact this
  subst hw2
  have hql : (ints (natI (qOf left))).length = c + 1 := by rw [ints_len, natI_len, q_len, hl]
  have h1 := Ow.setAll (ints (natI (qOf left))) 0 _ _ (ho.drewN q) (by rw [hql, ints_len, natI_len, List.length_range]; omega)
  have e : (ints (natI (List.range (c + 1)))).take 0 ++ ints (natI (qOf left)) ++ (ints (natI (List.range (c + 1)))).drop (0 + (ints (natI (qOf left))).length) = ints (natI (qOf left)) := by
    rw [List.take_zero, List.nil_append, List.drop_eq_nil_of_le (by rw [hql, ints_len, natI_len, List.length_range]; omega), List.append_nil]
  rw [e] at h1
  exact ⟨rfl, h1, chg_setAll hgb.1 hgb.2.1 _ 0 w (w.drewN q) ((Chg.refl l h w).drewN q)⟩

set_option maxRecDepth 100000 in
set_option maxHeartbeats 1000000 in
theorem stableCmpB (left : List Int) (c b0 lb lo cap g gc l h : Nat) (w : World) (hl : left.length = c + 1) (h5 : c + 1 ≤ 5) (hb : ∀ k, k < c + 1 → -100 ≤ lv left k ∧ lv left k ≤ 100)
    (h0 : w.cell? ⟨b0, 0, none⟩ = some (.slice (some ⟨lb, lo, none⟩) (c + 1) cap)) (hc : ∀ k, k < c + 1 → w.cell? ⟨lb, lo + k, none⟩ = some (.int .i64 (lv left k)))
    (n0 : b0 ≠ g) (n1 : lb ≠ g) (ho : Ow w l h 3 (.slice (some ⟨g, 0, none⟩) (c + 1) gc) (ints (natI (List.range (c + 1))))) :
    Calls Try.prog 116 #[.slice (some ⟨g, 0, none⟩) (c + 1) gc, .int .i64 (c + 1 : Nat), .func (.func 98) #[] #[.pointer (some ⟨b0, 0, none⟩)]] w fun e w' =>
      e = .returned (.tuple #[]) ∧ Ow w' l h 3 (.slice (some ⟨g, 0, none⟩) (c + 1) gc) (ints (natI (qOf left))) ∧ Chg l h w w' := by
  have hI := insB left c b0 lb lo cap g gc l h w hl h5 hb h0 hc n0 n1 ho
  obtain ⟨N, hN⟩ : ∃ N, N = c + 1 := ⟨_, rfl⟩
  rw [← hN] at hI h5 ⊢
  have i1 : ¬ (20 : Int) ≤ (N : Int) := by omega
  have i2 : ¬ (20 : Int) < (N : Int) := by omega
  clear hN hb h0 hc ho hl
  go_enter Try.func116, Try.ntmps116
  go_wp2_with fail
  go_loop [7, 8] (fun a b => a = .int .i64 0 ∧ b = .int .i64 20) (fun _ _ => 0)
  case atStart => exact ⟨rfl, rfl⟩
  case round =>
    obtain ⟨rfl, rfl⟩ := hrel
    go_wp2_with fail
    refine hI.mono ?_
    rintro e w1 ⟨rfl, ho1, hg⟩
    go_wp2_with fail
    go_loopw [6, 7, 8, 9] (fun a b c d wr => a = .int .i64 20 ∧ wr = w1) (fun _ _ _ _ _ => 0)
    case atStart => exact ⟨rfl, rfl⟩
    case round =>
      obtain ⟨rfl, rfl⟩ := hrel
      go_wp2_with fail
      go_end0
      exact ⟨rfl, ho1, hg⟩

set_option maxRecDepth 100000 in
set_option maxHeartbeats 1000000 in
theorem stableB (left : List Int) (c b0 lb lo cap g gc l h : Nat) (w : World) (hl : left.length = c + 1) (h5 : c + 1 ≤ 5) (hb : ∀ k, k < c + 1 → -100 ≤ lv left k ∧ lv left k ≤ 100)
    (h0 : w.cell? ⟨b0, 0, none⟩ = some (.slice (some ⟨lb, lo, none⟩) (c + 1) cap)) (hc : ∀ k, k < c + 1 → w.cell? ⟨lb, lo + k, none⟩ = some (.int .i64 (lv left k)))
    (n0 : b0 ≠ g) (n1 : lb ≠ g) (ho : Ow w l h 3 (.slice (some ⟨g, 0, none⟩) (c + 1) gc) (ints (natI (List.range (c + 1))))) :
    Calls Try.prog 97 #[.slice (some ⟨g, 0, none⟩) (c + 1) gc, .func (.func 98) #[] #[.pointer (some ⟨b0, 0, none⟩)]] w fun e w' =>
      e = .returned (.tuple #[]) ∧ Ow w' l h 3 (.slice (some ⟨g, 0, none⟩) (c + 1) gc) (ints (natI (qOf left))) ∧ Chg l h w w' := by
  have hI := stableCmpB left c b0 lb lo cap g gc l h w hl h5 hb h0 hc n0 n1 ho
  obtain ⟨N, hN⟩ : ∃ N, N = c + 1 := ⟨_, rfl⟩
  rw [← hN] at hI h5 ⊢
  have hgc : N ≤ gc ∧ gc ≤ 9223372036854775807 := by
    obtain ⟨A', c', e, q1, q2⟩ := ho.form'
    rw [ints_len, natI_len, List.length_range] at e q1
    injection e with _ _ e3
    subst e3
    exact ⟨by omega, q2⟩
  obtain ⟨hg1, hg2⟩ := hgc
  clear hN hb h0 hc ho hl
  go_enter Try.func97, Try.ntmps97
  go_wp2_with fail
  refine hI.mono ?_
  rintro e w1 ⟨rfl, ho1, hg⟩
  go_wp2_with fail
  go_end0
  exact ⟨rfl, ho1, hg⟩
end Go.Proofs.Ytdgkiebgmhcmdaa
