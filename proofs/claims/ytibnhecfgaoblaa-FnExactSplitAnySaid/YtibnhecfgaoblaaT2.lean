/- Walks over []string: the laws' helpers. -/
import Derived.Test.YtibnhecfgaoblaaProg
import Derived.Test.YtibnhecfgaoblaaW1
import Derived.Test.YtibnhecfgaoblaaW3
import Derived.Test.YtibnhecfgaoblaaW7
import Derived.Test.YtibnhecfgaoblaaMem
import Derived.WalkKit
import Derived.WalkSpells
import Derived.WalkLawsBesides
import Derived.KernelRfl
import Derived.Lib.Hide
import Derived.Lib.Strings
import Derived.Deep.QuietTactic
import Derived.BigQuiet
import Derived.Deep.RegionHeld3
namespace Go.Proofs.Ytibnhecfgaoblaa
open Go.RowKit
set_option linter.unusedVariables false
set_option linter.unusedSimpArgs false

theorem sne_self (s : ByteArray) : (s != s) = false := by
  first
  | (show (!(decide (s = s))) = false; simp)
  | (obtain ⟨d⟩ := s; simp only [bne]; show (!(d == d)) = false; simp)
theorem ine_self (x : Int) : (x != x) = false := by simp
theorem Ow.drew3 {w : World} {lo hi : Nat} {T : TypeId} {v : Value} {xs : List Value} (h : Ow w lo hi T v xs) : Ow w.drew lo hi T v xs := h
theorem RdS.drew {w : World} {lo hi : Nat} {v : Value} {l : List ByteArray} (h : RdS w lo hi v l) : RdS w.drew lo hi v l := h

set_option maxRecDepth 100000 in
set_option maxHeartbeats 1000000 in
theorem eqStringS_walk (l : List ByteArray) (v u : Value) (w : World) (a b a' b' : Nat) (hr : RdS w a b v l) (hs : RdS w a' b' u l) :
    Calls Try.prog 17 #[v, u] w fun e w' => e = .returned (.bool true) ∧ Below w.heap.size w w' := by
  obtain ⟨A, c, rfl, hlc, hcm⟩ := hr.form
  obtain ⟨A', c', rfl, hlc', hcm'⟩ := hs.form
  have hne := ine_self (l.length : Int)
  go_enter Try.func17, Try.ntmps17
  go_wp2_with fail
  go_loopw [5] (fun i wr => ∃ k : Nat, k ≤ l.length ∧ i = .int .i64 k ∧ RdS wr a b (.slice A l.length c) l ∧ RdS wr a' b' (.slice A' l.length c') l ∧ Drew w wr) (fun i _ => l.length - (intOf i).toNat)
  case atStart => exact ⟨0, Nat.zero_le _, rfl, hr, hs, Drew.refl _⟩
  case round =>
    clear hr hs
    obtain ⟨k, hk, rfl, hr, hs, hb⟩ := hrel
    by_cases hlt : k < l.length
    rotate_left
    · go_wp2_with fail
      go_ret
      exact ⟨rfl, hb.below _⟩
    obtain ⟨x, hx⟩ := get_of_lt l k hlt
    obtain ⟨b1, o1, rfl, _, _, _, hc1⟩ := hr.at_ hx
    obtain ⟨b2, o2, rfl, _, _, _, hc2⟩ := hs.at_ hx
    have i1 : (k : Int) < (l.length : Int) := by omega
    have n1 := sne_self x
    clear hx
    go_wp2_with fail
    go_quiet (fail)
    go_wp2_with fail
    go_roundw
    case rel => exact ⟨k + 1, by omega, by go_num, hr.drewN _, hs.drewN _, hb.drewN _⟩
    case measure => simp [intOf]; omega

def markS (n k : Nat) : List ByteArray := (List.range n).map fun i => mkT (k + i)
theorem markS_len (n k : Nat) : (markS n k).length = n := by simp [markS]
theorem markS_succ (n k : Nat) : markS (n + 1) k = markS n k ++ [mkT (k + n)] := by simp [markS, List.range_succ]
theorem markS_get {n i : Nat} (k : Nat) (h : i < n) : (markS n k)[i]? = some (mkT (k + i)) := by simp [markS, h]
theorem markS_step {l : List ByteArray} {i k : Nat} (h : i < l.length) : (strs (markS i k ++ l.drop i)).set i (.string (mkT (k + i))) = strs (markS (i + 1) k ++ l.drop (i + 1)) := by
  rw [strs_set, markS_succ, List.set_append_right _ _ (by simp [markS_len]), markS_len, Nat.sub_self, List.drop_eq_getElem_cons h, List.set_cons_zero, List.append_assoc]
  rfl

set_option maxRecDepth 100000 in
set_option maxHeartbeats 1000000 in
theorem markStringS_walk (l : List ByteArray) (k : Nat) (v : Value) (w : World) (a b : Nat) (ho : Ow w a b 9 v (strs l)) (hl : l.length ≤ 8388608) (hk0 : 1 ≤ k) (hk1 : k ≤ 8388608) :
    Calls Try.prog 18 #[v, .int .i64 k] w fun e w' => e = .returned (.int .i64 (k + l.length : Nat)) ∧ Ow w' a b 9 v (strs (markS l.length k)) ∧ Chg a b w w' := by
  obtain ⟨A, c, rfl, h1, h2⟩ := ho.form'
  rw [strs_len] at h1 ho ⊢
  go_enter Try.func18, Try.ntmps18
  go_wp2_with fail
  go_loopw [1, 5] (fun kk i wr => ∃ j E : Nat, E = k + j ∧ j ≤ l.length ∧ i = .int .i64 j ∧ kk = .int .i64 E ∧ Ow wr a b 9 (.slice A l.length c) (strs (markS j k ++ l.drop j)) ∧ Chg a b w wr) (fun _ i _ => l.length - (intOf i).toNat)
  case atStart => exact ⟨0, k, rfl, Nat.zero_le _, rfl, rfl, by simpa [markS] using ho, Chg.refl _ _ _⟩
  case round =>
    clear ho
    obtain ⟨j, E, hE, hj, rfl, rfl, ho, hg⟩ := hrel
    have e1 : 1 ≤ E := by omega
    have e2 : E ≤ 16777216 := by omega
    have HE := Lib.hid hE; clear hE
    by_cases hlt : j < l.length
    rotate_left
    · go_wp2_with fail
      go_ret
      obtain rfl : j = l.length := by omega
      exact ⟨ret_int (by rw [HE.out]), by simpa using ho, hg⟩
    go_wp2_with (go_at_call 48; refine (markText_walk _ _ e1 e2).mono ?_; rintro e w2 ⟨rfl, b2⟩; have s2 := b2.size; replace ho := ho.new b2; obtain ⟨u, hu⟩ := get_of_lt (strs (markS j k ++ l.drop j)) j (by simp [strs_len, markS_len]; omega); obtain ⟨g, rfl, g1, g2, g3, hs1, hs2⟩ := ho.at_ hu; clear hu)
    go_roundw
    case rel =>
      have ho' := Ow.set' (by simp [strs_len, markS_len]; omega) ho j (.string (mkT E))
      rw [HE.out, markS_step hlt, ← HE.out] at ho'
      exact ⟨j + 1, E + 1, by rw [HE.out]; omega, by omega, by go_num, by go_num, ho', (hg.trans (Chg.ofNew (lo := a) (hi := b) (b2)) ).setCell (.inl ⟨g1, g2⟩) _⟩
    case measure => simp [intOf]; omega

set_option maxRecDepth 100000 in
set_option maxHeartbeats 1000000 in
theorem heldStringS_walk (n k : Nat) (v : Value) (w : World) (a b : Nat) (hr : RdS w a b v (markS n k)) (hl : n ≤ 8388608) (hk0 : 1 ≤ k) (hk1 : k ≤ 8388608) :
    Calls Try.prog 19 #[v, .int .i64 k] w fun e w' => e = .returned (.int .i64 (k + n : Nat)) ∧ Below w.heap.size w w' := by
  obtain ⟨A, c, rfl, h1, h2⟩ := hr.form
  rw [markS_len] at h1 hr ⊢
  go_enter Try.func19, Try.ntmps19
  go_wp2_with fail
  go_loopw [1, 5] (fun kk i wr => ∃ j E : Nat, E = k + j ∧ j ≤ n ∧ i = .int .i64 j ∧ kk = .int .i64 E ∧ RdS wr a b (.slice A n c) (markS n k) ∧ Below w.heap.size w wr) (fun _ i _ => n - (intOf i).toNat)
  case atStart => exact ⟨0, k, rfl, Nat.zero_le _, rfl, rfl, hr, Below.refl _ _⟩
  case round =>
    clear hr
    obtain ⟨j, E, hE, hj, rfl, rfl, hr, hb⟩ := hrel
    have e1 : 1 ≤ E := by omega
    have e2 : E ≤ 16777216 := by omega
    have HE := Lib.hid hE; clear hE
    by_cases hlt : j < n
    rotate_left
    · go_wp2_with fail
      go_ret
      obtain rfl : j = n := by omega
      exact ⟨ret_int (by rw [HE.out]), hb⟩
    have hx := markS_get (n := n) k hlt
    rw [← HE.out] at hx
    obtain ⟨b1, o1, rfl, _, _, q1, c0⟩ := hr.at_ hx
    clear hx
    have hbs := hb.size
    have i1 : (j : Int) < (n : Int) := by omega
    have n1 := sne_self (mkT E)
    go_wp2_with fail
    go_region_held3 (fun w' => w'.cell? ⟨b1, o1 + j, none⟩ = some (.string (mkT E))) (go_keep)
      (first
      | (go_at_call 48
         refine (markText_walk _ _ e1 e2).mono ?_
         rintro e w3 ⟨rfl, b3⟩
         have s3 := b3.size
         have r1 : b1 < wr.drew.heap.size := q1
         replace hr := (RdS.drew hr).new b3
         replace hb := hb.drew.trans (b3.mono hbs)
         replace c0 := ((bcell b3).1 _ _ r1).trans c0))
    go_wp2_with fail
    go_roundw
    case rel => exact ⟨j + 1, E + 1, by rw [HE.out]; omega, by omega, by go_num, by go_num, hr, hb⟩
    case measure => simp [intOf]; omega

/-- What szStringS answers. -/
def sumB (l : List ByteArray) : Nat := (l.map (·.size)).sum
def szT (l : List ByteArray) (left : Int) : Int := if (l.length : Int) + sumB l ≤ left then left - l.length - sumB l else -1
theorem sumB_snoc (l : List ByteArray) (x : ByteArray) : sumB (l ++ [x]) = sumB l + x.size := by simp [sumB]
theorem sumB_take_le : ∀ (l : List ByteArray) (k : Nat), sumB (l.take k) ≤ sumB l
  | [], k => by simp [sumB]
  | x :: l, 0 => by simp [sumB]
  | x :: l, k + 1 => by
    have := sumB_take_le l k
    simp only [sumB, List.take_succ_cons, List.map_cons, List.sum_cons] at this ⊢
    omega
theorem szT_cases (l : List ByteArray) (left : Int) (h : 0 ≤ left) : szT l left < 0 ∨ (0 ≤ szT l left ∧ (l.length : Int) + sumB l ≤ left) := by
  unfold szT; split <;> omega
end Go.Proofs.Ytibnhecfgaoblaa
