/- Walks: l06Find, l06Small of spec. -/
import Derived.Test.YtpjlgcohafbbdaaProg
import Derived.Test.YtpjlgcohafbbdaaW1
import Derived.Test.YtpjlgcohafbbdaaW3
import Derived.Test.YtpjlgcohafbbdaaW4
import Derived.Test.YtpjlgcohafbbdaaW6
import Derived.Test.YtpjlgcohafbbdaaW8
import Derived.Test.YtpjlgcohafbbdaaW11
import Derived.Test.YtpjlgcohafbbdaaN1
import Derived.Test.YtpjlgcohafbbdaaN2
import Derived.Test.YtpjlgcohafbbdaaN3
import Derived.Test.YtpjlgcohafbbdaaN4
import Derived.Test.YtpjlgcohafbbdaaMem
import Derived.WalkKit
import Derived.WalkSpells
import Derived.WalkLawsBesides
import Derived.KernelRfl
import Derived.Lib.Hide
import Derived.Deep.QuietTactic
import Derived.BigQuiet
namespace Go.Proofs.Ytpjlgcohafbbdaa
open Go.RowKit
set_option linter.unusedVariables false
set_option linter.unusedSimpArgs false

/-- The list value V reads as the images gs. -/
def RdL (w : World) (V : Value) (us : List Value) (gs : List Img) : Prop := (∃ lo hi, Rd w lo hi V us) ∧ us.length = gs.length ∧ ∀ (k : Nat) (a : Value) (g : Img), us[k]? = some a → gs[k]? = some g → RdG w 0 w.heap.size a g
set_option maxRecDepth 100000 in
set_option maxHeartbeats 800000 in
theorem find_no (gs : List Img) (us : List Value) (m : Img) (V u : Value) (w : World) (a b : Nat) (hl : RdL w V us gs) (hr : RdG w a b u m) (hn : ∀ (k : Nat) (g : Img), gs[k]? = some g → g ≠ m) :
    Calls Try.prog 46 #[V, u] w fun e w' => e = .returned (.int .i64 (-1)) ∧ w = w' := by
  obtain ⟨⟨lo, hi, hrd⟩, hlen, hel⟩ := hl
  obtain ⟨A, c, rfl, n1, n2, _⟩ := id hrd
  unfold maxLen at n2
  have HN := Lib.hid hn; clear hn
  have HEL := Lib.hid hel; clear hel
  obtain ⟨n, hnn⟩ : ∃ n, n = us.length := ⟨_, rfl⟩
  rw [← hnn] at n1 hlen hrd ⊢
  have HNN := Lib.hid hnn; clear hnn
  have HLEN := Lib.hid hlen; clear hlen
  go_enter Try.func46, Try.ntmps46
  go_wp2_with fail
  go_loop [9] (fun i => ∃ k : Nat, k ≤ n ∧ i = .int .i64 k) (fun i => n - (intOf i).toNat)
  case atStart => exact ⟨0, Nat.zero_le _, rfl⟩
  case round =>
    obtain ⟨k, hk, rfl⟩ := hrel
    by_cases hlt : k < n
    rotate_left
    · go_wp2_with fail
      go_ret
      exact ⟨rfl, rfl⟩
    obtain ⟨x, hx⟩ := get_of_lt us k (by rw [← HNN.out]; exact hlt)
    obtain ⟨g, hg⟩ := get_of_lt gs k (by rw [← HLEN.out]; exact hlt)
    obtain ⟨b0, o0, rfl, _, _, _, hc⟩ := Rd.at_ hrd hx
    have hgr := HEL.out k x g hx hg
    have hE := spec_SameImage g m _ _ _ _ _ _ _ hgr hr
    rw [eqG_ne (HN.out k g hg)] at hE
    have HE := Lib.hid hE; clear hE hx hg hgr
    have i1 : (k : Int) < (n : Int) := by omega
    go_wp2_with (go_at_call 61; refine HE.out.mono ?_; rintro e w' ⟨rfl, rfl⟩)
    go_round
    case rel => exact ⟨k + 1, by omega, by go_num⟩
    case measure => simp [intOf]; omega
set_option maxRecDepth 100000 in
set_option maxHeartbeats 800000 in
theorem find_yes (gs : List Img) (us : List Value) (m : Img) (q : Nat) (V u : Value) (w : World) (a b : Nat) (hl : RdL w V us gs) (hr : RdG w a b u m) (hq : gs[q]? = some m) (hn : ∀ (k : Nat) (g : Img), k < q → gs[k]? = some g → g ≠ m) :
    Calls Try.prog 46 #[V, u] w fun e w' => e = .returned (.int .i64 q) ∧ w = w' := by
  obtain ⟨⟨lo, hi, hrd⟩, hlen, hel⟩ := hl
  obtain ⟨A, c, rfl, n1, n2, _⟩ := id hrd
  unfold maxLen at n2
  have hql := (List.getElem?_eq_some_iff.1 hq).1
  have HN := Lib.hid hn; clear hn
  have HEL := Lib.hid hel; clear hel
  have HQ := Lib.hid hq; clear hq
  obtain ⟨n, hnn⟩ : ∃ n, n = us.length := ⟨_, rfl⟩
  rw [← hlen, ← hnn] at hql
  rw [← hnn] at n1 hlen hrd ⊢
  have HNN := Lib.hid hnn; clear hnn
  have HLEN := Lib.hid hlen; clear hlen
  go_enter Try.func46, Try.ntmps46
  go_wp2_with fail
  go_loop [9] (fun i => ∃ k : Nat, k ≤ q ∧ i = .int .i64 k) (fun i => n - (intOf i).toNat)
  case atStart => exact ⟨0, Nat.zero_le _, rfl⟩
  case round =>
    obtain ⟨k, hk, rfl⟩ := hrel
    obtain ⟨x, hx⟩ := get_of_lt us k (by rw [← HNN.out]; omega)
    obtain ⟨g, hg⟩ := get_of_lt gs k (by rw [← HLEN.out]; omega)
    obtain ⟨b0, o0, rfl, _, _, _, hc⟩ := Rd.at_ hrd hx
    have hgr := HEL.out k x g hx hg
    have hE := spec_SameImage g m _ _ _ _ _ _ _ hgr hr
    have i1 : (k : Int) < (n : Int) := by omega
    by_cases hkq : k = q
    · subst hkq
      have e : g = m := by have := HQ.out; rw [hg] at this; injection this
      rw [e, eqG_self] at hE
      have HE := Lib.hid hE; clear hE hx hg hgr e
      go_wp2_with (go_at_call 61; refine HE.out.mono ?_; rintro e w' ⟨rfl, rfl⟩)
      go_ret
      exact ⟨rfl, rfl⟩
    · rw [eqG_ne (HN.out k g (by omega) hg)] at hE
      have HE := Lib.hid hE; clear hE hx hg hgr
      go_wp2_with (go_at_call 61; refine HE.out.mono ?_; rintro e w' ⟨rfl, rfl⟩)
      go_round
      case rel => exact ⟨k + 1, by omega, by go_num⟩
      case measure => simp [intOf]; omega
def smallS (g : Img) : Bool := decide (g.length ≤ 4) && decide ((hd g).length ≤ 4)
set_option maxRecDepth 100000 in
set_option maxHeartbeats 400000 in
theorem spec_l06Small (g : Img) (v : Value) (w : World) (a b : Nat) (hr : RdG w a b v g) (h1 : imgOk g = true) :
    Calls Try.prog 44 #[v] w fun e w' => e = .returned (.bool (smallS g)) ∧ w = w' := by
  obtain ⟨A, c, rfl, n1, n2⟩ := hr.form
  obtain ⟨g1, _⟩ := imgOk_in h1
  have HHD := Lib.hid (hd_get (g := g) (by omega))
  obtain ⟨bg, og, rfl, _, _⟩ := hr.some_ (by omega)
  obtain ⟨A1, c1, hc1, _, _, _⟩ := hr.row0 HHD.out
  obtain ⟨R, hR⟩ : ∃ R, R = g.length := ⟨_, rfl⟩
  obtain ⟨C, hC⟩ : ∃ C, C = (hd g).length := ⟨_, rfl⟩
  have hS : smallS g = (decide (R ≤ 4) && decide (C ≤ 4)) := by rw [hR, hC]; rfl
  rw [hS]
  rw [← hR] at g1 n1 hr ⊢
  rw [← hC] at hc1
  clear hS hR hC h1
  have i1 : (0 : Int) < (R : Int) := by omega
  have i2 : 0 < R := by omega
  by_cases q1 : R ≤ 4
  · have q1' : (R : Int) ≤ 4 := by omega
    by_cases q2 : C ≤ 4
    · have q2' : (C : Int) ≤ 4 := by omega
      go_enter Try.func44, Try.ntmps44
      go_wp2_with fail
      go_ret
      exact ⟨by simp [q1, q2], rfl⟩
    · have q2' : ¬ (C : Int) ≤ 4 := by omega
      go_enter Try.func44, Try.ntmps44
      go_wp2_with fail
      go_ret
      exact ⟨by simp [q1, q2], rfl⟩
  · have q1' : ¬ (R : Int) ≤ 4 := by omega
    go_enter Try.func44, Try.ntmps44
    go_wp2_with fail
    go_ret
    exact ⟨by simp [q1], rfl⟩
end Go.Proofs.Ytpjlgcohafbbdaa
