/- Walks: the reference's stream of draws (l01New, l01Byte, l01Below). What it draws is not told, only its range. -/
import Derived.Test.YtpjlgcohafbbdaaProg
import Derived.Test.YtpjlgcohafbbdaaW1
import Derived.Test.YtpjlgcohafbbdaaW3
import Derived.Test.YtpjlgcohafbbdaaMem
import Derived.WalkKit
import Derived.WalkSpells
import Derived.WalkLawsBesides
import Derived.KernelRfl
import Derived.Lib.Hide
import Derived.Deep.QuietTactic
import Derived.BigQuiet
namespace Go.Proofs.Ytpjlgcohafbbdaa
open Go.RowKit
set_option linter.unusedVariables false
set_option linter.unusedSimpArgs false

def bytesV (l : List UInt8) : List Value := l.map fun x => .int .u8 x.toNat
theorem bytesV_len (l : List UInt8) : (bytesV l).length = l.length := by simp [bytesV]
/-- Block B is a stream over the bytes code. -/
def Cur (w : World) (B : Nat) (code : List UInt8) : Prop :=
  ∃ (A : Option Addr) (c : Nat) (i : Nat) (h : Int), w.cell? ⟨B, 0, none⟩ = some (.slice A code.length c) ∧ w.cell? ⟨B, 1, none⟩ = some (.int .i64 i) ∧ w.cell? ⟨B, 2, none⟩ = some (.int .i64 h) ∧
    w.frozen? ⟨B, 1, none⟩ = false ∧ w.frozen? ⟨B, 2, none⟩ = false ∧ B < w.heap.size ∧ i ≤ code.length ∧ Rd w 0 B (.slice A code.length c) (bytesV code)
theorem Cur.chg {w w' : World} {B lo hi : Nat} {code : List UInt8} (h : Cur w B code) (c : Chg lo hi w w') (hd : B < lo) : Cur w' B code := by
  obtain ⟨A, cc, i, hh, h0, h1, h2, f1, f2, hB, hi, hr⟩ := h
  have e0 := c.cell (p := ⟨B, 0, none⟩) hB (.inl hd)
  have e1 := c.cell (p := ⟨B, 1, none⟩) hB (.inl hd)
  have e2 := c.cell (p := ⟨B, 2, none⟩) hB (.inl hd)
  have g1 := c.frozen (p := ⟨B, 1, none⟩) hB (.inl hd)
  have g2 := c.frozen (p := ⟨B, 2, none⟩) hB (.inl hd)
  exact ⟨A, cc, i, hh, e0.trans h0, e1.trans h1, e2.trans h2, g1.trans f1, g2.trans f2, Nat.lt_of_lt_of_le hB c.size, hi, hr.chg c (.inl (by omega))⟩
theorem Cur.new {w w' : World} {B : Nat} {code : List UInt8} (h : Cur w B code) (hb : Below w.heap.size w w') : Cur w' B code := by
  have hB : B < w.heap.size := by obtain ⟨_, _, _, _, _, _, _, _, _, hB, _⟩ := h; exact hB
  exact h.chg (lo := w.heap.size) (hi := w.heap.size) (Chg.ofNew hb) hB
theorem Cur.drewN {w : World} {B : Nat} {code : List UInt8} (h : Cur w B code) (n : Nat) : Cur (w.drewN n) B code := h
theorem Cur.lt {w : World} {B : Nat} {code : List UInt8} (h : Cur w B code) : B < w.heap.size := by obtain ⟨_, _, _, _, _, _, _, _, _, hB, _⟩ := h; exact hB

theorem and_rng (X : Int) : ∃ x : Nat, x ≤ 255 ∧ bits .and .i64 X 255 = x := by
  refine ⟨(BitVec.ofInt 64 X &&& BitVec.ofInt 64 255).toNat, ?_, ?_⟩
  · rw [BitVec.toNat_and]
    exact Nat.and_le_right
  · have h : (BitVec.ofInt 64 X &&& BitVec.ofInt 64 255).toNat ≤ 255 := by
      rw [BitVec.toNat_and]
      exact Nat.and_le_right
    show IntKind.i64.wrap ((BitVec.ofInt 64 X &&& BitVec.ofInt 64 255).toNat : Int) = _
    exact wrap_small _ (by omega) (by omega)
theorem bytesV_get (l : List UInt8) (k : Nat) : (bytesV l)[k]? = (l[k]?).map fun x => .int .u8 x.toNat := by simp [bytesV]

theorem cur_h {w : World} {B : Nat} {code : List UInt8} (h : Cur w B code) (x : Int) : Cur (w.setCell ⟨B, 2, none⟩ (.int .i64 x)) B code := by
  obtain ⟨A, c, i, hh, h0, h1, h2, f1, f2, hB, hi, hr⟩ := h
  refine ⟨A, c, i, x, ?_, ?_, World.cell?_setCell_same w _ _ h2, ?_, ?_, by simpa [World.setCell] using hB, hi, Rd.far hr (Nat.le_refl _) _⟩
  · rw [World.cell?_setCell_other (h := by simp)]; exact h0
  · rw [World.cell?_setCell_other (h := by simp)]; exact h1
  · rw [World.frozen?_setCell]; exact f1
  · rw [World.frozen?_setCell]; exact f2
theorem cur_i {w : World} {B : Nat} {code : List UInt8} (h : Cur w B code) (k : Nat) (hk : k ≤ code.length) : Cur (w.setCell ⟨B, 1, none⟩ (.int .i64 k)) B code := by
  obtain ⟨A, c, i, hh, h0, h1, h2, f1, f2, hB, hi, hr⟩ := h
  refine ⟨A, c, k, hh, ?_, World.cell?_setCell_same w _ _ h1, ?_, ?_, ?_, by simpa [World.setCell] using hB, hk, Rd.far hr (Nat.le_refl _) _⟩
  · rw [World.cell?_setCell_other (h := by simp)]; exact h0
  · rw [World.cell?_setCell_other (h := by simp)]; exact h2
  · rw [World.frozen?_setCell]; exact f1
  · rw [World.frozen?_setCell]; exact f2

set_option maxRecDepth 100000 in
set_option maxHeartbeats 2000000 in
theorem l01Byte_walk (code : List UInt8) (B : Nat) (w : World) (h : Cur w B code) (hc : code.length ≤ 1048576) :
    Calls Try.prog 49 #[.pointer (some ⟨B, 0, none⟩)] w fun e w' => ∃ x : Nat, x ≤ 255 ∧ e = .returned (.int .i64 x) ∧ Cur w' B code ∧ Chg B (B + 1) w w' := by
  have HC := Lib.hid h
  obtain ⟨A, c, i, hh, h0, h1, h2, f1, f2, hB, hi, hr⟩ := h
  by_cases hlt : i < code.length
  · obtain ⟨z, hz⟩ := get_of_lt code i hlt
    obtain ⟨b, o, rfl, g1, g2, g3, hz⟩ := hr.at_ (k := i) (u := .int .u8 z.toNat) (by rw [bytesV_get, hz]; rfl)
    have bB : b ≠ B := by omega
    have i1 : (i : Int) < (code.length : Int) := by omega
    go_enter Try.func49, Try.ntmps49
    go_wp2_with fail
    go_quiet (fail)
    generalize hX : bits BinOp.and IntKind.i64 _ 255 = X
    obtain ⟨x, hx, ex⟩ : ∃ x : Nat, x ≤ 255 ∧ X = x := hX ▸ and_rng _
    subst ex; clear hX
    go_wp2_with fail
    go_quiet (fail)
    go_wp2_with fail
    go_quiet (fail)
    generalize hX : bits BinOp.and IntKind.i64 _ 255 = X
    obtain ⟨y, hy, ey⟩ : ∃ y : Nat, y ≤ 255 ∧ X = y := hX ▸ and_rng _
    subst ey; clear hX
    go_wp2_with fail
    go_ret
    exact ⟨y, hy, rfl, by push_cast; exact cur_i (cur_h HC.out _) (i + 1) (by omega), (((Chg.refl B (B + 1) w).setCell (p := ⟨B, 2, none⟩) (.inl ⟨Nat.le_refl _, Nat.lt_succ_self _⟩) _).drewN _).setCell (p := ⟨B, 1, none⟩) (.inl ⟨Nat.le_refl _, Nat.lt_succ_self _⟩) _⟩
  · have i1 : ¬ (i : Int) < (code.length : Int) := by omega
    go_enter Try.func49, Try.ntmps49
    go_wp2_with fail
    go_quiet (fail)
    generalize hX : bits BinOp.and IntKind.i64 _ 255 = X
    obtain ⟨x, hx, ex⟩ : ∃ x : Nat, x ≤ 255 ∧ X = x := hX ▸ and_rng _
    subst ex; clear hX
    go_wp2_with fail
    go_quiet (fail)
    go_wp2_with fail
    go_ret
    exact ⟨x, hx, rfl, cur_h HC.out _, (((Chg.refl B (B + 1) w).setCell (p := ⟨B, 2, none⟩) (.inl ⟨Nat.le_refl _, Nat.lt_succ_self _⟩) _).drewN _).drewN _⟩

set_option maxRecDepth 100000 in
set_option maxHeartbeats 1000000 in
theorem l01Below_walk (code : List UInt8) (B n : Nat) (w : World) (h : Cur w B code) (hc : code.length ≤ 1048576) (h1 : 1 ≤ n) (h2 : n ≤ 256) :
    Calls Try.prog 27 #[.pointer (some ⟨B, 0, none⟩), .int .i64 n] w fun e w' => ∃ x : Nat, x < n ∧ e = .returned (.int .i64 x) ∧ Cur w' B code ∧ Chg B (B + 1) w w' := by
  go_enter Try.func27, Try.ntmps27
  go_wp2_with (go_at_call 49; refine (l01Byte_walk code B _ h hc).mono ?_; rintro e w1 ⟨x, hx, rfl, hC, hg⟩; have hm : ((x : Int) % (n : Int)) = ((x % n : Nat) : Int) := by rfl)
  go_ret
  have hlt : x % n < n := Nat.mod_lt _ h1
  exact ⟨x % n, hlt, rfl, hC, hg⟩

set_option maxRecDepth 100000 in
set_option maxHeartbeats 1000000 in
theorem l01New_walk (code : List UInt8) (v : Value) (w : World) (a b : Nat) (hr : Rd w a b v (bytesV code)) (hc : code.length ≤ 1048576) :
    Calls Try.prog 24 #[v] w fun e w' => ∃ B, e = .returned (.pointer (some ⟨B, 0, none⟩)) ∧ Cur w' B code ∧ w.heap.size ≤ B ∧ Below w.heap.size w w' := by
  obtain ⟨A, c, rfl, h1, h2⟩ : ∃ A c, v = .slice A code.length c ∧ code.length ≤ c ∧ c ≤ 9223372036854775807 := by
    obtain ⟨A, c, e, q1, q2, _⟩ := hr
    rw [bytesV_len] at e q1
    unfold maxLen at q2
    exact ⟨A, c, e, q1, by omega⟩
  go_enter Try.func24, Try.ntmps24
  go_wp2_with fail
  go_loop [3, 4] (fun h i => ∃ (k : Nat) (hh : Int), k ≤ code.length ∧ i = .int .i64 k ∧ h = .int .i64 hh) (fun _ i => code.length - (intOf i).toNat)
  case atStart => exact ⟨0, _, Nat.zero_le _, rfl, rfl⟩
  case round =>
    obtain ⟨k, hh, hk, rfl, rfl⟩ := hrel
    by_cases hlt : k < code.length ∧ k < 4000
    · obtain ⟨k1, k2⟩ := hlt
      obtain ⟨z, hz⟩ := get_of_lt code k k1
      obtain ⟨b1, o1, rfl, _, _, _, hz1⟩ := hr.at_ (k := k) (u := .int .u8 z.toNat) (by rw [bytesV_get, hz]; rfl)
      clear hz
      go_wp2_with fail
      go_round
      case rel => exact ⟨k + 1, _, by omega, by go_num, rfl⟩
      case measure => simp [intOf]; omega
    · by_cases k1 : k < code.length
      · have k2 : ¬ k < 4000 := by omega
        clear hlt
        go_wp2_with fail
        go_ret
        refine ⟨w.heap.size, rfl, ⟨A, c, 0, hh, by simp, by simp, by simp, by simp, by simp, by simp, Nat.zero_le _, ?_⟩, Nat.le_refl _, (Below.refl _ _).alloc (Nat.le_refl _) _⟩
        exact (Rd.clip hr).new ((Below.refl _ _).alloc (Nat.le_refl _) _) |>.mono (Nat.zero_le _) (Nat.le_refl _)
      · clear hlt
        go_wp2_with fail
        go_ret
        refine ⟨w.heap.size, rfl, ⟨A, c, 0, hh, by simp, by simp, by simp, by simp, by simp, by simp, Nat.zero_le _, ?_⟩, Nat.le_refl _, (Below.refl _ _).alloc (Nat.le_refl _) _⟩
        exact (Rd.clip hr).new ((Below.refl _ _).alloc (Nat.le_refl _) _) |>.mono (Nat.zero_le _) (Nat.le_refl _)

end Go.Proofs.Ytpjlgcohafbbdaa
