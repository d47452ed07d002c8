/- Walks over []laws.Switch: the laws' helpers that read an argument. -/
import Derived.Test.YtdgkiebgmhcmdaaProg
import Derived.Test.YtdgkiebgmhcmdaaW1
import Derived.Test.YtdgkiebgmhcmdaaW3
import Derived.Test.YtdgkiebgmhcmdaaW21
import Derived.Test.YtdgkiebgmhcmdaaW22
import Derived.Test.YtdgkiebgmhcmdaaW30
import Derived.Test.YtdgkiebgmhcmdaaMem
import Derived.Test.YtdgkiebgmhcmdaaSw
import Derived.WalkKit
import Derived.WalkSpells
import Derived.WalkLawsBesides
import Derived.KernelRfl
import Derived.Lib.Hide
namespace Go.Proofs.Ytdgkiebgmhcmdaa
open Go.RowKit
set_option linter.unusedVariables false
set_option linter.unusedSimpArgs false

theorem made_sw (n : Nat) : (madeCells (Value.cells (.agg #[.int .i64 0, .int .i64 0, .int .i64 0, .int .i64 0])) (n * 4)).toList = swFlat (List.replicate n (0, 0, 0, 0)) := by
  have h1 : swFlat (List.replicate n ((0, 0, 0, 0) : Sw)) = List.replicate (n * 4) (.int .i64 0) := by
    refine List.eq_replicate_iff.2 ⟨by rw [swFlat_len, List.length_replicate], fun b hb => ?_⟩
    simp only [swFlat, List.mem_flatMap, List.mem_replicate] at hb
    obtain ⟨s, ⟨_, rfl⟩, hs⟩ := hb
    simpa [swCells] using hs
  rw [h1]
  refine List.eq_replicate_iff.2 ⟨by rw [Array.length_toList, size_madeCells], fun b hb => ?_⟩
  simp only [madeCells, Array.toList_map, List.mem_map] at hb
  obtain ⟨i, _, rfl⟩ := hb
  show (#[Value.int .i64 0, .int .i64 0, .int .i64 0, .int .i64 0] : Array Value)[i % 4]! = _
  have : i % 4 < 4 := Nat.mod_lt _ (by omega)
  generalize i % 4 = m at this
  match m, this with
  | 0, _ => rfl
  | 1, _ => rfl
  | 2, _ => rfl
  | 3, _ => rfl

theorem RdS.far {w : World} {lo hi : Nat} {v : Value} {l : List Sw} (h : RdS w lo hi v l) {p : Addr} (hp : hi ≤ p.block) (u : Value) : RdS (w.setCell p u) lo hi v l :=
  h.chg ((Chg.refl p.block (p.block + 1) w).setCell (.inl ⟨Nat.le_refl _, Nat.lt_succ_self _⟩) u) (.inl hp)
/-- What szSwitchS answers. -/
def szW (n : Nat) (left : Int) : Int := if (n : Int) ≤ left then left - n else -1
theorem szW_cases (n : Nat) (left : Int) (h : 0 ≤ left) : szW n left < 0 ∨ (0 ≤ szW n left ∧ szW n left ≤ left ∧ n ≤ left) := by
  unfold szW; split <;> omega
set_option maxHeartbeats 400000 in
theorem szSwitchS_walk (l : List Sw) (left : Int) (v : Value) (w : World) (a b : Nat) (hr : RdS w a b v l) (h0 : 0 ≤ left) (h1 : left ≤ 1048576) :
    Calls Try.prog 54 #[v, .int .i64 left] w fun e w' => e = .returned (.int .i64 (szW l.length left)) ∧ w = w' := by
  obtain ⟨A, c, rfl, hlc, hcm⟩ := hr.form
  by_cases hlt : (l.length : Int) ≤ left
  · have GD := Lib.hid (show szW l.length left = left - l.length from if_pos hlt)
    go_enter Try.func54, Try.ntmps54
    go_wp2_with fail
    go_ret
    exact ⟨ret_int GD.out.symm, rfl⟩
  · have GD := Lib.hid (show szW l.length left = -1 from if_neg hlt)
    have hneg : left - (l.length : Int) < 0 := by omega
    go_enter Try.func54, Try.ntmps54
    go_wp2_with fail
    go_ret
    exact ⟨ret_int GD.out.symm, rfl⟩

set_option maxRecDepth 100000 in
set_option maxHeartbeats 2000000 in
theorem toSwitchS_walk (l : List Sw) (v : Value) (w : World) (a b : Nat) (hr : RdS w a b v l) (hl : l.length ≤ 1048576) :
    Calls Try.prog 56 #[v] w (RetS w l) := by
  obtain ⟨A, c, rfl, hlc, hcm⟩ := hr.form
  obtain ⟨i0, hi, hz0, hz1, hz2⟩ := info_parts sw_info
  replace hr := hr.clip
  go_enter Try.func56, Try.ntmps56
  go_wp2_with (at_make; refine wpList_make_full _ rfl _ _ 44 rfl w.heap.size 35 i0 (.agg #[.int .i64 0, .int .i64 0, .int .i64 0, .int .i64 0]) 4 Try.underlying44 hi hz0 hz1 _ _ _ _ l.length rfl rfl rfl rfl (by rw [hz2]; omega) (by unfold maxLen; omega) (Nat.le_refl _) ?_; intro w1 hown hgrow)
  have ho : OwS w1 w.heap.size w1.heap.size 35 (.slice (some ⟨w.heap.size, 0, none⟩) l.length l.length) (l.take 0 ++ List.replicate (l.length - 0) (0, 0, 0, 0)) := by
    rw [made_sw] at hown
    have := OwS.of_top hown rfl
    simpa using this
  have hb1 : Below w.heap.size w w1 := (Below.refl _ _).grown hgrow (Nat.le_refl _) (by simp)
  have hr1 := hr.new hb1
  clear hown hgrow hr
  go_wp2_with fail
  go_loopw [4] (fun i wr => ∃ k : Nat, k ≤ l.length ∧ i = .int .i64 k ∧ RdS wr a w.heap.size (.slice A l.length c) l ∧ OwS wr w.heap.size wr.heap.size 35 (.slice (some ⟨w.heap.size, 0, none⟩) l.length l.length) (l.take k ++ List.replicate (l.length - k) (0, 0, 0, 0)) ∧ Below w.heap.size w wr)
    (fun i _ => l.length - (intOf i).toNat)
  case atStart => exact ⟨0, Nat.zero_le _, rfl, hr1, ho, hb1⟩
  case round =>
    clear hr1 ho hb1
    obtain ⟨k, hk, rfl, hr, ho, hb⟩ := hrel
    by_cases hlt : k < l.length
    rotate_left
    · go_wp2_with fail
      go_ret
      have e : l.take k ++ List.replicate (l.length - k) ((0, 0, 0, 0) : Sw) = l := by
        rw [List.take_of_length_le (by omega), show l.length - k = 0 by omega]; simp
      rw [e] at ho
      exact ⟨_, rfl, ho, hb⟩
    obtain ⟨⟨x, y, z, u⟩, hx⟩ := get_of_lt l k hlt
    obtain ⟨b1, o1, rfl, _, _, q1, c0, c1, c2, c3⟩ := hr.at_ hx
    have hbs := hb.size
    dsimp only at c0 c1 c2 c3
    have Hx := Lib.hid hx; clear hx
    go_wp2_with (go_at_call 32; refine (toSwitch_walk _ _ _ _ _).mono ?_; rintro e w2 ⟨rfl, b2⟩; have s2 := b2.size; replace hr := hr.new b2; replace ho := ho.new b2; replace hb := hb.trans (b2.mono hbs); obtain ⟨⟨x', y', z', u'⟩, hx'⟩ := get_of_lt (l.take k ++ List.replicate (l.length - k) ((0, 0, 0, 0) : Sw)) k (by simp; omega); obtain ⟨g, eg, _, _, _, d0, d1, d2, d3, hf⟩ := ho.at_ hx'; injection eg with eg; injection eg with eg; subst eg; have f0 := hf (k * 4); have f1 := hf (k * 4 + 1); have f2 := hf (k * 4 + 2); have f3 := hf (k * 4 + 3); clear hf hx')
    go_roundw
    case rel =>
      have h4 := ho.set4 k (x, y, z, u)
      rw [sw_fill_step Hx.out] at h4
      dsimp only at h4
      exact ⟨k + 1, by omega, by go_num, (((hr.far (Nat.le_refl _) _).far (Nat.le_refl _) _).far (Nat.le_refl _) _).far (Nat.le_refl _) _, h4.mono (Nat.le_refl _) (by simp [World.setCell]; omega), (((hb.setCell (Nat.le_refl _) _).setCell (Nat.le_refl _) _).setCell (Nat.le_refl _) _).setCell (Nat.le_refl _) _⟩
    case measure => simp [intOf]; omega
end Go.Proofs.Ytdgkiebgmhcmdaa
