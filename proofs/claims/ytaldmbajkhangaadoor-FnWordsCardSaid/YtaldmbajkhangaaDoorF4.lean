/- Walks: ParseInt of impl; plain facts about what a numeral looks like. -/
import Derived.Test.YtaldmbajkhangaaDoorProg
import Derived.Test.YtaldmbajkhangaaDoorW1
import Derived.Test.YtaldmbajkhangaaDoorShelf
import Derived.Test.YtaldmbajkhangaaDoorF1
import Derived.Test.YtaldmbajkhangaaDoorF2
import Derived.Test.YtaldmbajkhangaaDoorF3
import Derived.Test.YtaldmbajkhangaaDoorMem
import Derived.Lib.SmallJoins
import Derived.Lib.Strings
import Derived.WalkKit
import Derived.WalkSpells
import Derived.WalkLawsBesides
import Derived.KernelRfl
import Derived.Lib.Hide
namespace Go.Proofs.YtaldmbajkhangaaDoor
open Go.RowKit
set_option linter.unusedVariables false
set_option linter.unusedSimpArgs false

theorem atoi_rng {l : List UInt8} {v : Int} (h : Lib.atoiAll l = .ok v) : -9223372036854775808 ≤ v ∧ v ≤ 9223372036854775807 := by
  cases l with
  | nil => simp [Lib.atoiAll] at h
  | cons c r =>
    simp only [Lib.atoiAll] at h
    split at h
    · cases h
    · cases h
    · split at h
      · cases h
      · split at h
        · cases h
        · rename_i u _ h1 h2
          injection h with h
          split at h
          · rename_i hc
            have : ¬ 9223372036854775808 < u := fun hh => h2 ⟨hc, hh⟩
            omega
          · rename_i hc
            have : ¬ 9223372036854775808 ≤ u := fun hh => h1 ⟨hc, hh⟩
            omega
/-- Does a minus stand first? -/
def minus (s : ByteArray) : Bool := decide (s.data.toList.head? = some 45)
/-- What stands behind the minus. -/
def magL (s : ByteArray) : List UInt8 := if minus s then s.data.toList.tail else s.data.toList
theorem num_shape {v : Int} {s : ByteArray} (h : fmtF v = s) : magL s = Lib.decDigits v.natAbs ∧ (minus s = true ↔ v < 0) := by
  have hd : s.data.toList = Lib.itoa v := by rw [← h, fmtF_data]
  by_cases hv : v < 0
  · obtain ⟨u, rfl⟩ : ∃ u : Nat, v = -(u : Int) := ⟨v.natAbs, by omega⟩
    rw [Lib.itoa_neg u (by omega)] at hd
    have hm : minus s = true := by simp [minus, hd]
    refine ⟨?_, by simp only [hm, true_iff]; omega⟩
    rw [magL, hm, hd]
    simp
  · obtain ⟨u, rfl⟩ : ∃ u : Nat, v = (u : Int) := ⟨v.toNat, by omega⟩
    rw [Lib.itoa_nonneg] at hd
    have hm : minus s = false := by
      obtain ⟨c, r, hc, hx⟩ := dec_cons u
      have := isDig_in hx
      simp only [minus, hd, hc, List.head?_cons, decide_eq_false_iff_not]
      intro e
      injection e with e
      rw [e] at this
      have e2 : (45 : UInt8).toNat = 45 := rfl
      omega
    refine ⟨?_, by simp only [hm, Bool.false_eq_true, false_iff]; omega⟩
    rw [magL, hm, hd]
    simp
/-- No numeral: no answer. -/
theorem parse_no {s : ByteArray} (h : ∀ v : Int, -9223372036854775808 ≤ v → v ≤ 9223372036854775807 → fmtF v ≠ s) : parseR s = (0, false) := by
  unfold parseR
  split
  · rename_i v hv
    obtain ⟨h0, h1⟩ := atoi_rng hv
    rw [if_neg (h v h0 h1)]
  · rfl
theorem parse_nodig {s : ByteArray} (h : digitsF (magL s) = false) : parseR s = (0, false) := by
  apply parse_no
  intro v _ _ e
  have := (num_shape e).1
  have hd : digitsF (magL s) = true := by
    rw [this]
    have h1 := dec_dig v.natAbs
    have h2 := dec_ne v.natAbs
    unfold digitsF
    simp [h1, h2]
  rw [h] at hd
  cases hd
theorem parse_long {s : ByteArray} (h : 19 < (magL s).length) : parseR s = (0, false) := by
  apply parse_no
  intro v h0 h1 e
  have h2 := (num_shape e).1
  have := dec_len 18 v.natAbs (by omega)
  rw [h2] at h
  omega
theorem parse_big {s : ByteArray} (h : 9223372036854775808 < valD 0 (magL s)) : parseR s = (0, false) := by
  apply parse_no
  intro v h0 h1 e
  have h2 := (num_shape e).1
  rw [h2, dec_val] at h
  omega
theorem parse_big' {s : ByteArray} {k : Nat} (h : 9223372036854775808 < valD 0 ((magL s).take k)) : parseR s = (0, false) :=
  parse_big (Nat.lt_of_lt_of_le h (valD_take_le _ _))
theorem parse_min {s : ByteArray} (h : valD 0 (magL s) = 9223372036854775808) (hm : minus s = false) : parseR s = (0, false) := by
  apply parse_no
  intro v h0 h1 e
  obtain ⟨h2, h3⟩ := num_shape e
  rw [h2, dec_val] at h
  have : ¬ v < 0 := fun hv => by have := h3.2 hv; rw [hm] at this; cases this
  omega
/-- The number that the digits and the minus tell. -/
def told (s : ByteArray) : Int := if minus s then -(valD 0 (magL s) : Int) else valD 0 (magL s)
theorem parse_else {s : ByteArray} (h : fmtF (told s) ≠ s) : parseR s = (0, false) := by
  apply parse_no
  intro v h0 h1 e
  obtain ⟨h2, h3⟩ := num_shape e
  apply h
  have : told s = v := by
    unfold told
    rw [h2, dec_val]
    by_cases hv : v < 0
    · rw [h3.2 hv]; simp; omega
    · have : minus s = false := by
        cases hm : minus s
        · rfl
        · exact absurd (h3.1 hm) hv
      rw [this]; simp; omega
  rw [this, e]

/-- The library's two errors are there. -/
def Errs (W : World) : Prop := (∃ tp p, W.var? Tryd.prog "strconv.ErrSyntax" = some #[.iface tp p]) ∧ (∃ tp p, W.var? Tryd.prog "strconv.ErrRange" = some #[.iface tp p])
theorem gES : Tryd.prog.globalNamed "strconv.ErrSyntax" = some 0 := by kernel_rfl
theorem gER : Tryd.prog.globalNamed "strconv.ErrRange" = some 1 := by kernel_rfl
theorem Errs.new {w w' : World} (h : Errs w) (hb : Below w.heap.size w w') : Errs w' := by
  obtain ⟨⟨t1, p1, h1⟩, ⟨t2, p2, h2⟩⟩ := h
  exact ⟨⟨t1, p1, Joins.var_stays gES h1 hb (Nat.le_refl _)⟩, ⟨t2, p2, Joins.var_stays gER h2 hb (Nat.le_refl _)⟩⟩

theorem atoi_cases (s : ByteArray) (hs : s.size ≤ 1048576) (w : World) (he : Errs w) :
    (∃ v, Lib.atoiAll s.data.toList = .ok v ∧ Calls Tryd.prog 18 #[.string s] w fun e w' => e = .returned (.tuple #[.int .i64 v, .nilIface]) ∧ Below w.heap.size w w') ∨
    (parseR s = (0, false) ∧ Calls Tryd.prog 18 #[.string s] w fun e w' => ∃ x N, e = .returned (.tuple #[.int .i64 x, .iface 59 (.pointer (some ⟨N, 0, none⟩))]) ∧ Below w.heap.size w w') := by
  obtain ⟨⟨t1, p1, h1⟩, ⟨t2, p2, h2⟩⟩ := he
  cases h : Lib.atoiAll s.data.toList
  · rename_i v
    refine .inl ⟨v, rfl, (Tryd.strconv_Atoi_ok s (by omega) v h w).mono ?_⟩
    rintro e w' ⟨rfl, hw⟩
    refine ⟨rfl, ?_⟩
    rcases hw with rfl | ⟨t, rfl⟩
    · exact Below.refl _ _
    · exact Joins.below_bytesWorld _ _ _ _ (Nat.le_refl _)
  · refine .inr ⟨by unfold parseR; rw [h], (Any.strconv_Atoi_syntax_var Tryd.laysC172 s (by omega) h t1 p1 w h1).mono ?_⟩
    rintro e w' ⟨N, rfl, -, -, hb⟩
    exact ⟨_, N, rfl, hb⟩
  · refine .inr ⟨by unfold parseR; rw [h], (Tryd.strconv_Atoi_range_var s (by omega) h t2 p2 w h2).mono ?_⟩
    rintro e w' ⟨N, rfl, -, -, hb⟩
    exact ⟨_, N, rfl, hb⟩

theorem sne_iff {a b : ByteArray} : (a != b) = true ↔ a ≠ b := by
  first
  | (show (!(decide (a = b))) = true ↔ _; simp)
  | (obtain ⟨d⟩ := a; obtain ⟨e⟩ := b; show (!(d == e)) = true ↔ _; simp)

theorem teq_no {a b : ByteArray} (h : a ≠ b) : (a.toList == b.toList) = false := by
  rw [beq_eq_false_iff_ne, Lib.toList_data, Lib.toList_data]
  exact fun e => h (ByteArray.ext (Array.toList_inj.1 e))
theorem teq_yes {a b : ByteArray} (h : a = b) : (a.toList == b.toList) = true := by
  subst h; simp

def RetP (w : World) (r : Int × Bool) (e : Ending) (w' : World) : Prop := e = .returned (.tuple #[.int .i64 r.1, .bool r.2]) ∧ Below w.heap.size w w'
set_option maxRecDepth 100000 in
set_option maxHeartbeats 1000000 in
theorem impl_ParseInt (s : ByteArray) (w : World) (hs : s.size ≤ 1048576) (ht : Tab w) (he : Errs w) :
    Calls Tryd.prog 9 #[.string s] w (RetP w (parseR s)) := by
  rcases atoi_cases s hs w he with ⟨v, hv, hA⟩ | ⟨hv, hA⟩
  · obtain ⟨r0, r1⟩ := atoi_rng hv
    have hT : ∀ {w'}, Below w.heap.size w w' → Tab w' := fun h => ht.new h
    by_cases hf : fmtF v = s
    · have hR : parseR s = (v, true) := by unfold parseR; rw [hv]; simp [hf]
      have hne : (fmtF v != s) = false := by rw [hf]; exact fsne_self s
      go_enter Tryd.func9, Tryd.ntmps9
      go_wp2_with (go_at_call 18; refine hA.mono ?_; rintro e w1 ⟨rfl, b1⟩)
      go_wp2_with (go_at_call 7; refine (impl_FormatInt v _ r0 r1 (hT b1)).mono ?_; rintro e w2 ⟨rfl, b2⟩)
      go_ret2
      rw [hR]
      exact ⟨rfl, b1.trans (b2.mono b1.size)⟩
    · have hR : parseR s = (0, false) := by unfold parseR; rw [hv]; simp [hf]
      have hne : (fmtF v != s) = true := sne_iff.2 hf
      have hne2 := teq_no hf
      go_enter Tryd.func9, Tryd.ntmps9
      go_wp2_with (go_at_call 18; refine hA.mono ?_; rintro e w1 ⟨rfl, b1⟩)
      go_wp2_with (go_at_call 7; refine (impl_FormatInt v _ r0 r1 (hT b1)).mono ?_; rintro e w2 ⟨rfl, b2⟩)
      go_ret2
      rw [hR]
      exact ⟨rfl, b1.trans (b2.mono b1.size)⟩
  · go_enter Tryd.func9, Tryd.ntmps9
    go_wp2_with (go_at_call 18; refine hA.mono ?_; rintro e w1 ⟨x, N, rfl, b1⟩)
    go_ret2
    rw [hv]
    exact ⟨rfl, b1⟩
end Go.Proofs.YtaldmbajkhangaaDoor
