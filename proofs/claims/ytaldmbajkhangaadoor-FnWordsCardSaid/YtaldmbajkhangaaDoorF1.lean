/- Plain law: decimal numerals. What reads a numeral that Itoa wrote reads its number. -/
import Derived.Test.YtaldmbajkhangaaDoorW1
import Derived.Lib.ItoaNum
import Derived.Lib.ItoaMem
import Derived.Lib.AtoiAll
namespace Go.Proofs.YtaldmbajkhangaaDoor
set_option linter.unusedVariables false
set_option linter.unusedSimpArgs false

def dv (c : UInt8) : Nat := c.toNat - 48
def valD (acc : Nat) (l : List UInt8) : Nat := l.foldl (fun a c => a * 10 + dv c) acc
theorem valD_nil (acc : Nat) : valD acc [] = acc := List.foldl_nil
theorem valD_cons (acc : Nat) (c : UInt8) (r : List UInt8) : valD acc (c :: r) = valD (acc * 10 + dv c) r := List.foldl_cons ..
theorem valD_app : ∀ (l m : List UInt8) (acc : Nat), valD acc (l ++ m) = valD (valD acc l) m
  | [], m, acc => by rw [List.nil_append, valD_nil]
  | c :: r, m, acc => by rw [List.cons_append, valD_cons, valD_cons, valD_app r m]
theorem valD_snoc (acc : Nat) (l : List UInt8) (c : UInt8) : valD acc (l ++ [c]) = valD acc l * 10 + dv c := by rw [valD_app, valD_cons, valD_nil]
theorem valD_mono : ∀ (l : List UInt8) (acc : Nat), acc ≤ valD acc l
  | [], acc => by rw [valD_nil]; exact Nat.le_refl _
  | c :: r, acc => by
    have := valD_mono r (acc * 10 + dv c)
    rw [valD_cons]
    omega
theorem valD_take_le (l : List UInt8) (k : Nat) : valD 0 (l.take k) ≤ valD 0 l := by
  have h : valD 0 l = valD (valD 0 (l.take k)) (l.drop k) := by rw [← valD_app, List.take_append_drop]
  rw [h]
  exact valD_mono _ _
theorem isDig_in {c : UInt8} (h : isDig c = true) : 48 ≤ c.toNat ∧ c.toNat ≤ 57 := by
  unfold isDig at h
  simp [UInt8.le_iff_toNat_le] at h
  exact h
theorem parse_val : ∀ (l : List UInt8) (acc : Nat), l.all isDig = true → valD acc l < 18446744073709551616 → Lib.parseUint10 acc l = .ok (valD acc l)
  | [], acc, _, _ => by rw [valD_nil]; rfl
  | c :: r, acc, hd, hv => by
    simp only [List.all_cons, Bool.and_eq_true] at hd
    have hc := isDig_in hd.1
    have hm := valD_mono r (acc * 10 + dv c)
    rw [valD_cons] at hv ⊢
    unfold dv at hm hv
    simp only [Lib.parseUint10]
    rw [if_pos hc, if_neg (by omega), if_neg (by omega)]
    have := parse_val r (acc * 10 + (c.toNat - 48)) hd.2 hv
    rw [this]
    rfl
theorem dig_ofNat {k : Nat} (h : k < 10) : (UInt8.ofNat (48 + k)).toNat = 48 + k := by
  rw [UInt8.toNat_ofNat']
  omega
theorem dec_val (u : Nat) : valD 0 (Lib.decDigits u) = u := by
  induction u using Nat.strongRecOn with
  | _ u ih =>
    rw [Lib.decDigits]
    split
    · rename_i h
      rw [valD_cons, valD_nil, dv, dig_ofNat h]
      omega
    · rename_i h
      rw [valD_snoc, ih (u / 10) (by omega), dv, dig_ofNat (by omega)]
      omega
theorem dig_is {k : Nat} (h : k < 10) : isDig (UInt8.ofNat (48 + k)) = true := by
  unfold isDig
  have := dig_ofNat h
  simp [UInt8.le_iff_toNat_le]
  omega
theorem dec_dig (u : Nat) : (Lib.decDigits u).all isDig = true := by
  induction u using Nat.strongRecOn with
  | _ u ih =>
    rw [Lib.decDigits]
    split
    · rename_i h
      simp only [List.all_cons, List.all_nil, Bool.and_true]
      exact dig_is h
    · rename_i h
      rw [List.all_append, ih (u / 10) (by omega)]
      simp only [List.all_cons, List.all_nil, Bool.and_true, Bool.true_and]
      exact dig_is (show u % 10 < 10 by omega)
theorem dec_ne (u : Nat) : Lib.decDigits u ≠ [] := by
  rw [Lib.decDigits]
  split <;> simp
theorem dec_len : ∀ (k u : Nat), u < 10 ^ (k + 1) → (Lib.decDigits u).length ≤ k + 1
  | 0, u, h => by
    rw [Lib.decDigits, dif_pos (by simpa using h)]; simp
  | k + 1, u, h => by
    rw [Lib.decDigits]
    split
    · simp
    · have h2 : u / 10 < 10 ^ (k + 1) := by
        rw [Nat.pow_succ] at h
        omega
      have := dec_len k (u / 10) h2
      rw [List.length_append, List.length_singleton]
      omega
theorem dec_cons (u : Nat) : ∃ c r, Lib.decDigits u = c :: r ∧ isDig c = true := by
  have h1 := dec_ne u
  have h2 := dec_dig u
  cases h : Lib.decDigits u with
  | nil => exact absurd h h1
  | cons c r =>
    rw [h] at h2
    simp only [List.all_cons, Bool.and_eq_true] at h2
    exact ⟨c, r, rfl, h2.1⟩
theorem mag_dec (u : Nat) (h : u < 18446744073709551616) : Lib.parseMag (Lib.decDigits u) = .ok u := by
  unfold Lib.parseMag
  rw [if_neg (dec_ne u), parse_val _ _ (dec_dig u) (by rw [dec_val]; exact h), dec_val]
theorem atoi_itoa (v : Int) (h0 : -9223372036854775808 ≤ v) (h1 : v ≤ 9223372036854775807) : Lib.atoiAll (Lib.itoa v) = .ok v := by
  by_cases hn : v < 0
  · obtain ⟨u, rfl⟩ : ∃ u : Nat, v = -(u : Int) := ⟨v.natAbs, by omega⟩
    rw [Lib.itoa_neg u (by omega)]
    simp only [Lib.atoiAll]
    have e : (45 : UInt8).toNat = 45 := rfl
    simp only [e, or_true, if_true, mag_dec u (by omega)]
    simp
    omega
  · obtain ⟨u, rfl⟩ : ∃ u : Nat, v = (u : Int) := ⟨v.toNat, by omega⟩
    rw [Lib.itoa_nonneg]
    obtain ⟨c, r, hc, hd⟩ := dec_cons u
    have hm := mag_dec u (by omega)
    have hb := isDig_in hd
    rw [hc] at hm ⊢
    simp only [Lib.atoiAll]
    have e1 : ¬ c.toNat = 43 := by omega
    have e2 : ¬ c.toNat = 45 := by omega
    simp only [e1, e2, or_self, if_false, not_false_eq_true, true_and, false_and]
    rw [hm]
    show (if 9223372036854775808 ≤ u then Lib.NumEnd.range else Lib.NumEnd.ok (u : Int)) = _
    rw [if_neg (by omega)]
def fmtF (n : Int) : ByteArray := ⟨(Lib.itoa n).toArray⟩
theorem fmtF_data (n : Int) : (fmtF n).data.toList = Lib.itoa n := by simp [fmtF]

/-- What ParseInt answers. -/
def parseR (s : ByteArray) : Int × Bool :=
  match Lib.atoiAll s.data.toList with
  | .ok v => if fmtF v = s then (v, true) else (0, false)
  | _ => (0, false)
theorem parse_fmt {v : Int} {s : ByteArray} (h0 : -9223372036854775808 ≤ v) (h1 : v ≤ 9223372036854775807) (h : fmtF v = s) : parseR s = (v, true) := by
  unfold parseR
  rw [← h, fmtF_data, atoi_itoa v h0 h1]
  simp
end Go.Proofs.YtaldmbajkhangaaDoor
