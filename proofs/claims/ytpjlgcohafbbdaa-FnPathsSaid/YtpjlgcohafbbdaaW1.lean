/- Walks: IsDigits and IsName of both packages return one Lean function of the string; the law functions over them return true. -/
import Derived.Test.YtpjlgcohafbbdaaProg
import Derived.WalkKit
import Derived.WalkSpells
import Derived.WalkLawsBesides
import Derived.KernelRfl
import Derived.Lib.Hide
import Derived.Lib.Strings
import Derived.Below
namespace Go.Proofs.Ytpjlgcohafbbdaa
open Go.RowKit

theorem ret_bool {a b : Bool} (h : a = b) : Ending.returned (.bool a) = .returned (.bool b) := by rw [h]
theorem ret_int {a b : Int} (h : a = b) : Ending.returned (.int .i64 a) = .returned (.int .i64 b) := by rw [h]

theorem bcell {W w1 : World} (hb : Below W.heap.size W w1) : (∀ b o, b < W.heap.size → w1.cell? ⟨b, o, none⟩ = W.cell? ⟨b, o, none⟩) ∧ (∀ b o, b < W.heap.size → w1.frozen? ⟨b, o, none⟩ = W.frozen? ⟨b, o, none⟩) :=
  ⟨fun b o h => hb.cell (p := ⟨b, o, none⟩) h, fun b o h => hb.frozen (p := ⟨b, o, none⟩) h⟩

def isDig (c : UInt8) : Bool := 48 ≤ c && c ≤ 57
def isLow (c : UInt8) : Bool := 97 ≤ c && c ≤ 122
def digitsF (l : List UInt8) : Bool := l.all isDig && !l.isEmpty

theorem take_snoc_b (s : ByteArray) (k : Nat) (h : k < s.size) : s.data.toList.take (k + 1) = s.data.toList.take k ++ [s[k]] := by
  rw [List.take_succ_eq_append_getElem (by simpa using h)]; rfl

theorem isDig_yes {c : UInt8} (h1 : (48 : Int) ≤ c.toNat) (h2 : (c.toNat : Int) ≤ 57) : isDig c = true := by
  unfold isDig; simp [UInt8.le_iff_toNat_le]; omega
theorem isDig_no1 {c : UInt8} (h1 : (c.toNat : Int) < 48) : isDig c = false := by
  unfold isDig; simp [UInt8.le_iff_toNat_le]; omega
theorem isDig_no2 {c : UInt8} (h1 : (57 : Int) < c.toNat) : isDig c = false := by
  unfold isDig; simp [UInt8.le_iff_toNat_le]; omega

theorem all_take_false {s : ByteArray} {k : Nat} (h : k < s.size) (hd : isDig s[k] = false) : digitsF s.data.toList = false := by
  unfold digitsF
  have : s.data.toList.all isDig = false := by
    rw [List.all_eq_false]
    refine ⟨s[k], ?_, by simp [hd]⟩
    have h' : k < s.data.toList.length := by simpa using h
    have : s[k] = s.data.toList[k] := rfl
    rw [this]; exact List.getElem_mem h'
  rw [this]; rfl

theorem digits_full {s : ByteArray} {k : Nat} (hk : k ≤ s.size) (hge : ¬ k < s.size) (hd : (s.data.toList.take k).all isDig = true) :
    digitsF s.data.toList = !s.data.toList.isEmpty := by
  rw [List.take_of_length_le (by simp; omega)] at hd
  unfold digitsF; rw [hd]; rfl


def okPre : List UInt8 → Bool
  | [] => true
  | c :: t => isLow c && t.all fun c => isLow c || isDig c
def nameF (l : List UInt8) : Bool := okPre l && decide (1 ≤ l.length) && decide (l.length ≤ 8)

theorem isLow_yes {c : UInt8} (h1 : (97 : Int) ≤ c.toNat) (h2 : (c.toNat : Int) ≤ 122) : isLow c = true := by
  unfold isLow; simp [UInt8.le_iff_toNat_le]; omega
theorem isLow_no {c : UInt8} (h : (c.toNat : Int) < 97 ∨ (122 : Int) < c.toNat) : isLow c = false := by
  unfold isLow; simp [UInt8.le_iff_toNat_le]; omega
theorem isDig_no {c : UInt8} (h : (c.toNat : Int) < 48 ∨ (57 : Int) < c.toNat) : isDig c = false := by
  unfold isDig; simp [UInt8.le_iff_toNat_le]; omega
theorem okPre_snoc (p : List UInt8) (c : UInt8) : okPre (p ++ [c]) = (okPre p && (isLow c || (!p.isEmpty && isDig c))) := by
  cases p with
  | nil => simp [okPre]
  | cons a t => simp [okPre, Bool.and_assoc]
theorem okPre_app (p q : List UInt8) (h : okPre p = false) : okPre (p ++ q) = false := by
  induction q generalizing p with
  | nil => simpa using h
  | cons c q ih =>
    have := ih (p ++ [c]) (by rw [okPre_snoc, h]; rfl)
    simpa using this
theorem okPre_bad {s : ByteArray} {k : Nat} (h : k < s.size) (hl : isLow s[k] = false) (hd : k = 0 ∨ isDig s[k] = false) : okPre s.data.toList = false := by
  have h1 : okPre (s.data.toList.take (k + 1)) = false := by
    rw [take_snoc_b s k h, okPre_snoc, hl]
    rcases hd with rfl | hd
    · simp
    · simp [hd]
  have := okPre_app _ (s.data.toList.drop (k + 1)) h1
  rwa [List.take_append_drop] at this
theorem okPre_step {s : ByteArray} {k : Nat} (h : k < s.size) (hp : okPre (s.data.toList.take k) = true) (hl : isLow s[k] = true ∨ (k ≠ 0 ∧ isDig s[k] = true)) : okPre (s.data.toList.take (k + 1)) = true := by
  rw [take_snoc_b s k h, okPre_snoc, hp]
  rcases hl with hl | ⟨h0, hd⟩
  · simp [hl]
  · have : (s.data.toList.take k).isEmpty = false := by
      cases hh : s.data.toList with
      | nil => have h0 : s.data.toList.length = 0 := by rw [hh]; rfl
               have h2 : s.data.toList.length = s.size := by simp
               omega
      | cons a t => cases k with
        | zero => omega
        | succ k => rfl
    simp [hd, this]
theorem digits_fin {s : ByteArray} {k : Nat} (hk : k ≤ s.size) (hge : ¬ k < s.size) (hd : (s.data.toList.take k).all isDig = true) : decide (0 < s.size) = digitsF s.data.toList := by
  have e : s.data.toList.length = s.size := by simp
  rw [digits_full hk hge hd, ← e]
  cases s.data.toList <;> simp
theorem digits_fin2 {s : ByteArray} {k : Nat} (hk : k ≤ s.size) (hge : ¬ k < s.size) (hd : (s.data.toList.take k).all isDig = true) : (!s.toList.isEmpty) = digitsF s.data.toList := by
  rw [digits_full hk hge hd, Lib.toList_data]
theorem okPre_all {s : ByteArray} {k : Nat} (hk : ¬ k < s.size) (hp : okPre (s.data.toList.take k) = true) : okPre s.data.toList = true := by
  rwa [List.take_of_length_le (by simp; omega)] at hp

theorem digits_step {s : ByteArray} {k : Nat} (h : k < s.size) (hp : (s.data.toList.take k).all isDig = true) (hd : isDig s[k] = true) : (s.data.toList.take (k + 1)).all isDig = true := by
  rw [take_snoc_b s k h, List.all_append, hp]; simp [hd]

def inB (n lo hi : Int) : Bool := decide (lo ≤ n) && decide (n ≤ hi)
theorem byte5 (c : UInt8) : ((97 : Int) ≤ c.toNat ∧ (c.toNat : Int) ≤ 122) ∨ ((48 : Int) ≤ c.toNat ∧ (c.toNat : Int) ≤ 57) ∨ ((0 : Int) ≤ c.toNat ∧ (c.toNat : Int) < 48) ∨ ((57 : Int) < c.toNat ∧ (c.toNat : Int) < 97) ∨ ((122 : Int) < c.toNat ∧ (57 : Int) < c.toNat) := by omega
theorem name_fin {s : ByteArray} {k : Nat} (hk : ¬ k < s.size) (hp : okPre (s.data.toList.take k) = true) : inB s.size 1 8 = nameF s.data.toList := by
  have e : s.data.toList.length = s.size := by simp
  unfold nameF inB
  rw [okPre_all hk hp, ← e, Bool.true_and]
  have h1 : decide ((1 : Int) ≤ (s.data.toList.length : Int)) = decide (1 ≤ s.data.toList.length) := decide_eq_decide.2 (by constructor <;> intro h <;> omega)
  have h2 : decide ((s.data.toList.length : Int) ≤ 8) = decide (s.data.toList.length ≤ 8) := decide_eq_decide.2 (by constructor <;> intro h <;> omega)
  rw [h1, h2]
theorem name_bad {s : ByteArray} {k : Nat} (h : k < s.size) (hl : (s[k].toNat : Int) < 97 ∨ (122 : Int) < s[k].toNat) (hd : k = 0 ∨ (s[k].toNat : Int) < 48 ∨ (57 : Int) < s[k].toNat) : false = nameF s.data.toList := by
  unfold nameF
  rw [okPre_bad h (isLow_no hl) (hd.imp id isDig_no)]; rfl
theorem name_short {s : ByteArray} (h : (s.size : Int) < 1 ∨ (8 : Int) < s.size) : false = nameF s.data.toList := by
  have e : s.data.toList.length = s.size := by simp
  unfold nameF
  rw [e]
  rcases h with h | h
  · have : decide (1 ≤ s.size) = false := decide_eq_false (by omega)
    rw [this]; simp
  · have : decide (s.size ≤ 8) = false := decide_eq_false (by omega)
    rw [this]; simp
theorem name_long {s : ByteArray} {k : Nat} (hk : ¬ k < s.size) (hp : okPre (s.data.toList.take k) = true) (h1 : (1 : Int) ≤ s.size) (h2 : (s.size : Int) ≤ 8) : true = nameF s.data.toList := by
  rw [← name_fin hk hp]; unfold inB; simp only [h1, h2, decide_true, Bool.and_self]

theorem spec_l01In (n lo hi : Int) (w : World) :
    Calls Try.prog 62 #[.int .i64 n, .int .i64 lo, .int .i64 hi] w fun e w' => e = .returned (.bool (inB n lo hi)) ∧ w = w' := by
  by_cases h1 : lo ≤ n
  · by_cases h2 : n ≤ hi
    all_goals
      go_enter Try.func62, Try.ntmps62
      go_wp2
      go_ret
      exact ⟨ret_bool (by simp [inB, h1, h2]), rfl⟩
  · go_enter Try.func62, Try.ntmps62
    go_wp2
    go_ret
    exact ⟨ret_bool (by simp [inB]; omega), rfl⟩

theorem impl_within (n lo hi : Int) (w : World) :
    Calls Try.prog 65 #[.int .i64 n, .int .i64 lo, .int .i64 hi] w fun e w' => e = .returned (.bool (inB n lo hi)) ∧ w = w' := by
  by_cases h1 : lo ≤ n
  · by_cases h2 : n ≤ hi
    all_goals
      go_enter Try.func65, Try.ntmps65
      go_wp2
      go_ret
      exact ⟨ret_bool (by simp [inB, h1, h2]), rfl⟩
  · go_enter Try.func65, Try.ntmps65
    go_wp2
    go_ret
    exact ⟨ret_bool (by simp [inB]; omega), rfl⟩

/-! The laws. -/
end Go.Proofs.Ytpjlgcohafbbdaa
