/- Walks: MakeNum, l01Str, MakeText; the plain law of SplitAny and Join. -/
import Derived.Test.YtaldmbajkhangaaDoorProg
import Derived.Test.YtaldmbajkhangaaDoorW1
import Derived.Test.YtaldmbajkhangaaDoorW3
import Derived.Test.YtaldmbajkhangaaDoorW7
import Derived.Test.YtaldmbajkhangaaDoorT2
import Derived.Test.YtaldmbajkhangaaDoorT6
import Derived.Test.YtaldmbajkhangaaDoorT8
import Derived.Test.YtaldmbajkhangaaDoorR1
import Derived.Test.YtaldmbajkhangaaDoorMem
import Derived.WalkKit
import Derived.WalkSpells
import Derived.WalkLawsBesides
import Derived.KernelRfl
import Derived.Lib.Hide
import Derived.Lib.Strings
import Derived.Deep.QuietTactic
import Derived.BigQuiet
namespace Go.Proofs.YtaldmbajkhangaaDoor
open Go.RowKit
set_option linter.unusedVariables false
set_option linter.unusedSimpArgs false

def sp : ByteArray := ⟨#[32]⟩
/-- The pieces so far, each with the separator behind it. -/
def lead (l : List ByteArray) : List UInt8 := l.flatMap fun x => x.data.toList ++ [32]
theorem join_lead : ∀ (l : List ByteArray) (y : ByteArray), Lib.join (byts (l ++ [y])) [32] = lead l ++ y.data.toList
  | [], y => by simp [byts, lead, Lib.join_one]
  | [x], y => by
    simp only [byts, List.cons_append, List.nil_append, List.map_cons, List.map_nil, Lib.join_cons, lead, List.flatMap_cons, List.flatMap_nil]
    simp [Lib.joinTail]
  | x :: x' :: r, y => by
    have ih := join_lead (x' :: r) y
    simp only [byts, List.cons_append, List.map_cons, Lib.join_cons, lead, List.flatMap_cons] at ih ⊢
    have : Lib.joinTail [32] (x'.data.toList :: List.map (fun x => x.data.toList) (r ++ [y])) = [32] ++ (x'.data.toList ++ Lib.joinTail [32] (List.map (fun x => x.data.toList) (r ++ [y]))) := by
      simp [Lib.joinTail]
    rw [this, ih]
    simp [List.append_assoc]
theorem ext_list (s : ByteArray) (a b : Nat) : (s.extract a b).data.toList = (s.data.toList.take b).drop a := by
  simp [List.drop_take]
theorem lead_take (s : ByteArray) : ∀ i, i ≤ s.size → lead (spAcc s sp i) = s.data.toList.take (spSt s sp i)
  | 0, _ => by simp [spAcc, spSt, lead]
  | i + 1, hi => by
    have ih := lead_take s i (by omega)
    have hlt : i < s.size := by omega
    by_cases hm : memB sp s[i] = true
    · rw [spAcc_yes hlt hm, spSt_yes hlt hm]
      have hc : s[i] = 32 := by
        simp only [memB, sp, List.contains_eq_mem, decide_eq_true_eq] at hm
        simpa using hm
      have hle := spSt_le s sp i
      rw [lead, List.flatMap_append, ← lead, ih, take_snoc_b s i hlt, hc]
      simp only [List.flatMap_cons, List.flatMap_nil, List.append_nil, ext_list]
      rw [← List.append_assoc]
      congr 1
      rw [show s.data.toList.take (spSt s sp i) = (s.data.toList.take i).take (spSt s sp i) by rw [List.take_take, Nat.min_eq_left hle], List.take_append_drop]
    · have hm : memB sp s[i] = false := by simpa using hm
      rw [spAcc_no hlt hm, spSt_no hlt hm]
      exact ih
/-- What SplitAny cuts, Join joins. -/
theorem join_split (s : ByteArray) : jn (splitF s sp) sp = s := by
  apply ByteArray.ext
  apply Array.ext'
  have h1 : sp.data.toList = [32] := rfl
  simp only [jn, splitF, h1, join_lead, lead_take s s.size (Nat.le_refl _), ext_list]
  have h2 : s.data.toList.take s.size = s.data.toList := List.take_of_length_le (Nat.le_of_eq Array.length_toList)
  rw [h2]
  simp
theorem split_sum (s : ByteArray) : sumB (splitF s sp) ≤ s.size := by
  have h := congrArg (fun t : ByteArray => t.data.toList.length) (join_split s)
  have h1 : sp.data.toList = [32] := rfl
  have h3 : s.data.toList.length = s.size := Array.length_toList
  rw [← lens_byts]
  simp only [jn, h1] at h
  rw [h3] at h
  rw [← h]
  cases hl : byts (splitF s sp) with
  | nil => simp [Lib.lens]
  | cons x r =>
    rw [Lib.join_length]
    omega

set_option maxRecDepth 100000 in
set_option maxHeartbeats 1000000 in
theorem MakeNum_walk (code : List UInt8) (v : Value) (k : Nat) (w : World) (a b : Nat) (hr : Rd w a b v (bytesV code)) (hc : code.length ≤ 1048576) (hk : k ≤ 1000) :
    Calls Tryd.prog 10 #[v, .int .i64 k] w fun e w' => ∃ x : Nat, x ≤ 65535 ∧ e = .returned (.int .i64 x) ∧ Below w.heap.size w w' := by
  go_enter Tryd.func10, Tryd.ntmps10
  go_wp2_with fail
  refine (l18New_walk code _ k _ _ _ hr hc hk).mono ?_
  rintro e w1 ⟨B, rfl, hC, hB, hb⟩
  have s1 := hb.size
  go_wp2_with fail
  refine (l01Byte_walk code B _ hC hc).mono ?_
  rintro e w2 ⟨x, hx, rfl, hC2, hg2⟩
  go_wp2_with fail
  refine (l01Byte_walk code B _ hC2 hc).mono ?_
  rintro e w3 ⟨y, hy, rfl, hC3, hg3⟩
  go_wp2_with fail
  go_ret
  exact ⟨x * 256 + y, by omega, ret_int (by push_cast; rfl), hb.trans ((hg2.trans hg3).below hB s1)⟩

set_option maxRecDepth 100000 in
set_option maxHeartbeats 1000000 in
theorem l01Str_walk (code : List UInt8) (B : Nat) (l : List ByteArray) (v : Value) (w : World) (a b : Nat) (h : Cur w B code) (hc : code.length ≤ 1048576) (hr : RdS w a b v l) (hB : B < a) (h1 : 1 ≤ l.length) (h2 : l.length ≤ 256) (hs : ∀ x ∈ l, x.size ≤ 2) :
    Calls Tryd.prog 23 #[.pointer (some ⟨B, 0, none⟩), v] w fun e w' => ∃ x : ByteArray, x.size ≤ 2 ∧ e = .returned (.string x) ∧ Cur w' B code ∧ Chg B (B + 1) w w' := by
  obtain ⟨A, c, rfl, q1, q2⟩ := hr.form
  go_enter Tryd.func23, Tryd.ntmps23
  go_wp2_with fail
  refine (l01Below_walk code B l.length _ h hc h1 h2).mono ?_
  rintro e w1 ⟨k, hk, rfl, hC1, hg1⟩
  have hr1 := hr.chg hg1 (.inr (.inl (by omega)))
  obtain ⟨x, hx⟩ := get_of_lt l k hk
  obtain ⟨b1, o1, rfl, _, _, _, hcell⟩ := hr1.at_ hx
  have hxs : x.size ≤ 2 := hs x (List.mem_of_getElem? hx)
  have hkn : (k : Int) < (l.length : Int) := by omega
  clear hx hr1 hr
  go_wp2_with fail
  go_ret
  exact ⟨x, hxs, rfl, hC1, hg1⟩

theorem rd_five {w : World} {g : Nat} (a b c d e : ByteArray) (h0 : w.cell? ⟨g, 0, none⟩ = some (.string a)) (h1 : w.cell? ⟨g, 1, none⟩ = some (.string b)) (h2 : w.cell? ⟨g, 2, none⟩ = some (.string c)) (h3 : w.cell? ⟨g, 3, none⟩ = some (.string d)) (h4 : w.cell? ⟨g, 4, none⟩ = some (.string e)) :
    RdS w g (g + 1) (.slice (some ⟨g, 0, none⟩) 5 5) [a, b, c, d, e] := by
  refine ⟨some ⟨g, 0, none⟩, 5, rfl, Nat.le_refl _, by decide, fun k u hu => ?_⟩
  match k, hu with
  | 0, hu => simp [strs] at hu; subst hu; exact ⟨g, 0, rfl, Nat.le_refl _, Nat.lt_succ_self _, h0⟩
  | 1, hu => simp [strs] at hu; subst hu; exact ⟨g, 0, rfl, Nat.le_refl _, Nat.lt_succ_self _, h1⟩
  | 2, hu => simp [strs] at hu; subst hu; exact ⟨g, 0, rfl, Nat.le_refl _, Nat.lt_succ_self _, h2⟩
  | 3, hu => simp [strs] at hu; subst hu; exact ⟨g, 0, rfl, Nat.le_refl _, Nat.lt_succ_self _, h3⟩
  | 4, hu => simp [strs] at hu; subst hu; exact ⟨g, 0, rfl, Nat.le_refl _, Nat.lt_succ_self _, h4⟩
  | k + 5, hu => simp [strs] at hu

theorem five_small : ∀ x ∈ [(⟨#[97]⟩ : ByteArray), ⟨#[98, 99]⟩, ⟨#[32]⟩, ⟨#[44]⟩, ⟨#[120, 49]⟩], x.size ≤ 2 := by
  intro x hx
  simp only [List.mem_cons, List.not_mem_nil, or_false] at hx
  rcases hx with rfl | rfl | rfl | rfl | rfl <;> decide

set_option maxRecDepth 100000 in
set_option maxHeartbeats 1000000 in
theorem MakeText_walk (code : List UInt8) (v : Value) (w : World) (a b : Nat) (hr : Rd w a b v (bytesV code)) (hc : code.length ≤ 1048576) :
    Calls Tryd.prog 11 #[v] w fun e w' => ∃ s : ByteArray, s.size ≤ 16 ∧ e = .returned (.string s) ∧ Below w.heap.size w w' := by
  go_enter Tryd.func11, Tryd.ntmps11
  go_wp2_with fail
  refine (l01New_walk code _ _ _ _ hr hc).mono ?_
  rintro e w1 ⟨B, rfl, hC, hB, hb⟩
  have s1 := hb.size
  go_wp2_with fail
  refine (l01Below_walk code B 8 _ hC hc (by omega) (by omega)).mono ?_
  rintro e w2 ⟨n, hn, rfl, hC2, hg2⟩
  have hb2 := hb.trans (hg2.below hB s1)
  clear hC hg2 hb
  go_wp2_with fail
  go_loopw [4, 5] (fun s i wr => ∃ (t : ByteArray) (k : Nat), t.size + 2 * k ≤ 16 ∧ i = .int .i64 k ∧ s = .string t ∧ Cur wr B code ∧ Below w.heap.size w wr) (fun _ i _ => (intOf i).toNat)
  case atStart => exact ⟨ByteArray.empty, n, by simp; omega, rfl, rfl, hC2, hb2⟩
  case round =>
    clear hC2 hb2
    obtain ⟨t, k, hk, rfl, rfl, hC, hb⟩ := hrel
    have hBs := hC.lt
    have hts : t.size ≤ 16 := by omega
    by_cases hlt : 0 < k
    · go_wp2_with fail
      refine (l01Str_walk code B _ _ _ _ _ (hC.new ((Below.refl _ _).alloc (Nat.le_refl _) _)) hc (rd_five ⟨#[97]⟩ ⟨#[98, 99]⟩ ⟨#[32]⟩ ⟨#[44]⟩ ⟨#[120, 49]⟩ (by simp) (by simp) (by simp) (by simp) (by simp)) hBs (by simp) (by simp) five_small).mono ?_
      rintro e w3 ⟨x, hx, rfl, hC3, hg3⟩
      have hsz : w.heap.size ≤ (wr.alloc (Obj.cells #[Value.string { data := #[97] }, Value.string { data := #[98, 99] }, Value.string { data := #[32] }, Value.string { data := #[44] }, Value.string { data := #[120, 49] }] 9)).heap.size := by have := hb.size; simp; omega
      have hb3 := (hb.alloc hb.size (Obj.cells #[Value.string { data := #[97] }, Value.string { data := #[98, 99] }, Value.string { data := #[32] }, Value.string { data := #[44] }, Value.string { data := #[120, 49] }] 9)).trans (hg3.below hB hsz)
      clear hb hg3 hC hsz
      go_wp2_with fail
      go_roundw
      case rel => exact ⟨t ++ x, k - 1, by rw [ByteArray.size_append]; omega, by go_num, rfl, hC3, hb3⟩
      case measure => simp [intOf]; omega
    · go_wp2_with fail
      go_ret
      exact ⟨t, hts, rfl, hb⟩
end Go.Proofs.YtaldmbajkhangaaDoor
