/- Walks: SplitLines. -/
import Derived.Test.YtaldmbajkhangaaDoorProg
import Derived.Test.YtaldmbajkhangaaDoorW1
import Derived.Test.YtaldmbajkhangaaDoorW3
import Derived.Test.YtaldmbajkhangaaDoorW7
import Derived.Test.YtaldmbajkhangaaDoorT2
import Derived.Test.YtaldmbajkhangaaDoorT3
import Derived.Test.YtaldmbajkhangaaDoorMem
import Derived.WalkKit
import Derived.WalkSpells
import Derived.WalkLawsBesides
import Derived.KernelRfl
import Derived.Lib.Hide
import Derived.Lib.Strings
namespace Go.Proofs.YtaldmbajkhangaaDoor
open Go.RowKit
set_option linter.unusedVariables false
set_option linter.unusedSimpArgs false

def nl : ByteArray := ⟨#[10]⟩
/-- The last piece. -/
def lastP (s : ByteArray) : ByteArray := s.extract (spSt s nl s.size) s.size
def linesF (s : ByteArray) : List ByteArray := if lastP s = ByteArray.empty then spAcc s nl s.size else splitF s nl
theorem lines_cut {s : ByteArray} (h : lastP s = ByteArray.empty) : linesF s = spAcc s nl s.size := if_pos h
theorem lines_all {s : ByteArray} (h : ¬ lastP s = ByteArray.empty) : linesF s = splitF s nl := if_neg h
theorem split_len (s by_ : ByteArray) : (splitF s by_).length = (spAcc s by_ s.size).length + 1 := by simp [splitF]
theorem split_last (s : ByteArray) : (splitF s nl)[(spAcc s nl s.size).length]? = some (lastP s) := by simp [splitF, lastP]
theorem lines_len (s : ByteArray) : (linesF s).length ≤ s.size + 1 := by
  unfold linesF
  have := spAcc_len s nl s.size
  split
  · omega
  · rw [split_len]; omega
/-- An owned row, cut short by one. -/
theorem Ow.cut {w : World} {lo hi g n cap : Nat} {T : TypeId} {xs : List Value} {u : Value} (h : Ow w lo hi T (.slice (some ⟨g, 0, none⟩) (n + 1) cap) (xs ++ [u])) (hn : xs.length = n) : Ow w lo hi T (.slice (some ⟨g, 0, none⟩) n cap) xs := by
  refine ⟨⟨by omega, ?_⟩, fun k hk => h.2 k (by simpa [Value.ownBlock] using hk)⟩
  rcases h.1.2 with ⟨e, _⟩ | ⟨g', cap', cur, e, hb, hg, hnc, hcm, hcs, htake⟩
  · cases e
  · injection e with e1 e2 e3
    injection e1 with e1
    injection e1 with e1
    subst e1; subst e3
    refine .inr ⟨g, cap, cur, by rw [hn], hb, hg, by simp at hnc; omega, hcm, hcs, ?_⟩
    have h2 := congrArg (List.take n) htake
    rw [List.take_take, Nat.min_eq_left (by simp; omega), List.take_left' hn] at h2
    simpa [hn] using h2
theorem Ow.some_ {w : World} {lo hi n cap : Nat} {T : TypeId} {xs : List Value} {A : Option Addr} (h : Ow w lo hi T (.slice A n cap) xs) (hx : 0 < xs.length) : ∃ g, A = some ⟨g, 0, none⟩ := by
  obtain ⟨g, e, _⟩ := h.at_ (k := 0) (List.getElem?_eq_getElem hx)
  exact ⟨g, e⟩
theorem empty_eq {s : ByteArray} (h : s = ByteArray.empty) : s.toList.isEmpty = true := by
  subst h; rw [ByteArray.toList_eq]; rfl
theorem empty_ne {s : ByteArray} (h : ¬ s = ByteArray.empty) : s.toList.isEmpty = false := by
  rw [ByteArray.toList_eq]
  obtain ⟨⟨d⟩⟩ := s
  cases d with
  | nil => exact absurd rfl h
  | cons x l => rfl

theorem impl_nl (s : ByteArray) (w : World) (hs : s.size ≤ 1048576) (N : Nat) (HN : Hid (N = (spAcc s nl s.size).length)) :
    Calls Tryd.prog 13 #[.string s, .string ⟨#[10]⟩] w fun e w' => ∃ g c, e = .returned (.slice (some ⟨g, 0, none⟩) (N + 1) c) ∧ N + 1 ≤ c ∧ c ≤ 9223372036854775807 ∧
      Ow w' w.heap.size w'.heap.size 9 (.slice (some ⟨g, 0, none⟩) (N + 1) c) (strs (spAcc s nl s.size) ++ [.string (lastP s)]) ∧ w'.cell? ⟨g, N, none⟩ = some (.string (lastP s)) ∧ Below w.heap.size w w' := by
  refine (impl_SplitAny s nl w hs (by decide)).mono ?_
  rintro e w1 ⟨v1, rfl, ho, hb⟩
  have hx : strs (splitF s nl) = strs (spAcc s nl s.size) ++ [.string (lastP s)] := by rw [splitF, strs_app]; rfl
  obtain ⟨A, c, rfl, q1, q2⟩ := ho.form'
  have hL : (strs (splitF s nl)).length = N + 1 := by rw [strs_len, split_len, HN.out]
  rw [hL] at q1 ho
  obtain ⟨g, rfl⟩ := ho.some_ (by omega)
  obtain ⟨g', eg, _, _, _, hc, _⟩ := ho.at_ (k := N) (u := .string (lastP s)) (by rw [strs_get, HN.out, split_last]; rfl)
  injection eg with eg; injection eg with eg; subst eg
  rw [hx] at ho
  exact ⟨g, c, by rw [hL], q1, q2, ho, hc, hb⟩

set_option maxRecDepth 100000 in
set_option maxHeartbeats 2000000 in
theorem impl_SplitLines (s : ByteArray) (w : World) (hs : s.size ≤ 1048576) :
    Calls Tryd.prog 15 #[.string s] w (RetS w (linesF s)) := by
  have hl := spAcc_len s nl s.size
  obtain ⟨N, hN⟩ : ∃ N, N = (spAcc s nl s.size).length := ⟨_, rfl⟩
  rw [← hN] at hl
  have HN := Lib.hid hN; clear hN
  by_cases he : lastP s = ByteArray.empty
  · have f1 := empty_eq he
    have GD := Lib.hid (lines_cut he)
    clear he
    go_enter Tryd.func15, Tryd.ntmps15
    go_wp2_with (go_at_call 13; refine (impl_nl s w hs N HN).mono ?_; rintro e w1 ⟨g, c, rfl, q1, q2, ho, hc, hb⟩)
    go_ret
    exact ⟨_, rfl, by rw [GD.out]; exact ho.cut (by rw [strs_len, HN.out]), hb⟩
  · have f1 := empty_ne he
    have GD := Lib.hid (lines_all he)
    clear he
    go_enter Tryd.func15, Tryd.ntmps15
    go_wp2_with (go_at_call 13; refine (impl_nl s w hs N HN).mono ?_; rintro e w1 ⟨g, c, rfl, q1, q2, ho, hc, hb⟩)
    go_ret
    exact ⟨_, rfl, by rw [GD.out, splitF, strs_app]; exact ho, hb⟩

end Go.Proofs.YtaldmbajkhangaaDoor
