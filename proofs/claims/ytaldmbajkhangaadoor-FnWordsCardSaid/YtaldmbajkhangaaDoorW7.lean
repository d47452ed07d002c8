/- Walks over []string: the laws' helpers, SplitAny. -/
import Derived.Test.YtaldmbajkhangaaDoorProg
import Derived.Test.YtaldmbajkhangaaDoorW1
import Derived.Test.YtaldmbajkhangaaDoorW3
import Derived.Test.YtaldmbajkhangaaDoorMem
import Derived.WalkKit
import Derived.WalkSpells
import Derived.WalkLawsBesides
import Derived.KernelRfl
import Derived.Lib.Hide
import Derived.Lib.Strings
import Derived.Deep.QuietTactic
import Derived.BigQuiet
import Derived.Deep.RegionHeld3
namespace Go.Proofs.YtaldmbajkhangaaDoor
open Go.RowKit
set_option linter.unusedVariables false
set_option linter.unusedSimpArgs false

def strs (l : List ByteArray) : List Value := l.map Value.string
theorem strs_len (l : List ByteArray) : (strs l).length = l.length := by simp [strs]
theorem strs_get (l : List ByteArray) (k : Nat) : (strs l)[k]? = (l[k]?).map Value.string := by simp [strs]
theorem strs_app (l m : List ByteArray) : strs (l ++ m) = strs l ++ strs m := by simp [strs]
theorem strs_one (l : List ByteArray) : ∀ u ∈ strs l, u.oneCell' = true := by
  intro u hu
  simp only [strs, List.mem_map] at hu
  obtain ⟨x, _, rfl⟩ := hu
  rfl
theorem strs_set (l : List ByteArray) (k : Nat) (x : ByteArray) : (strs l).set k (.string x) = strs (l.set k x) := by simp [strs, List.map_set]
def RdS (w : World) (lo hi : Nat) (v : Value) (l : List ByteArray) : Prop := Rd w lo hi v (strs l)
theorem str_info : (Tryd.prog.info? 9).map (fun i => (i.zero, i.size, i.bytes)) = some (some (.string ByteArray.empty), 1, 16) := by kernel_rfl
/-- The post of a call that makes a new []string. -/
def RetS (w : World) (l : List ByteArray) (e : Ending) (w' : World) : Prop := ∃ v, e = .returned v ∧ Ow w' w.heap.size w'.heap.size 9 v (strs l) ∧ Below w.heap.size w w'
section
variable {w w' : World} {lo hi n c k : Nat} {v : Value} {A : Option Addr} {l : List ByteArray} {x : ByteArray}
theorem RdS.form (h : RdS w lo hi v l) : ∃ A c, v = .slice A l.length c ∧ l.length ≤ c ∧ c ≤ 9223372036854775807 := by
  obtain ⟨A, c, e, h1, h2, h3⟩ := h
  rw [strs_len] at e h1
  unfold maxLen at h2
  exact ⟨A, c, e, h1, by omega⟩
theorem RdS.at_ (h : RdS w lo hi (.slice A n c) l) (hx : l[k]? = some x) : ∃ b o, A = some ⟨b, o, none⟩ ∧ lo ≤ b ∧ b < hi ∧ b < w.heap.size ∧ w.cell? ⟨b, o + k, none⟩ = some (.string x) :=
  Rd.at_ h (by rw [strs_get, hx]; rfl)
theorem RdS.new (h : RdS w lo hi v l) (hb : Below w.heap.size w w') : RdS w' lo hi v l := Rd.new h hb
theorem RdS.drewN (h : RdS w lo hi v l) (n : Nat) : RdS (w.drewN n) lo hi v l := h
theorem RdS.clip (h : RdS w lo hi v l) : RdS w lo w.heap.size v l := Rd.clip h
theorem RdS.chg {lo' hi' : Nat} (h : RdS w lo hi v l) (c : Chg lo' hi' w w') (hd : hi ≤ lo' ∨ hi' ≤ lo ∨ hi' ≤ lo' ∨ w.heap.size ≤ lo') : RdS w' lo hi v l := Rd.chg h c hd
theorem Ow.rdS {e : TypeId} (h : Ow w lo hi e v (strs l)) : RdS w lo hi v l := Ow.rd h
end

/-! ### markText -/
/-- The digits that the loop lays ahead of what is there. -/
def mkLoop : Nat → Nat → ByteArray → ByteArray
  | 0, _, out => out
  | f + 1, k, out => if 0 < k then mkLoop f (k / 10) (⟨#[48 + UInt8.ofNat (k % 10)]⟩ ++ out) else out
def mkT (k : Nat) : ByteArray := ⟨#[109]⟩ ++ mkLoop (k + 1) k ByteArray.empty

/-- string([]byte{c}). -/
theorem conv1 (W : World) (n : Int) : (convert 27 9 (.slice (some ⟨W.heap.size, 0, none⟩) 1 1)).run Tryd.prog (W.alloc (.cells #[.int .u8 n] 5)) = .ok (.string ⟨#[UInt8.ofNat n.toNat]⟩) (W.alloc (.cells #[.int .u8 n] 5)) := by
  rw [run_convert_bytes_string _ _ _ _ _ _ _ Tryd.underlying27 Tryd.underlying5 Tryd.underlying9]
  rw [run_bytesToString _ _ _ _ [n] ?_]
  · rfl
  · have := run_loadCells_list (P := Tryd.prog) (w := W.alloc (.cells #[.int .u8 n] 5)) ⟨W.heap.size, 0, none⟩ [.int .u8 n] (cell_one_new _ _ _)
    simpa using this

/-! ### SplitAny -/
def memB (by_ : ByteArray) (c : UInt8) : Bool := by_.data.toList.contains c
/-- Where the piece at hand begins, after i bytes. -/
def spSt (s by_ : ByteArray) : Nat → Nat
  | 0 => 0
  | i + 1 => if h : i < s.size then (if memB by_ s[i] then i + 1 else spSt s by_ i) else spSt s by_ i
/-- The pieces so far, after i bytes. -/
def spAcc (s by_ : ByteArray) : Nat → List ByteArray
  | 0 => []
  | i + 1 => if h : i < s.size then (if memB by_ s[i] then spAcc s by_ i ++ [s.extract (spSt s by_ i) i] else spAcc s by_ i) else spAcc s by_ i
def splitF (s by_ : ByteArray) : List ByteArray := spAcc s by_ s.size ++ [s.extract (spSt s by_ s.size) s.size]
theorem spSt_le (s by_ : ByteArray) : ∀ i, spSt s by_ i ≤ i
  | 0 => Nat.le_refl _
  | i + 1 => by
    have := spSt_le s by_ i
    unfold spSt
    split
    · split <;> omega
    · omega
theorem spAcc_len (s by_ : ByteArray) : ∀ i, (spAcc s by_ i).length ≤ i
  | 0 => by simp [spAcc]
  | i + 1 => by
    have := spAcc_len s by_ i
    unfold spAcc
    split
    · split
      · simp; omega
      · omega
    · omega
theorem spSt_yes {s by_ : ByteArray} {i : Nat} (h : i < s.size) (hm : memB by_ s[i] = true) : spSt s by_ (i + 1) = i + 1 := by
  rw [spSt, dif_pos h, if_pos hm]
theorem spSt_no {s by_ : ByteArray} {i : Nat} (h : i < s.size) (hm : memB by_ s[i] = false) : spSt s by_ (i + 1) = spSt s by_ i := by
  rw [spSt, dif_pos h, if_neg (by simp [hm])]
theorem spAcc_yes {s by_ : ByteArray} {i : Nat} (h : i < s.size) (hm : memB by_ s[i] = true) : spAcc s by_ (i + 1) = spAcc s by_ i ++ [s.extract (spSt s by_ i) i] := by
  rw [spAcc, dif_pos h, if_pos hm]
theorem spAcc_no {s by_ : ByteArray} {i : Nat} (h : i < s.size) (hm : memB by_ s[i] = false) : spAcc s by_ (i + 1) = spAcc s by_ i := by
  rw [spAcc, dif_pos h, if_neg (by simp [hm])]
end Go.Proofs.YtaldmbajkhangaaDoor
