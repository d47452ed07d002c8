/- Walks: PutCell, StaircaseOf, DistanceOf. -/
import Derived.Test.YtpjlgcohafbbdaaProg
import Derived.Test.YtpjlgcohafbbdaaW1
import Derived.Test.YtpjlgcohafbbdaaW2
import Derived.Test.YtpjlgcohafbbdaaW3
import Derived.Test.YtpjlgcohafbbdaaW4
import Derived.Test.YtpjlgcohafbbdaaW6
import Derived.Test.YtpjlgcohafbbdaaW8
import Derived.Test.YtpjlgcohafbbdaaW9
import Derived.Test.YtpjlgcohafbbdaaMem
import Derived.Test.YtpjlgcohafbbdaaPoke
import Derived.WalkKit
import Derived.WalkSpells
import Derived.WalkLawsBesides
import Derived.KernelRfl
import Derived.Lib.Hide
import Derived.Lib.BufferMore
import Derived.Deep.QuietTactic
import Derived.BigQuiet
namespace Go.Proofs.Ytpjlgcohafbbdaa
open Go.RowKit
set_option linter.unusedVariables false
set_option linter.unusedSimpArgs false

/-- The post of a function that returns a new grid and a bool. -/
def RetGB (w : World) (g : List (List Int)) (ok : Bool) (e : Ending) (w' : World) : Prop := ∃ v, e = .returned (.tuple #[v, .bool ok]) ∧ OwG w' w.heap.size w'.heap.size 50 3 v g ∧ Below w.heap.size w w'
theorem RetGB_no {w : World} {g : List (List Int)} {ok : Bool} (h : g = []) (h2 : ok = false) : RetGB w g ok (.returned (.tuple #[.slice none 0 0, .bool false])) w := by
  subst h; subst h2; exact ⟨_, rfl, OwG.nil _ _ _ _ _, Below.refl _ _⟩
theorem RetGB_yes {w w' : World} {v : Value} {g : List (List Int)} {ok : Bool} (h : ok = true) (ho : OwG w' w.heap.size w'.heap.size 50 3 v g) (hb : Below w.heap.size w w') : RetGB w g ok (.returned (.tuple #[v, .bool true])) w' := by
  subst h; exact ⟨_, rfl, ho, hb⟩
def putOk (g : List (List Int)) (y x z : Int) : Bool := hasF g y x && inB z 0 1
def putR (g : List (List Int)) (y x z : Int) : List (List Int) := if putOk g y x z = true then putN g y.toNat x.toNat z else []
theorem putR_no {g : List (List Int)} {y x z : Int} (h : putOk g y x z = false) : putR g y x z = [] := by simp [putR, h]
theorem putR_yes {g : List (List Int)} {y x : Nat} {z : Int} (h : putOk g y x z = true) : putR g y x z = putN g y x z := by simp [putR, h]
theorem put_size (w : World) (p : Addr) (u : Value) : (w.setCell p u).heap.size = w.heap.size := by simp [World.setCell]

def stF (l : List Int) (y x : Nat) : Int := if (x : Int) < l.getD y 0 then 1 else 0
def stairsR (l : List Int) (n : Int) : List (List Int) := if conjOk l n = true then mkG l.length n.toNat (stF l) else []
theorem stairs_no {l : List Int} {n : Int} (h : conjOk l n = false) : stairsR l n = [] := by simp [stairsR, h]
theorem stairs_yes {l : List Int} {n : Nat} (h : conjOk l n = true) : stairsR l n = mkG l.length n (stF l) := by simp [stairsR, h]
/-- A row of n places, the first m of them 1. -/
def bar (n m : Nat) : List Int := List.replicate m 1 ++ List.replicate (n - m) 0
theorem bar_step {n m : Nat} (h : m < n) : (ints (bar n m)).set m (.int .i64 1) = ints (bar n (m + 1)) := by
  rw [ints_set]
  congr 1
  unfold bar
  rw [List.set_append_right _ _ (by simp), List.length_replicate, Nat.sub_self, show n - m = (n - (m + 1)) + 1 by omega, List.replicate_succ, List.set_cons_zero, List.replicate_succ']
  simp
theorem bar_len {n m : Nat} (h : m ≤ n) : (bar n m).length = n := by simp [bar]; omega
theorem stairs_row {l : List Int} {n k m : Nat} (hk : l[k]? = some (m : Int)) (hm : m ≤ n) : (mkG l.length n (stF l)).take (k + 1) = (mkG l.length n (stF l)).take k ++ [bar n m] := by
  have hkl := (List.getElem?_eq_some_iff.1 hk).1
  have : (mkG l.length n (stF l))[k]? = some (bar n m) := by
    simp only [mkG, List.getElem?_map, List.getElem?_range hkl, Option.map_some]
    congr 1
    refine List.ext_getElem? fun x => ?_
    by_cases hx : x < n
    · simp only [List.getElem?_map, List.getElem?_range hx, Option.map_some, stF, List.getD_eq_getElem?_getD, hk, Option.getD_some]
      unfold bar
      by_cases h1 : x < m
      · rw [if_pos (by omega), List.getElem?_append_left (by simpa using h1), List.getElem?_replicate, if_pos h1]
      · rw [if_neg (by omega), List.getElem?_append_right (by simpa using h1), List.length_replicate, List.getElem?_replicate, if_pos (by omega)]
    · rw [List.getElem?_eq_none (by simp; omega), List.getElem?_eq_none (by rw [bar_len hm]; omega)]
  exact take_snoc this

theorem Prog.skip {G : List (List Int)} {R C k m : Nat} {F : Nat → Nat → Int} (h : Prog G R C (fun y x => (y, x)) F k m) (hz : ∀ x, m ≤ x → F k x = 0) : Prog G R C (fun y x => (y, x)) F (k + 1) 0 := by
  refine ⟨h.1, fun y x h1 h2 => ?_⟩
  rw [h.2 y x h1 h2]
  simp only []
  by_cases e : y < k ∨ (y = k ∧ x < m)
  · rw [if_pos e, if_pos (by omega)]
  · rw [if_neg e]
    by_cases e2 : y = k
    · subst e2; rw [if_pos (by omega), hz x (by omega)]
    · rw [if_neg (by omega)]
theorem stF_one {l : List Int} {k m x : Nat} (h : l[k]? = some (m : Int)) (hx : x < m) : (1 : Int) = stF l k x := by
  simp only [stF, List.getD_eq_getElem?_getD, h, Option.getD_some]; rw [if_pos (by omega)]
theorem stF_zero {l : List Int} {k m x : Nat} (h : l[k]? = some (m : Int)) (hx : m ≤ x) : stF l k x = 0 := by
  simp only [stF, List.getD_eq_getElem?_getD, h, Option.getD_some]; rw [if_neg (by omega)]
theorem stairs_nil {n : Int} : stairsR [] n = [] := by
  unfold stairsR; split <;> rfl

end Go.Proofs.Ytpjlgcohafbbdaa
