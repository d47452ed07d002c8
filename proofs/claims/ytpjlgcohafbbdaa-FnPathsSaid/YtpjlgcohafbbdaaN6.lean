/- Words: the map that says how far each image is. -/
import Derived.Test.YtpjlgcohafbbdaaProg
import Derived.Test.YtpjlgcohafbbdaaMem
import Derived.Test.YtpjlgcohafbbdaaW3
import Derived.Test.YtpjlgcohafbbdaaSw
import Derived.Test.YtpjlgcohafbbdaaN1
import Derived.Test.YtpjlgcohafbbdaaN2
import Derived.Test.YtpjlgcohafbbdaaN3
import Derived.Test.YtpjlgcohafbbdaaN4
import Derived.WalkKit
import Derived.KernelRfl
import Derived.Lib.Hide
import Derived.Maps.Own
import Derived.Maps.OwnOps
import Derived.Maps.OwnSet
import Derived.Maps.Views
namespace Go.Proofs.Ytpjlgcohafbbdaa
open Go.RowKit Go.Maps
set_option linter.unusedVariables false
set_option linter.unusedSimpArgs false

theorem lawI : Keyed Try.prog 3 := int_keyed Try.underlying3
theorem zeroI (w : World) : (zeroValue 3).run Try.prog w = .ok (.int .i64 0) w := by kernel_rfl
/-- Block B is a map of at most n entries: it holds, at the number of each image found, how many switches lead there, and nothing else. -/
def FarM (w : World) (B n : Nat) (L : List (Vx Img Sw)) : Prop :=
  ∃ D : DataW Unit, w.ownsMap Try.prog 3 (plainElem Try.prog 3) B n D ∧
    (∀ (k : Nat) (v : Vx Img Sw), L[k]? = some v → D.atKey (.int .i64 (keyR v.x)) (.lit (.int .i64 0)) = .lit (.int .i64 v.w.length) ∧ Maps.has D (.int .i64 (keyR v.x)) = true) ∧
    (∀ z : Int, Maps.has D (.int .i64 z) = true → ∃ (k : Nat) (v : Vx Img Sw), L[k]? = some v ∧ keyR v.x = z)
theorem wfI {z : Int} (h : 0 ≤ z ∧ z < 1000000) : (Lit.int .i64 z).wf = true := by
  simp [Lit.wf, IntKind.min, IntKind.max, IntKind.signed, IntKind.bits]; omega
theorem keyI {z : Int} (h : 0 ≤ z ∧ z < 1000000) : keyOf Try.prog 3 (.int .i64 z) = some (.int .i64 z) := keyOf_int_mk Try.underlying3 (wfI h)
section
variable {w w' : World} {B n : Nat} {L : List (Vx Img Sw)}
theorem FarM.made (w : World) : FarM (w.alloc (.map #[] 0)) w.heap.size 0 [] :=
  ⟨_, World.ownsMap_made _ _ _ _, fun k v hv => by simp at hv, fun z hz => by simp [Maps.has] at hz⟩
theorem FarM.kept {row : Option Nat} (h : FarM w B n L) (hg : w.grownBy w' row) (hne : some B ≠ row) : FarM w' B n L := by
  obtain ⟨D, h1, h2⟩ := h
  exact ⟨D, h1.kept hg hne, h2⟩
theorem FarM.new (h : FarM w B n L) (hb : Below w.heap.size w w') : FarM w' B n L := h.kept (row := none) ⟨hb.os, hb.tape, hb.output, hb.size, fun k hk _ => hb.block k hk⟩ (by simp)
theorem FarM.alloc (h : FarM w B n L) (o : Obj) : FarM (w.alloc o) B n L := h.new ((Below.refl _ _).alloc (Nat.le_refl _) _)
theorem FarM.drew (h : FarM w B n L) : FarM w.drew B n L := h
theorem FarM.lt (h : FarM w B n L) : B < w.heap.size := by obtain ⟨D, h1, _⟩ := h; exact h1.lt
theorem FarM.mono {n' : Nat} (h : FarM w B n L) (hn : n ≤ n') : FarM w B n' L := by obtain ⟨D, h1, h2⟩ := h; exact ⟨D, h1.mono hn, h2⟩
/-- m[k] at an image found. -/
theorem FarM.look (h : FarM w B n L) {k : Nat} {v : Vx Img Sw} (hk : L[k]? = some v) (hb : 0 ≤ keyR v.x ∧ keyR v.x < 1000000) : (Instr.lookup 52 (.map (some B)) (.int .i64 (keyR v.x)) false).run Try.prog w = .ok (.int .i64 v.w.length) w := by
  obtain ⟨D, h1, h2, h3⟩ := h
  obtain ⟨c, q1, q2, q3⟩ := h1.lookup_int lawI Try.underlying52 Try.underlying3 (zeroI _) (keyI hb)
  rw [(h2 k v hk).1] at q2
  injection q2 with q2; injection q2 with _ q2
  rw [q1, ← q2]
/-- v, ok := m[k] at an image found. -/
theorem FarM.look_yes (h : FarM w B n L) {k : Nat} {v : Vx Img Sw} (hk : L[k]? = some v) (hb : 0 ≤ keyR v.x ∧ keyR v.x < 1000000) : (Instr.lookup 52 (.map (some B)) (.int .i64 (keyR v.x)) true).run Try.prog w = .ok (.tuple #[.int .i64 v.w.length, .bool true]) w := by
  obtain ⟨D, h1, h2, h3⟩ := h
  obtain ⟨u, ps, q1, q2⟩ := h1.look_ok lawI Try.underlying52 (zeroI _) (plainElem_int Try.underlying3 (by decide)) (keyI hb)
  rw [(h2 k v hk).1] at q2
  obtain ⟨c, rfl, hc, _⟩ := plainElem_int_inv Try.underlying3 q2
  injection hc with hc _
  injection hc with hc
  injection hc with _ hc
  rw [q1, (h2 k v hk).2, hc]
/-- .. at one that has not been found. -/
theorem FarM.look_no (h : FarM w B n L) {g : Img} (hg : ∀ (k : Nat) (v : Vx Img Sw), L[k]? = some v → keyR v.x ≠ keyR g) (hb : 0 ≤ keyR g ∧ keyR g < 1000000) : ∃ c : Int, (Instr.lookup 52 (.map (some B)) (.int .i64 (keyR g)) true).run Try.prog w = .ok (.tuple #[.int .i64 c, .bool false]) w := by
  obtain ⟨D, h1, h2, h3⟩ := h
  obtain ⟨u, ps, q1, q2⟩ := h1.look_ok lawI Try.underlying52 (zeroI _) (plainElem_int Try.underlying3 (by decide)) (keyI hb)
  obtain ⟨c, rfl, _, _⟩ := plainElem_int_inv Try.underlying3 q2
  have hh : Maps.has D (.int .i64 (keyR g)) = false := by
    cases hc : Maps.has D (.int .i64 (keyR g)) with
    | false => rfl
    | true =>
      obtain ⟨k, v, hv, e⟩ := h3 _ hc
      exact absurd e (hg k v hv)
  exact ⟨c, by rw [q1, hh]⟩
/-- m[k] = v at one that has not been found. -/
theorem FarM.store (h : FarM w B n L) {x : Vx Img Sw} (hg : ∀ (k : Nat) (v : Vx Img Sw), L[k]? = some v → keyR v.x ≠ keyR x.x) (hb : 0 ≤ keyR x.x ∧ keyR x.x < 1000000) (hn : n < 1000000) (hl : x.w.length < 1000000) :
    ∃ w', (Instr.mapUpdate 52 (.map (some B)) (.int .i64 (keyR x.x)) (.int .i64 x.w.length)).run Try.prog w = .ok () w' ∧ FarM w' B (n + 1) (L ++ [x]) ∧ w.grownBy w' (some B) := by
  obtain ⟨D, h1, h2, h3⟩ := h
  obtain ⟨w', q1, q2, q3⟩ := h1.update lawI Try.underlying52 (by unfold maxLen; omega) (keyI hb) (plainElem_int (H := Unit) Try.underlying3 (wfI (z := (x.w.length : Int)) (by omega)))
  have hM : IsMap D := h1.isMap
  have hK : WideAt.IsKeyLit (.int .i64 (keyR x.x)) := trivial
  refine ⟨w', q1, ⟨_, q2, fun k v hv => ?_, fun z hz => ?_⟩, q3⟩
  · rcases get_snoc hv with hv | ⟨rfl, rfl⟩
    · have hne : (Lit.int .i64 (keyR v.x)) ≠ (Lit.int .i64 (keyR x.x)) := fun e => by injection e with _ e; exact hg k v hv e
      rw [atKey_put_other hne, has_put_other hne]
      exact h2 k v hv
    · exact ⟨atKey_put_same hM hK _ _, has_put_same hM hK _⟩
  · by_cases e : z = keyR x.x
    · exact ⟨L.length, x, by simp, e.symm⟩
    · have hne : (Lit.int .i64 z) ≠ (Lit.int .i64 (keyR x.x)) := fun h => by injection h with _ h; exact e h
      rw [has_put_other hne] at hz
      obtain ⟨k, v, hv, h4⟩ := h3 z hz
      exact ⟨k, v, get_old hv, h4⟩
end
end Go.Proofs.Ytpjlgcohafbbdaa
