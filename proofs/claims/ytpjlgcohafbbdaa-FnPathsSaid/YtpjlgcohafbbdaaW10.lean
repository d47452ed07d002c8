/- The walks of the laws over images: ImageOk, CellAt, CountBlack, EmptyImage, RowSums. -/
import Derived.Test.YtpjlgcohafbbdaaProg
import Derived.Test.YtpjlgcohafbbdaaW1
import Derived.Test.YtpjlgcohafbbdaaW3
import Derived.Test.YtpjlgcohafbbdaaW4
import Derived.Test.YtpjlgcohafbbdaaW6
import Derived.Test.YtpjlgcohafbbdaaW8
import Derived.Test.YtpjlgcohafbbdaaW9
import Derived.Test.YtpjlgcohafbbdaaMem
import Derived.WalkKit
import Derived.WalkSpells
import Derived.WalkLawsBesides
import Derived.KernelRfl
import Derived.Lib.Hide
namespace Go.Proofs.Ytpjlgcohafbbdaa
open Go.RowKit
set_option linter.unusedVariables false
set_option linter.unusedSimpArgs false

theorem eqIntSS_b (g h : List (List Int)) (v u : Value) (w : World) (a b a' b' : Nat) (hr : RdG w a b v g) (hs : RdG w a' b' u h) :
    Calls Try.prog 18 #[v, u] w fun e w' => e = .returned (.bool (eqG g h)) ∧ Below w.heap.size w w' :=
  (eqIntSS_walk g h v u w a b a' b' hr hs).mono fun _ _ ⟨h1, h2⟩ => ⟨h1, h2.below _⟩
theorem short_total {g : List (List Int)} (h : imgOk g = true) : total g ≤ 25 := by
  obtain ⟨h1, h2, h3, h4, h5⟩ := imgOk_in h
  have key : ∀ m : List (List Int), (∀ r ∈ m, r.length ≤ 5) → total m ≤ 5 * m.length := by
    intro m
    induction m with
    | nil => intro _; simp [total]
    | cons r t ih =>
      intro hm
      have e1 := hm r (by simp)
      have e2 := ih (fun s hs => hm s (by simp [hs]))
      simp only [total, List.map_cons, List.sum_cons, List.length_cons] at e2 ⊢
      omega
  have := key g (fun r hr => by rw [(h5 r hr).1]; omega)
  omega
/-- What fits the laws' bound has few cells. -/
theorem sz_total {g : List (List Int)} {left q : Int} (h : q = szG g left) (h0 : 0 ≤ q) (h1 : left ≤ 1048576) : total g ≤ 1048576 := by
  unfold szG at h
  split at h <;> omega
theorem zeros_total (r c : Nat) : total (zeros r c) = r * c := by simp [total, zeros]
theorem emptyF_total (rows cols : Int) : total (emptyF rows cols) ≤ 25 := by
  unfold emptyF
  split
  · rename_i h
    rw [zeros_total]
    have h2 : inB rows 1 5 = true ∧ inB cols 1 5 = true := by simpa [sizeOk] using h
    have e1 := inB_true h2.1
    have e2 := inB_true h2.2
    have : rows.toNat * cols.toNat ≤ 5 * 5 := Nat.mul_le_mul (by omega) (by omega)
    omega
  · simp [total]
theorem rowSumsR_len (g : List (List Int)) : (rowSumsR g).length ≤ 5 := by
  unfold rowSumsR
  split
  · rename_i h; have := imgOk_in h; simp; omega
  · simp

end Go.Proofs.Ytpjlgcohafbbdaa
