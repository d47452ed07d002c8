/- Plain law: there is one way down. PathTo of both sides hands back the same list. -/
import Derived.Test.YtpjlgcohafbbdaaProg
import Derived.Test.YtpjlgcohafbbdaaW1
import Derived.Test.YtpjlgcohafbbdaaW3
import Derived.Test.YtpjlgcohafbbdaaW23
import Derived.Test.YtpjlgcohafbbdaaSw
import Derived.Test.YtpjlgcohafbbdaaN1
import Derived.Test.YtpjlgcohafbbdaaN2
import Derived.Test.YtpjlgcohafbbdaaN3
import Derived.Test.YtpjlgcohafbbdaaN4
import Derived.Test.YtpjlgcohafbbdaaN7
import Derived.Test.YtpjlgcohafbbdaaN8
import Derived.Test.YtpjlgcohafbbdaaN12
import Derived.Test.YtpjlgcohafbbdaaMem
namespace Go.Proofs.Ytpjlgcohafbbdaa
open Go.RowKit
set_option linter.unusedVariables false
set_option linter.unusedSimpArgs false

theorem far_walk {t : Img} {S : Img → Prop} {D : Img → Nat} (F : FarB nbI t S D) : ∀ (n : Nat) (x : Img), S x → D x = n → ReachI n x t := by
  intro n
  induction n with
  | zero =>
    intro x hx hD
    have := F.only x hx hD
    subst this
    exact .here _
  | succ n ih =>
    intro x hx hD
    obtain ⟨q, e, h1, h2⟩ := F.down x hx (by omega)
    exact .step (List.mem_of_getElem? h1) (ih e.2 (F.lip x q e hx h1).1 (by omega))
theorem far_eq {t : Img} {S S' : Img → Prop} {D D' : Img → Nat} (F : FarB nbI t S D) (F' : FarB nbI t S' D') {x : Img} (h : S x) (h' : S' x) : D x = D' x :=
  Nat.le_antisymm (far_reach F (far_walk F' (D' x) x h' rfl) h) (far_reach F' (far_walk F (D x) x h rfl) h')
theorem find_congr {γ : Type} {p q : γ → Bool} : ∀ (l : List γ), (∀ e ∈ l, p e = q e) → l.find? p = l.find? q
  | [], _ => rfl
  | a :: l, h => by
    rw [List.find?_cons, List.find?_cons, h a (by simp), find_congr l fun e he => h e (by simp [he])]
theorem gr_eq {t : Img} {S S' : Img → Prop} {D D' : Img → Nat} (F : FarB nbI t S D) (F' : FarB nbI t S' D') : ∀ (n : Nat) (x : Img), S x → S' x → grB nbI D n x = grB nbI D' n x := by
  intro n
  induction n with
  | zero => intro x _ _; rfl
  | succ n ih =>
    intro x h h'
    have hl : lowB nbI D x = lowB nbI D' x := by
      unfold lowB
      refine find_congr _ fun e he => ?_
      obtain ⟨q, hq⟩ := List.mem_iff_getElem?.1 he
      rw [far_eq F F' h h', far_eq F F' (F.lip x q e h hq).1 (F'.lip x q e h' hq).1]
    rw [grB, grB, hl]
    cases hc : lowB nbI D' x with
    | none => rfl
    | some e =>
      have he : e ∈ nbI x := List.mem_of_find?_eq_some hc
      obtain ⟨q, hq⟩ := List.mem_iff_getElem?.1 he
      simp only
      rw [ih e.2 (F.lip x q e h hq).1 (F'.lip x q e h' hq).1]
theorem way_one {g t : Img} {p p' : List Sw} (h : WayP g t p) (h' : WayP g t p') : p = p' := by
  obtain ⟨S, D, F, hs, rfl⟩ := h
  obtain ⟨S', D', F', hs', rfl⟩ := h'
  rw [gr_eq F F' (D g) g hs hs', far_eq F F' hs hs']
open Classical in
/-- The way from g to t. -/
noncomputable def pathC (g t : Img) : List Sw := if h : okP g t = true ∧ ∃ p, WayP g t p then Classical.choose h.2 else []
theorem path_no {g t : Img} (h : okP g t = false) : pathC g t = [] := by
  unfold pathC; rw [dif_neg (fun hh => by rw [h] at hh; exact absurd hh.1 (by simp))]
theorem path_yes {g t : Img} {p : List Sw} (h : okP g t = true) (hp : WayP g t p) : pathC g t = p := by
  have hh : okP g t = true ∧ ∃ p, WayP g t p := ⟨h, p, hp⟩
  unfold pathC; rw [dif_pos hh]
  exact way_one (Classical.choose_spec hh.2) hp
/-- There is a way, where the images have the same sums: at most half as many switches as cells differ, at least a quarter. -/
theorem way_len {g t : Img} {R C : Nat} {p : List Sw} (hg : Good g R C) (ht : Good t R C) (hs : SameN g t R C) (hp : WayP g t p) : 2 * (p.length : Int) ≤ dN g t R C ∧ dN g t R C ≤ 4 * (p.length : Int) := by
  obtain ⟨S, D, F, hS, rfl⟩ := hp
  rw [gr_len F (D g) g hS rfl]
  obtain ⟨k, h1, h2⟩ := joined (dN g t R C).toNat g t hg ht hs (by have := dN_nonneg g t R C; omega)
  have h3 := far_reach F h2 hS
  exact ⟨by omega, reach_dist (far_walk F (D g) g hS rfl) hg⟩
theorem dN_le {g h : Img} {R C : Nat} (hR : R ≤ 4) (hC : C ≤ 4) : dN g h R C ≤ 16 := by
  have h1 : ∀ (n : Nat) (f : Nat → Int) (m : Int), 0 ≤ m → (∀ x, f x ≤ m) → sumN n f ≤ n * m := by
    intro n f m hm hf
    induction n with
    | zero => simp [sumN]
    | succ n ih => rw [sumN]; have := hf n; push_cast; rw [Int.add_mul]; omega
  have h2 : ∀ y, (sumN C fun x => dc g h y x) ≤ 4 := fun y => by
    have := h1 C (fun x => dc g h y x) 1 (by decide) (fun x => by unfold dc; split <;> omega)
    omega
  have := h1 R (fun y => sumN C fun x => dc g h y x) 4 (by decide) h2
  unfold dN
  omega
theorem path_short (g t : Img) : (pathC g t).length ≤ 8 := by
  by_cases h : okP g t = true ∧ ∃ p, WayP g t p
  · obtain ⟨h1, p, hp⟩ := h
    rw [path_yes h1 hp]
    have h1' := h1
    simp only [okP, smallF, Bool.and_eq_true, decide_eq_true_eq] at h1'
    obtain ⟨hg, ht, hs⟩ := sums_same h1'.1
    have := (way_len hg ht hs hp).1
    have := dN_le (g := g) (h := t) h1'.2.1 h1'.2.2
    omega
  · unfold pathC; rw [dif_neg h]; simp
/-- The post of PathTo, said with the one list. -/
def RetSB (w : World) (l : List Sw) (ok : Bool) (e : Ending) (w' : World) : Prop := ∃ v, e = .returned (.tuple #[v, .bool ok]) ∧ OwS w' w.heap.size w'.heap.size 32 v l ∧ Below w.heap.size w w'
def RetRB (w : World) (l : List Sw) (ok : Bool) (e : Ending) (w' : World) : Prop := ∃ v, e = .returned (.tuple #[v, .bool ok]) ∧ RdS w' 0 w'.heap.size v l ∧ Below w.heap.size w w'
theorem impl_PathTo' (g t : Img) (v u : Value) (w : World) (a b a' b' : Nat) (hr : RdG w a b v g) (hs : RdG w a' b' u t) :
    Calls Try.prog 7 #[v, u] w (RetSB w (pathC g t) (okP g t)) :=
  (impl_PathTo g t v u w a b a' b' hr hs).mono fun e w' ⟨x, p, h1, h2, h3, h4, h5⟩ => by
    refine ⟨x, h1, ?_, h5⟩
    cases hk : okP g t with
    | true => rw [path_yes hk (h2 hk)]; exact h4
    | false => rw [path_no hk, ← h3 hk]; exact h4
theorem least_ex {p : Nat → Prop} : ∀ (n : Nat), p n → ∃ m, p m ∧ ∀ k, p k → m ≤ k := by
  intro n
  induction n using Nat.strongRecOn with
  | ind n ih =>
    intro hn
    by_cases h : ∃ k, k < n ∧ p k
    · obtain ⟨k, h1, h2⟩ := h
      exact ih k h1 h2
    · exact ⟨n, hn, fun k hk => by
        rcases Nat.lt_or_ge k n with h1 | h1
        · exact absurd ⟨k, h1, hk⟩ h
        · exact h1⟩
/-- Wherever PathTo is fine there is a way. -/
theorem way_ex {g t : Img} (h : okP g t = true) : ∃ p, WayP g t p := by
  have h' := h
  simp only [okP, smallF, Bool.and_eq_true, decide_eq_true_eq] at h'
  obtain ⟨hg, ht, hs⟩ := sums_same h'.1
  obtain ⟨R, hR⟩ : ∃ R, R = g.length := ⟨_, rfl⟩
  obtain ⟨C, hC⟩ : ∃ C, C = (hd g).length := ⟨_, rfl⟩
  rw [← hR, ← hC] at hg ht hs
  have hD : ∃ D : Img → Nat, ∀ x n, ReachI n x t → ReachI (D x) x t ∧ D x ≤ n := by
    have : ∀ x : Img, ∃ d : Nat, ∀ n, ReachI n x t → ReachI d x t ∧ d ≤ n := fun x => by
      by_cases hx : ∃ n, ReachI n x t
      · obtain ⟨n, hn⟩ := hx
        obtain ⟨m, h1, h2⟩ := least_ex (p := fun n => ReachI n x t) n hn
        exact ⟨m, fun n hn => ⟨h1, h2 n hn⟩⟩
      · exact ⟨0, fun n hn => absurd ⟨n, hn⟩ hx⟩
    exact ⟨fun x => Classical.choose (this x), fun x => Classical.choose_spec (this x)⟩
  obtain ⟨D, hD⟩ := hD
  have F : FarB nbI t (fun x => Good x R C ∧ ∃ n, ReachI n x t) D := by
    refine ⟨⟨ht, 0, .here _⟩, by have := (hD t 0 (.here _)).2; omega, ?_, ?_, ?_⟩
    · rintro x ⟨_, n, hn⟩ h0
      have := (hD x n hn).1
      rw [h0] at this
      cases this
      rfl
    · rintro x ⟨hx, n, hn⟩ h0
      have h1 := (hD x n hn).1
      obtain ⟨m, hm⟩ : ∃ m, D x = m + 1 := ⟨D x - 1, by omega⟩
      rw [hm] at h1
      cases h1 with
      | step he k =>
        rename_i e
        obtain ⟨q, hq⟩ := List.mem_iff_getElem?.1 he
        refine ⟨q, e, hq, ?_⟩
        have h2 := hD e.2 m k
        have h3 := (hD x _ (.step he h2.1)).2
        omega
    · rintro x q e ⟨hx, n, hn⟩ he
      have hm := List.mem_of_getElem? he
      obtain ⟨g1, _, g3⟩ := nb_good hx hm
      have h1 : ReachI (n + 1) e.2 t := .step g3 hn
      exact ⟨⟨g1, _, h1⟩, (hD x _ (.step hm (hD e.2 _ h1).1)).2⟩
  obtain ⟨k, _, hk⟩ := joined (dN g t R C).toNat g t hg ht hs (by have := dN_nonneg g t R C; omega)
  exact ⟨_, _, D, F, ⟨hg, k, hk⟩, rfl⟩
theorem spec_PathTo' (g t : Img) (v u : Value) (w : World) (a b a' b' : Nat) (hr : RdG w a b v g) (hs : RdG w a' b' u t) :
    Calls Try.prog 19 #[v, u] w (RetRB w (pathC g t) (okP g t)) :=
  (spec_PathTo g t v u w a b a' b' hr hs).mono fun e w' ⟨x, p, h1, h2, h3, h4, _, h5⟩ => by
    refine ⟨x, h1, ?_, h5⟩
    cases hk : okP g t with
    | true =>
      obtain ⟨q, S, D, F, hS, rfl⟩ := way_ex hk
      have e := h2 hk S D F hS
      rw [path_yes hk ⟨S, D, F, hS, rfl⟩, ← e]; exact h4
    | false => rw [path_no hk, ← h3 hk]; exact h4
end Go.Proofs.Ytpjlgcohafbbdaa
