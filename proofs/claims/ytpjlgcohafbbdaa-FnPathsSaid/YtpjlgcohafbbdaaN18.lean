/- Plain law for Paths: the distance of two images; images with the same cell sums have the same sums; the way leads from the one to the other. No program in sight. -/
import Derived.Test.YtpjlgcohafbbdaaW3
import Derived.Test.YtpjlgcohafbbdaaW6
import Derived.Test.YtpjlgcohafbbdaaW8
import Derived.Test.YtpjlgcohafbbdaaW9
import Derived.Test.YtpjlgcohafbbdaaW13
import Derived.Test.YtpjlgcohafbbdaaW19
import Derived.Test.YtpjlgcohafbbdaaW23
import Derived.Test.YtpjlgcohafbbdaaW25
import Derived.Test.YtpjlgcohafbbdaaW30
import Derived.Test.YtpjlgcohafbbdaaW33
import Derived.Test.YtpjlgcohafbbdaaL1
import Derived.Test.YtpjlgcohafbbdaaN1
import Derived.Test.YtpjlgcohafbbdaaN2
import Derived.Test.YtpjlgcohafbbdaaN3
import Derived.Test.YtpjlgcohafbbdaaN7
import Derived.Test.YtpjlgcohafbbdaaN8
import Derived.Test.YtpjlgcohafbbdaaN13
import Derived.Test.YtpjlgcohafbbdaaN17
namespace Go.Proofs.Ytpjlgcohafbbdaa
set_option linter.unusedVariables false
set_option linter.unusedSimpArgs false

theorem sumN_range (f : Nat → Int) : ∀ n : Nat, ((List.range n).map f).sum = sumN n f
  | 0 => rfl
  | n + 1 => by rw [List.range_succ, List.map_append, List.sum_append, sumN_range f n, sumN]; simp
theorem good_same {g h : Img} {R C : Nat} (hg : Good g R C) (hh : Good h R C) : sameF g h = true :=
  sameF_5 hg.img hh.img (hg.len.trans hh.len.symm) (hg.hd.trans hh.hd.symm)
theorem dist_dN {g h : Img} {R C : Nat} (hg : Good g R C) (hh : Good h R C) : distR g h = dN g h R C := by
  rw [distR_yes (good_same hg hh), hg.len, hg.hd]
  unfold dAll dN
  rw [sumN_range]
  refine sumN_congr R fun y _ => ?_
  unfold dRow
  rw [sumN_range]
  rfl
theorem rows_mk {g h : Img} {R C : Nat} (hg : Good g R C) (hh : Good h R C) (e : ∀ y, y < R → rsN g C y = rsN h C y) : eqI (rowSumsR g) (rowSumsR h) = true := by
  have e' : rowSumsR g = rowSumsR h := by
    unfold rowSumsR
    rw [if_pos hg.img, if_pos hh.img]
    refine List.ext_getElem? fun y => ?_
    rw [List.getElem?_map, List.getElem?_map]
    by_cases hy : y < R
    · obtain ⟨r, hr, _⟩ := shape_row hg.bits.1 hy
      obtain ⟨s, hs, _⟩ := shape_row hh.bits.1 hy
      rw [hr, hs]
      simp only [Option.map_some]
      rw [← rs_row hg hr, ← rs_row hh hs, e y hy]
    · have := hg.len; have := hh.len
      rw [List.getElem?_eq_none (by omega), List.getElem?_eq_none (by omega)]
  rw [e']; simp [eqI]
theorem sums_mk {g t : Img} {R C : Nat} (hg : Good g R C) (ht : Good t R C) (hs : SameN g t R C) : sumsF g t = true := by
  rw [sumsF_3 (good_same hg ht) (rows_mk hg ht hs.1)]
  exact rows_mk (trans_good hg) (trans_good ht) fun x hx => by rw [trans_rs hg hx, trans_rs ht hx, hs.2 x hx]
theorem ok_mk {g t : Img} {R C : Nat} (hg : Good g R C) (ht : Good t R C) (hs : SameN g t R C) (h4 : R ≤ 4) (h5 : C ≤ 4) : okP g t = true :=
  okP_4 (sums_mk hg ht hs) (by rw [hg.len]; exact h4) (by rw [hg.hd]; exact h5)
theorem way_next {g t : Img} {R C : Nat} {s : Sw} {l : List Sw} (hg : Good g R C) (hs : SameN g t R C) (h : WayP g t (s :: l)) :
    swOk g s.1 s.2.1 s.2.2.1 s.2.2.2 = true ∧ WayP (swR g s.1 s.2.1 s.2.2.1 s.2.2.2) t l ∧ Good (swR g s.1 s.2.1 s.2.2.1 s.2.2.2) R C ∧ SameN (swR g s.1 s.2.1 s.2.2.1 s.2.2.2) t R C := by
  obtain ⟨N, h1, h2⟩ := way_step h
  have h3 := h1
  unfold nbI at h3
  obtain ⟨s', hs', e⟩ := List.mem_map.1 h3
  injection e with e1 e2
  subst e1
  obtain ⟨j, hj⟩ := List.mem_iff_getElem?.1 hs'
  obtain ⟨g1, g2, _⟩ := nb_good hg h1
  simp only at g1 g2
  rw [← e2] at g1 g2 h2
  exact ⟨sws_ok hg hj, h2, g1, g2.trans hs⟩
theorem way_steps {t : Img} {R C : Nat} : ∀ (l : List Sw) (g : Img), Good g R C → SameN g t R C → WayP g t l → steps g l = some t
  | [], g, _, _, h => by rw [way_nil h]; rfl
  | s :: l, g, hg, hs, h => by
    obtain ⟨h1, h2, h3, h4⟩ := way_next hg hs h
    rw [steps, step1, if_pos h1, Option.bind_some]
    exact way_steps l _ h3 h4 h2
theorem way_all {g t : Img} {R C : Nat} {l : List Sw} (hg : Good g R C) (hs : SameN g t R C) (h : WayP g t l) (h8 : l.length ≤ 8) : allOk g l = true ∧ allR g l = t := by
  have h1 := way_steps l g hg hs h
  have h2 : allOk g l = true := by
    unfold allOk
    rw [hg.img, h1]
    have : l.length ≤ 60 := by omega
    simp [this]
  exact ⟨h2, allR_yes h2 h1⟩
/-- The way at the start. -/
theorem way_start {g t : Img} {R C : Nat} (hg : Good g R C) (ht : Good t R C) (hs : SameN g t R C) (h4 : R ≤ 4) (h5 : C ≤ 4) : WayP g t (pathC g t) := by
  have hk := ok_mk hg ht hs h4 h5
  obtain ⟨p, hp⟩ := way_ex hk
  rw [path_yes hk hp]; exact hp
theorem next_cons {g t : Img} {R C : Nat} {s : Sw} {l : List Sw} (hg : Good g R C) (ht : Good t R C) (hs : SameN g t R C) (h4 : R ≤ 4) (h5 : C ≤ 4) (h : WayP g t (s :: l)) : pathC g t = s :: l := path_yes (ok_mk hg ht hs h4 h5) h
/-- What the law asks of the two images. -/
theorem paths_len {g t : Img} {R C : Nat} (hg : Good g R C) (ht : Good t R C) (hs : SameN g t R C) (h4 : R ≤ 4) (h5 : C ≤ 4) :
    (pathC t g).length = (pathC g t).length ∧ 2 * ((pathC g t).length : Int) ≤ distR g t ∧ distR g t ≤ 4 * ((pathC g t).length : Int) := by
  have h1 := way_start hg ht hs h4 h5
  have h2 := way_start ht hg hs.symm h4 h5
  obtain ⟨h3, h6⟩ := way_len hg ht hs h1
  rw [dist_dN hg ht]
  exact ⟨way_sym ht hg h2 h1, h3, h6⟩
end Go.Proofs.Ytpjlgcohafbbdaa
