/- Words for PathTo of impl: the queue of images and the map beside it. -/
import Derived.Test.YtpjlgcohafbbdaaProg
import Derived.Test.YtpjlgcohafbbdaaMem
import Derived.Test.YtpjlgcohafbbdaaW1
import Derived.Test.YtpjlgcohafbbdaaW3
import Derived.Test.YtpjlgcohafbbdaaW4
import Derived.Test.YtpjlgcohafbbdaaW6
import Derived.Test.YtpjlgcohafbbdaaW8
import Derived.Test.YtpjlgcohafbbdaaW9
import Derived.Test.YtpjlgcohafbbdaaW13
import Derived.Test.YtpjlgcohafbbdaaW19
import Derived.Test.YtpjlgcohafbbdaaW23
import Derived.Test.YtpjlgcohafbbdaaL1
import Derived.Test.YtpjlgcohafbbdaaSw
import Derived.Test.YtpjlgcohafbbdaaR2
import Derived.Test.YtpjlgcohafbbdaaN1
import Derived.Test.YtpjlgcohafbbdaaN2
import Derived.Test.YtpjlgcohafbbdaaN3
import Derived.Test.YtpjlgcohafbbdaaN4
import Derived.Test.YtpjlgcohafbbdaaN6
import Derived.WalkKit
import Derived.KernelRfl
import Derived.Lib.Hide
namespace Go.Proofs.Ytpjlgcohafbbdaa
open Go.RowKit Go.Maps
set_option linter.unusedVariables false
set_option linter.unusedSimpArgs false

/-! ### Images with the same sums -/
theorem sumN_take {f : Nat → Int} : ∀ (l : List Int) (n : Nat), n = l.length → (∀ (k : Nat) (x : Int), l[k]? = some x → f k = x) → sumN n f = l.sum := by
  intro l n hn h
  have key : ∀ m, m ≤ l.length → sumN m f = (l.take m).sum := by
    intro m
    induction m with
    | zero => intro _; rfl
    | succ m ih =>
      intro hm
      obtain ⟨x, hx⟩ := get_of_lt l m (by omega)
      rw [sumN, ih (by omega), take_snoc hx, List.sum_append, h m x hx]; simp
  rw [key n (by omega), hn, List.take_length]
theorem rs_row {g : Img} {R C y : Nat} {r : List Int} (h : Good g R C) (hr : g[y]? = some r) : rsN g C y = r.sum := by
  have hl := (good_rows h r (List.mem_of_getElem? hr)).1
  exact sumN_take r C hl.symm (fun k x hx => cellN_get hr hx)
theorem good_of {g : Img} (h : imgOk g = true) : Good g g.length (hd g).length := by
  obtain ⟨h1, h2, h3, h4, _⟩ := imgOk_in h
  exact ⟨bits_of_img h, h1, h2, h3, h4⟩
theorem trans_good {g : Img} {R C : Nat} (h : Good g R C) : Good (transR g) C R := by
  have h0 : transR g = mkG C R fun y x => cellN g x y := by unfold transR ifImg; rw [if_pos h.img, h.len, h.hd]
  rw [h0]
  exact ⟨bits_mk fun y x hy hx => h.bits.2 x y hx hy, h.c1, h.c5, h.r1, h.r5⟩
theorem trans_rs {g : Img} {R C x : Nat} (h : Good g R C) (hx : x < C) : rsN (transR g) R x = csN g R x := by
  have h0 : transR g = mkG C R fun y x => cellN g x y := by unfold transR ifImg; rw [if_pos h.img, h.len, h.hd]
  rw [h0]
  exact sumN_congr R fun y hy => cell_mk hx hy
theorem rows_eq {g h : Img} {R C : Nat} (hg : Good g R C) (hh : Good h R C) (e : eqI (rowSumsR g) (rowSumsR h) = true) : ∀ y, y < R → rsN g C y = rsN h C y := by
  have e' : rowSumsR g = rowSumsR h := by simpa [eqI] using e
  unfold rowSumsR at e'
  rw [if_pos hg.img, if_pos hh.img] at e'
  intro y hy
  obtain ⟨r, hr, _⟩ := shape_row hg.bits.1 hy
  obtain ⟨s, hs, _⟩ := shape_row hh.bits.1 hy
  rw [rs_row hg hr, rs_row hh hs]
  have := congrArg (fun l => l[y]?) e'
  simp only [List.getElem?_map, hr, hs, Option.map_some] at this
  injection this
theorem sums_same {g t : Img} (h : sumsF g t = true) : Good g g.length (hd g).length ∧ Good t g.length (hd g).length ∧ SameN g t g.length (hd g).length := by
  simp only [sumsF, Bool.and_eq_true] at h
  obtain ⟨⟨h1, h2⟩, h3⟩ := h
  obtain ⟨i1, i2, i3, i4⟩ := sameF_in h1
  have hg := good_of i1
  have ht := good_of i2
  rw [← i3, ← i4] at ht
  refine ⟨hg, ht, rows_eq hg ht h2, fun x hx => ?_⟩
  have := rows_eq (trans_good hg) (trans_good ht) h3 x hx
  rwa [trans_rs hg hx, trans_rs ht hx] at this

/-! ### The queue -/
def XQ (B : Nat) (Q : Value) (b : Nat) : Prop := b ≠ B ∧ Q.ownBlock ≠ some b
structure BfsS (w : World) (B : Nat) (Q : Value) (us : List Value) (L : List (Vx Img Sw)) (R C : Nat) : Prop where
  far : FarM w B L.length L
  hQ : Ow w (B + 1) w.heap.size 23 Q us
  len : us.length = L.length
  el : ∀ (k : Nat) (u : Value) (v : Vx Img Sw), us[k]? = some u → L[k]? = some v → RdPG (XQ B Q) w u v.x
  good : ∀ (k : Nat) (v : Vx Img Sw), L[k]? = some v → Good v.x R C
theorem keep_new {X : Nat → Prop} {w w' : World} (hb : Below w.heap.size w w') : KeepP X X w w' := fun b h hx => ⟨hb.block b h, hx⟩
section
variable {w w' w2 w3 : World} {B R C n : Nat} {Q Q' u : Value} {us : List Value} {L : List (Vx Img Sw)} {x : Vx Img Sw}
theorem BfsS.new (h : BfsS w B Q us L R C) (hb : Below w.heap.size w w') : BfsS w' B Q us L R C :=
  ⟨h.far.new hb, (h.hQ.new hb).mono (Nat.le_refl _) hb.size, h.len, fun k u v hu hv => (h.el k u v hu hv).move (keep_new hb), h.good⟩
theorem BfsS.push (h : BfsS w B Q us L R C) (hx : RdPG (XQ B Q) w u x.x) (hg : Good x.x R C) (hm : FarM w2 B (L.length + 1) (L ++ [x])) (hw2 : w.grownBy w2 (some B)) {o : Obj} (own3 : w3.ownsRow (B + 1) 23 1 Q' n (us ++ [u])) (hg3 : (w2.alloc o).grownBy w3 Q.ownBlock) (hnew : Q'.ownBlock = Q.ownBlock ∨ Q'.ownBlock = some (w2.alloc o).heap.size) :
    BfsS w3 B Q' (us ++ [u]) (L ++ [x]) R C ∧ KeepP (XQ B Q) (XQ B Q') w w3 := by
  have s2 : (w2.alloc o).heap.size = w2.heap.size + 1 := by simp
  have s1 := hw2.size
  have hk : KeepP (XQ B Q) (XQ B Q') w w3 := fun b hb hx => by
    obtain ⟨h1, h2⟩ := hx
    have e1 := hw2.block b hb (fun e => h1 (by injection e))
    have e2 : (w2.alloc o).heap[b]? = w2.heap[b]? := ((Below.refl w2.heap.size w2).alloc (Nat.le_refl _) o).block b (by omega)
    have e3 := hg3.block b (by omega) (fun e => h2 e.symm)
    refine ⟨e3.trans (e2.trans e1), h1, ?_⟩
    rcases hnew with e | e
    · rw [e]; exact h2
    · rw [e]; intro hh; injection hh with hh; omega
  have hBne : some B ≠ Q.ownBlock := fun e => by have := (h.hQ.blk e.symm).1; omega
  refine ⟨⟨?_, Ow.of_top own3, by simp [h.len], fun k a v ha hv => ?_, fun k v hv => ?_⟩, hk⟩
  · rw [List.length_append, List.length_singleton]
    exact (hm.alloc o).kept hg3 hBne
  · by_cases hkl : k < us.length
    · rw [List.getElem?_append_left hkl] at ha
      rw [List.getElem?_append_left (by rw [← h.len]; exact hkl)] at hv
      exact (h.el k a v ha hv).move hk
    · have hk2 : k = us.length := by
        have := (List.getElem?_eq_some_iff.1 ha).1
        simp at this; omega
      subst hk2
      rw [h.len] at hv
      simp at ha hv
      subst ha; subst hv
      exact hx.move hk
  · rcases get_snoc hv with hv | ⟨_, rfl⟩
    · exact h.good k v hv
    · exact hg
end
theorem dist_tail {α β : Type} {L : List (Vx α β)} {i j : Nat} {nb : α → List (β × α)} {m : α} (h : InvB nb m L i j) : ∀ (n k : Nat) (v : Vx α β), k < n → L[k]? = some v → v.w.length ≤ k := by
  intro n
  induction n with
  | zero => intro k v hn; omega
  | succ n ih =>
    intro k v hn hk
    by_cases k0 : k = 0
    · subst k0; rw [h.start] at hk; injection hk with hk; subst hk; simp
    · obtain ⟨u, e, q1, _, _, q4, q5, _⟩ := h.came k v hk (by omega)
      have := ih v.p u (by omega) q1
      rw [q4, List.length_append]; simp; omega
end Go.Proofs.Ytpjlgcohafbbdaa
