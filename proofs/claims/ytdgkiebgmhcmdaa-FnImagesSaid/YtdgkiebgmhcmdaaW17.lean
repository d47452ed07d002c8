/- slices.Reverse over an owned row; MirrorOf. -/
import Derived.Test.YtdgkiebgmhcmdaaProg
import Derived.Test.YtdgkiebgmhcmdaaW1
import Derived.Test.YtdgkiebgmhcmdaaW3
import Derived.Test.YtdgkiebgmhcmdaaW4
import Derived.Test.YtdgkiebgmhcmdaaW6
import Derived.Test.YtdgkiebgmhcmdaaW8
import Derived.Test.YtdgkiebgmhcmdaaW9
import Derived.Test.YtdgkiebgmhcmdaaW13
import Derived.Test.YtdgkiebgmhcmdaaMem
import Derived.Test.YtdgkiebgmhcmdaaPoke
import Derived.WalkKit
import Derived.WalkSpells
import Derived.WalkLawsBesides
import Derived.KernelRfl
import Derived.Lib.Hide
import Derived.Deep.QuietTactic
import Derived.BigQuiet
namespace Go.Proofs.Ytdgkiebgmhcmdaa
open Go.RowKit
set_option linter.unusedVariables false
set_option linter.unusedSimpArgs false

theorem grown_drew' {a w : World} {row : Option Nat} (h : a.grownBy w row) : a.grownBy w.drew row := World.grownBy.trans h ⟨rfl, rfl, rfl, Nat.le_refl _, fun _ _ _ => rfl⟩
/-- L is l with its first k and its last k places reversed. -/
def revI (l L : List Int) (k : Nat) : Prop := L.length = l.length ∧ ∀ x, x < l.length → L[x]? = if x < k ∨ l.length ≤ x + k then l[l.length - 1 - x]? else l[x]?
theorem revI_start (l : List Int) : revI l l 0 := ⟨rfl, fun x hx => by rw [if_neg (by omega)]⟩
theorem revI_step {l L : List Int} {k q : Nat} {a b : Int} (h : revI l L k) (hkq : k + q + 1 = l.length) (hlt : k < q) (ha : L[k]? = some a) (hb : L[q]? = some b) : revI l ((L.set k b).set q a) (k + 1) := by
  have h1 := h.2 k (by omega)
  rw [if_neg (by omega), ha] at h1
  have h2 := h.2 q (by omega)
  rw [if_neg (by omega), hb] at h2
  have hl := h.1
  refine ⟨by simp [h.1], fun x hx => ?_⟩
  by_cases e1 : x = q
  · subst e1
    rw [List.getElem?_set_self (by simp; omega), if_pos (by omega), h1]
    congr 1; omega
  · rw [List.getElem?_set_ne (fun c => e1 c.symm)]
    by_cases e2 : x = k
    · subst e2
      rw [List.getElem?_set_self (by omega), if_pos (by omega), h2]
      congr 1; omega
    · rw [List.getElem?_set_ne (fun c => e2 c.symm), h.2 x hx]
      by_cases e3 : x < k ∨ l.length ≤ x + k
      · rw [if_pos e3, if_pos (by omega)]
      · rw [if_neg e3, if_neg (by omega)]
theorem revI_fin {l L : List Int} {k q : Nat} (h : revI l L k) (hkq : k + q + 1 = l.length) (hge : q ≤ k) : L = l.reverse := by
  refine List.ext_getElem? fun x => ?_
  by_cases hx : x < l.length
  · rw [h.2 x hx, List.getElem?_reverse hx]
    by_cases e : x < k ∨ l.length ≤ x + k
    · rw [if_pos e]
    · rw [if_neg e]; congr 1; omega
  · rw [List.getElem?_eq_none (by have := h.1; omega), List.getElem?_eq_none (by simp; omega)]

set_option maxRecDepth 100000 in
set_option maxHeartbeats 1000000 in
theorem slices_Reverse (l : List Int) (v : Value) (w : World) (a b : Nat) (ho : Ow w a b 3 v (ints l)) :
    Calls Try.prog 66 #[v] w fun e w' => e = .returned (.tuple #[]) ∧ Ow w' a b 3 v (ints l.reverse) ∧ w.grownBy w' v.ownBlock := by
  obtain ⟨A, c, rfl, h1, h2⟩ := ho.form'
  rw [show (ints l).length = l.length by simp [ints]] at h1 ⊢
  rw [show (ints l).length = l.length by simp [ints]] at ho
  by_cases hn : l.length = 0
  · have hl : l = [] := List.eq_nil_of_length_eq_zero hn
    subst hl
    have Ho := Lib.hid ho; clear ho
    go_enter Try.func66, Try.ntmps66
    go_wp2_with fail
    go_loopw [2, 3] (fun i j wr => i = .int .i64 0 ∧ j = .int .i64 (-1) ∧ wr = w) (fun _ _ _ => 0)
    case atStart => exact ⟨rfl, rfl, rfl⟩
    case round =>
      obtain ⟨rfl, rfl, rfl⟩ := hrel
      go_wp2_with fail
      go_end0
      exact ⟨rfl, Ho.out, World.grownBy.refl _ _⟩
  obtain ⟨g, rfl⟩ : ∃ g, A = some ⟨g, 0, none⟩ := by
    obtain ⟨x, hx⟩ := get_of_lt l 0 (by omega)
    obtain ⟨g, hg, _⟩ := ho.at_ (k := 0) (u := .int .i64 x) (by simp [ints, hx])
    exact ⟨g, hg⟩
  have hp : 1 ≤ l.length := by omega
  go_enter Try.func66, Try.ntmps66
  go_wp2_with fail
  go_loopw [2, 3] (fun i j wr => ∃ (k q : Nat) (L : List Int), k + q + 1 = l.length ∧ i = .int .i64 k ∧ j = .int .i64 q ∧ Hid (revI l L k) ∧ Ow wr a b 3 (.slice (some ⟨g, 0, none⟩) l.length c) (ints L) ∧ w.grownBy wr (some g)) (fun i _ _ => l.length - (intOf i).toNat)
  case atStart => exact ⟨0, l.length - 1, l, by omega, rfl, by go_num, Lib.hid (revI_start l), ho, World.grownBy.refl _ _⟩
  case round =>
    clear ho
    obtain ⟨k, q, L, hkq, rfl, rfl, HR, ho, hg⟩ := hrel
    have hLl := HR.out.1
    by_cases hlt : k < q
    · obtain ⟨x, hx⟩ := get_of_lt L k (by omega)
      obtain ⟨y, hy⟩ := get_of_lt L q (by omega)
      obtain ⟨_, e1, _, _, _, hc1, hf1⟩ := ho.at_ (k := k) (u := .int .i64 x) (by simp [ints, hx])
      injection e1 with e1; injection e1 with e1; subst e1
      obtain ⟨_, e1, _, _, _, hc2, hf2⟩ := ho.at_ (k := q) (u := .int .i64 y) (by simp [ints, hy])
      injection e1 with e1; injection e1 with e1; subst e1
      have X := Lib.hid hx; have Y := Lib.hid hy
      clear hx hy
      have i1 : (k : Int) < (l.length : Int) := by omega
      have i2 : (q : Int) < (l.length : Int) := by omega
      have i3 : k ≠ q := by omega
      go_wp2_with fail
      go_region
      go_wp2_with fail
      go_roundw
      case rel =>
        have e1 := Ow.set' (n := l.length) (by simp [ints]; omega) ho k (.int .i64 y)
        rw [ints_set] at e1
        have e2 := Ow.set' (n := l.length) (by simp [ints]; omega) e1 q (.int .i64 x)
        rw [ints_set] at e2
        exact ⟨k + 1, q - 1, _, by omega, by go_num, by go_num, Lib.hid (revI_step HR.out hkq hlt X.out Y.out), e2.drew, grown_drew' (grown_setCell (grown_setCell hg k (.int .i64 y)) q (.int .i64 x))⟩
      case measure => simp [intOf]; omega
    · go_wp2_with fail
      go_end0
      exact ⟨rfl, by rw [← revI_fin HR.out hkq (by omega)]; exact ho, hg⟩

/-- G is g with its first k rows reversed. -/
def revRows (g G : List (List Int)) (k : Nat) : Prop := G.length = g.length ∧ ∀ y, G[y]? = if y < k then (g[y]?).map List.reverse else g[y]?
theorem revRows_start (g : List (List Int)) : revRows g g 0 := ⟨rfl, fun y => by rw [if_neg (by omega)]⟩
theorem revRows_step {g G : List (List Int)} {k : Nat} {r : List Int} (h : revRows g G k) (hr : g[k]? = some r) : revRows g (G.set k r.reverse) (k + 1) := by
  have hk := (List.getElem?_eq_some_iff.1 hr).1
  refine ⟨by rw [List.length_set]; exact h.1, fun y => ?_⟩
  by_cases e : y = k
  · subst e; rw [List.getElem?_set_self (by rw [h.1]; exact hk), if_pos (by omega), hr]; rfl
  · rw [List.getElem?_set_ne (fun c => e c.symm), h.2 y]
    by_cases e2 : y < k
    · rw [if_pos e2, if_pos (by omega)]
    · rw [if_neg e2, if_neg (by omega)]
theorem revRows_fin {g G : List (List Int)} {k R C : Nat} (hs : shape g R C) (h : revRows g G k) (hk : ¬ k < g.length) : G = mkG R C fun y x => cellN g y (C - 1 - x) := by
  refine mk_of ⟨by rw [h.1]; exact hs.1, fun y r hr => ?_⟩ fun y x hy hx => ?_
  · rw [h.2 y] at hr
    split at hr
    · cases e : g[y]? with
      | none => rw [e] at hr; cases hr
      | some s => rw [e] at hr; injection hr with hr; subst hr; rw [List.length_reverse]; exact hs.2 y s e
    · exact hs.2 y r hr
  · obtain ⟨r, hr, hl, hz⟩ := shape_cell hs hy (x := C - 1 - x) (by omega)
    have hG := h.2 y
    rw [if_pos (by have := hs.1; omega), hr] at hG
    refine cellN_get hG ?_
    rw [List.getElem?_reverse (by omega), hl]; exact hz

set_option maxRecDepth 100000 in
set_option maxHeartbeats 1000000 in
theorem impl_MirrorOf (g : List (List Int)) (v : Value) (w : World) (a b : Nat) (hr : RdG w a b v g) :
    Calls Try.prog 25 #[v] w (RetG w (mirrR g)) := by
  by_cases g1 : imgOk g = true
  rotate_left
  · have GD : Hid (mirrR g = []) := Lib.hid (ifImg_no g1)
    have g1 : imgOk g = false := by simpa using g1
    go_enter Try.func25, Try.ntmps25
    go_wp2_with (go_at_call 63; refine (impl_ImageOk _ _ _ _ _ hr).mono ?_; rintro e w' ⟨rfl, rfl⟩)
    go_ret
    exact RetG_nil GD.out
  obtain ⟨l1, l2, l3, l4, _⟩ := imgOk_in g1
  have Sh := Lib.hid (img_shape g1)
  have Sg := Lib.hid (imgOk_short g1)
  obtain ⟨F, hF⟩ : ∃ F : Nat → Nat → Int, F = fun y x => cellN g y ((hd g).length - 1 - x) := ⟨_, rfl⟩
  have GD : Hid (mirrR g = mkG g.length (hd g).length F) := Lib.hid (by rw [hF]; exact ifImg_yes g1)
  have HF := Lib.hid hF; clear hF
  have G1 := Lib.hid g1
  go_enter Try.func25, Try.ntmps25
  go_wp2_with (first
    | (go_at_call 63; refine (impl_ImageOk _ _ _ _ _ hr).mono ?_; rintro e w' ⟨rfl, rfl⟩)
    | (go_at_call 65; refine (impl_copyGrid _ _ _ _ _ hr Sg.out).mono ?_; rintro e w1 ⟨u, rfl, hu, hb⟩; obtain ⟨b1, cap, c0, cc0, rfl, p1, p2, p3, p4, p5, p8⟩ := hu.rowv RI Sh.out (y := 0) (by omega) (by omega)))
  obtain ⟨n1, hn1⟩ : ∃ n, n = w1.heap.size := ⟨_, rfl⟩
  rw [← hn1] at hu
  clear hr p3 p4 p5 p8
  go_loopw [13] (fun i wr => ∃ (k : Nat) (G : List (List Int)), k ≤ g.length ∧ i = .int .i64 k ∧ OwG wr w.heap.size n1 27 3 (.slice (some ⟨b1, 0, none⟩) g.length cap) G ∧ Hid (revRows g G k) ∧ Below w.heap.size w wr ∧ Hid (n1 ≤ wr.heap.size)) (fun i _ => g.length - (intOf i).toNat)
  case atStart => exact ⟨0, _, Nat.zero_le _, rfl, hu, Lib.hid (revRows_start g), hb, Lib.hid (Nat.le_of_eq hn1)⟩
  case round =>
    clear hu hb hn1
    obtain ⟨k, G, hk, rfl, hu, HP, hb, Hsz⟩ := hrel
    by_cases hlt : k < g.length
    · obtain ⟨r, hx⟩ := get_of_lt g k hlt
      have hGx := HP.out.2 k
      rw [if_neg (by omega), hx] at hGx
      obtain ⟨b1', uu, e, _, _, _, hc, _, hrow⟩ := hu.at_ hGx
      injection e with e; injection e with e; subst e
      have i2 : (k : Int) < (g.length : Int) := by omega
      have X := Lib.hid hx; clear hx
      have GX := Lib.hid hGx; clear hGx
      go_wp2_with (go_at_call 66; refine (slices_Reverse _ _ _ _ _ hrow).mono ?_; rintro e w2 ⟨rfl, hrow2, hg2⟩)
      go_roundw
      case rel => exact ⟨k + 1, _, by omega, by go_num, hu.row' RI GX.out hc hg2 hrow2, Lib.hid (revRows_step HP.out X.out), hb.grown hg2 hb.size (fun q hq => (hrow.blk hq).1), Lib.hid (Nat.le_trans Hsz.out hg2.size)⟩
      case measure => simp [intOf]; omega
    · go_wp2_with fail
      go_ret
      exact ⟨_, rfl, by rw [GD.out, HF.out, ← revRows_fin Sh.out HP.out hlt]; exact hu.mono (Nat.le_refl _) Hsz.out, hb⟩

end Go.Proofs.Ytdgkiebgmhcmdaa
