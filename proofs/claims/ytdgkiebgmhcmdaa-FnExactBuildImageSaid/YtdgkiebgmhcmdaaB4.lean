/- The walk of BuildImage of spec. -/
import Derived.Test.YtdgkiebgmhcmdaaProg
import Derived.Test.YtdgkiebgmhcmdaaW1
import Derived.Test.YtdgkiebgmhcmdaaW3
import Derived.Test.YtdgkiebgmhcmdaaW4
import Derived.Test.YtdgkiebgmhcmdaaW6
import Derived.Test.YtdgkiebgmhcmdaaW16
import Derived.Test.YtdgkiebgmhcmdaaS3
import Derived.Test.YtdgkiebgmhcmdaaB1
import Derived.Test.YtdgkiebgmhcmdaaB3
import Derived.Test.YtdgkiebgmhcmdaaMem
import Derived.WalkKit
import Derived.WalkSpells
import Derived.WalkLawsBesides
import Derived.KernelRfl
import Derived.Lib.Hide
import Derived.Deep.QuietTactic
import Derived.BigQuiet
namespace Go.Proofs.Ytdgkiebgmhcmdaa
open Go.RowKit
set_option linter.unusedVariables false
set_option linter.unusedSimpArgs false

def builtR (rows cols : List Int) : List (List Int) := if existsR rows cols = true then buildR rows cols else []
theorem built_no {rows cols : List Int} (h : existsR rows cols = false) : builtR rows cols = [] := by simp [builtR, h]
theorem built_yes {rows cols : List Int} (h : existsR rows cols = true) : builtR rows cols = buildR rows cols := by simp [builtR, h]
theorem existsR_in {rows cols : List Int} (h : existsR rows cols = true) : 1 ≤ rows.length ∧ rows.length ≤ 5 ∧ 1 ≤ cols.length ∧ cols.length ≤ 5 ∧ (∀ x ∈ rows, 0 ≤ x ∧ x ≤ cols.length) ∧ LBd cols 0 := by
  simp only [existsR, sumsOk, Bool.and_eq_true] at h
  obtain ⟨⟨⟨⟨⟨h1, h2⟩, h3⟩, h4⟩, h5⟩, h6⟩ := h
  have q1 := inB_true h1
  have q2 := inB_true h2
  refine ⟨by omega, by omega, by omega, by omega, fun x hx => inB_true (List.all_eq_true.1 h3 x hx), fun x => ?_⟩
  by_cases hx : x < cols.length
  · have := inB_true (List.all_eq_true.1 h4 (lv cols x) (List.mem_of_getElem? (lv_get hx)))
    omega
  · unfold lv
    rw [List.getD_eq_getElem?_getD, List.getElem?_eq_none (by omega)]
    simp

set_option maxRecDepth 100000 in
set_option maxHeartbeats 4000000 in
theorem spec_BuildImage (rows cols : List Int) (v u : Value) (w : World) (a b a' b' : Nat) (hr : RdI w a b v rows) (hs : RdI w a' b' u cols) :
    Calls Try.prog 58 #[v, u] w (RetGB w (builtR rows cols) (existsR rows cols)) := by
  obtain ⟨A, c, rfl, h1, h2⟩ := hr.form
  obtain ⟨A', c', rfl, h1', h2'⟩ := hs.form
  replace hr := hr.clip
  replace hs := hs.clip
  by_cases g1 : existsR rows cols = true
  rotate_left
  · have g1 : existsR rows cols = false := by simpa using g1
    have GD := Lib.hid (built_no g1)
    have G1 := Lib.hid g1
    go_enter Try.func58, Try.ntmps58
    go_wp2_with fail
    refine (spec_Exists rows cols _ _ _ _ _ _ _ hr hs).mono ?_
    rw [g1]
    rintro e w1 ⟨rfl, hb⟩
    go_wp2_with fail
    go_ret2
    exact ⟨.slice none 0 0, by rw [G1.out]; rfl, by rw [GD.out]; exact OwG.nil _ _ _ _ _, hb⟩
  obtain ⟨l1, l2, l3, l4, l5, l6⟩ := existsR_in g1
  have GD := Lib.hid (built_yes g1)
  have G1 := Lib.hid g1
  have L5 := Lib.hid l5; clear l5
  have L6 := Lib.hid l6; clear l6
  obtain ⟨i0, hi, hz0, hz1, hz2⟩ := info_parts int_info
  obtain ⟨j0, hj, jz0, jz1, jz2⟩ := info_parts row_info
  go_enter Try.func58, Try.ntmps58
  go_wp2_with fail
  refine (spec_Exists rows cols _ _ _ _ _ _ _ hr hs).mono ?_
  rw [g1]
  rintro e w1 ⟨rfl, hb⟩
  clear g1
  replace hr := hr.new hb
  replace hs := hs.new hb
  have hb0 := hb
  have s1 := hb.size
  have hs' : RdI ((w1.alloc (.cells #[] 27)).alloc (.cells #[] 3)) a' w.heap.size (.slice A' cols.length c') cols := (hs.new ((Below.refl _ _).alloc (Nat.le_refl _) _)).new ((Below.refl _ _).alloc (Nat.le_refl _) _)
  have hsz1 : (w1.alloc (.cells #[] 27)).heap.size = w1.heap.size + 1 := by simp
  have he : ((w1.alloc (.cells #[] 27)).alloc (.cells #[] 3)).ownsRow w.heap.size 3 1 (.slice (some ⟨w1.heap.size + 1, 0, none⟩) 0 0) 0 [] := by
    have := own_empty (w1.alloc (.cells #[] 27)) w.heap.size 3 (by omega)
    rwa [hsz1] at this
  go_wp2_with (at_builtin; refine wpList_append_rd rfl _ _ 27 rfl w.heap.size 3 i0 (.int .i64 0) 8 Try.underlying27 hi hz0 hz1 hz2 rfl (.slice (some ⟨w1.heap.size + 1, 0, none⟩) 0 0) 0 [] rfl he A' cols.length c' (ints cols) rfl hs' (ints_one cols) (by unfold maxLen; omega) (by omega) (by simp; omega) ?_; intro v2 w2 hown2 hg2 _)
  have hbA : Below (w1.heap.size + 1) (w1.alloc (.cells #[] 27)) w2 := by
    have h := ((Below.refl (w1.alloc (.cells #[] 27)).heap.size (w1.alloc (.cells #[] 27))).alloc (Nat.le_refl _) (.cells #[] 3)).grown hg2 (by rw [hsz1]; simp) (by rw [hsz1]; simp [Value.ownBlock])
    rwa [hsz1] at h
  have hb12 : Below w1.heap.size w1 w2 := ((Below.refl w1.heap.size w1).alloc (Nat.le_refl _) (.cells #[] 27)).trans (hbA.mono (by omega))
  have hG0 : OwG w2 w.heap.size w2.heap.size 27 3 (.slice (some ⟨w1.heap.size, 0, none⟩) 0 0) [] := by
    have h := OwG.empty w1 w.heap.size 27 3 s1
    exact (h.new (by rw [hsz1]; exact hbA)).mono (Nat.le_refl _) (by have := hbA.size; rw [hsz1] at this; omega)
  have hl0 : RdI w2 w.heap.size w2.heap.size v2 cols := (Ow.of_top (xs := ints cols) (by simpa using hown2)).rdI
  have hr2 := hr.new hb12
  have hb2 := hb.trans (hb12.mono s1)
  obtain ⟨A2, c2, rfl, k1, k2⟩ := hl0.form
  clear hown2 hg2 hbA hb12 he hs' hr hs hb hb0 hsz1
  go_loopw [6, 7, 22] (fun o lf i wr => ∃ (k : Nat) (L : List Int) (G : List (List Int)) (O LF : Value), Hid (L = leftR (rows.take k) cols) ∧ Hid (G = buildR (rows.take k) cols) ∧ O = o ∧ LF = lf ∧ k ≤ rows.length ∧ i = .int .i64 k ∧ OwG wr w.heap.size wr.heap.size 27 3 O G ∧ RdI wr w.heap.size wr.heap.size LF L ∧ RdI wr a w.heap.size (.slice A rows.length c) rows ∧ Below w.heap.size w wr) (fun _ _ i _ => rows.length - (intOf i).toNat)
  case atStart => exact ⟨0, cols, [], _, _, Lib.hid rfl, Lib.hid rfl, rfl, rfl, Nat.zero_le _, rfl, hG0, hl0, hr2, hb2⟩
  case round =>
    clear hG0 hl0 hr2 hb2
    obtain ⟨k, L, G, O, LF, HL, HG, rfl, rfl, hk, rfl, hG, hl, hr, hb⟩ := hrel
    by_cases hlt : k < rows.length
    rotate_left
    · have Hall := Lib.hid (take_all hlt)
      go_wp2_with fail
      go_ret2
      exact ⟨O, by rw [G1.out]; rfl, by rw [GD.out]; have := HG.out; rw [Hall.out] at this; rw [← this]; exact hG, hb⟩
    obtain ⟨x, hx⟩ := get_of_lt rows k hlt
    obtain ⟨x0, x1⟩ := L5.out x (List.mem_of_getElem? hx)
    obtain ⟨n, rfl⟩ := Int.eq_ofNat_of_zero_le x0
    obtain ⟨b0, o0, rfl, _, _, _, hcx⟩ := hr.at_ hx
    have hLl : L.length = cols.length := by rw [HL.out]; exact leftR_len _ _
    have hLB : LBd L 5 := by rw [HL.out]; exact (L6.out.left _).mono (by rw [List.length_take]; omega)
    have HX := Lib.hid (take_snoc hx); clear hx
    have hGl : G.length = k := by rw [HG.out, buildR_len, List.length_take]; omega
    have i1 : (k : Int) < (rows.length : Int) := by omega
    have hFill := spec_l05Fill n L LF wr _ _ hl (by omega) (by omega) hLB
    have HF := Lib.hid hFill; clear hFill hLB
    obtain ⟨vs, he, ho, hrows, hdist⟩ := hG
    have hvs : vs.length = k := by rw [he]; exact hGl
    have hbs := hb.size
    have HE := Lib.hid he; clear he hGl
    go_wp2_with fail
    refine HF.out.mono ?_
    rintro e w3 ⟨v1, v3, rfl, hu, hrest, hb3⟩
    have ho3 := ho.new hb3
    have hs3 := hb3.size
    obtain ⟨Au, cu, rfl, q1, q2⟩ := hu.form'
    go_wp2_with (at_builtin; refine wpList_append_own _ rfl _ _ 22 rfl w.heap.size 27 j0 (.slice none 0 0) 1 24 Try.underlying22 hj jz0 jz1 jz2 rfl (by decide) _ _ _ rfl (ho3.1.alloc _) ⟨w3.heap.size, 0, none⟩ 1 1 [.slice Au (ints (fillR L n)).length cu] rfl rfl (cell_one_new _ _ _) (by simp [Value.oneCell']) (by unfold maxLen; omega) (by omega) (by simp; omega) ?_; intro v4 w4 hown4 hg4 _)
    go_roundw
    case rel =>
      have hbW : Below wr.heap.size wr (w3.alloc (.cells #[.slice Au (ints (fillR L n)).length cu] 27)) := hb3.alloc hs3 _
      have hG' := OwG.push RI ho HE.out hrows hdist hbs (Nat.le_refl _) hbW (hu.alloc _) hown4 hg4
      have hb4 : Below w.heap.size wr w4 := ((hb3.mono hbs).alloc (by omega) _).grown hg4 (by simp; omega) (fun q hq => (ho3.blk hq).1)
      have hc4 : Chg w.heap.size wr.heap.size w3 w4 := ((Chg.refl _ _ w3).alloc _).grown hg4 (fun q hq => .inl ⟨(ho3.blk hq).1, (ho3.blk hq).2.1⟩)
      have hrest4 := (Rd.chg hrest hc4 (.inr (.inl (Nat.le_refl _))))
      have hs4 := hc4.size
      exact ⟨k + 1, restR L n, _, _, _, Lib.hid (by rw [HX.out, leftR_snoc, ← HL.out]; rfl), Lib.hid (by rw [HX.out, buildR_snoc, ← HG.out, ← HL.out]; rfl), rfl, rfl, by omega, by go_num, hG', hrest4.mono hbs (by omega), hr.below hb4 (Nat.le_refl _), hb.trans hb4⟩
    case measure => simp [intOf]; omega
end Go.Proofs.Ytdgkiebgmhcmdaa
