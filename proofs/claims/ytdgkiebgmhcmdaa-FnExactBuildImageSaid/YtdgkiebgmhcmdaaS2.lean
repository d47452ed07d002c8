/- Walks: SortedDown of the program, by the library's sort. -/
import Derived.Test.YtdgkiebgmhcmdaaProg
import Derived.Test.YtdgkiebgmhcmdaaW1
import Derived.Test.YtdgkiebgmhcmdaaW3
import Derived.Test.YtdgkiebgmhcmdaaW6
import Derived.Test.YtdgkiebgmhcmdaaS1
import Derived.Test.YtdgkiebgmhcmdaaMem
import Derived.Test.YtdgkiebgmhcmdaaShelf
import Derived.Shelf.SlSortCmp.NoneTotal
import Derived.Shelf.SlicesG.Cmp
import Derived.Lib.RowBridge
import Derived.Lib.SortBridge
import Derived.Lib.AppendIntMem
import Derived.WalkKit
import Derived.WalkSpells
import Derived.WalkLawsBesides
import Derived.KernelRfl
import Derived.Lib.Hide
namespace Go.Proofs.Ytdgkiebgmhcmdaa
open Go.RowKit Go.Shelf Go.Lib Go.Sort
set_option linter.unusedVariables false
set_option linter.unusedSimpArgs false

/-- The comparison: 'cmp.Compare(b, a)'. -/
def cfD (x y : Int) : Int := Lib.compareInt y x
theorem ltD (x y : Int) : ltOf cfD x y = decide (y < x) := by
  unfold ltOf cfD Lib.compareInt
  by_cases h1 : y < x
  · simp [h1]
  · by_cases h2 : x < y <;> simp [h1, h2]
theorem swoD : SWO (ltOf cfD) where
  irrefl x := by rw [ltD]; simp
  trans x y z h1 h2 := by rw [ltD] at *; simp at *; omega
  ntrans x y z h1 h2 := by rw [ltD] at *; simp at *; omega
theorem totD (x y : Int) (h1 : ltOf cfD x y = false) (h2 : ltOf cfD y x = false) : x = y := by rw [ltD] at *; simp at *; omega
theorem geD : (fun x y : Int => !ltOf cfD y x) = fun x y => decide (y ≤ x) := by
  funext x y
  rw [ltD]
  by_cases h : y ≤ x
  · have h' : ¬ x < y := by omega
    simp [h, h']
  · have h' : x < y := by omega
    simp [h, h']

set_option maxHeartbeats 1000000 in
theorem closureD (x y : Int) (W : World) : Calls Try.prog 130 #[.int .i64 x, .int .i64 y] W fun e w' => e = .returned (.int .i64 (cfD x y)) ∧ ∃ q, w' = W.drewN q := by
  have hcon := AnyG.cmp_Compare_int Try.cmpL y x W
  change Calls Try.prog 131 _ _ _ at hcon
  unfold cfD
  generalize Lib.compareInt y x = r at hcon ⊢
  go_enter Try.func130, Try.ntmps130
  go_wp2_with (go_at_call 131; refine hcon.mono ?_; rintro e w' ⟨rfl, rfl⟩)
  go_ret
  exact ⟨rfl, 0, rfl⟩
theorem cmpReadsD (blk off size : Nat) (w : World) : CmpReads Try.prog 130 #[] (Value.int .i64) cfD blk off size w := fun _ _ _ _ x y => closureD x y _

theorem Ow.setAll {lo hi g n c : Nat} {T : TypeId} : ∀ (ys : List Value) (o : Nat) (w : World) (xs : List Value), Ow w lo hi T (.slice (some ⟨g, 0, none⟩) n c) xs → o + ys.length ≤ xs.length →
    Ow (w.setCells g o ys) lo hi T (.slice (some ⟨g, 0, none⟩) n c) (xs.take o ++ ys ++ xs.drop (o + ys.length))
  | [], o, w, xs, h, hl => by simpa [World.setCells] using h
  | y :: ys, o, w, xs, h, hl => by
    have h1 := Ow.set' h.len_.1 h o y
    have h2 := Ow.setAll ys (o + 1) _ _ h1 (by simp at hl ⊢; omega)
    have e : (xs.set o y).take (o + 1) ++ ys ++ (xs.set o y).drop (o + 1 + ys.length) = xs.take o ++ y :: ys ++ xs.drop (o + (y :: ys).length) := by
      have ho : o < xs.length := by simp at hl; omega
      rw [List.take_succ_eq_append_getElem (by simpa using ho), List.getElem_set_self, List.drop_set_of_lt (by omega), List.take_set_of_le (Nat.le_refl _)]
      simp [Nat.add_assoc, Nat.add_comm 1]
    rw [e] at h2
    exact h2
theorem chg_setAll {lo hi g : Nat} (h1 : lo ≤ g) (h2 : g < hi) : ∀ (ys : List Value) (o : Nat) (a w : World), Chg lo hi a w → Chg lo hi a (w.setCells g o ys)
  | [], o, a, w, h => h
  | y :: ys, o, a, w, h => chg_setAll h1 h2 ys (o + 1) a _ (h.setCell (.inl ⟨h1, h2⟩) y)

set_option maxHeartbeats 1000000 in
theorem sort_walk (l : List Int) (g c lo hi : Nat) (w : World) (ho : Ow w lo hi 3 (.slice (some ⟨g, 0, none⟩) l.length c) (ints l)) (hl : l.length ≤ 1048576) :
    Calls Try.prog 129 #[.slice (some ⟨g, 0, none⟩) l.length c, .func (.func 130) #[] #[]] w fun e w' =>
      e = .returned (.tuple #[]) ∧ Ow w' lo hi 3 (.slice (some ⟨g, 0, none⟩) l.length c) (ints (sortD l)) ∧ Chg lo hi w w' := by
  have hb := ho.blk (k := g) rfl
  have hH0 := Lib.holds_of_ints (w := w) (b := g) (off := 0) (n := l.length) (zs := l) (Nat.le_refl _) (fun j hj => by
    obtain ⟨g', eg, _, _, _, hc, _⟩ := ho.at_ (k := j) (u := .int .i64 (l.getD j 0)) (by rw [ints_get, List.getElem?_eq_getElem hj]; simp [List.getD, hj])
    injection eg with eg; injection eg with eg; subst eg
    rw [Nat.zero_add]; exact hc) (fun j hj => by
    obtain ⟨g', eg, _, _, _, _, hf⟩ := ho.at_ (k := j) (u := .int .i64 (l.getD j 0)) (by rw [ints_get, List.getElem?_eq_getElem hj]; simp [List.getD, hj])
    injection eg with eg; injection eg with eg; subst eg
    rw [Nat.zero_add]; exact hf)
  rw [List.take_length] at hH0
  have hsz : l.toArray.size = l.length := by simp
  have eg : ∀ args w, (callFunc 130 args).run Try.prog w = .ok (.enter 130 args) w := enters_of Try.func130 (by kernel_rfl) rfl
  have hS := Any.slices_SortFunc_total Try.sortL (Value.int .i64) (fun _ => rfl) cfD swoD 130 #[] g 0 c l.toArray w eg (cmpReadsD g 0 l.toArray.size w).lays hH0 hb.2.2 (by rw [hsz]; omega) totD
  rw [geD, hsz] at hS
  change Calls Try.prog 129 _ _ _ at hS
  refine hS.mono ?_
  rintro e w' ⟨rfl, q, os, hw⟩
  have hw2 : w' = grow ((w.drewN q).setCells g 0 ((sortD l).map (Value.int .i64))) os := by
    rw [hw]
    exact Lib.sorted_world _ w g 0 q _ (sortD l) os hH0 (by rw [sortD_len]; simp)
  subst hw2
  have h1 := Ow.setAll ((sortD l).map (Value.int .i64)) 0 _ _ (ho.drewN q) (by rw [ints_len, List.length_map, sortD_len]; omega)
  have e : (ints l).take 0 ++ (sortD l).map (Value.int .i64) ++ (ints l).drop (0 + ((sortD l).map (Value.int .i64)).length) = ints (sortD l) := by
    rw [List.take_zero, List.nil_append, List.drop_eq_nil_of_le (by rw [ints_len, List.length_map, sortD_len]; omega), List.append_nil]
    rfl
  rw [e] at h1
  have hbg : Below _ ((w.drewN q).setCells g 0 ((sortD l).map (Value.int .i64))) (grow ((w.drewN q).setCells g 0 ((sortD l).map (Value.int .i64))) os) := below_grow _ _ (Nat.le_refl _) 0 os
  refine ⟨rfl, h1.new hbg, ?_⟩
  have c1 := chg_setAll hb.1 hb.2.1 ((sortD l).map (Value.int .i64)) 0 w (w.drewN q) ((Chg.refl lo hi w).drewN q)
  exact c1.trans (Chg.ofNew hbg)

set_option maxRecDepth 100000 in
set_option maxHeartbeats 1000000 in
theorem impl_SortedDown (l : List Int) (v : Value) (w : World) (a b : Nat) (hr : RdI w a b v l) (hl : l.length ≤ 1048576) :
    Calls Try.prog 124 #[v] w (RetI w (sortD l)) := by
  by_cases h0 : l = []
  · subst h0
    have hS := fun (p : Option Addr) (c : Nat) (W : World) => AnyF.slices_SortFunc_none (P := Try.prog) (ρ := Try.sortL_ren) { Try.sortL with } p c (.func (.func 130) #[] #[]) W
    change ∀ p c W, Calls Try.prog 129 _ _ _ at hS
    go_enter Try.func124, Try.ntmps124
    go_wp2_with fail
    refine (impl_copyInts _ _ _ _ _ hr hl).mono ?_
    rintro e w1 ⟨v1, rfl, ho, hb⟩
    obtain ⟨A, c, rfl, _, _⟩ := ho.form'
    go_wp2_with fail
    refine (hS _ _ _).mono ?_
    rintro e w2 ⟨rfl, rfl⟩
    go_wp2_with fail
    go_ret
    exact ⟨_, rfl, by rw [show sortD [] = [] by simp [sortD]]; exact ho, hb⟩
  · have hp : 0 < l.length := List.length_pos_iff.2 h0
    go_enter Try.func124, Try.ntmps124
    go_wp2_with fail
    refine (impl_copyInts _ _ _ _ _ hr hl).mono ?_
    rintro e w1 ⟨v1, rfl, ho, hb⟩
    obtain ⟨A, c, rfl, q1, q2⟩ := ho.form'
    rw [ints_len] at q1 ho ⊢
    obtain ⟨g, e1, _⟩ := ho.at_ (k := 0) (u := .int .i64 l[0]) (by rw [ints_get, List.getElem?_eq_getElem hp]; rfl)
    subst e1
    go_wp2_with fail
    refine (sort_walk l g c _ _ _ ho hl).mono ?_
    rintro e w2 ⟨rfl, ho2, c2⟩
    go_wp2_with fail
    go_ret
    have hsz := c2.size
    exact ⟨_, rfl, ho2.mono (Nat.le_refl _) hsz, hb.trans (c2.below (Nat.le_refl _) hb.size)⟩
end Go.Proofs.Ytdgkiebgmhcmdaa
