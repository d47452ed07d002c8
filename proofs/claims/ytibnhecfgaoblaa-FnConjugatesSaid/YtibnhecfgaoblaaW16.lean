/- Walks: PutCell, StaircaseOf, DistanceOf. -/
import Derived.Test.YtibnhecfgaoblaaProg
import Derived.Test.YtibnhecfgaoblaaW1
import Derived.Test.YtibnhecfgaoblaaW2
import Derived.Test.YtibnhecfgaoblaaW3
import Derived.Test.YtibnhecfgaoblaaW4
import Derived.Test.YtibnhecfgaoblaaW6
import Derived.Test.YtibnhecfgaoblaaW8
import Derived.Test.YtibnhecfgaoblaaW9
import Derived.Test.YtibnhecfgaoblaaMem
import Derived.Test.YtibnhecfgaoblaaPoke
import Derived.WalkKit
import Derived.WalkSpells
import Derived.WalkLawsBesides
import Derived.KernelRfl
import Derived.Lib.Hide
import Derived.Lib.BufferMore
import Derived.Deep.QuietTactic
import Derived.BigQuiet
namespace Go.Proofs.Ytibnhecfgaoblaa
open Go.RowKit
set_option linter.unusedVariables false
set_option linter.unusedSimpArgs false

/-- The post of a function that returns a new grid and a bool. -/
def RetGB (w : World) (g : List (List Int)) (ok : Bool) (e : Ending) (w' : World) : Prop := ∃ v, e = .returned (.tuple #[v, .bool ok]) ∧ OwG w' w.heap.size w'.heap.size 45 3 v g ∧ Below w.heap.size w w'
theorem RetGB_no {w : World} {g : List (List Int)} {ok : Bool} (h : g = []) (h2 : ok = false) : RetGB w g ok (.returned (.tuple #[.slice none 0 0, .bool false])) w := by
  subst h; subst h2; exact ⟨_, rfl, OwG.nil _ _ _ _ _, Below.refl _ _⟩
theorem RetGB_yes {w w' : World} {v : Value} {g : List (List Int)} {ok : Bool} (h : ok = true) (ho : OwG w' w.heap.size w'.heap.size 45 3 v g) (hb : Below w.heap.size w w') : RetGB w g ok (.returned (.tuple #[v, .bool true])) w' := by
  subst h; exact ⟨_, rfl, ho, hb⟩
def putOk (g : List (List Int)) (y x z : Int) : Bool := hasF g y x && inB z 0 1
def putR (g : List (List Int)) (y x z : Int) : List (List Int) := if putOk g y x z = true then putN g y.toNat x.toNat z else []
theorem putR_no {g : List (List Int)} {y x z : Int} (h : putOk g y x z = false) : putR g y x z = [] := by simp [putR, h]
theorem putR_yes {g : List (List Int)} {y x : Nat} {z : Int} (h : putOk g y x z = true) : putR g y x z = putN g y x z := by simp [putR, h]
theorem put_size (w : World) (p : Addr) (u : Value) : (w.setCell p u).heap.size = w.heap.size := by simp [World.setCell]

def stF (l : List Int) (y x : Nat) : Int := if (x : Int) < l.getD y 0 then 1 else 0
def stairsR (l : List Int) (n : Int) : List (List Int) := if conjOk l n = true then mkG l.length n.toNat (stF l) else []
theorem stairs_no {l : List Int} {n : Int} (h : conjOk l n = false) : stairsR l n = [] := by simp [stairsR, h]
theorem stairs_yes {l : List Int} {n : Nat} (h : conjOk l n = true) : stairsR l n = mkG l.length n (stF l) := by simp [stairsR, h]
/-- A row of n places, the first m of them 1. -/
def bar (n m : Nat) : List Int := List.replicate m 1 ++ List.replicate (n - m) 0
theorem bar_step {n m : Nat} (h : m < n) : (ints (bar n m)).set m (.int .i64 1) = ints (bar n (m + 1)) := by
  rw [ints_set]
  congr 1
  unfold bar
  rw [List.set_append_right _ _ (by simp), List.length_replicate, Nat.sub_self, show n - m = (n - (m + 1)) + 1 by omega, List.replicate_succ, List.set_cons_zero, List.replicate_succ']
  simp
theorem bar_len {n m : Nat} (h : m ≤ n) : (bar n m).length = n := by simp [bar]; omega
theorem stairs_row {l : List Int} {n k m : Nat} (hk : l[k]? = some (m : Int)) (hm : m ≤ n) : (mkG l.length n (stF l)).take (k + 1) = (mkG l.length n (stF l)).take k ++ [bar n m] := by
  have hkl := (List.getElem?_eq_some_iff.1 hk).1
  have : (mkG l.length n (stF l))[k]? = some (bar n m) := by
    simp only [mkG, List.getElem?_map, List.getElem?_range hkl, Option.map_some]
    congr 1
    refine List.ext_getElem? fun x => ?_
    by_cases hx : x < n
    · simp only [List.getElem?_map, List.getElem?_range hx, Option.map_some, stF, List.getD_eq_getElem?_getD, hk, Option.getD_some]
      unfold bar
      by_cases h1 : x < m
      · rw [if_pos (by omega), List.getElem?_append_left (by simpa using h1), List.getElem?_replicate, if_pos h1]
      · rw [if_neg (by omega), List.getElem?_append_right (by simpa using h1), List.length_replicate, List.getElem?_replicate, if_pos (by omega)]
    · rw [List.getElem?_eq_none (by simp; omega), List.getElem?_eq_none (by rw [bar_len hm]; omega)]
  exact take_snoc this

set_option maxRecDepth 100000 in
set_option maxHeartbeats 1000000 in
theorem impl_StaircaseOf (l : List Int) (n : Int) (v : Value) (w : World) (a b : Nat) (hr : RdI w a b v l) :
    Calls Try.prog 23 #[v, .int .i64 n] w (RetG w (stairsR l n)) := by
  obtain ⟨A, c, rfl, h1, h2⟩ := hr.form
  replace hr := hr.clip
  by_cases g1 : conjOk l n = true
  rotate_left
  · have g1 : conjOk l n = false := by simpa using g1
    have GD := Lib.hid (stairs_no g1)
    have q1 : ∀ W : World, (binOp .eql 45 (.slice none 0 0) (.slice none 0 0)).run Try.prog W = .ok (.bool true) W := fun W => Lib.run_eql_slice_nil_nil W 0 0 Try.underlying45
    go_enter Try.func23, Try.ntmps23
    go_wp2_with (go_at_call 22; refine (impl_ConjugateOf _ _ _ _ _ _ hr).mono ?_; rintro e w1 ⟨v1, rfl, ho, hb, hcase⟩; have hv : v1 = .slice none 0 0 := (hcase.elim (fun h => h.2) (fun h => absurd (h.1.symm.trans g1) (by decide))); subst hv)
    go_ret
    exact ⟨_, rfl, by rw [GD.out]; exact OwG.nil _ _ _ _ _, hb⟩
  obtain ⟨k1, k2, k3, k4⟩ := conjOk_in g1
  obtain ⟨n, rfl⟩ := Int.eq_ofNat_of_zero_le (show 0 ≤ n by omega)
  have GD := Lib.hid (stairs_yes g1)
  have K4 := Lib.hid k4; clear k4
  have q1 : ∀ (W : World) (p : Addr) (m k : Nat), (binOp .eql 45 (.slice (some p) m k) (.slice none 0 0)).run Try.prog W = .ok (.bool false) W := fun W p m k => Lib.run_eql_slice_some_nil W p m k Try.underlying45
  have G1 := Lib.hid g1
  obtain ⟨i0, hi, hz0, hz1, hz2⟩ := info_parts int_info
  obtain ⟨j0, hj, jz0, jz1, jz2⟩ := info_parts row_info
  go_enter Try.func23, Try.ntmps23
  go_wp2_with (go_at_call 22; refine (impl_ConjugateOf _ _ _ _ _ _ hr).mono ?_; rintro e w1 ⟨v1, rfl, ho, hb, hcase⟩; obtain ⟨gg, cgg, hv⟩ := (hcase.elim (fun h => absurd (h.1.symm.trans G1.out) (by decide)) (fun h => h.2)); subst hv)
  have hr1 := hr.new hb
  clear hr ho
  go_loopw [5, 16] (fun o i wr => ∃ (k : Nat) (out : Value), k ≤ l.length ∧ i = .int .i64 k ∧ out = o ∧ OwG wr w.heap.size wr.heap.size 45 3 out ((mkG l.length n (stF l)).take k) ∧ RdI wr a w.heap.size (.slice A l.length c) l ∧ Below w.heap.size w wr) (fun _ i _ => l.length - (intOf i).toNat)
  case atStart => exact ⟨0, _, Nat.zero_le _, rfl, rfl, OwG.nil _ _ _ _ _, hr1, hb⟩
  case round =>
    clear hr1 hb
    obtain ⟨k, out, hk, rfl, rfl, hG, hr, hb⟩ := hrel
    rename World => wo
    by_cases hlt : k < l.length
    · obtain ⟨x, hx⟩ := get_of_lt l k hlt
      obtain ⟨x0, x1⟩ := K4.out x (List.mem_of_getElem? hx)
      obtain ⟨m, rfl⟩ := Int.eq_ofNat_of_zero_le x0
      obtain ⟨b0, o0, rfl, _, _, _, hcx⟩ := hr.at_ hx
      have hrow := Lib.hid (stairs_row (n := n) hx (by omega)); clear hx
      have hmn : m ≤ n := by omega
      have hn5 : n ≤ 5 := by omega
      have hkl : k < l.length := hlt
      obtain ⟨vs, he, ho, hrows, hdist⟩ := hG
      have hvs : vs.length = k := by rw [he]; simp [mkG]; omega
      have hbs := hb.size
      go_wp2_with (at_make; refine wpList_make_full _ rfl _ _ 45 rfl wo.heap.size 3 i0 (.int .i64 0) 1 Try.underlying45 hi hz0 hz1 _ _ _ _ n rfl rfl rfl rfl (by rw [hz2]; omega) (by unfold maxLen; omega) (Nat.le_refl _) ?_; intro w1 hown1 hg1)
      have hb1 : Below wo.heap.size wo w1 := (Below.refl _ _).grown hg1 (Nat.le_refl _) (by simp)
      have ho1 := ho.new hb1
      have hu1 : Ow w1 wo.heap.size w1.heap.size 3 (.slice (some ⟨wo.heap.size, 0, none⟩) n n) (ints (bar n 0)) := by
        refine Ow.of_top (n := n) ?_
        rw [made_ints] at hown1; simpa [bar] using hown1
      have hr1 := hr.below (hb1.mono hbs) (Nat.le_refl _)
      obtain ⟨n1, hn1⟩ : ∃ n, n = w1.heap.size := ⟨_, rfl⟩
      have hs1 : wo.heap.size ≤ n1 := by rw [hn1]; exact hb1.size
      rw [← hn1] at hu1
      clear hown1 hg1 hcx
      go_loopw [9] (fun i wr => ∃ j : Nat, j ≤ m ∧ i = .int .i64 j ∧ Ow wr wo.heap.size n1 3 (.slice (some ⟨wo.heap.size, 0, none⟩) n n) (ints (bar n j)) ∧ Ow wr w.heap.size wo.heap.size 45 out vs ∧ Below wo.heap.size wo wr ∧ Hid (wr.heap.size = n1)) (fun i _ => m - (intOf i).toNat)
      case atStart => exact ⟨0, Nat.zero_le _, rfl, hu1, ho1, hb1, Lib.hid hn1.symm⟩
      case round =>
        clear hu1 ho1 hb1 hn1 hr1
        obtain ⟨j, hj', rfl, hu, ho1, hb1, Hsz⟩ := hrel
        by_cases hlt2 : j < m
        · obtain ⟨u, hs1', hs2'⟩ := hu.slot (k := j) (by simp only [ints, List.length_map]; rw [bar_len (by omega)]; omega)
          have i1 : (j : Int) < (n : Int) := by omega
          go_wp2_with fail
          go_roundw
          case rel =>
            have ho' := Ow.set' (by simp only [ints, List.length_map]; rw [bar_len (by omega)]) hu j (.int .i64 1)
            rw [bar_step (by omega)] at ho'
            exact ⟨j + 1, by omega, by go_num, ho', ho1.far (fun q hq => by have := (ho1.blk hq).2.1; simp only []; omega) _, hb1.setCell (Nat.le_refl _) _, Lib.hid (by rw [put_size]; exact Hsz.out)⟩
          case measure => simp [intOf]; omega
        · obtain rfl : j = m := by omega
          go_wp2_with (at_builtin; refine wpList_append_own _ rfl _ _ 23 rfl w.heap.size 45 j0 (.slice none 0 0) 1 24 Try.underlying23 hj jz0 jz1 jz2 rfl (by decide) _ _ _ rfl (ho1.1.alloc _) ⟨wr.heap.size, 0, none⟩ 1 1 [.slice (some ⟨wo.heap.size, 0, none⟩) n n] rfl rfl (cell_one_new _ _ _) (by simp [Value.oneCell']) (by unfold maxLen; omega) (by omega) (by have := Hsz.out; simp; omega) ?_; intro v2 w3 hown2 hg2 _)
          go_roundw
          case rel =>
            have hsz := Hsz.out
            have hbW : Below wo.heap.size wo (wr.alloc (.cells #[.slice (some ⟨wo.heap.size, 0, none⟩) n n] 45)) := hb1.alloc (by omega) _
            have hG' := OwG.push RI ho he hrows hdist hbs (Nat.le_refl _) hbW (hu.alloc _) hown2 hg2
            have hb3 : Below w.heap.size wo w3 := ((hb1.mono hbs).alloc (by omega) _).grown hg2 (by simp; omega) (fun q hq => (ho1.blk hq).1)
            exact ⟨k + 1, _, by omega, by go_num, rfl, by rw [hrow.out]; exact hG', hr.below hb3 (Nat.le_refl _), hb.trans hb3⟩
          case measure => simp [intOf]; omega
    · have Hall := Lib.hid (show (mkG l.length n (stF l)).take k = mkG l.length n (stF l) from take_all (by simp [mkG]; omega))
      go_wp2_with fail
      go_ret
      exact ⟨_, rfl, by rw [GD.out, ← Hall.out]; exact hG, hb⟩

theorem Prog.skip {G : List (List Int)} {R C k m : Nat} {F : Nat → Nat → Int} (h : Prog G R C (fun y x => (y, x)) F k m) (hz : ∀ x, m ≤ x → F k x = 0) : Prog G R C (fun y x => (y, x)) F (k + 1) 0 := by
  refine ⟨h.1, fun y x h1 h2 => ?_⟩
  rw [h.2 y x h1 h2]
  simp only []
  by_cases e : y < k ∨ (y = k ∧ x < m)
  · rw [if_pos e, if_pos (by omega)]
  · rw [if_neg e]
    by_cases e2 : y = k
    · subst e2; rw [if_pos (by omega), hz x (by omega)]
    · rw [if_neg (by omega)]
theorem stF_one {l : List Int} {k m x : Nat} (h : l[k]? = some (m : Int)) (hx : x < m) : (1 : Int) = stF l k x := by
  simp only [stF, List.getD_eq_getElem?_getD, h, Option.getD_some]; rw [if_pos (by omega)]
theorem stF_zero {l : List Int} {k m x : Nat} (h : l[k]? = some (m : Int)) (hx : m ≤ x) : stF l k x = 0 := by
  simp only [stF, List.getD_eq_getElem?_getD, h, Option.getD_some]; rw [if_neg (by omega)]
theorem stairs_nil {n : Int} : stairsR [] n = [] := by
  unfold stairsR; split <;> rfl

end Go.Proofs.Ytibnhecfgaoblaa
