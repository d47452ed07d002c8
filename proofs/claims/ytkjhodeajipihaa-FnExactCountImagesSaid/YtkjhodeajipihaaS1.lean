/- Walks: SortedDown of the reference. The list in descending order: sortD. -/
import Derived.Test.YtkjhodeajipihaaProg
import Derived.Test.YtkjhodeajipihaaW1
import Derived.Test.YtkjhodeajipihaaW3
import Derived.Test.YtkjhodeajipihaaMem
import Derived.WalkKit
import Derived.WalkSpells
import Derived.WalkLawsBesides
import Derived.KernelRfl
import Derived.Lib.Hide
import Derived.Deep.QuietTactic
import Derived.BigQuiet
namespace Go.Proofs.Ytkjhodeajipihaa
open Go.RowKit
set_option linter.unusedVariables false
set_option linter.unusedSimpArgs false

def sortD (l : List Int) : List Int := l.mergeSort fun x y => decide (y ≤ x)
theorem sortD_perm (l : List Int) : (sortD l).Perm l := List.mergeSort_perm _ _
theorem sortD_sorted (l : List Int) : (sortD l).Pairwise (fun x y => y ≤ x) := by
  have h := List.pairwise_mergeSort (le := fun x y : Int => decide (y ≤ x)) (by simp; omega) (by simp; omega) l
  unfold sortD
  simpa using h
theorem sortD_len (l : List Int) : (sortD l).length = l.length := (sortD_perm l).length_eq
theorem sortD_unique {l p : List Int} (hp : p.Perm l) (hs : p.Pairwise (fun x y => y ≤ x)) : p = sortD l :=
  List.Perm.eq_of_pairwise (fun a b _ _ h1 h2 => by omega) hs (sortD_sorted l) (hp.trans (sortD_perm l).symm)
/-- The state of the inner loop: x stands at place A.length, the rest is in order, and x is greater than all behind it. -/
structure Ins (l : List Int) (x : Int) (A B : List Int) : Prop where
  perm : (A ++ x :: B).Perm l
  sorted : (A ++ B).Pairwise (fun x y => y ≤ x)
  less : ∀ b ∈ B, b ≤ x
theorem Ins.start {l P : List Int} {x : Int} (h : P.Perm l) (hs : P.Pairwise (fun x y => y ≤ x)) : Ins (l ++ [x]) x P [] := ⟨h.append_right _, by simpa using hs, by simp⟩
theorem Ins.step {l A B : List Int} {x a : Int} (h : Ins l x (A ++ [a]) B) (hl : a < x) : Ins l x A (a :: B) := by
  refine ⟨?_, by simpa using h.sorted, ?_⟩
  · refine List.Perm.trans ?_ h.perm
    rw [List.append_assoc]
    exact (List.Perm.refl A).append (List.Perm.swap a x B)
  · intro b hb
    rcases List.mem_cons.1 hb with rfl | hb
    · omega
    · exact h.less b hb
theorem Ins.done {l A B : List Int} {x : Int} (h : Ins l x A B) (hA : ∀ A' a, A = A' ++ [a] → x ≤ a) : (A ++ x :: B).Pairwise (fun x y => y ≤ x) := by
  have hs := List.pairwise_append.1 h.sorted
  have hlast : ∀ a ∈ A, x ≤ a := by
    intro a ha
    rcases List.eq_nil_or_concat A with rfl | ⟨A', z, e⟩
    · simp at ha
    · rw [List.concat_eq_append] at e
      have hz := hA A' z e
      rw [e] at ha hs
      rcases List.mem_append.1 ha with ha | ha
      · have := (List.pairwise_append.1 hs.1).2.2 a ha z (by simp)
        omega
      · simp at ha; omega
  refine List.pairwise_append.2 ⟨hs.1, List.pairwise_cons.2 ⟨fun b hb => h.less b hb, hs.2.1⟩, fun a ha b hb => ?_⟩
  rcases List.mem_cons.1 hb with rfl | hb
  · exact hlast a ha
  · exact hs.2.2 a ha b hb
theorem ins_get (A B : List Int) (x : Int) : (ints (A ++ x :: B))[A.length]? = some (.int .i64 x) := by rw [ints_get]; simp
theorem ins_prev (A B : List Int) (x a : Int) : (ints ((A ++ [a]) ++ x :: B))[A.length]? = some (.int .i64 a) := by rw [ints_get]; simp
theorem ins_swap (A B : List Int) (x a : Int) : (((ints ((A ++ [a]) ++ x :: B)).set (A.length + 1) (.int .i64 a)).set A.length (.int .i64 x)) = ints (A ++ x :: a :: B) := by
  rw [ints_set, ints_set]
  congr 1
  rw [List.append_assoc, List.set_append_right _ _ (by omega), List.set_append_right _ _ (by omega)]
  simp
theorem Ins.len {l A B : List Int} {x : Int} (h : Ins l x A B) : A.length < l.length := by
  have := h.perm.length_eq
  simp at this
  omega

set_option maxRecDepth 100000 in
set_option maxHeartbeats 4000000 in
theorem spec_SortedDown (l : List Int) (v : Value) (w : World) (a b : Nat) (hr : RdI w a b v l) (hl : l.length ≤ 1048576) :
    Calls Try.prog 30 #[v] w (RetI w (sortD l)) := by
  obtain ⟨A, c, rfl, h1, h2⟩ := hr.form
  replace hr := hr.clip
  obtain ⟨i0, hi, hz0, hz1, hz2⟩ := info_parts int_info
  go_enter Try.func30, Try.ntmps30
  go_wp2_with fail
  go_loopw [3, 11] (fun out i wr => ∃ (k : Nat) (P : List Int) (o : Value), P.Perm (l.take k) ∧ P.Pairwise (fun x y => y ≤ x) ∧ k ≤ l.length ∧ i = .int .i64 k ∧ o = out ∧ Ow wr w.heap.size wr.heap.size 3 o (ints P) ∧ RdI wr a w.heap.size (.slice A l.length c) l ∧ Below w.heap.size w wr) (fun _ i _ => l.length - (intOf i).toNat)
  case atStart => exact ⟨0, [], _, List.Perm.refl _, List.Pairwise.nil, Nat.zero_le _, rfl, rfl, (Ow.empty w w.heap.size _ (Nat.le_refl _)).mono (Nat.le_refl _) (by simp), hr.new ((Below.refl _ _).alloc (Nat.le_refl _) _), (Below.refl _ _).alloc (Nat.le_refl _) _⟩
  case round =>
    clear hr
    obtain ⟨k, P, o, hP, hS, hk, rfl, rfl, ho, hr, hb⟩ := hrel
    have hPl : P.length = k := by rw [hP.length_eq, List.length_take]; omega
    have HP := Lib.hid (And.intro hP hS); clear hP hS
    have hlen : (ints P).length = k := by rw [ints_len, hPl]
    have hbs := hb.size
    by_cases hlt : k < l.length
    rotate_left
    · have Hl := Lib.hid (take_all hlt)
      go_wp2_with fail
      go_ret
      exact ⟨_, rfl, by rw [← sortD_unique (l := l) (p := P) (by have := HP.out.1; rwa [Hl.out] at this) HP.out.2]; exact ho, hb⟩
    obtain ⟨x, hx⟩ := get_of_lt l k hlt
    obtain ⟨b0, o0, rfl, _, _, _, hc⟩ := hr.at_ hx
    have Hx := Lib.hid (take_snoc hx); clear hx
    rename World => wo
    go_wp2_with (at_builtin; refine wpList_append_own _ rfl _ _ 22 rfl w.heap.size 3 i0 (.int .i64 0) 1 8 Try.underlying22 hi hz0 hz1 hz2 rfl (by decide) _ _ _ rfl (ho.1.alloc _) ⟨wo.heap.size, 0, none⟩ 1 1 [.int .i64 x] rfl rfl (cell_one_new _ _ _) (by simp [Value.oneCell']) (by unfold maxLen; omega) (by omega) (by simp; omega) ?_; intro v2 w2 hown2 hg2 _; have hf2 := (Ow.of_top hown2).form'; have hl2 : (ints P ++ [Value.int .i64 x]).length = k + 1 := (by simp; omega); rw [hl2] at hf2; obtain ⟨A2, c2, rfl, q1, q2⟩ := hf2)
    have hb2 : Below w.heap.size wo w2 := ((Below.refl _ _).alloc hbs _).grown hg2 (by simp; omega) (fun q hq => (ho.blk hq).1)
    have hr2 := hr.below hb2 (Nat.le_refl _)
    have hbw := hb.trans hb2
    have ho2 : Ow w2 w.heap.size w2.heap.size 3 (.slice A2 (k + 1) c2) (ints (P ++ x :: [])) := by
      rw [ints_app]; exact Ow.of_top hown2
    obtain ⟨g, rfl⟩ : ∃ g, A2 = some ⟨g, 0, none⟩ := by
      obtain ⟨g, e, _⟩ := ho2.at_ (ins_get P [] x)
      exact ⟨g, e⟩
    have hI : Ins (l.take (k + 1)) x P [] := by rw [Hx.out]; exact Ins.start HP.out.1 HP.out.2
    have HI := Lib.hid hI; clear hI
    have hgw := (ho2.blk (k := g) rfl)
    clear hown2 hg2 hr ho hb hb2 hc hl2
    go_wp2_with fail
    go_loopw [6, 7] (fun jj _y wr => ∃ (A1 B1 : List Int) (j : Nat), Hid (Ins (l.take (k + 1)) x A1 B1) ∧ j = A1.length ∧ jj = .int .i64 j ∧ j ≤ k ∧ Ow wr w.heap.size wr.heap.size 3 (.slice (some ⟨g, 0, none⟩) (k + 1) c2) (ints (A1 ++ x :: B1)) ∧ RdI wr a w.heap.size (.slice (some ⟨b0, o0, none⟩) l.length c) l ∧ Below w.heap.size w wr) (fun j _ _ => (intOf j).toNat)
    case atStart => exact ⟨P, [], k, HI, hPl.symm, by go_num, Nat.le_refl _, ho2, hr2, hbw⟩
    case round =>
      clear ho2 hr2 hbw HI
      obtain ⟨A1, B1, j, HI, hj, rfl, hjk, ho, hr, hb⟩ := hrel
      have hx0 := ins_get A1 B1 x
      rw [← hj] at hx0
      obtain ⟨g', eg, g1, g2, g3, cx, fx⟩ := ho.at_ hx0
      injection eg with eg; injection eg with eg; subst eg
      clear hx0
      have i1 : (j : Int) < (k : Int) + 1 := by omega
      rcases List.eq_nil_or_concat A1 with rfl | ⟨A', z, e⟩
      · have Hd := Lib.hid (HI.out.done (fun A' a e => by simp at e))
        have hj0 : j = 0 := by simpa using hj
        subst hj0
        clear hj
        go_wp2_with fail
        go_quiet (fail)
        go_wp2_with fail
        go_roundw
        case rel => exact ⟨k + 1, _, _, HI.out.perm, Hd.out, by omega, by go_num, rfl, ho.drewN _, hr.drewN _, below_drewN hb _⟩
        case measure => simp [intOf]; omega
      rw [List.concat_eq_append] at e
      subst e
      obtain ⟨m, hm⟩ : ∃ m, m = A'.length := ⟨_, rfl⟩
      obtain rfl : j = m + 1 := by simp at hj; omega
      have hz0' := ins_prev A' B1 x z
      rw [← hm] at hz0'
      obtain ⟨_, eg, _, _, _, cz, fz⟩ := ho.at_ hz0'
      injection eg with eg; injection eg with eg; subst eg
      clear hz0'
      have HM := Lib.hid hm; clear hm hj
      have i2 : (m : Int) < (k : Int) + 1 := by omega
      have i3 : (m : Int) + 1 < (k : Int) + 1 := by omega
      have i4 : (0 : Int) < (m : Int) + 1 := by omega
      by_cases hzx : z < x
      rotate_left
      · have Hd := Lib.hid (HI.out.done (fun A'' a e => by
          have := List.append_inj_right' e rfl
          simp at this; omega))
        have hzx2 : x ≤ z := by omega
        go_wp2_with fail
        go_quiet (fail)
        go_wp2_with fail
        go_roundw
        case rel => exact ⟨k + 1, _, _, HI.out.perm, Hd.out, by omega, by go_num, rfl, ho.drewN _, hr.drewN _, below_drewN hb _⟩
        case measure => simp [intOf]; omega
      have Hn := Lib.hid (HI.out.step hzx)
      go_wp2_with fail
      go_quiet (fail)
      go_wp2_with fail
      go_roundw
      case rel =>
        have hn := ho.len_.1
        have h1 := Ow.set' hn (ho.drewN nq) (m + 1) (.int .i64 z)
        have h2 := Ow.set' (by rw [List.length_set]; exact hn) h1 m (.int .i64 x)
        rw [HM.out, ins_swap, ← HM.out] at h2
        exact ⟨A', z :: B1, m, Hn, HM.out, rfl, by omega, by simpa using h2, ((hr.drewN _).far g1 _).far g1 _, ((below_drewN hb _).setCell g1 _).setCell g1 _⟩
      case measure => simp [intOf]
end Go.Proofs.Ytkjhodeajipihaa
