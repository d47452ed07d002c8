/- Plain law of the built image; the walk of l05Fill of spec. -/
import Derived.Test.YtdgkiebgmhcmdaaProg
import Derived.Test.YtdgkiebgmhcmdaaW1
import Derived.Test.YtdgkiebgmhcmdaaW3
import Derived.Test.YtdgkiebgmhcmdaaW4
import Derived.Test.YtdgkiebgmhcmdaaW6
import Derived.Test.YtdgkiebgmhcmdaaB1
import Derived.Test.YtdgkiebgmhcmdaaMem
import Derived.WalkKit
import Derived.WalkSpells
import Derived.WalkLawsBesides
import Derived.KernelRfl
import Derived.Lib.Hide
import Derived.Deep.QuietTactic
import Derived.BigQuiet
namespace Go.Proofs.Ytdgkiebgmhcmdaa
open Go.RowKit
set_option linter.unusedVariables false
set_option linter.unusedSimpArgs false

def buildR : List Int → List Int → List (List Int)
  | [], _ => []
  | n :: rs, left => fillR left n.toNat :: buildR rs (restR left n.toNat)
def leftR : List Int → List Int → List Int
  | [], left => left
  | n :: rs, left => leftR rs (restR left n.toNat)
theorem leftR_snoc : ∀ (l : List Int) (n : Int) (left : List Int), leftR (l ++ [n]) left = restR (leftR l left) n.toNat
  | [], n, left => rfl
  | x :: l, n, left => by rw [List.cons_append, leftR, leftR_snoc l n, leftR]
theorem buildR_snoc : ∀ (l : List Int) (n : Int) (left : List Int), buildR (l ++ [n]) left = buildR l left ++ [fillR (leftR l left) n.toNat]
  | [], n, left => rfl
  | x :: l, n, left => by rw [List.cons_append, buildR, buildR_snoc l n, buildR, leftR, List.cons_append]
theorem leftR_len : ∀ (l left : List Int), (leftR l left).length = left.length
  | [], left => rfl
  | x :: l, left => by rw [leftR, leftR_len l, rest_len]
theorem buildR_len : ∀ (l left : List Int), (buildR l left).length = l.length
  | [], left => rfl
  | x :: l, left => by rw [buildR, List.length_cons, buildR_len l, List.length_cons]
/-- The left sums are small. -/
def LBd (L : List Int) (k : Nat) : Prop := ∀ x, -(k : Int) ≤ lv L x ∧ lv L x ≤ 5
theorem lv_rest (left : List Int) (n x : Nat) : lv (restR left n) x = if x < left.length then lv left x - mk01 left n x else 0 := by
  unfold lv
  by_cases h : x < left.length
  · rw [if_pos h, List.getD_eq_getElem?_getD, rest_get h]; rfl
  · rw [if_neg h, List.getD_eq_getElem?_getD, List.getElem?_eq_none (by rw [rest_len]; omega)]; rfl
theorem LBd.rest {L : List Int} {k : Nat} (h : LBd L k) (n : Nat) : LBd (restR L n) (k + 1) := by
  intro x
  have h1 := h x
  have h2 := mk01_bd L n x
  rw [lv_rest]
  split <;> omega
theorem LBd.left {L : List Int} (h : LBd L 0) : ∀ (l : List Int), LBd (leftR l L) l.length := by
  have g : ∀ (l : List Int) (L : List Int) (k : Nat), LBd L k → LBd (leftR l L) (k + l.length) := by
    intro l
    induction l with
    | nil => intro L k h; exact h
    | cons x l ih =>
      intro L k h
      have := ih _ _ (h.rest x.toNat)
      rw [leftR, List.length_cons]
      rwa [show k + (l.length + 1) = k + 1 + l.length by omega]
  intro l
  have := g l L 0 h
  rwa [Nat.zero_add] at this
theorem LBd.mono {L : List Int} {k m : Nat} (h : LBd L k) (hk : k ≤ m) : LBd L m := fun x => by have := h x; omega
theorem lv_get {left : List Int} {x : Nat} (h : x < left.length) : left[x]? = some (lv left x) := by simp [lv, h]

/-- The best column so far, among those not yet taken. -/
def Best (left : List Int) (i x : Nat) (b : Int) : Prop :=
  (b = -1 ∧ ∀ y, y < x → y ∈ (qOf left).take i) ∨ (∃ bn : Nat, b = bn ∧ bn < x ∧ bn ∉ (qOf left).take i ∧ ∀ y, y < x → y ∉ (qOf left).take i → y ≠ bn → ltB left bn y = true)
theorem best_start (left : List Int) (i : Nat) : Best left i 0 (-1) := .inl ⟨rfl, fun y hy => by omega⟩
theorem best_skip {left : List Int} {i x : Nat} {b : Int} (h : Best left i x b) (hx : x ∈ (qOf left).take i) : Best left i (x + 1) b := by
  rcases h with ⟨h1, h2⟩ | ⟨bn, h1, h2, h3, h4⟩
  · refine .inl ⟨h1, fun y hy => ?_⟩
    by_cases e : y = x
    · subst e; exact hx
    · exact h2 y (by omega)
  · refine .inr ⟨bn, h1, by omega, h3, fun y hy hn hne => ?_⟩
    by_cases e : y = x
    · subst e; exact absurd hx hn
    · exact h4 y (by omega) hn hne
theorem best_one {left : List Int} {i x : Nat} (h : Best left i x (-1)) (hx : x ∉ (qOf left).take i) : Best left i (x + 1) x := by
  rcases h with ⟨_, h2⟩ | ⟨bn, h1, _⟩
  · refine .inr ⟨x, rfl, Nat.lt_succ_self _, hx, fun y hy hn hne => ?_⟩
    exact absurd (h2 y (by omega)) hn
  · omega
theorem best_more {left : List Int} {i x bn : Nat} (h : Best left i x bn) (hx : x ∉ (qOf left).take i) (hg : lv left bn < lv left x) : Best left i (x + 1) x := by
  rcases h with ⟨h1, h2⟩ | ⟨bn', h1, h2, h3, h4⟩
  · omega
  · obtain rfl : bn = bn' := by omega
    refine .inr ⟨x, rfl, Nat.lt_succ_self _, hx, fun y hy hn hne => ?_⟩
    by_cases e : y = bn
    · subst e; rw [ltB_iff]; exact .inl hg
    · have := h4 y (by omega) hn e
      rw [ltB_iff] at this ⊢
      left; omega
theorem best_less {left : List Int} {i x bn : Nat} (h : Best left i x bn) (hg : ¬ lv left bn < lv left x) : Best left i (x + 1) bn := by
  rcases h with ⟨h1, h2⟩ | ⟨bn', h1, h2, h3, h4⟩
  · omega
  · obtain rfl : bn = bn' := by omega
    refine .inr ⟨bn, rfl, by omega, h3, fun y hy hn hne => ?_⟩
    by_cases e : y = x
    · subst e; rw [ltB_iff]; omega
    · exact h4 y (by omega) hn hne
theorem best_cases {left : List Int} {i x : Nat} {b : Int} (h : Best left i x b) : b = -1 ∨ ∃ bn : Nat, b = bn ∧ bn < x := by
  rcases h with ⟨h1, h2⟩ | ⟨bn, h1, h2, _⟩
  · exact .inl h1
  · exact .inr ⟨bn, h1, h2⟩
theorem best_fin {left : List Int} {i q : Nat} {b : Int} (h : Best left i left.length b) (hq : (qOf left)[i]? = some q) : b = q := by
  have hf := q_fresh hq
  have hl := q_lt hq
  rcases h with ⟨h1, h2⟩ | ⟨bn, h1, h2, h3, h4⟩
  · exact absurd (h2 q hl) hf
  · by_cases e : q = bn
    · omega
    · have g1 := h4 q hl hf e
      have g2 := q_first hq h2 h3 (fun hh => e hh.symm)
      rw [ltB_asym g1] at g2
      cases g2
theorem mk01_zero {left : List Int} {i x : Nat} : mk01 left i x = 0 ↔ x ∉ (qOf left).take i := by
  unfold mk01; split <;> simp_all

theorem setC_size (w : World) (p : Addr) (u : Value) : (w.setCell p u).heap.size = w.heap.size := by simp [World.setCell]
set_option maxRecDepth 100000 in
set_option maxHeartbeats 4000000 in
theorem spec_l05Fill (n : Nat) (left : List Int) (v : Value) (w : World) (a b : Nat) (hr : RdI w a b v left) (hn : n ≤ left.length) (h5 : left.length ≤ 5) (hL : LBd left 5) :
    Calls Try.prog 94 #[.int .i64 n, v] w fun e w' => ∃ v1 v2, e = .returned (.tuple #[v1, v2]) ∧ Ow w' w.heap.size w'.heap.size 3 v1 (ints (fillR left n)) ∧ RdI w' w.heap.size w'.heap.size v2 (restR left n) ∧ Below w.heap.size w w' := by
  obtain ⟨A, c, rfl, h1, h2⟩ := hr.form
  replace hr := hr.clip
  obtain ⟨i0, hi, hz0, hz1, hz2⟩ := info_parts int_info
  obtain ⟨C, hC⟩ : ∃ C, C = left.length := ⟨_, rfl⟩
  rw [← hC] at hn h5 h1 hr ⊢
  have HL := Lib.hid hL; clear hL
  have HC := Lib.hid hC; clear hC
  go_enter Try.func94, Try.ntmps94
  go_wp2_with (first
    | (at_make; refine wpList_make_full _ rfl _ _ 27 rfl w.heap.size 3 i0 (.int .i64 0) 1 Try.underlying27 hi hz0 hz1 _ _ _ _ C rfl rfl rfl rfl (by rw [hz2]; omega) (by unfold maxLen; omega) (Nat.le_refl _) ?_; intro w1 hown1 hg1; have hb1 : Below w.heap.size w w1 := (Below.refl _ _).grown hg1 (Nat.le_refl _) (by simp); have hs1 := hb1.size; have hr1 := hr.new hb1; have hu1 : Ow w1 w.heap.size w1.heap.size 3 (.slice (some ⟨w.heap.size, 0, none⟩) C C) (ints (fillR left 0)) := (by rw [fill_zero, ← HC.out]; refine Ow.of_top (n := C) ?_; rw [made_ints] at hown1; exact hown1); clear hown1 hg1; have hr1' : RdI (w1.alloc (.cells #[] 3)) a w.heap.size (.slice A C c) left := hr1.new ((Below.refl _ _).alloc (Nat.le_refl _) _); have hu1' := hu1.alloc (.cells #[] 3))
    | (at_builtin; refine wpList_append_rd rfl _ _ 27 rfl w1.heap.size 3 i0 (.int .i64 0) 8 Try.underlying27 hi hz0 hz1 hz2 rfl (.slice (some ⟨w1.heap.size, 0, none⟩) 0 0) 0 [] rfl (own_empty _ _ _ (Nat.le_refl _)) A C c (ints left) rfl hr1' (ints_one left) (by unfold maxLen; omega) (by omega) (by simp) ?_; intro v2 w2 hown2 hg2 _))
  have hb2 : Below w.heap.size w w2 := (hb1.alloc hs1 _).grown hg2 (by simp; omega) (by simp [Value.ownBlock]; omega)
  have hb12 : Below w1.heap.size w1 w2 := ((Below.refl _ _).alloc (Nat.le_refl _) _).grown hg2 (by simp) (by simp [Value.ownBlock])
  have hv2 : Ow w2 w1.heap.size w2.heap.size 3 v2 (ints (restR left 0)) := by rw [rest_zero]; exact Ow.of_top (by simpa using hown2)
  have hu2 := hu1.new hb12
  have hr2 := hr1.new hb12
  obtain ⟨A2, c2, rfl, k1, k2⟩ := hv2.form'
  have hl2 : (ints (restR left 0)).length = C := by rw [ints_len, rest_len]; exact HC.out.symm
  rw [hl2] at k1 hv2 ⊢
  obtain ⟨q1, hq1⟩ : ∃ n, n = w1.heap.size := ⟨_, rfl⟩
  obtain ⟨q2, hq2⟩ : ∃ n, n = w2.heap.size := ⟨_, rfl⟩
  have hq12 : q1 ≤ q2 := by rw [hq1, hq2]; exact hb12.size
  rw [← hq1] at hv2 hu2 hs1
  rw [← hq2] at hv2
  clear hown2 hg2 hb1 hb12 hu1 hu1' hr1 hr1' hr hq1
  have HQ2 := Lib.hid hq2.symm; clear hq2
  go_loopw [8] (fun i wr => ∃ k : Nat, k ≤ n ∧ i = .int .i64 k ∧ Ow wr w.heap.size q1 3 (.slice (some ⟨w.heap.size, 0, none⟩) C C) (ints (fillR left k)) ∧ Ow wr q1 q2 3 (.slice A2 C c2) (ints (restR left k)) ∧ RdI wr a w.heap.size (.slice A C c) left ∧ Below w.heap.size w wr ∧ Hid (wr.heap.size = q2)) (fun i _ => n - (intOf i).toNat)
  case atStart => exact ⟨0, Nat.zero_le _, rfl, hu2, hv2, hr2, hb2, HQ2⟩
  case round =>
    clear hu2 hv2 hr2 hb2 HQ2
    obtain ⟨k, hk, rfl, hu, hv, hr, hb, HQ⟩ := hrel
    by_cases hlt : k < n
    rotate_left
    · obtain rfl : k = n := by omega
      have hhq := HQ.out
      go_wp2_with fail
      go_ret2
      exact ⟨_, _, rfl, hu.mono (Nat.le_refl _) (by omega), (Ow.rdI hv).mono hs1 (by omega), hb⟩
    obtain ⟨Q, hQ⟩ : ∃ Q, (qOf left)[k]? = some Q := get_of_lt _ k (by rw [q_len, ← HC.out]; omega)
    have HQQ := Lib.hid hQ; clear hQ
    have hQC : Q < C := by rw [HC.out]; exact q_lt HQQ.out
    obtain ⟨gv, eA2, v1, v2', v3, vc, vf⟩ := hv.at_ (k := Q) (u := .int .i64 (lv left Q)) (by rw [ints_get, rest_at HQQ.out]; rfl)
    subst eA2
    go_wp2_with fail
    go_loopw [9, 25] (fun bv xv wq => ∃ (x : Nat) (B : Int), x ≤ C ∧ xv = .int .i64 x ∧ bv = .int .i64 B ∧ Hid (Best left k x B) ∧ wq = wr) (fun _ xv _ => C - (intOf xv).toNat)
    case atStart => exact ⟨0, -1, Nat.zero_le _, rfl, rfl, Lib.hid (best_start _ _), rfl⟩
    case round =>
      obtain ⟨x, B, hx, rfl, rfl, HB, rfl⟩ := hrel
      by_cases hlt2 : x < C
      rotate_left
      · obtain rfl : x = C := by omega
        have hBQ : B = Q := best_fin (by have := HB.out; rwa [HC.out] at this) HQQ.out
        subst hBQ
        have hQi : (Q : Int) < (x : Int) := by omega
        have hwr := wrap_small
        have hbd := HL.out Q
        obtain ⟨lq, hlq⟩ : ∃ z, z = lv left Q := ⟨_, rfl⟩
        rw [← hlq] at vc hbd
        have HLQ := Lib.hid hlq; clear hlq
        obtain ⟨hbd1, hbd2⟩ := hbd
        have fw : IntKind.i64.wrap (lq - 1) = lq - 1 := by rw [IntKind.wrap_i64]; omega
        have hq1' := (hu.blk (k := w.heap.size) rfl).2.1
        have ne1 : w.heap.size ≠ gv := by omega
        obtain ⟨uu, hs1', hs2'⟩ := hu.slot (k := Q) (by rw [ints_len, fill_len, ← HC.out]; exact hQC)
        clear hwr
        have hu' := (Ow.set' (by rw [ints_len, fill_len]; exact HC.out) hu Q (.int .i64 1)).far (p := ⟨gv, Q, none⟩) (fun kk hkk => by simp [Value.ownBlock] at hkk; subst hkk; exact ne1) (.int .i64 (lq - 1))
        have hv' := Ow.set' (by rw [ints_len, rest_len]; exact HC.out) (hv.far (p := ⟨w.heap.size, Q, none⟩) (fun kk hkk => by simp [Value.ownBlock] at hkk; subst hkk; exact fun e => ne1 e.symm) (.int .i64 1)) Q (.int .i64 (lq - 1))
        rw [ints_set, fillB_step HQQ.out] at hu'
        rw [ints_set, HLQ.out, rest_step HQQ.out, ← HLQ.out] at hv'
        go_wp2_with fail
        go_roundw
        case rel => exact ⟨k + 1, by omega, by go_num, hu', hv', (hr.far (show w.heap.size ≤ w.heap.size from Nat.le_refl _) _).far (show w.heap.size ≤ gv by omega) _, (hb.setCell (p := ⟨w.heap.size, Q, none⟩) (Nat.le_refl _) _).setCell (p := ⟨gv, Q, none⟩) (show w.heap.size ≤ gv by omega) _, Lib.hid (by rw [setC_size, setC_size]; exact HQ.out)⟩
        case measure => simp [intOf]; omega
      obtain ⟨b0, o0, eA, _, _, _, hcx⟩ := hr.at_ (k := x) (x := lv left x) (lv_get (by rw [← HC.out]; exact hlt2))
      subst eA
      obtain ⟨lx, hlx⟩ : ∃ z, z = lv left x := ⟨_, rfl⟩
      rw [← hlx] at hcx
      have HLX := Lib.hid hlx; clear hlx
      obtain ⟨_, e1, _, _, _, hcu, _⟩ := hu.at_ (k := x) (u := .int .i64 (mk01 left k x)) (by rw [ints_get, fill_get (by rw [← HC.out]; exact hlt2)]; rfl)
      injection e1 with e1; injection e1 with e1; subst e1
      have i1 : (x : Int) < (C : Int) := by omega
      by_cases hm : x ∈ (qOf left).take k
      · have hz : mk01 left k x = 1 := by rw [mk01, if_pos hm]
        rw [hz] at hcu
        have HM := Lib.hid hm; clear hm
        go_wp2_with fail
        go_roundw
        case rel => exact ⟨x + 1, B, by omega, by go_num, rfl, Lib.hid (best_skip HB.out HM.out), trivial⟩
        case measure => simp [intOf]; omega
      · have hz : mk01 left k x = 0 := by rw [mk01, if_neg hm]
        rw [hz] at hcu
        have HM := Lib.hid hm; clear hm
        rcases best_cases HB.out with e | ⟨bn, e, hbn⟩
        · subst e
          go_wp2_with fail
          go_roundw
          case rel => exact ⟨x + 1, x, by omega, by go_num, rfl, Lib.hid (best_one HB.out HM.out), trivial⟩
          case measure => simp [intOf]; omega
        · subst e
          obtain ⟨b2, o2, e2, _, _, _, hcb⟩ := hr.at_ (k := bn) (x := lv left bn) (lv_get (by rw [← HC.out]; omega))
          injection e2 with e2; injection e2 with e2 e3; subst e2; subst e3
          obtain ⟨lb, hlb⟩ : ∃ z, z = lv left bn := ⟨_, rfl⟩
          rw [← hlb] at hcb
          have HLB := Lib.hid hlb; clear hlb
          have i2 : (bn : Int) < (C : Int) := by omega
          have i3 : ¬ (bn : Int) < 0 := by omega
          by_cases hg : lb < lx
          · go_wp2_with fail
            go_roundw
            case rel => exact ⟨x + 1, x, by omega, by go_num, rfl, Lib.hid (best_more HB.out HM.out (by rw [← HLB.out, ← HLX.out]; exact hg)), trivial⟩
            case measure => simp [intOf]; omega
          · go_wp2_with fail
            go_roundw
            case rel => exact ⟨x + 1, bn, by omega, by go_num, rfl, Lib.hid (best_less HB.out (by rw [← HLB.out, ← HLX.out]; exact hg)), trivial⟩
            case measure => simp [intOf]; omega
end Go.Proofs.Ytdgkiebgmhcmdaa
