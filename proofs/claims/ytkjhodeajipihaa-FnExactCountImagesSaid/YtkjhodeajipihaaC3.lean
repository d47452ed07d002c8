/- Walks: l05Rows of spec. -/
import Derived.Test.YtkjhodeajipihaaProg
import Derived.Test.YtkjhodeajipihaaW1
import Derived.Test.YtkjhodeajipihaaW3
import Derived.Test.YtkjhodeajipihaaW4
import Derived.Test.YtkjhodeajipihaaW6
import Derived.Test.YtkjhodeajipihaaC1
import Derived.Test.YtkjhodeajipihaaMem
import Derived.WalkKit
import Derived.WalkSpells
import Derived.WalkLawsBesides
import Derived.KernelRfl
import Derived.Lib.Hide
import Derived.Deep.QuietTactic
import Derived.BigQuiet
namespace Go.Proofs.Ytkjhodeajipihaa
open Go.RowKit
set_option linter.unusedVariables false
set_option linter.unusedSimpArgs false

/-- What the loop over the first cell has put together after k rounds. -/
def partL (c b k : Nat) : List (List Int) := (if 1 ≤ k then (rowsL c b).map (0 :: ·) else []) ++ (if 2 ≤ k ∧ 1 ≤ b then (rowsL c (b - 1)).map (1 :: ·) else [])
theorem partL_zero (c b : Nat) : partL c b 0 = [] := by simp [partL]
theorem partL_two (c b : Nat) : partL c b 2 = rowsL (c + 1) b := by simp [partL, rowsL]
theorem partL_step (c b k : Nat) (hk : k < 2) (h : k ≤ b) : partL c b (k + 1) = partL c b k ++ (rowsL c (b - k)).map ((k : Int) :: ·) := by
  match k, hk with
  | 0, _ => simp [partL]
  | 1, _ => simp [partL, h]
theorem partL_skip (c b k : Nat) (hk : k < 2) (h : ¬ k ≤ b) : partL c b (k + 1) = partL c b k := by
  match k, hk with
  | 0, _ => omega
  | 1, _ => simp [partL, h]
theorem rowsL_num : ∀ (c b : Nat), (rowsL c b).length ≤ 2 ^ c
  | 0, b => by unfold rowsL; split <;> simp
  | c + 1, b => by
    have h1 := rowsL_num c b
    have h2 := rowsL_num c (b - 1)
    unfold rowsL
    rw [List.length_append, List.length_map, Nat.pow_succ]
    split <;> simp <;> omega
theorem partL_num (c b k : Nat) (hc : c ≤ 4) : (partL c b k).length ≤ 32 := by
  have h1 := rowsL_num c b
  have h2 := rowsL_num c (b - 1)
  have h3 : 2 ^ c ≤ 2 ^ 4 := Nat.pow_le_pow_right (by omega) hc
  unfold partL
  rw [List.length_append]
  split <;> split <;> simp <;> omega
theorem own_one (w : World) (base : Nat) (e : TypeId) (u : Value) (hb : base ≤ w.heap.size) : (w.alloc (.cells #[u] e)).ownsRow base e 1 (.slice (some ⟨w.heap.size, 0, none⟩) 1 1) 1 [u] :=
  World.ownsRow_lit w #[u] 1 hb (by unfold maxLen; omega) rfl
theorem map_take_snoc {α β : Type} {l : List α} {k : Nat} {x : α} (f : α → β) (h : l[k]? = some x) : (l.take (k + 1)).map f = (l.take k).map f ++ [f x] := by
  rw [take_snoc h, List.map_append]; rfl

theorem RdG.grownOff {w w' : World} {lo hi : Nat} {v : Value} {g : List (List Int)} {blk : Option Nat} (h : RdG w lo hi v g) (hg : w.grownBy w' blk) (hd : ∀ q, blk = some q → q < lo ∨ hi ≤ q) : RdG w' lo hi v g := by
  cases blk with
  | none => exact h.chg ((Chg.refl 0 0 w).grown hg (fun k e => by cases e)) (.inr (.inr (.inl (Nat.le_refl _))))
  | some q => exact h.chg ((Chg.refl q (q + 1) w).grown hg (fun k e => by injection e with e; subst e; exact .inl ⟨Nat.le_refl _, Nat.lt_succ_self _⟩)) (by have := hd q rfl; omega)
theorem RdI.grownOff {w w' : World} {lo hi : Nat} {v : Value} {l : List Int} {blk : Option Nat} (h : RdI w lo hi v l) (hg : w.grownBy w' blk) (hd : ∀ q, blk = some q → q < lo ∨ hi ≤ q) : RdI w' lo hi v l := by
  cases blk with
  | none => exact h.chg ((Chg.refl 0 0 w).grown hg (fun k e => by cases e)) (.inr (.inr (.inl (Nat.le_refl _))))
  | some q => exact h.chg ((Chg.refl q (q + 1) w).grown hg (fun k e => by injection e with e; subst e; exact .inl ⟨Nat.le_refl _, Nat.lt_succ_self _⟩)) (by have := hd q rfl; omega)
/-- The post of l05Rows. -/
def RetRd (w : World) (g : List (List Int)) (e : Ending) (w' : World) : Prop := ∃ v, e = .returned v ∧ RdG w' w.heap.size w'.heap.size v g ∧ Below w.heap.size w w'
theorem rd_one (w : World) (lo : Nat) (T I : TypeId) (h : lo ≤ w.heap.size) : RdG ((w.alloc (.cells #[] I)).alloc (.cells #[.slice (some ⟨w.heap.size, 0, none⟩) 0 0] T)) lo (w.heap.size + 2) (.slice (some ⟨w.heap.size + 1, 0, none⟩) 1 1) [[]] := by
  have hsz : (w.alloc (.cells #[] I)).heap.size = w.heap.size + 1 := by simp
  have h1 := Ow.of_top (own_one (w.alloc (.cells #[] I)) lo T (.slice (some ⟨w.heap.size, 0, none⟩) 0 0) (by omega))
  have h2 := h1.rd
  rw [hsz] at h2
  have hs2 : ((w.alloc (.cells #[] I)).alloc (.cells #[.slice (some ⟨w.heap.size, 0, none⟩) 0 0] T)).heap.size = w.heap.size + 2 := by simp
  rw [hs2] at h2
  refine ⟨_, rfl, h2, fun k u r hu hr => ?_⟩
  match k, hu, hr with
  | 0, hu, hr =>
    simp at hu hr
    subst hu; subst hr
    exact ⟨_, 0, rfl, by simp [ints], by simp, fun k u hu => by simp [ints] at hu⟩
  | k + 1, hu, hr => simp at hu

set_option maxRecDepth 100000 in
set_option maxHeartbeats 4000000 in
theorem spec_l05Rows : ∀ (c b : Nat) (w : World), c ≤ 5 → b ≤ 5 → Calls Try.prog 23 #[.int .i64 c, .int .i64 b] w (RetRd w (rowsL c b))
  | 0, b, w, _, hb5 => by
    by_cases hb : b = 0
    · subst hb
      have GD : Hid (rowsL 0 0 = [[]]) := by rfl
      go_enter Try.func23, Try.ntmps23
      go_wp2_with fail
      go_ret
      refine ⟨_, rfl, ?_, ((Below.refl _ _).alloc (Nat.le_refl _) _).alloc (by simp) _⟩
      rw [GD.out]
      exact (rd_one w _ _ _ (Nat.le_refl _)).mono (Nat.le_refl _) (by simp)
    · have GD : Hid (rowsL 0 b = []) := by
        have : rowsL 0 b = [] := by unfold rowsL; exact if_neg hb
        exact this
      have hne : ((b : Int) == 0) = false := by simp; omega
      go_enter Try.func23, Try.ntmps23
      go_wp2_with fail
      go_ret
      refine ⟨_, rfl, ?_, Below.refl _ _⟩
      rw [GD.out]
      exact (OwG.nil _ _ _ 22 3).rd
  | c + 1, b, w, hc5, hb5 => by
    have IH := Lib.hid (spec_l05Rows c)
    obtain ⟨i0, hi, hz0, hz1, hz2⟩ := info_parts int_info
    obtain ⟨j0, hj, jz0, jz1, jz2⟩ := info_parts row_info
    have hne : (((c + 1 : Nat) : Int) == 0) = false := by simp; omega
    have hcw : IntKind.i64.wrap (((c + 1 : Nat) : Int) - 1) = (c : Int) := by rw [IntKind.wrap_i64]; omega
    go_enter Try.func23, Try.ntmps23
    go_wp2_with fail
    go_loopw [5, 6] (fun o i wr => ∃ (k : Nat) (O : Value), O = o ∧ k ≤ 2 ∧ i = .int .i64 k ∧ OwG wr w.heap.size wr.heap.size 22 3 O (partL c b k) ∧ Below w.heap.size w wr) (fun _ i _ => 2 - (intOf i).toNat)
    case atStart => exact ⟨0, _, rfl, by omega, rfl, by rw [partL_zero]; exact (OwG.empty w w.heap.size _ _ (Nat.le_refl _)).mono (Nat.le_refl _) (by simp), (Below.refl _ _).alloc (Nat.le_refl _) _⟩
    case round =>
      obtain ⟨k, O, rfl, hk, rfl, hG, hb⟩ := hrel
      rename World => wo
      by_cases hlt : k < 2
      rotate_left
      · obtain rfl : k = 2 := by omega
        rw [partL_two] at hG
        go_wp2_with fail
        go_ret
        exact ⟨O, rfl, hG.rd, hb⟩
      by_cases hkb : k ≤ b
      rotate_left
      · have HP := Lib.hid (partL_skip c b k hlt hkb)
        have hnk : ¬ ((k : Int) ≤ (b : Int)) := by omega
        go_wp2_with fail
        go_roundw
        case rel => exact ⟨k + 1, _, rfl, by omega, by go_num, by rw [HP.out]; exact hG, hb⟩
        case measure => simp [intOf]; omega
      have hki : (k : Int) ≤ (b : Int) := by omega
      have hkw : IntKind.i64.wrap ((b : Int) - (k : Int)) = ((b - k : Nat) : Int) := by rw [IntKind.wrap_i64]; omega
      have HC := Lib.hid (IH.out (b - k) wo (by omega) (by omega))
      have hlen := rowsL_num c (b - k)
      have h16 : 2 ^ c ≤ 2 ^ 4 := Nat.pow_le_pow_right (by omega) (by omega)
      have hpn := partL_num c b k (by omega)
      obtain ⟨G0, hG0⟩ : ∃ G, G = partL c b k := ⟨_, rfl⟩
      obtain ⟨R, hR⟩ : ∃ R, R = rowsL c (b - k) := ⟨_, rfl⟩
      have hrl : ∀ r ∈ R, r.length = c := by rw [hR]; exact rowsL_len c (b - k)
      have HRL := Lib.hid hrl; clear hrl
      rw [← hG0] at hG hpn
      rw [← hR] at HC hlen
      have HG0 := Lib.hid hG0; clear hG0
      have HR := Lib.hid hR; clear hR
      have h16' : R.length ≤ 16 := by omega
      clear h16 hlen
      go_wp2_with fail
      refine HC.out.mono ?_
      rintro e w1 ⟨v1, rfl, hv1, hb1⟩
      have hbs := hb.size
      have hs1 := hb1.size
      obtain ⟨A1, c1, rfl, n1, n2⟩ := hv1.form
      replace hG := hG.new hb1
      have HO : Hid (∀ q, Value.ownBlock O = some q → q < wo.heap.size ∨ w1.heap.size ≤ q) := Lib.hid (fun q hq => by obtain ⟨vs, _, ho, _⟩ := hG; exact .inl (ho.blk hq).2.1)
      go_wp2_with fail
      go_loopw [5, 30] (fun o i wr => ∃ (j : Nat) (O : Value), O = o ∧ j ≤ R.length ∧ i = .int .i64 j ∧ OwG wr w.heap.size wr.heap.size 22 3 O (G0 ++ (R.take j).map ((k : Int) :: ·)) ∧ Hid (∀ q, O.ownBlock = some q → q < wo.heap.size ∨ w1.heap.size ≤ q) ∧ RdG wr wo.heap.size w1.heap.size (.slice A1 R.length c1) R ∧ Below w.heap.size w1 wr) (fun _ i _ => R.length - (intOf i).toNat)
      case atStart => exact ⟨0, _, rfl, Nat.zero_le _, rfl, by rw [List.take_zero, List.map_nil, List.append_nil]; exact hG.mono (Nat.le_refl _) hs1, HO, hv1, Below.refl _ _⟩
      case round =>
        clear hv1 hG HO
        obtain ⟨j, O, rfl, hj', rfl, hG, HO, hr, hb2⟩ := hrel
        rename World => wq
        by_cases hlj : j < R.length
        rotate_left
        · have Hall := Lib.hid (take_all hlj)
          go_wp2_with fail
          go_roundw
          case rel =>
            refine ⟨_, _, _, _, _, _, _, _, _, _, _, _, _, _, _, _, _, _, _, _, _, _, _, _, _, _, _, _, _, ⟨k + 1, _, rfl, by omega, by go_num, ?_, hb.trans ((hb1.mono hbs).trans hb2)⟩, rfl⟩
            rw [partL_step c b k hlt hkb, ← HG0.out, ← HR.out]
            rw [Hall.out] at hG
            exact hG
          case measure => simp [intOf]; omega
        obtain ⟨r, hx⟩ := get_of_lt R j hlj
        obtain ⟨b0, o0, rfl, _, _⟩ := hr.some_ (by omega)
        obtain ⟨A', c', hc, h3, h4, hrow⟩ := hr.row hx
        have hrc : r.length ≤ 5 := (by have := HRL.out r (List.mem_of_getElem? hx); omega)
        obtain ⟨vs, he, ho, hrows, hdist⟩ := hG
        have hvs : vs.length ≤ 64 := by rw [he, List.length_append, List.length_map, List.length_take]; omega
        have hsq := hb2.size
        have HX := Lib.hid (map_take_snoc ((k : Int) :: ·) hx); clear hx
        have HE := Lib.hid he; clear he
        have i1 : (j : Int) < (R.length : Int) := by omega
        have hrow' : Rd (wq.alloc (.cells #[.int .i64 k] 3)) wo.heap.size w1.heap.size (.slice A' r.length c') (ints r) := Rd.new hrow ((Below.refl _ _).alloc (Nat.le_refl _) _)
        go_wp2_with (first
          | (at_builtin; refine wpList_append_rd rfl _ _ 22 rfl wq.heap.size 3 i0 (.int .i64 0) 8 Try.underlying22 hi hz0 hz1 hz2 rfl (.slice (some ⟨wq.heap.size, 0, none⟩) 1 1) 1 [.int .i64 k] rfl (own_one _ _ _ _ (Nat.le_refl _)) A' r.length c' (ints r) rfl hrow' (ints_one r) (by unfold maxLen; omega) (by omega) (by simp) ?_; intro v3 w3 hown3 hg3 _; have hb3 : Below wq.heap.size wq w3 := ((Below.refl _ _).alloc (Nat.le_refl _) _).grown hg3 (by simp) (by simp [Value.ownBlock]); have hu : Ow w3 wq.heap.size w3.heap.size 3 v3 (ints ((k : Int) :: r)) := Ow.of_top (xs := ints ((k : Int) :: r)) (by simpa [ints] using hown3); clear hown3; have ho3 := ho.new hb3; have hs3 := hb3.size; obtain ⟨Au, cu, rfl, _, _⟩ := hu.form')
          | (at_builtin; refine wpList_append_rd rfl _ _ 30 rfl w.heap.size 22 j0 (.slice none 0 0) 24 Try.underlying30 hj jz0 jz1 jz2 rfl O vs.length vs rfl (ho3.1.alloc _) (some ⟨w3.heap.size, 0, none⟩) 1 1 [.slice Au (ints ((k : Int) :: r)).length cu] rfl (Ow.of_top (own_one w3 0 22 (.slice Au (ints ((k : Int) :: r)).length cu) (Nat.zero_le _))).rd (by simp [Value.oneCell']) (by unfold maxLen; omega) (by omega) (by simp; omega) ?_; intro v4 w4 hown4 hg4 hnew4))
        go_roundw
        case rel =>
          have hbW : Below wq.heap.size wq (w3.alloc (.cells #[.slice Au (ints ((k : Int) :: r)).length cu] 22)) := hb3.alloc hs3 _
          have hG' := OwG.push RI ho HE.out hrows hdist (by omega) (Nat.le_refl _) hbW (hu.alloc _) hown4 hg4
          have hb4 : Below w.heap.size wq w4 := ((hb3.mono (by omega)).alloc (by omega) _).grown hg4 (by simp; omega) (fun q hq => (ho3.blk hq).1)
          refine ⟨j + 1, _, rfl, by omega, by go_num, ?_, Lib.hid (fun q hq => ?_), ?_, hb2.trans hb4⟩
          · rw [HX.out, ← List.append_assoc]; exact hG'
          · rcases hnew4 with e | e
            · rw [e] at hq; exact HO.out q hq
            · rw [e] at hq; injection hq with hq; simp at hq; omega
          · exact ((hr.new hb3).chg ((Chg.refl 0 0 w3).alloc _) (.inr (.inr (.inl (Nat.le_refl _))))).grownOff hg4 HO.out
        case measure => simp [intOf]; omega
end Go.Proofs.Ytkjhodeajipihaa
