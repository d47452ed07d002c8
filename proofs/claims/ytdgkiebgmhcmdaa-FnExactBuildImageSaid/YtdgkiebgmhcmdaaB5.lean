/- The walk of BuildImage of impl. -/
import Derived.Test.YtdgkiebgmhcmdaaProg
import Derived.Test.YtdgkiebgmhcmdaaW1
import Derived.Test.YtdgkiebgmhcmdaaW3
import Derived.Test.YtdgkiebgmhcmdaaW4
import Derived.Test.YtdgkiebgmhcmdaaW6
import Derived.Test.YtdgkiebgmhcmdaaW16
import Derived.Test.YtdgkiebgmhcmdaaPoke
import Derived.Test.YtdgkiebgmhcmdaaS3
import Derived.Test.YtdgkiebgmhcmdaaS4
import Derived.Test.YtdgkiebgmhcmdaaB1
import Derived.Test.YtdgkiebgmhcmdaaB2
import Derived.Test.YtdgkiebgmhcmdaaB3
import Derived.Test.YtdgkiebgmhcmdaaB4
import Derived.Test.YtdgkiebgmhcmdaaMem
import Derived.WalkKit
import Derived.WalkSpells
import Derived.WalkLawsBesides
import Derived.KernelRfl
import Derived.Lib.Hide
import Derived.Deep.QuietTactic
import Derived.BigQuiet
namespace Go.Proofs.Ytdgkiebgmhcmdaa
open Go.RowKit
set_option linter.unusedVariables false
set_option linter.unusedSimpArgs false

theorem stableB' (left : List Int) (C b0 lb cap g gc l h : Nat) (w : World) (hl : left.length = C) (h1 : 1 ≤ C) (h5 : C ≤ 5) (hb : LBd left 5)
    (h0 : w.cell? ⟨b0, 0, none⟩ = some (.slice (some ⟨lb, 0, none⟩) C cap)) (hc : ∀ k, k < C → w.cell? ⟨lb, k, none⟩ = some (.int .i64 (lv left k)))
    (n0 : b0 ≠ g) (n1 : lb ≠ g) (ho : Ow w l h 3 (.slice (some ⟨g, 0, none⟩) C gc) (ints (natI (List.range C)))) :
    Calls Try.prog 97 #[.slice (some ⟨g, 0, none⟩) C gc, .func (.func 98) #[] #[.pointer (some ⟨b0, 0, none⟩)]] w fun e w' =>
      e = .returned (.tuple #[]) ∧ Ow w' l h 3 (.slice (some ⟨g, 0, none⟩) C gc) (ints (natI (qOf left))) ∧ Chg l h w w' := by
  obtain ⟨c, rfl⟩ : ∃ c, C = c + 1 := ⟨C - 1, by omega⟩
  exact stableB left c b0 lb 0 cap g gc l h w hl h5 (fun k _ => by have := hb k; omega) h0 (fun k hk => by rw [Nat.zero_add]; exact hc k hk) n0 n1 ho

/-- What the loops keep of the memory besides the order of the columns. -/
structure BI (w0 wr : World) (a a0 a1 a2 b0 lb lc C : Nat) (out rv : Value) (G : List (List Int)) (L rows : List Int) : Prop where
  gr : OwG wr a0 a1 27 3 out G
  lf : Ow wr a1 a2 3 (.slice (some ⟨lb, 0, none⟩) C lc) (ints L)
  bx : wr.cell? ⟨b0, 0, none⟩ = some (.slice (some ⟨lb, 0, none⟩) C lc)
  bl : b0 < wr.heap.size
  rd : RdI wr a a0 rv rows
  be : Below a0 w0 wr
theorem BI.chg {w0 wr wr' : World} {a a0 a1 a2 b0 lb lc C lo hi : Nat} {out rv : Value} {G : List (List Int)} {L rows : List Int} (h : BI w0 wr a a0 a1 a2 b0 lb lc C out rv G L rows) (c : Chg lo hi wr wr') (hb : b0 < lo) (h0 : a0 ≤ b0) (h1 : a1 ≤ b0) (h2 : a2 ≤ b0) : BI w0 wr' a a0 a1 a2 b0 lb lc C out rv G L rows where
  gr := h.gr.chg c (.inl (by omega))
  lf := h.lf.chg c (.inl (by omega))
  bx := (c.cell (p := ⟨b0, 0, none⟩) h.bl (.inl hb)).trans h.bx
  bl := Nat.lt_of_lt_of_le h.bl c.size
  rd := Rd.chg h.rd c (.inl (by omega))
  be := h.be.trans (c.below (by omega) (by have := h.bl; omega))
theorem putN_mid (A B : List (List Int)) (r : List Int) (x : Nat) (z : Int) : putN (A ++ r :: B) A.length x z = A ++ r.set x z :: B := by
  unfold putN
  rw [List.set_append_right _ _ (Nat.le_refl _), Nat.sub_self, List.set_cons_zero]
  congr 2
  simp
theorem putN_mid' (A B : List (List Int)) (r : List Int) {k : Nat} (h : A.length = k) (x : Nat) (z : Int) : putN (A ++ r :: B) k x z = A ++ r.set x z :: B := by
  subst h; exact putN_mid A B r x z
theorem ordStep {O : List Nat} {j : Nat} (h : j < O.length) : (ints (natI (List.range j ++ O.drop j))).set j (.int .i64 j) = ints (natI (List.range (j + 1) ++ O.drop (j + 1))) := by
  rw [ints_set]
  congr 1
  unfold natI
  rw [← List.map_set, List.set_append_right _ _ (by simp), List.length_range, Nat.sub_self, List.drop_eq_getElem_cons h, List.set_cons_zero, List.range_succ, List.append_assoc]
  rfl
theorem ord_len {O : List Nat} {j : Nat} (h : j ≤ O.length) : (ints (natI (List.range j ++ O.drop j))).length = O.length := by
  rw [ints_len, natI_len, List.length_append, List.length_range, List.length_drop]; omega
theorem zeros_cons (k C : Nat) : zeros (k + 1) C = List.replicate C 0 :: zeros k C := rfl
theorem shape_mid {A B : List (List Int)} {r : List Int} {C : Nat} (hA : ∀ s ∈ A, s.length = C) (hr : r.length = C) (hB : ∀ s ∈ B, s.length = C) : shape (A ++ r :: B) (A.length + 1 + B.length) C := by
  refine ⟨by simp; omega, fun y s hs => ?_⟩
  have := List.mem_of_getElem? hs
  rcases List.mem_append.1 this with h | h
  · exact hA s h
  · rcases List.mem_cons.1 h with rfl | h
    · exact hr
    · exact hB s h
theorem buildR_rows : ∀ (l left : List Int), ∀ s ∈ buildR l left, s.length = left.length
  | [], left, s, h => by simp [buildR] at h
  | x :: l, left, s, h => by
    rw [buildR] at h
    rcases List.mem_cons.1 h with rfl | h
    · exact fill_len _ _
    · rw [buildR_rows l _ s h, rest_len]
theorem zeros_rows (k C : Nat) : ∀ s ∈ zeros k C, s.length = C := by
  intro s h
  rw [List.eq_of_mem_replicate h, List.length_replicate]
theorem zeros_len (k C : Nat) : (zeros k C).length = k := by simp [zeros]

set_option maxRecDepth 100000 in
set_option maxHeartbeats 4000000 in
theorem impl_BuildImage (rows cols : List Int) (v u : Value) (w : World) (a b a' b' : Nat) (hr : RdI w a b v rows) (hs : RdI w a' b' u cols) :
    Calls Try.prog 59 #[v, u] w (RetGB w (builtR rows cols) (existsR rows cols)) := by
  obtain ⟨A, c, rfl, h1, h2⟩ := hr.form
  obtain ⟨A', c', rfl, h1', h2'⟩ := hs.form
  replace hr := hr.clip
  replace hs := hs.clip
  by_cases g1 : existsR rows cols = true
  rotate_left
  · have g1 : existsR rows cols = false := by simpa using g1
    have GD := Lib.hid (built_no g1)
    have G1 := Lib.hid g1
    go_enter Try.func59, Try.ntmps59
    go_wp2_with fail
    refine (impl_Exists rows cols _ _ _ _ _ _ _ hr hs).mono ?_
    rw [g1]
    rintro e w1 ⟨rfl, hb⟩
    go_wp2_with fail
    go_ret2
    exact ⟨.slice none 0 0, by rw [G1.out]; rfl, by rw [GD.out]; exact OwG.nil _ _ _ _ _, hb⟩
  obtain ⟨l1, l2, l3, l4, l5, l6⟩ := existsR_in g1
  have GD := Lib.hid (built_yes g1)
  have G1 := Lib.hid g1
  have L5 := Lib.hid l5; clear l5
  have L6 := Lib.hid l6; clear l6
  obtain ⟨i0, hi, hz0, hz1, hz2⟩ := info_parts int_info
  obtain ⟨R, hR⟩ : ∃ R, R = rows.length := ⟨_, rfl⟩
  obtain ⟨C, hC⟩ : ∃ C, C = cols.length := ⟨_, rfl⟩
  rw [← hR] at l1 l2 h1 hr ⊢
  rw [← hC] at l3 l4 h1' hs L5 ⊢
  have HR := Lib.hid hR; clear hR
  have HC := Lib.hid hC; clear hC
  go_enter Try.func59, Try.ntmps59
  go_wp2_with fail
  refine (impl_Exists rows cols _ _ _ _ _ _ _ hr hs).mono ?_
  rw [g1]
  rintro e w1 ⟨rfl, hb1⟩
  clear g1
  replace hr := hr.new hb1
  replace hs := hs.new hb1
  have s1 := hb1.size
  go_wp2_with fail
  refine (impl_newGrid R C _ (by omega) (by omega)).mono ?_
  rintro e w2 ⟨out, rfl, hG, hb2⟩
  replace hr := hr.new hb2
  replace hs := hs.new hb2
  have s2 := hb2.size
  go_wp2_with fail
  refine (impl_copyInts _ _ _ _ _ hs (by rw [← HC.out]; omega)).mono ?_
  rintro e w3 ⟨u3, rfl, hl, hb3⟩
  have s3 := hb3.size
  replace hr := hr.new hb3
  replace hG := hG.new hb3
  obtain ⟨A3, c3, rfl, q1, q2⟩ := hl.form'
  have hLl : (ints cols).length = C := by rw [ints_len]; exact HC.out.symm
  rw [hLl] at hl q1 ⊢
  obtain ⟨lb, eA3, e1, e2, e3, _⟩ := hl.at_ (k := 0) (u := .int .i64 (lv cols 0)) (by rw [ints_get, lv_get (by rw [← HC.out]; omega)]; rfl)
  subst eA3
  obtain ⟨b0, hb0⟩ : ∃ b0, b0 = w3.heap.size := ⟨_, rfl⟩
  obtain ⟨W3, hW3⟩ : ∃ W3, W3 = w3.alloc (.cells #[.slice (some ⟨lb, 0, none⟩) C c3] 27) := ⟨_, rfl⟩
  have z3 : W3.heap.size = b0 + 1 := by rw [hW3, hb0]; simp
  have hn3 : Below w3.heap.size w3 W3 := by rw [hW3]; exact (Below.refl _ _).alloc (Nat.le_refl _) _
  have hbx : W3.cell? ⟨b0, 0, none⟩ = some (.slice (some ⟨lb, 0, none⟩) C c3) := by rw [hW3, hb0]; simp
  have BI3 : BI w W3 a w.heap.size w2.heap.size b0 b0 lb c3 C out (.slice A R c) (zeros R C) cols rows := {
    gr := (hG.new hn3).mono s1 (Nat.le_refl _)
    lf := (hl.new hn3).mono (Nat.le_refl _) (by omega)
    bx := hbx
    bl := by omega
    rd := hr.new hn3
    be := ((hb1.trans (hb2.mono s1)).trans (hb3.mono (by omega))).trans (hn3.mono (by omega)) }
  have HW3 := Lib.hid hW3; clear hW3
  have HB0 := Lib.hid hb0
  clear hG hl hr hs hbx hn3 hb1 hb2 hb3
  clear hb0
  go_wp2_with (at_make; refine wpList_make_full _ rfl _ _ 27 rfl (b0 + 1) 3 i0 (.int .i64 0) 1 Try.underlying27 hi hz0 hz1 _ _ _ _ C rfl rfl rfl rfl (by rw [hz2]; omega) (by unfold maxLen; omega) (by rw [← HW3.out]; omega) ?_; rw [← HW3.out, ← HB0.out]; intro w4 hown4 hg4)
  have hb0 := HB0.out
  have hb4 : Below W3.heap.size W3 w4 := (Below.refl _ _).grown hg4 (Nat.le_refl _) (by simp)
  obtain ⟨q4, hq4⟩ : ∃ q4, q4 = w4.heap.size := ⟨_, rfl⟩
  have hO4 : Ow w4 (b0 + 1) q4 3 (.slice (some ⟨b0 + 1, 0, none⟩) C C) (ints (natI (List.replicate C 0))) := by
    rw [hq4]
    refine Ow.of_top (n := C) ?_
    rw [made_ints, z3] at hown4
    simpa [natI, List.map_replicate] using hown4
  have BI4 := BI3.chg (Chg.ofBelow hb4 _ (Nat.le_refl _)) (by omega) (by omega) (by omega) (Nat.le_refl _)
  clear BI3 hown4 hg4 hb4 hq4 hLl
  obtain ⟨a1, ha1⟩ : ∃ a1, a1 = w2.heap.size := ⟨_, rfl⟩
  rw [← ha1] at BI4 e1
  have o1 : w.heap.size ≤ a1 := by omega
  have o2 : a1 ≤ b0 := by omega
  have o3 : lb < b0 := by omega
  clear s1 s2 s3 e2 e3 z3 ha1 hb0
  have hn4 : (List.replicate C (0 : Nat)).length = C := by simp
  go_loopw [30] (fun i wr => ∃ (k : Nat) (L : List Int) (G : List (List Int)) (O : List Nat), Hid (L = leftR (rows.take k) cols) ∧ Hid (G = buildR (rows.take k) cols ++ zeros (R - k) C) ∧ k ≤ R ∧ i = .int .i64 k ∧ O.length = C ∧ Ow wr (b0 + 1) q4 3 (.slice (some ⟨b0 + 1, 0, none⟩) C C) (ints (natI O)) ∧ BI w wr a w.heap.size a1 b0 b0 lb c3 C out (.slice A R c) G L rows) (fun i _ => R - (intOf i).toNat)
  case atStart => exact ⟨0, cols, _, _, Lib.hid rfl, Lib.hid (by simp [buildR]), Nat.zero_le _, rfl, hn4, hO4, BI4⟩
  case round =>
    clear hO4 BI4 hn4
    obtain ⟨k, L, G, O, HL, HG, hk, rfl, hOl, hO, hBI⟩ := hrel
    by_cases hlt : k < R
    rotate_left
    · obtain rfl : k = R := by omega
      have Hall := Lib.hid (show rows.take k = rows from take_all (by rw [← HR.out]; omega))
      have e := HG.out
      rw [Hall.out, Nat.sub_self] at e
      have HE := Lib.hid e; clear e
      have hfin := (hBI.gr.mono (Nat.le_refl _) (by have := hBI.bl; omega) : OwG wr w.heap.size wr.heap.size 27 3 out G)
      have hbe := hBI.be
      clear hBI hO
      go_wp2_with fail
      go_ret2
      exact ⟨out, by rw [G1.out]; rfl, by rw [GD.out]; have := HE.out; simp only [zeros, List.replicate_zero, List.append_nil] at this; rw [← this]; exact hfin, hbe⟩
    obtain ⟨x, hx⟩ := get_of_lt rows k (by rw [← HR.out]; exact hlt)
    obtain ⟨x0, x1⟩ := L5.out x (List.mem_of_getElem? hx)
    obtain ⟨n, rfl⟩ := Int.eq_ofNat_of_zero_le x0
    have hrd := hBI.rd
    obtain ⟨b9, o9, rfl, _, _, _, hcx⟩ := hrd.at_ hx
    have hLl : L.length = C := by rw [HL.out, leftR_len]; exact HC.out.symm
    have hLB : LBd L 5 := by rw [HL.out]; exact (L6.out.left _).mono (by rw [List.length_take, ← HR.out]; omega)
    have HLB := Lib.hid hLB; clear hLB
    have HX := Lib.hid (take_snoc hx); clear hx
    have i1 : (k : Int) < (R : Int) := by omega
    go_wp2_with fail
    go_loopw [37] (fun i wr => ∃ (j : Nat), j ≤ C ∧ i = .int .i64 j ∧ Ow wr (b0 + 1) q4 3 (.slice (some ⟨b0 + 1, 0, none⟩) C C) (ints (natI (List.range j ++ O.drop j))) ∧ BI w wr a w.heap.size a1 b0 b0 lb c3 C out (.slice (some ⟨b9, o9, none⟩) R c) G L rows) (fun i _ => C - (intOf i).toNat)
    case atStart => exact ⟨0, Nat.zero_le _, rfl, by simpa using hO, hBI⟩
    case round =>
      clear hO hBI hrd hcx
      obtain ⟨j, hj, rfl, hO, hBI⟩ := hrel
      by_cases hlt2 : j < C
      · obtain ⟨uu, hs1', hs2'⟩ := hO.slot (k := j) (by rw [ord_len (by omega)]; omega)
        have i2 : (j : Int) < (C : Int) := by omega
        have hgb := hO.blk (k := b0 + 1) rfl
        go_wp2_with fail
        go_roundw
        case rel =>
          have hO' := Ow.set' (by rw [ord_len (by omega)]; exact hOl.symm) hO j (.int .i64 j)
          rw [ordStep (by omega)] at hO'
          exact ⟨j + 1, by omega, by go_num, hO', hBI.chg ((Chg.refl (b0 + 1) (b0 + 2) _).setCell (p := ⟨b0 + 1, j, none⟩) (.inl ⟨Nat.le_refl _, Nat.lt_succ_self _⟩) _) (Nat.lt_succ_self _) (by omega) o2 (Nat.le_refl _)⟩
        case measure => simp [intOf]; omega
      obtain rfl : C = j := by omega
      have hOr : List.range C ++ O.drop C = List.range C := by rw [List.drop_eq_nil_of_le (by omega), List.append_nil]
      rw [hOr] at hO
      clear hOr
      have hcl : ∀ m, m < C → wr.cell? ⟨lb, m, none⟩ = some (.int .i64 (lv L m)) := by
        intro m hm
        obtain ⟨g', eg, _, _, _, hcell, _⟩ := hBI.lf.at_ (k := m) (u := .int .i64 (lv L m)) (by rw [ints_get, lv_get (by omega)]; rfl)
        injection eg with eg; injection eg with eg; subst eg
        exact hcell
      have hS := stableB' L C b0 lb c3 (b0 + 1) C (b0 + 1) q4 wr hLl l3 l4 HLB.out hBI.bx hcl (by omega) (by omega) hO
      have HS := Lib.hid hS; clear hS hcl
      go_wp2_with fail
      refine HS.out.mono ?_
      rintro e w5 ⟨rfl, hO5, hc5⟩
      have hBI5 := hBI.chg hc5 (Nat.lt_succ_self _) (by omega) o2 (Nat.le_refl _)
      clear hO hBI hc5 HS
      have hnC : n ≤ C := by omega
      have hnC' : (n : Int) ≤ (C : Int) := by omega
      go_wp2_with fail
      go_loopw [52] (fun i wr => ∃ (j : Nat) (G' : List (List Int)), j ≤ n ∧ i = .int .i64 j ∧ Hid (G' = buildR (rows.take k) cols ++ fillR L j :: zeros (R - (k + 1)) C) ∧ Ow wr (b0 + 1) q4 3 (.slice (some ⟨b0 + 1, 0, none⟩) C C) (ints (natI (qOf L))) ∧ BI w wr a w.heap.size a1 b0 b0 lb c3 C out (.slice (some ⟨b9, o9, none⟩) R c) G' (restR L j) rows) (fun i _ => n - (intOf i).toNat)
      case atStart => exact ⟨0, G, Nat.zero_le _, rfl, Lib.hid (by rw [HG.out, fill_zero, hLl, ← zeros_cons]; congr 2; omega), hO5, by rw [rest_zero]; exact hBI5⟩
      case round =>
        clear hO5 hBI5
        obtain ⟨j, G', hj, rfl, HG', hO, hBI⟩ := hrel
        by_cases hlt3 : j < n
        rotate_left
        · obtain rfl : n = j := by omega
          go_wp2_with fail
          go_roundw
          case rel => exact ⟨k + 1, restR L n, G', qOf L, Lib.hid (by rw [HX.out, leftR_snoc, ← HL.out]; rfl), Lib.hid (by rw [HG'.out, HX.out, buildR_snoc, ← HL.out, List.append_assoc]; rfl), by omega, by go_num, by rw [q_len, hLl], hO, hBI⟩
          case measure => simp [intOf]; omega
        obtain ⟨Q, hQ⟩ : ∃ Q, (qOf L)[j]? = some Q := get_of_lt _ j (by rw [q_len, hLl]; omega)
        have hQC : Q < C := by have := q_lt hQ; omega
        obtain ⟨gq, eq1, _, _, _, hcq, _⟩ := hO.at_ (k := j) (u := .int .i64 Q) (by rw [ints_get, natI_get, hQ]; rfl)
        injection eq1 with eq1; injection eq1 with eq1; subst eq1
        obtain ⟨gl, el1, y1, y2, y3, hcl, hfl⟩ := hBI.lf.at_ (k := Q) (u := .int .i64 (lv L Q)) (by rw [ints_get, rest_at hQ]; rfl)
        injection el1 with el1; injection el1 with el1; subst el1
        have HQ := Lib.hid hQ; clear hQ
        have hGl : (buildR (rows.take k) cols).length = k := by rw [buildR_len, List.length_take, ← HR.out]; omega
        have hsh : shape G' R C := by
          have h := shape_mid (A := buildR (rows.take k) cols) (r := fillR L j) (B := zeros (R - (k + 1)) C) (C := C) (fun s hs => by rw [buildR_rows _ _ s hs]; exact HC.out.symm) (by rw [fill_len, hLl]) (zeros_rows _ _)
          rw [← HG'.out, hGl, zeros_len] at h
          rwa [show k + 1 + (R - (k + 1)) = R by omega] at h
        obtain ⟨bb, cap, cc, ccap, eo, p1, p2, p3, p4, p5, p6, p7, p8, p9, p10⟩ := hBI.gr.poke RI hsh (y := k) (x := Q) hlt hQC
        have hccb : cc < a1 := by
          obtain ⟨rr, hrr, _, hz⟩ := shape_cell hsh hlt hQC
          obtain ⟨bq, uq, eq2, _, _, _, k4, _, k6⟩ := (eo ▸ hBI.gr).at_ hrr
          injection eq2 with eq2; injection eq2 with eq2; subst eq2
          rw [p3] at k4; injection k4 with k4; subst k4
          exact (k6.blk (k := cc) rfl).2.1
        subst eo
        have ne1 : b0 ≠ cc := by omega
        have ne2 : lb ≠ cc := by omega
        have ne3 : b0 ≠ lb := by omega
        have hbx := hBI.bx
        obtain ⟨lq, hlq⟩ : ∃ z, z = lv L Q := ⟨_, rfl⟩
        rw [← hlq] at hcl
        have hbd := HLB.out Q
        rw [← hlq] at hbd
        obtain ⟨hbd1, hbd2⟩ := hbd
        have HLQ := Lib.hid hlq; clear hlq
        have fw : IntKind.i64.wrap (lq - 1) = lq - 1 := by rw [IntKind.wrap_i64]; omega
        have hQi : (Q : Int) < (C : Int) := by omega
        have hjn : (j : Int) < (n : Int) := by omega
        have c1 : Chg cc (cc + 1) wr (wr.setCell ⟨cc, Q, none⟩ (.int .i64 1)) := (Chg.refl _ _ _).setCell (p := ⟨cc, Q, none⟩) (.inl ⟨Nat.le_refl _, Nat.lt_succ_self _⟩) _
        have c2 : Chg lb (lb + 1) (wr.setCell ⟨cc, Q, none⟩ (.int .i64 1)) ((wr.setCell ⟨cc, Q, none⟩ (.int .i64 1)).setCell ⟨lb, Q, none⟩ (.int .i64 (lq - 1))) := (Chg.refl _ _ _).setCell (p := ⟨lb, Q, none⟩) (.inl ⟨Nat.le_refl _, Nat.lt_succ_self _⟩) _
        have hBI' : BI w ((wr.setCell ⟨cc, Q, none⟩ (.int .i64 1)).setCell ⟨lb, Q, none⟩ (.int .i64 (lq - 1))) a w.heap.size a1 b0 b0 lb c3 C (.slice (some ⟨bb, 0, none⟩) R cap) (.slice (some ⟨b9, o9, none⟩) R c) (putN G' k Q 1) (restR L (j + 1)) rows := {
          gr := (p10.out 1).chg c2 (.inl (by omega))
          lf := by
            have h1 := (hBI.lf.chg c1 (.inr (.inl (by omega))))
            have h2 := Ow.set' (by rw [ints_len, rest_len, hLl]) h1 Q (.int .i64 (lq - 1))
            rwa [ints_set, HLQ.out, rest_step HQ.out, ← HLQ.out] at h2
          bx := cell_far (cell_far hbx (show b0 ≠ cc from ne1) _) (show b0 ≠ lb from ne3) _
          bl := by rw [setC_size, setC_size]; exact hBI.bl
          rd := (hBI.rd.far (show w.heap.size ≤ cc from p8) _).far (show w.heap.size ≤ lb by omega) _
          be := (hBI.be.setCell (p := ⟨cc, Q, none⟩) p8 _).setCell (p := ⟨lb, Q, none⟩) (show w.heap.size ≤ lb by omega) _ }
        have hO' := (hO.chg c1 (.inr (.inl (by omega)))).chg c2 (.inr (.inl (by omega)))
        have HBI' := Lib.hid hBI'; have HO' := Lib.hid hO'
        clear hBI hBI' hO hO' c1 c2 p10
        go_wp2_with fail
        go_roundw
        case rel => exact ⟨j + 1, putN G' k Q 1, by omega, by go_num, Lib.hid (by rw [HG'.out, putN_mid' _ _ _ hGl, fillB_step HQ.out]), HO'.out, HBI'.out⟩
        case measure => simp [intOf]; omega
end Go.Proofs.Ytdgkiebgmhcmdaa
