/- The walk of l05All of spec. -/
import Derived.Test.YtkjhodeajipihaaProg
import Derived.Test.YtkjhodeajipihaaW1
import Derived.Test.YtkjhodeajipihaaW3
import Derived.Test.YtkjhodeajipihaaW4
import Derived.Test.YtkjhodeajipihaaW6
import Derived.Test.YtkjhodeajipihaaS3
import Derived.Test.YtkjhodeajipihaaC1
import Derived.Test.YtkjhodeajipihaaC2
import Derived.Test.YtkjhodeajipihaaC3
import Derived.Test.YtkjhodeajipihaaC4
import Derived.Test.YtkjhodeajipihaaMem
import Derived.WalkKit
import Derived.WalkSpells
import Derived.WalkLawsBesides
import Derived.KernelRfl
import Derived.Lib.Hide
import Derived.Deep.RegionHeld3
import Derived.Deep.RegionLaw
import Derived.Deep.Cut
import Derived.Deep.QuietTactic
import Derived.BigQuiet
namespace Go.Proofs.Ytkjhodeajipihaa
open Go.RowKit
set_option linter.unusedVariables false
set_option linter.unusedSimpArgs false

/-- The post of l05All. -/
def RetA (w : World) (V : Value) (n : Nat) (e : Ending) (w' : World) : Prop := ∃ V' vs', e = .returned V' ∧ vs'.length = n ∧ Ow w' 0 w'.heap.size 30 V' vs' ∧ NewV w V V' ∧ w.grownBy w' V.ownBlock
theorem rd_nil0 {w : World} {O : Value} {A : Option Addr} {c : Nat} {l : List Int} (h : l = []) (hc : c ≤ maxLen) : RdIo w O (.slice A 0 c) l := by
  subst h
  exact ⟨0, 0, ⟨A, c, rfl, Nat.zero_le _, hc, fun k u hu => by simp [ints] at hu⟩, fun q _ => .inr (Nat.zero_le _)⟩
theorem RdIo.form {w : World} {V v : Value} {l : List Int} (h : RdIo w V v l) : ∃ A c, v = .slice A l.length c ∧ l.length ≤ c ∧ c ≤ 9223372036854775807 := h.rd.form
theorem fS_no {rs left r : List Int} (h : fits left r = false) : fS rs left r = 0 := by unfold fS; rw [if_neg (fun hh => by rw [h] at hh; exact absurd hh.1 (by simp))]
theorem fS_no2 {rs left r : List Int} (h : goOn rs (minusL left r) = false) : fS rs left r = 0 := by unfold fS; rw [if_neg (fun hh => by rw [h] at hh; exact absurd hh.2 (by simp))]
theorem fS_yes {rs left r : List Int} (h : fits left r = true) (h2 : goOn rs (minusL left r) = true) : fS rs left r = cntS rs (minusL left r) := by unfold fS; exact if_pos ⟨h, h2⟩
theorem goOn_nil (left : List Int) : goOn [] left = decide (left.sum = 0) := by simp [goOn]
theorem goOn_cons (n : Int) (rs left : List Int) : goOn (n :: rs) left = existsR (n :: rs) left := by simp [goOn]
theorem small_min {cols r : List Int} (hl : r.length = cols.length) (h5 : cols.length ≤ 5) (hf : fits cols r = true) (hc : ∀ z ∈ cols, 0 ≤ z ∧ z ≤ 100) (h01 : ∀ z ∈ r, 0 ≤ z ∧ z ≤ 1) : small (minusL cols r) :=
  ⟨by rw [minusL_len _ _ hl.symm]; omega, fun x hx => by
    have h1 := minusL_nonneg cols r hf x hx
    have h2 := minusL_le cols r 100 (fun y hy => (h01 y hy).1) (fun y hy => (hc y hy).2) x hx
    omega⟩

set_option maxRecDepth 100000 in
set_option maxHeartbeats 8000000 in
theorem spec_l05All : ∀ (rows cols : List Int) (done : List (List Int)) (V : Value) (vs : List Value) (vd vr vc : Value) (w : World), Ow w 0 w.heap.size 30 V vs → RdGo w V vd done → RdIo w V vr rows → RdIo w V vc cols →
    cols.length ≤ 5 → done.length + rows.length ≤ 5 → (∀ r ∈ done, r.length ≤ 5) → (∀ n ∈ rows, 0 ≤ n ∧ n ≤ 5) → (∀ z ∈ cols, 0 ≤ z ∧ z ≤ 100) → vs.length + 32 ^ rows.length ≤ 1099511627776 →
    Calls Try.prog 12 #[V, vd, vr, vc] w (RetA w V (vs.length + cntS rows cols)) := by
  intro rows
  induction rows with
  | nil =>
    intro cols done V vs vd vr vc w ho hd hr hc c5 d5 hdl hn hz hbd
    obtain ⟨A, c, rfl, h1, h2⟩ := hr.form
    obtain ⟨j0, hj, jz0, jz1, jz2⟩ := info_parts grid_info
    have HD := Lib.hid hdl; clear hdl
    have hbd' : vs.length < 1099511627776 := by simp at hbd; omega
    clear hbd hn hz
    go_enter Try.func12, Try.ntmps12
    go_wp2_with fail
    refine (spec_l02Copy done _ _ _ _ hd.rd ⟨by simp at d5; omega, fun r hr => by have := HD.out r hr; omega⟩).mono ?_
    rintro e w1 ⟨u, rfl, hG, hb⟩
    have ho1 := ho.grownOff hb
    have hs1 := hb.size
    obtain ⟨Au, cu, rfl, _, _⟩ := hG.form'
    go_wp2_with (at_builtin; refine wpList_append_rd rfl _ _ 26 rfl 0 30 j0 (.slice none 0 0) 24 Try.underlying26 hj jz0 jz1 jz2 rfl V vs.length vs rfl (ho1.1.alloc _) (some ⟨w1.heap.size, 0, none⟩) 1 1 [.slice Au done.length cu] rfl (Ow.of_top (own_one w1 0 30 (.slice Au done.length cu) (Nat.zero_le _))).rd (by simp [Value.oneCell']) (by unfold maxLen; omega) (by omega) (Nat.zero_le _) ?_; intro v4 w4 hown4 hg4 hnew4)
    go_ret
    have hb1 : Below w.heap.size w (w1.alloc (.cells #[.slice Au done.length cu] 30)) := hb.alloc hs1 _
    refine ⟨v4, _, rfl, ?_, Ow.of_top hown4, ?_, grownBy_trans (grownBy_of hb1 _) hg4⟩
    · simp [cntS]
    · rcases hnew4 with e | e
      · exact .inl e
      · exact .inr fun q hq => by rw [e] at hq; injection hq with hq; simp at hq; omega
  | cons n rs ih =>
    intro cols done V vs vd vr vc w ho hd hr hc c5 d5 hdl hn hz hbd
    have IH := Lib.hid ih; clear ih
    obtain ⟨A, c, rfl, h1, h2⟩ := hr.form
    obtain ⟨A', c', rfl, h1', h2'⟩ := hc.form
    obtain ⟨i0, hi, hz0, hz1, hz2⟩ := info_parts int_info
    obtain ⟨j0, hj, jz0, jz1, jz2⟩ := info_parts row_info
    obtain ⟨k0, hk0, kz0, kz1, kz2⟩ := info_parts grid_info
    obtain ⟨n0, n5⟩ := hn n (by simp)
    obtain ⟨m, rfl⟩ := Int.eq_ofNat_of_zero_le n0
    have hn' : ∀ x ∈ rs, 0 ≤ x ∧ x ≤ 5 := fun x hx => hn x (by simp [hx])
    have HN := Lib.hid hn'; clear hn' hn
    have HZ := Lib.hid hz; clear hz
    have HD := Lib.hid hdl; clear hdl
    have hcn := cntS_cons (m : Int) rs cols
    have hbd1 : vs.length + 32 * 32 ^ rs.length ≤ 1099511627776 := by rw [List.length_cons, Nat.pow_succ] at hbd; omega
    clear hbd
    obtain ⟨b0, o0, eA, _, _, hbs0, hcell⟩ := hr.rd.at_ (k := 0) (x := (m : Int)) rfl
    subst eA
    rw [Nat.add_zero] at hcell
    obtain ⟨P, hP⟩ : ∃ P, P = 32 ^ rs.length := ⟨_, rfl⟩
    rw [← hP] at hbd1
    obtain ⟨Q, hQ⟩ : ∃ Q, Q = rs.length := ⟨_, rfl⟩
    have h0 : (((m : Int) :: rs).length) = Q + 1 := by rw [hQ]; rfl
    rw [h0] at h1 hr d5 ⊢
    obtain ⟨R, hR⟩ : ∃ R, R = rowsL cols.length m := ⟨_, rfl⟩
    have hrn := rowsL_num cols.length m
    have h32 : 2 ^ cols.length ≤ 2 ^ 5 := Nat.pow_le_pow_right (by omega) c5
    have hcn' : cntS ((m : Int) :: rs) cols = (R.map (fS rs cols)).sum := by rw [hcn, hR]; rfl
    clear hcn
    have HCN := Lib.hid hcn'; clear hcn'
    have hrl : ∀ r ∈ R, r.length = cols.length ∧ ∀ z ∈ r, 0 ≤ z ∧ z ≤ 1 := fun r hr => by rw [hR] at hr; exact ⟨rowsL_len _ _ _ hr, (rowsL_01 _ _ _ hr).1⟩
    have HRL := Lib.hid hrl; clear hrl
    have hrows := spec_l05Rows cols.length m w c5 (by omega)
    rw [← hR] at hrn hrows
    have h32' : R.length ≤ 32 := by omega
    clear hrn h32
    have HR := Lib.hid hR; clear hR
    have HP := Lib.hid hP; clear hP
    have HQ := Lib.hid hQ; clear hQ
    have HO := Lib.hid h0; clear h0
    have hq0 : ((Q + 1 : Nat) : Int) ≠ 0 := by omega
    have HROWS := Lib.hid hrows; clear hrows
    go_enter Try.func12, Try.ntmps12
    go_wp2_with fail
    refine HROWS.out.mono ?_
    rintro e w1 ⟨v1, rfl, hv1, hb1⟩
    obtain ⟨A1, c1, rfl, n1, n2⟩ := hv1.form
    have hs1 := hb1.size
    have hg1 := grownBy_of hb1 V.ownBlock
    have hvo : RdGo w1 V (.slice A1 R.length c1) R := by
      obtain ⟨us, he, hu, hus⟩ := hv1
      exact ⟨us, he, ⟨_, _, hu, Off.new ho (Nat.le_refl _)⟩, fun k u r hx hr => ⟨_, _, hus k u r hx hr, Off.new ho (Nat.le_refl _)⟩⟩
    replace ho := ho.grownOff hb1
    replace hd := hd.grown hg1
    replace hr := hr.grown hg1
    replace hc := hc.grown hg1
    clear hcell hv1
    have hstart : ∃ (j : Nat) (O : Value) (os : List Value), O = V ∧ j ≤ R.length ∧ (0 : Nat) = j ∧ Hid (os.length = vs.length + ((R.take j).map (fS rs cols)).sum) ∧ Ow w1 0 w1.heap.size 30 O os ∧ NewV w1 V O ∧ w1.grownBy w1 V.ownBlock := ⟨0, V, vs, rfl, Nat.zero_le _, rfl, Lib.hid (by simp), ho, NewV.refl _ _, World.grownBy.refl _ _⟩
    go_wp2_with fail
    go_loopw [0, 28] (fun o i wr => ∃ (j : Nat) (O : Value) (os : List Value), O = o ∧ j ≤ R.length ∧ i = .int .i64 j ∧ Hid (os.length = vs.length + ((R.take j).map (fS rs cols)).sum) ∧ Ow wr 0 wr.heap.size 30 O os ∧ NewV w1 V O ∧ w1.grownBy wr V.ownBlock) (fun _ i _ => R.length - (intOf i).toNat)
    case atStart =>
      obtain ⟨j, O, os, e1, e2, e3, e4, e5, e6, e7⟩ := hstart
      exact ⟨j, O, os, e1, e2, by rw [← e3]; rfl, e4, e5, e6, e7⟩
    case round =>
      clear hstart ho
      obtain ⟨j, O, os, rfl, hj', rfl, HOS, ho, hnv, hgw⟩ := hrel
      rename World => wr
      by_cases hlt : j < R.length
      rotate_left
      · have Hall := Lib.hid (take_all hlt)
        go_wp2_with fail
        go_ret
        refine ⟨O, os, rfl, ?_, ho, hnv.mono hs1, grownBy_trans (grownBy_of hb1 _) hgw⟩
        have := HOS.out
        rw [Hall.out] at this
        rw [HCN.out]; exact this
      have hsw := hgw.size
      replace hd := hd.move hnv hgw
      replace hr := hr.move hnv hgw
      replace hc := hc.move hnv hgw
      replace hvo := hvo.move hnv hgw
      obtain ⟨r, hx⟩ := get_of_lt R j hlt
      obtain ⟨b2, o2, u, rfl, hb2, hcr, hrow⟩ := hvo.at_ hx
      obtain ⟨hr1, hr01⟩ := HRL.out r (List.mem_of_getElem? hx)
      obtain ⟨Ar, cr, rfl, n3, n4⟩ := hrow.form
      rw [hr1] at hrow hcr n3
      have hpb := part_bd R rs cols j c5 (fun r hr => (HRL.out r hr).1)
      have hps := part_step rs cols hx
      obtain ⟨osn, hosn⟩ : ∃ z, z = os.length := ⟨_, rfl⟩
      have hob : os.length + P ≤ 1099511627776 := by
        rw [HOS.out]
        rw [← HP.out] at hpb
        have : (j + 1) * P ≤ 32 * P := Nat.mul_le_mul_right _ (by omega)
        rw [Nat.add_mul, Nat.one_mul] at this
        omega
      have HPS := Lib.hid hps; clear hps hpb hosn
      have HX := Lib.hid hx; clear hx
      have HR1 := Lib.hid hr1; clear hr1
      have HR01 := Lib.hid hr01; clear hr01
      have i1 : (j : Int) < (R.length : Int) := by omega
      have hleft := spec_l05Left cols r (.slice A' cols.length c') (.slice Ar cols.length cr) wr _ _ _ _ hc.rd hrow.rd HR1.out c5 HZ.out HR01.out
      have HLEFT := Lib.hid hleft; clear hleft
      go_wp2_with fail
      refine HLEFT.out.mono ?_
      rintro e w2 ⟨vl, rfl, hvl, hb2'⟩
      have hs2 := hb2'.size
      have hg2 := grownBy_of hb2' O.ownBlock
      by_cases hf : fits cols r = true
      rotate_left
      · have hf : fits cols r = false := by simpa using hf
        have HFS := Lib.hid (fS_no (rs := rs) hf)
        rw [hf]
        clear hf hvl
        go_wp2_with fail
        go_roundw
        case rel => exact ⟨j + 1, O, os, rfl, by omega, by go_num, Lib.hid (by rw [HPS.out, HFS.out, HOS.out]; omega), ho.grownOff hb2', hnv, grownBy_step hgw hnv hg2⟩
        case measure => simp [intOf]; omega
      have HF := Lib.hid hf
      have hlw : RdIo w2 O vl (minusL cols r) := ⟨_, _, (hvl hf).rd, Off.new ho (Nat.le_refl _)⟩
      rw [hf]
      clear hvl hf
      replace ho := ho.grownOff hb2'
      replace hd := hd.grown hg2
      replace hr := hr.grown hg2
      replace hc := hc.grown hg2
      replace hvo := hvo.grown hg2
      replace hrow := hrow.grown hg2
      replace hgw := grownBy_step hgw hnv hg2
      clear hb2' hg2
      have hml : (minusL cols r).length = cols.length := minusL_len _ _ HR1.out.symm
      obtain ⟨Al, cl, rfl, l1, l2⟩ := hlw.form
      rw [hml] at hlw l1 ⊢
      have HML := Lib.hid hml; clear hml
      by_cases hq : Q = 0
      · subst hq
        have hrs : rs = [] := List.eq_nil_of_length_eq_zero HQ.out.symm
        have HRS := Lib.hid hrs; clear hrs
        have hsm := small_min HR1.out c5 HF.out HZ.out HR01.out
        have htot := spec_l03Total _ _ _ _ _ hlw.rd hsm
        obtain ⟨tt, htt⟩ : ∃ t, t = (minusL cols r).sum := ⟨_, rfl⟩
        rw [← htt] at htot
        have HTT := Lib.hid htt; clear htt hsm
        have HTOT := Lib.hid htot; clear htot
        by_cases ht0 : tt = 0
        rotate_left
        · have hgo : goOn rs (minusL cols r) = false := by rw [HRS.out, goOn_nil, ← HTT.out]; simp [ht0]
          have HFS := Lib.hid (fS_no2 hgo)
          clear hgo
          have ht1 : (tt == 0) = false := by simp [ht0]
          go_wp2_with (go_at_call 20; refine HTOT.out.mono ?_; rintro e w3 ⟨rfl, rfl⟩)
          go_roundw
          case rel => (repeat apply Exists.intro); exact ⟨⟨j + 1, O, os, rfl, by omega, by go_num, Lib.hid (by rw [HPS.out, HFS.out, HOS.out]; omega), ho, hnv, hgw⟩, rfl⟩
          case measure => simp [intOf]; omega
        subst ht0
        go_upto_region 8 with (go_at_call 20; refine HTOT.out.mono ?_; rintro e w3 ⟨rfl, rfl⟩)
        have hgo : goOn rs (minusL cols r) = true := by rw [HRS.out, goOn_nil, ← HTT.out]; simp
        by_cases hc1 : c = 1
        · subst hc1
          have HFS := Lib.hid (fS_yes HF.out hgo)
          clear hgo
          have g8 := grownBy_drew w2 O.ownBlock
          have htl8 : RdIo w2.drew O (.slice (some ⟨b0, o0 + 1, none⟩) 0 (1 - 1)) rs := by
            obtain ⟨x1, x2, x3, x4⟩ := hr
            have := tail_rd x3
            rw [← HQ.out] at this
            exact ⟨x1, x2, this, x4⟩
          have ho8 : Ow w2.drew 0 w2.drew.heap.size 30 O os := ho
          have hd8 := (hd.grown g8).rd
          have hd8' := ((hd.grown g8).grown (grownBy_of (((Below.refl w2.drew.heap.size w2.drew).alloc (Nat.le_refl _) (.cells #[.slice Ar cols.length cr] 22))) _)).rd
          have hrow8 := hrow.grown g8
          have hlw8 := hlw.grown g8
          have hsh : Hid (shortG done) := Lib.hid ⟨by omega, fun r hr => by have := HD.out r hr; omega⟩
          have hcl : done.length ≤ 5 := by omega
          have p1 : Hid ((minusL cols r).length ≤ 5) := Lib.hid (by rw [HML.out]; exact c5)
          have p2 : Hid ((done ++ [r]).length + rs.length ≤ 5) := Lib.hid (by rw [← HQ.out, List.length_append]; simp; omega)
          have p3 : Hid (∀ x ∈ done ++ [r], x.length ≤ 5) := Lib.hid (fun x hx => by
            rcases List.mem_append.1 hx with hx | hx
            · exact HD.out x hx
            · simp at hx; subst hx; rw [HR1.out]; exact c5)
          have p4 : Hid (∀ z ∈ minusL cols r, 0 ≤ z ∧ z ≤ 100) := Lib.hid (fun z hz => ⟨minusL_nonneg _ _ HF.out z hz, minusL_le _ _ 100 (fun y hy => (HR01.out y hy).1) (fun y hy => (HZ.out y hy).2) z hz⟩)
          have p5 : Hid (os.length + 32 ^ rs.length ≤ 1099511627776) := Lib.hid (by rw [← HP.out]; exact hob)
          have cmx : 1 - 1 ≤ maxLen := by unfold maxLen; omega
          go_region_law (first
            | (refine step_call rfl 22 _ _ rfl #[vd] (by kernel_rfl) (spec_l02Copy done vd _ _ _ (by first | exact hd8 | exact hd8') hsh.out) (fun e w' h => by obtain ⟨v, h, _⟩ := h; exact ⟨v, h⟩) ?_; rintro vcp w4 ⟨vcp', hvv, hcp, hb4⟩; injection hvv with hvv; subst hvv; obtain ⟨Acp, ccp, rfl, _, _⟩ := hcp.form'; obtain ⟨us, he, hus, hrows, hdist⟩ := hcp; have hs4 := hb4.size)
            | (refine step_append_rd rfl (.tmp 62) (.tmp 64) 30 rfl w2.drew.heap.size 22 j0 (.slice none 0 0) 24 Try.underlying30 hj jz0 jz1 jz2 rfl (.slice Acp done.length ccp) us.length us rfl (hus.alloc _).1 (some ⟨w4.heap.size, 0, none⟩) 1 1 [.slice Ar cols.length cr] rfl (Ow.of_top (own_one w4 0 22 (.slice Ar cols.length cr) (Nat.zero_le _))).rd (by simp [Value.oneCell']) (by unfold maxLen; omega) (by omega) (by have := hs4; simp at this; simp; omega) ?_; intro v5 w5 hown5 hg5 _; have hP := pushed RI ho8 ((hus.alloc _).mono (Nat.le_refl _) (by simp)) he (fun k u r q1 q2 => ((hrows k u r q1 q2).alloc _).mono (Nat.le_refl _) (by simp)) (hb4.alloc hb4.size _) hrow8 hown5 hg5; obtain ⟨hD5, hb5⟩ := hP; have hO5 := ho8.grownOff hb5; have hR5 := htl8.grown (grownBy_of hb5 _); have hL5 := hlw8.grown (grownBy_of hb5 _); clear hown5 hg5)
            | (refine step_append_rd rfl (.tmp 62) (.tmp 64) 30 rfl w2.drew.heap.size 22 j0 (.slice none 0 0) 24 Try.underlying30 hj jz0 jz1 jz2 rfl (.slice Acp done.length ccp) us.length us rfl (hus.mono (by simp) (Nat.le_refl _)).1 (some ⟨w2.drew.heap.size, 0, none⟩) 1 1 [.slice Ar cols.length cr] rfl (Rd.new (Ow.of_top (own_one w2.drew 0 22 (.slice Ar cols.length cr) (Nat.zero_le _))).rd hb4) (by simp [Value.oneCell']) (by unfold maxLen; omega) (by omega) (by have := hs4; simp at this; simp; omega) ?_; intro v5 w5 hown5 hg5 _; have hP := pushed RI ho8 (hus.mono (by simp) (Nat.le_refl _)) he (fun k u r q1 q2 => (hrows k u r q1 q2).mono (by simp) (Nat.le_refl _)) (((Below.refl w2.drew.heap.size w2.drew).alloc (Nat.le_refl _) _).trans (hb4.mono (by simp))) hrow8 hown5 hg5; obtain ⟨hD5, hb5⟩ := hP; have hO5 := ho8.grownOff hb5; have hR5 := htl8.grown (grownBy_of hb5 _); have hL5 := hlw8.grown (grownBy_of hb5 _); clear hown5 hg5)
            | (refine step_call rfl 12 _ _ rfl #[O, v5, .slice (some ⟨b0, o0, none⟩) 0 0, .slice Al cols.length cl] (by kernel_rfl) (IH.out (minusL cols r) (done ++ [r]) O os v5 _ _ w5 hO5 hD5 (by first | exact hR5 | exact rd_nil0 HRS.out cmx) hL5 p1.out p2.out p3.out HN.out p4.out p5.out) (fun e w' h => by obtain ⟨v, _, h, _⟩ := h; exact ⟨v, h⟩) ?_; rintro O' w6 ⟨O'', os', hvv, hos', hO6, hnO6, hgO6⟩; injection hvv with hvv; subst hvv; have HOS6 := Lib.hid hos'; clear hos'))
          all_goals (go_wp2_with fail)
          all_goals go_roundw
          all_goals first
            | (case rel => (repeat apply Exists.intro); exact ⟨⟨j + 1, O', os', rfl, by omega, by go_num, Lib.hid (by rw [HPS.out, HOS6.out, HFS.out, HOS.out]; omega), hO6, hnv.trans hnO6 (by have := hgw.size; have := hb5.size; simp at this; omega), grownBy_step hgw hnv (grownBy_trans (grownBy_trans g8 (grownBy_of hb5 _)) hgO6)⟩, rfl⟩)
            | (case rel => exact ⟨j + 1, O', os', rfl, by omega, by go_num, Lib.hid (by rw [HPS.out, HOS6.out, HFS.out, HOS.out]; omega), hO6, hnv.trans hnO6 (by have := hgw.size; have := hb5.size; simp at this; omega), grownBy_step hgw hnv (grownBy_trans (grownBy_trans g8 (grownBy_of hb5 _)) hgO6)⟩)
            | (simp [intOf]; omega)
        · skip
          have HFS := Lib.hid (fS_yes HF.out hgo)
          clear hgo
          have g8 := grownBy_drew w2 O.ownBlock
          have htl8 : RdIo w2.drew O (.slice (some ⟨b0, o0 + 1, none⟩) 0 (c - 1)) rs := by
            obtain ⟨x1, x2, x3, x4⟩ := hr
            have := tail_rd x3
            rw [← HQ.out] at this
            exact ⟨x1, x2, this, x4⟩
          have ho8 : Ow w2.drew 0 w2.drew.heap.size 30 O os := ho
          have hd8 := (hd.grown g8).rd
          have hd8' := ((hd.grown g8).grown (grownBy_of (((Below.refl w2.drew.heap.size w2.drew).alloc (Nat.le_refl _) (.cells #[.slice Ar cols.length cr] 22))) _)).rd
          have hrow8 := hrow.grown g8
          have hlw8 := hlw.grown g8
          have hsh : Hid (shortG done) := Lib.hid ⟨by omega, fun r hr => by have := HD.out r hr; omega⟩
          have hcl : done.length ≤ 5 := by omega
          have p1 : Hid ((minusL cols r).length ≤ 5) := Lib.hid (by rw [HML.out]; exact c5)
          have p2 : Hid ((done ++ [r]).length + rs.length ≤ 5) := Lib.hid (by rw [← HQ.out, List.length_append]; simp; omega)
          have p3 : Hid (∀ x ∈ done ++ [r], x.length ≤ 5) := Lib.hid (fun x hx => by
            rcases List.mem_append.1 hx with hx | hx
            · exact HD.out x hx
            · simp at hx; subst hx; rw [HR1.out]; exact c5)
          have p4 : Hid (∀ z ∈ minusL cols r, 0 ≤ z ∧ z ≤ 100) := Lib.hid (fun z hz => ⟨minusL_nonneg _ _ HF.out z hz, minusL_le _ _ 100 (fun y hy => (HR01.out y hy).1) (fun y hy => (HZ.out y hy).2) z hz⟩)
          have p5 : Hid (os.length + 32 ^ rs.length ≤ 1099511627776) := Lib.hid (by rw [← HP.out]; exact hob)
          have cmx : c - 1 ≤ maxLen := by unfold maxLen; omega
          go_region_law (first
            | (refine step_call rfl 22 _ _ rfl #[vd] (by kernel_rfl) (spec_l02Copy done vd _ _ _ (by first | exact hd8 | exact hd8') hsh.out) (fun e w' h => by obtain ⟨v, h, _⟩ := h; exact ⟨v, h⟩) ?_; rintro vcp w4 ⟨vcp', hvv, hcp, hb4⟩; injection hvv with hvv; subst hvv; obtain ⟨Acp, ccp, rfl, _, _⟩ := hcp.form'; obtain ⟨us, he, hus, hrows, hdist⟩ := hcp; have hs4 := hb4.size)
            | (refine step_append_rd rfl (.tmp 62) (.tmp 64) 30 rfl w2.drew.heap.size 22 j0 (.slice none 0 0) 24 Try.underlying30 hj jz0 jz1 jz2 rfl (.slice Acp done.length ccp) us.length us rfl (hus.alloc _).1 (some ⟨w4.heap.size, 0, none⟩) 1 1 [.slice Ar cols.length cr] rfl (Ow.of_top (own_one w4 0 22 (.slice Ar cols.length cr) (Nat.zero_le _))).rd (by simp [Value.oneCell']) (by unfold maxLen; omega) (by omega) (by have := hs4; simp at this; simp; omega) ?_; intro v5 w5 hown5 hg5 _; have hP := pushed RI ho8 ((hus.alloc _).mono (Nat.le_refl _) (by simp)) he (fun k u r q1 q2 => ((hrows k u r q1 q2).alloc _).mono (Nat.le_refl _) (by simp)) (hb4.alloc hb4.size _) hrow8 hown5 hg5; obtain ⟨hD5, hb5⟩ := hP; have hO5 := ho8.grownOff hb5; have hR5 := htl8.grown (grownBy_of hb5 _); have hL5 := hlw8.grown (grownBy_of hb5 _); clear hown5 hg5)
            | (refine step_append_rd rfl (.tmp 62) (.tmp 64) 30 rfl w2.drew.heap.size 22 j0 (.slice none 0 0) 24 Try.underlying30 hj jz0 jz1 jz2 rfl (.slice Acp done.length ccp) us.length us rfl (hus.mono (by simp) (Nat.le_refl _)).1 (some ⟨w2.drew.heap.size, 0, none⟩) 1 1 [.slice Ar cols.length cr] rfl (Rd.new (Ow.of_top (own_one w2.drew 0 22 (.slice Ar cols.length cr) (Nat.zero_le _))).rd hb4) (by simp [Value.oneCell']) (by unfold maxLen; omega) (by omega) (by have := hs4; simp at this; simp; omega) ?_; intro v5 w5 hown5 hg5 _; have hP := pushed RI ho8 (hus.mono (by simp) (Nat.le_refl _)) he (fun k u r q1 q2 => (hrows k u r q1 q2).mono (by simp) (Nat.le_refl _)) (((Below.refl w2.drew.heap.size w2.drew).alloc (Nat.le_refl _) _).trans (hb4.mono (by simp))) hrow8 hown5 hg5; obtain ⟨hD5, hb5⟩ := hP; have hO5 := ho8.grownOff hb5; have hR5 := htl8.grown (grownBy_of hb5 _); have hL5 := hlw8.grown (grownBy_of hb5 _); clear hown5 hg5)
            | (refine step_call rfl 12 _ _ rfl #[O, v5, .slice (some ⟨b0, o0 + 1, none⟩) 0 (c - 1), .slice Al cols.length cl] (by kernel_rfl) (IH.out (minusL cols r) (done ++ [r]) O os v5 _ _ w5 hO5 hD5 (by first | exact hR5 | exact rd_nil0 HRS.out cmx) hL5 p1.out p2.out p3.out HN.out p4.out p5.out) (fun e w' h => by obtain ⟨v, _, h, _⟩ := h; exact ⟨v, h⟩) ?_; rintro O' w6 ⟨O'', os', hvv, hos', hO6, hnO6, hgO6⟩; injection hvv with hvv; subst hvv; have HOS6 := Lib.hid hos'; clear hos'))
          all_goals (go_wp2_with fail)
          all_goals go_roundw
          all_goals first
            | (case rel => (repeat apply Exists.intro); exact ⟨⟨j + 1, O', os', rfl, by omega, by go_num, Lib.hid (by rw [HPS.out, HOS6.out, HFS.out, HOS.out]; omega), hO6, hnv.trans hnO6 (by have := hgw.size; have := hb5.size; simp at this; omega), grownBy_step hgw hnv (grownBy_trans (grownBy_trans g8 (grownBy_of hb5 _)) hgO6)⟩, rfl⟩)
            | (case rel => exact ⟨j + 1, O', os', rfl, by omega, by go_num, Lib.hid (by rw [HPS.out, HOS6.out, HFS.out, HOS.out]; omega), hO6, hnv.trans hnO6 (by have := hgw.size; have := hb5.size; simp at this; omega), grownBy_step hgw hnv (grownBy_trans (grownBy_trans g8 (grownBy_of hb5 _)) hgO6)⟩)
            | (simp [intOf]; omega)
      · have hgo0 : goOn rs (minusL cols r) = existsR rs (minusL cols r) := by
          have hne : rs ≠ [] := fun e => hq (by rw [HQ.out, e]; rfl)
          unfold goOn; exact if_neg hne
        have HGO0 := Lib.hid hgo0; clear hgo0
        have hl1 : ¬ ((Q : Int) + 1 = 1) := by omega
        have hl2 : (1 : Int) < (Q : Int) + 1 := by omega
        have hl3 : (((Q : Int) + 1) == 1) = false := by simp; omega
        have htl : RdIo w2 O (.slice (some ⟨b0, o0 + 1, none⟩) Q (c - 1)) rs := by
          obtain ⟨x1, x2, x3, x4⟩ := hr
          have := tail_rd x3
          rw [← HQ.out] at this
          exact ⟨x1, x2, this, x4⟩
        have hex := spec_Exists rs (minusL cols r) _ _ _ _ _ _ _ htl.rd hlw.rd
        obtain ⟨eb, heb⟩ : ∃ b, b = existsR rs (minusL cols r) := ⟨_, rfl⟩
        rw [← heb] at hex
        have HEB := Lib.hid heb; clear heb
        have HEX := Lib.hid hex; clear hex
        cases eb with
        | false =>
          have HFS := Lib.hid (fS_no2 (HGO0.out.trans HEB.out.symm))
          go_wp2_with (go_at_call 11; refine HEX.out.mono ?_; rintro e w3 ⟨rfl, hb3⟩)
          go_roundw
          case rel => exact ⟨j + 1, O, os, rfl, by omega, by go_num, Lib.hid (by rw [HPS.out, HFS.out, HOS.out]; omega), ho.grownOff hb3, hnv, grownBy_step hgw hnv (grownBy_of hb3 _)⟩
          case measure => simp [intOf]; omega
        | true =>
          have hgo : goOn rs (minusL cols r) = true := HGO0.out.trans HEB.out.symm
          go_upto_region 8 with (go_at_call 11; refine HEX.out.mono ?_; rintro e w3 ⟨rfl, hb3⟩)
          replace ho := ho.grownOff hb3
          replace hr := hr.grown (grownBy_of hb3 _)
          replace hd := hd.grown (grownBy_of hb3 _)
          replace hrow := hrow.grown (grownBy_of hb3 _)
          replace hlw := hlw.grown (grownBy_of hb3 _)
          replace hgw := grownBy_step hgw hnv (grownBy_of hb3 _)
          clear hvo hc htl
          have hc1 : ¬ c = 1 := by omega
          have hq3 : (1 : Int) ≤ (Q : Int) + 1 := by omega
          have HFS := Lib.hid (fS_yes HF.out hgo)
          clear hgo
          have g8 := grownBy_drew w3 O.ownBlock
          have htl8 : RdIo w3.drew O (.slice (some ⟨b0, o0 + 1, none⟩) Q (c - 1)) rs := by
            obtain ⟨x1, x2, x3, x4⟩ := hr
            have := tail_rd x3
            rw [← HQ.out] at this
            exact ⟨x1, x2, this, x4⟩
          have ho8 : Ow w3.drew 0 w3.drew.heap.size 30 O os := ho
          have hd8 := (hd.grown g8).rd
          have hd8' := ((hd.grown g8).grown (grownBy_of (((Below.refl w3.drew.heap.size w3.drew).alloc (Nat.le_refl _) (.cells #[.slice Ar cols.length cr] 22))) _)).rd
          have hrow8 := hrow.grown g8
          have hlw8 := hlw.grown g8
          have hsh : Hid (shortG done) := Lib.hid ⟨by omega, fun r hr => by have := HD.out r hr; omega⟩
          have hcl : done.length ≤ 5 := by omega
          have p1 : Hid ((minusL cols r).length ≤ 5) := Lib.hid (by rw [HML.out]; exact c5)
          have p2 : Hid ((done ++ [r]).length + rs.length ≤ 5) := Lib.hid (by rw [← HQ.out, List.length_append]; simp; omega)
          have p3 : Hid (∀ x ∈ done ++ [r], x.length ≤ 5) := Lib.hid (fun x hx => by
            rcases List.mem_append.1 hx with hx | hx
            · exact HD.out x hx
            · simp at hx; subst hx; rw [HR1.out]; exact c5)
          have p4 : Hid (∀ z ∈ minusL cols r, 0 ≤ z ∧ z ≤ 100) := Lib.hid (fun z hz => ⟨minusL_nonneg _ _ HF.out z hz, minusL_le _ _ 100 (fun y hy => (HR01.out y hy).1) (fun y hy => (HZ.out y hy).2) z hz⟩)
          have p5 : Hid (os.length + 32 ^ rs.length ≤ 1099511627776) := Lib.hid (by rw [← HP.out]; exact hob)
          have cmx : c - 1 ≤ maxLen := by unfold maxLen; omega
          go_region_law (first
            | (refine step_call rfl 22 _ _ rfl #[vd] (by kernel_rfl) (spec_l02Copy done vd _ _ _ (by first | exact hd8 | exact hd8') hsh.out) (fun e w' h => by obtain ⟨v, h, _⟩ := h; exact ⟨v, h⟩) ?_; rintro vcp w4 ⟨vcp', hvv, hcp, hb4⟩; injection hvv with hvv; subst hvv; obtain ⟨Acp, ccp, rfl, _, _⟩ := hcp.form'; obtain ⟨us, he, hus, hrows, hdist⟩ := hcp; have hs4 := hb4.size)
            | (refine step_append_rd rfl (.tmp 62) (.tmp 64) 30 rfl w3.drew.heap.size 22 j0 (.slice none 0 0) 24 Try.underlying30 hj jz0 jz1 jz2 rfl (.slice Acp done.length ccp) us.length us rfl (hus.alloc _).1 (some ⟨w4.heap.size, 0, none⟩) 1 1 [.slice Ar cols.length cr] rfl (Ow.of_top (own_one w4 0 22 (.slice Ar cols.length cr) (Nat.zero_le _))).rd (by simp [Value.oneCell']) (by unfold maxLen; omega) (by omega) (by have := hs4; simp at this; simp; omega) ?_; intro v5 w5 hown5 hg5 _; have hP := pushed RI ho8 ((hus.alloc _).mono (Nat.le_refl _) (by simp)) he (fun k u r q1 q2 => ((hrows k u r q1 q2).alloc _).mono (Nat.le_refl _) (by simp)) (hb4.alloc hb4.size _) hrow8 hown5 hg5; obtain ⟨hD5, hb5⟩ := hP; have hO5 := ho8.grownOff hb5; have hR5 := htl8.grown (grownBy_of hb5 _); have hL5 := hlw8.grown (grownBy_of hb5 _); clear hown5 hg5)
            | (refine step_append_rd rfl (.tmp 62) (.tmp 64) 30 rfl w3.drew.heap.size 22 j0 (.slice none 0 0) 24 Try.underlying30 hj jz0 jz1 jz2 rfl (.slice Acp done.length ccp) us.length us rfl (hus.mono (by simp) (Nat.le_refl _)).1 (some ⟨w3.drew.heap.size, 0, none⟩) 1 1 [.slice Ar cols.length cr] rfl (Rd.new (Ow.of_top (own_one w3.drew 0 22 (.slice Ar cols.length cr) (Nat.zero_le _))).rd hb4) (by simp [Value.oneCell']) (by unfold maxLen; omega) (by omega) (by have := hs4; simp at this; simp; omega) ?_; intro v5 w5 hown5 hg5 _; have hP := pushed RI ho8 (hus.mono (by simp) (Nat.le_refl _)) he (fun k u r q1 q2 => (hrows k u r q1 q2).mono (by simp) (Nat.le_refl _)) (((Below.refl w3.drew.heap.size w3.drew).alloc (Nat.le_refl _) _).trans (hb4.mono (by simp))) hrow8 hown5 hg5; obtain ⟨hD5, hb5⟩ := hP; have hO5 := ho8.grownOff hb5; have hR5 := htl8.grown (grownBy_of hb5 _); have hL5 := hlw8.grown (grownBy_of hb5 _); clear hown5 hg5)
            | (refine step_call rfl 12 _ _ rfl #[O, v5, .slice (some ⟨b0, o0 + 1, none⟩) Q (c - 1), .slice Al cols.length cl] (by kernel_rfl) (IH.out (minusL cols r) (done ++ [r]) O os v5 _ _ w5 hO5 hD5 (by first | exact hR5 | exact rd_nil0 HRS.out cmx) hL5 p1.out p2.out p3.out HN.out p4.out p5.out) (fun e w' h => by obtain ⟨v, _, h, _⟩ := h; exact ⟨v, h⟩) ?_; rintro O' w6 ⟨O'', os', hvv, hos', hO6, hnO6, hgO6⟩; injection hvv with hvv; subst hvv; have HOS6 := Lib.hid hos'; clear hos'))
          all_goals (go_wp2_with fail)
          all_goals go_roundw
          all_goals first
            | (case rel => (repeat apply Exists.intro); exact ⟨⟨j + 1, O', os', rfl, by omega, by go_num, Lib.hid (by rw [HPS.out, HOS6.out, HFS.out, HOS.out]; omega), hO6, hnv.trans hnO6 (by have := hgw.size; have := hb5.size; simp at this; omega), grownBy_step hgw hnv (grownBy_trans (grownBy_trans g8 (grownBy_of hb5 _)) hgO6)⟩, rfl⟩)
            | (case rel => exact ⟨j + 1, O', os', rfl, by omega, by go_num, Lib.hid (by rw [HPS.out, HOS6.out, HFS.out, HOS.out]; omega), hO6, hnv.trans hnO6 (by have := hgw.size; have := hb5.size; simp at this; omega), grownBy_step hgw hnv (grownBy_trans (grownBy_trans g8 (grownBy_of hb5 _)) hgO6)⟩)
            | (simp [intOf]; omega)
end Go.Proofs.Ytkjhodeajipihaa
