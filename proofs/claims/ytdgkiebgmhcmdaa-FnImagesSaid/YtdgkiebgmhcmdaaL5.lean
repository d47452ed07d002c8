/- The walk of the law Images. -/
import Derived.Test.YtdgkiebgmhcmdaaProg
import Derived.Test.YtdgkiebgmhcmdaaW1
import Derived.Test.YtdgkiebgmhcmdaaW3
import Derived.Test.YtdgkiebgmhcmdaaW6
import Derived.Test.YtdgkiebgmhcmdaaW8
import Derived.Test.YtdgkiebgmhcmdaaW11
import Derived.Test.YtdgkiebgmhcmdaaW13
import Derived.Test.YtdgkiebgmhcmdaaW17
import Derived.Test.YtdgkiebgmhcmdaaW19
import Derived.Test.YtdgkiebgmhcmdaaR1
import Derived.Test.YtdgkiebgmhcmdaaR2
import Derived.Test.YtdgkiebgmhcmdaaL1
import Derived.Test.YtdgkiebgmhcmdaaL2
import Derived.Test.YtdgkiebgmhcmdaaL4
import Derived.Test.YtdgkiebgmhcmdaaMem
import Derived.WalkKit
import Derived.WalkSpells
import Derived.WalkLawsBesides
import Derived.KernelRfl
import Derived.Lib.Hide
import Derived.Deep.RegionHeld3
import Derived.Deep.QuietTactic
import Derived.BigQuiet
namespace Go.Proofs.Ytdgkiebgmhcmdaa
open Go.RowKit
set_option linter.unusedVariables false
set_option linter.unusedSimpArgs false

theorem region_tail {P : Program} {l : List Oper} {C : World → Prop} {Q : Exit → Act → World → Prop} {k fuel : Nat} {listed : Array Bool} {a : Act} {w : World} (hs : Region.noSelect l.toArray = true) (hf : fuel = (l.drop k).length)
    (hl : Region.lexFrom .any l.toArray (l.drop k).length k listed = true) (hC : C w) (h : wpQuiet P l.toArray C (fun b => ∀ w1, C w1 → Q .normal b w1) (l.drop k) a) : wpAny P .any l.toArray Q fuel listed a w := by
  subst hf
  exact wpAny_of_quiet (C := C) (Q := fun b => ∀ w1, C w1 → Q .normal b w1) (fun _ w1 hw1 h => h w1 hw1) _ _ _ _ hC (wpAnyQ_lex hs (l.drop k) k listed a (fun j => by simp) hl h)
theorem qsame {P : Program} {f : FuncId} {args : Array Value} {w : World} {m : Nat} {v : Value} (h : Calls P f args (w.drewN m) fun e w1 => e = .returned v ∧ w.drewN m = w1) : Calls P f args (w.drewN m) fun e w1 => e = .returned v ∧ ∃ k, w1 = w.drewN k :=
  h.mono fun _ _ ⟨h1, h2⟩ => ⟨h1, m, h2.symm⟩
theorem qdrew {P : Program} {f : FuncId} {args : Array Value} {w : World} {m : Nat} {v : Value} (h : Calls P f args (w.drewN m) fun e w1 => e = .returned v ∧ Drew (w.drewN m) w1) : Calls P f args (w.drewN m) fun e w1 => e = .returned v ∧ ∃ k, w1 = w.drewN k :=
  Calls.quiet_of h
theorem drew_below {w w1 : World} (h : Drew w w1) : Below w.heap.size w w1 := h.below _
theorem RdG.drewI {w : World} {lo hi : Nat} {v : Value} {g : List (List Int)} (h : RdG w lo hi v g) : RdG w.drew lo hi v g := h
theorem eq_below {w w' : World} (h : w = w') : Below w.heap.size w w' := by subst h; exact Below.refl _ _
theorem prod_le {R C : Nat} (h : R ≤ 5) (k : C ≤ 5) : R * C ≤ 25 := Nat.mul_le_mul h k
set_option maxRecDepth 100000 in
set_option maxHeartbeats 8000000 in
theorem fnImages_walk (v : Value) (code : List UInt8) (W : World) (hr : Rd W 0 W.heap.size v (bytesV code)) :
    Calls Try.prog 12 #[v] W fun e w' => e = .returned (.bool true) ∧ Below W.heap.size W w' := by
  obtain ⟨A, c, rfl, h1, h2⟩ : ∃ A c, v = .slice A code.length c ∧ code.length ≤ c ∧ c ≤ 9223372036854775807 := by
    obtain ⟨A, c, e, q1, q2, _⟩ := hr
    rw [bytesV_len] at e q1
    unfold maxLen at q2
    exact ⟨A, c, e, q1, by omega⟩
  by_cases hc : code.length ≤ 1048576
  rotate_left
  · have hc2 : ¬ (code.length : Int) ≤ 1048576 := by omega
    go_enter Try.func12, Try.ntmps12
    go_wp2_with fail
    go_ret
    exact ⟨rfl, Below.refl _ _⟩
  go_enter Try.func12, Try.ntmps12
  go_wp2_with fail
  refine (MakeImage_walk code _ 0 _ _ _ hr hc (by omega)).mono ?_
  rintro e w1 ⟨u, g, R, C, R1, R2, C1, C2, hG, rfl, ho, B1⟩
  replace hr := hr.new B1
  have hgl := hG.1.1
  have hhd := bits_hd hG R1
  have hM := ho.rd
  clear ho
  obtain ⟨Am, cm, rfl, m1, m2⟩ := hM.form
  rw [hgl] at hM m1 ⊢
  obtain ⟨bm, om, rfl, _, _⟩ := hM.some_ (by omega)
  obtain ⟨r0, hr0⟩ : ∃ r, g[0]? = some r := ⟨_, hd_get (by omega)⟩
  have hrl0 : r0.length = C := hG.1.2 0 _ hr0
  obtain ⟨rz, hrz⟩ := get_of_lt g (R - 1) (by omega)
  have hrlz : rz.length = C := hG.1.2 _ _ hrz
  obtain ⟨z, hz⟩ := get_of_lt rz 0 (by omega)
  have hcz := cellN_get hrz hz
  obtain ⟨n, hn⟩ : ∃ n, n = blackR g := ⟨_, rfl⟩
  have hn2 := black_rng hG R1 R2 C1 C2
  rw [← hn] at hn2
  obtain ⟨n1, n2⟩ := hn2
  have T1 := Lib.hid (trans_trans hG R1 R2 C1 C2)
  have T2 := Lib.hid (mirr_mirr hG R1 R2 C1 C2)
  have T3 := Lib.hid (inv_inv hG R1 R2 C1 C2)
  have T4 := Lib.hid ((black_trans hG R1 R2 C1 C2).trans hn.symm)
  have T5 := Lib.hid ((black_mirr hG R1 R2 C1 C2).trans hn.symm)
  have T6 : Hid (blackR (invR g) = (R : Int) * C - n) := Lib.hid (by rw [hn]; exact black_inv hG R1 R2 C1 C2)
  have T7 := Lib.hid (dist_inv hG R1 R2 C1 C2)
  have T8 := Lib.hid ((cell_trans hG R1 R2 C1 C2).trans hcz)
  obtain ⟨P, hP⟩ : ∃ P : Nat, P = R * C := ⟨_, rfl⟩
  have hP2 : P ≤ 25 := by rw [hP]; exact prod_le R2 C2
  have hP3 : (R : Int) * (C : Int) = (P : Int) := by rw [hP]; push_cast; rfl
  have HN := Lib.hid hn
  have HG := Lib.hid hG
  have HLen := Lib.hid hgl
  have HR0 := Lib.hid hr0
  have HRZ := Lib.hid hrz
  have HZ := Lib.hid hz
  have HP3 := Lib.hid hP3
  have L0 := Lib.hid hrl0
  have LZ := Lib.hid hrlz
  clear hn hG hr0 hrz hz hP hgl hhd hcz hP3 hrl0 hrlz
  obtain ⟨A0, c0, hc0, j1, j2, _⟩ := hM.row0 HR0.out
  rw [L0.out] at hc0 j1
  go_wp2_with fail
  refine (MakeSized_walk code _ 20 R C _ _ _ hr hc (by omega) R1 R2 C1 C2).mono ?_
  rintro e w2 ⟨u2, gb, hGb, rfl, o2, b2⟩
  clear hc0 j1 j2
  have s2 := B1.size
  have B2 := B1.trans (b2.mono s2)
  replace hr := hr.new b2
  replace hM := hM.new b2
  clear B1 b2 s2
  have hB := o2.rd
  obtain ⟨AhB, chB, rfl, _, _⟩ := hB.form
  clear o2 hr
  obtain ⟨d, hd⟩ : ∃ d, d = distR g gb := ⟨_, rfl⟩
  have hd2 := dist_rng HG.out hGb R1 R2 C1 C2
  rw [← hd] at hd2
  obtain ⟨d1, d2⟩ := hd2
  have D1 := Lib.hid hd.symm
  have D2 := Lib.hid ((dist_symm HG.out hGb R1 R2 C1 C2).trans hd.symm)
  obtain ⟨zz, hzz⟩ : ∃ zz : Bool, (d == 0) = zz := ⟨_, rfl⟩
  have D3 : Hid (eqG g gb = zz) := Lib.hid (by rw [← hzz, hd]; have := dist_zero HG.out hGb R1 R2 C1 C2; unfold eqG; rw [Bool.eq_iff_iff]; simp [this])
  have zself : (zz == zz) = true := by simp
  clear hd hGb
  go_wp2_with fail
  refine (impl_TransposeOf _ _ _ _ _ hM).mono ?_
  rintro e w3 ⟨u3, rfl, o3, b3⟩
  have s3 := B2.size
  have B3 := B2.trans (b3.mono s3)
  replace hM := hM.new b3
  replace hB := hB.new b3
  clear B2 b3 s3
  have hT := o3.rd
  obtain ⟨AhT, chT, rfl, q3, p3⟩ := hT.form
  clear o3
  go_wp2_with fail
  refine (impl_MirrorOf _ _ _ _ _ hM).mono ?_
  rintro e w4 ⟨u4, rfl, o4, b4⟩
  have s4 := B3.size
  have B4 := B3.trans (b4.mono s4)
  replace hM := hM.new b4
  replace hB := hB.new b4
  replace hT := hT.new b4
  clear B3 b4 s4
  have hF := o4.rd
  obtain ⟨AhF, chF, rfl, q4, p4⟩ := hF.form
  clear o4
  go_wp2_with fail
  refine (impl_InvertOf _ _ _ _ _ hM).mono ?_
  rintro e w5 ⟨u5, rfl, o5, b5⟩
  have s5 := B4.size
  have B5 := B4.trans (b5.mono s5)
  replace hM := hM.new b5
  replace hB := hB.new b5
  replace hT := hT.new b5
  replace hF := hF.new b5
  clear B4 b5 s5
  have hV := o5.rd
  obtain ⟨AhV, chV, rfl, q5, p5⟩ := hV.form
  clear o5
  go_wp2_with fail
  refine (impl_CountBlack _ _ _ _ _ hM).mono ?_
  rw [← HN.out]
  rintro e w6 ⟨rfl, h6⟩
  have b6 := eq_below h6
  clear h6
  have s6 := B5.size
  have B6 := B5.trans (b6.mono s6)
  replace hM := hM.new b6
  replace hB := hB.new b6
  replace hT := hT.new b6
  replace hF := hF.new b6
  replace hV := hV.new b6
  clear B5 b6 s6
  go_wp2_with fail
  refine (impl_DistanceOf _ _ _ _ _ _ _ _ _ hM hB).mono ?_
  rw [D1.out]
  rintro e w7 ⟨rfl, d7⟩
  have b7 := d7.below w6.heap.size
  clear d7
  have s7 := B6.size
  have B7 := B6.trans (b7.mono s7)
  replace hM := hM.new b7
  replace hB := hB.new b7
  replace hT := hT.new b7
  replace hF := hF.new b7
  replace hV := hV.new b7
  clear B6 b7 s7
  obtain ⟨A0, c0, hc0, j1, j2, _⟩ := hM.row0 HR0.out
  rw [L0.out] at hc0 j1
  obtain ⟨A9, c9, hc9, k1, k2, hrow⟩ := hM.row HRZ.out
  rw [LZ.out] at hc9 k1 hrow
  obtain ⟨b8, o8, rfl, l1, l2, l3, hc8⟩ := hrow.at_ HZ.out
  rw [Nat.add_zero] at hc8
  clear hrow
  obtain ⟨Q, hQ⟩ : ∃ Q, Q = R - 1 := ⟨_, rfl⟩
  rw [← hQ] at hc9
  have fQ : IntKind.i64.wrap ((R : Int) - 1) = (Q : Int) := by rw [IntKind.wrap_i64]; omega
  have fQ2 : ((R : Int) - 1) = (Q : Int) := by omega
  have fQ3 : (Q : Int) < (R : Int) := by omega
  rw [fQ2] at T8
  clear fQ2 hQ
  have hP3 := HP3.out
  have fP : IntKind.i64.wrap ((R : Int) * (C : Int)) = (P : Int) := by rw [hP3, IntKind.wrap_i64]; omega
  rw [hP3] at T6 T7
  obtain ⟨D6, hD6⟩ : ∃ D6 : Int, D6 = (P : Int) - n := ⟨_, rfl⟩
  have fN : IntKind.i64.wrap ((P : Int) - n) = D6 := by rw [hD6, IntKind.wrap_i64]; omega
  rw [← hD6] at T6
  have fP2 : IntKind.i64.wrap (P : Int) = (P : Int) := by rw [IntKind.wrap_i64]; omega
  have eD6 : (D6 == D6) = true := by simp
  have ePP : ((P : Int) == (P : Int)) = true := by simp
  have hR0 : (0 : Int) < (R : Int) := by omega
  have hC0 : (0 : Int) < (C : Int) := by omega
  have hR9 : 0 < R := by omega
  have hC9 : 0 < C := by omega
  clear hP3 hD6
  have y1 : bm < w7.heap.size := World.block_lt_of_cell? _ _ hc0
  have y2 : b8 < w7.heap.size := World.block_lt_of_cell? _ _ hc8
  go_wp2_with fail
  dsimp only [List.append]
  refine wp_region_noPanic ?_
  refine wp_region_any (by kernel_rfl) ?_
  change wpAny _ _ _ _ _ _ _ (World.drew _)
  replace hM := hM.drewI
  replace hB := hB.drewI
  replace hT := hT.drewI
  replace hF := hF.drewI
  replace hV := hV.drewI
  have BB := B7.drew
  clear B7
  replace hc0 : w7.drew.cell? ⟨bm, om, none⟩ = some (.slice A0 C c0) := hc0
  replace hc9 : w7.drew.cell? ⟨bm, om + Q, none⟩ = some (.slice (some ⟨b8, o8, none⟩) C c9) := hc9
  replace hc8 : w7.drew.cell? ⟨b8, o8, none⟩ = some (.int .i64 z) := hc8
  replace y1 : bm < w7.drew.heap.size := y1
  replace y2 : b8 < w7.drew.heap.size := y2
  refine wpAny_take (i := 0) (v := ?v0) rfl (by kernel_rfl) (by kernel_rfl) (by kernel_rfl) (fun _ _ _ h => h) (Or.inl ⟨by rfl, ?hy0⟩) ?rest0
  case hy0 => (intro w; go_simp; first | done | (with_reducible rfl))
  try simp only [Act.put, List.setIfInBounds_toArray, List.set_cons_zero, List.set_cons_succ]
  refine wpAny_take (i := 2) (v := ?v2) rfl (by kernel_rfl) (by kernel_rfl) (by kernel_rfl) (fun _ _ _ h => h) (Or.inl ⟨by rfl, ?hy2⟩) ?rest2
  case hy2 => (intro w; go_simp; first | done | (with_reducible rfl))
  try simp only [Act.put, List.setIfInBounds_toArray, List.set_cons_zero, List.set_cons_succ]
  refine wpAny_ready (rs := [1]) (by kernel_rfl) (by simp) ?_
  refine AllReady.cons rfl (fun K hK => ?_) AllReady.nil
  go_simp
  go_at_call 18
  refine (impl_TransposeOf _ _ _ _ _ hT).mono ?_
  rintro e w9 ⟨u, rfl, o, b⟩
  rw [T1.out] at o
  replace hc0 := ((bcell b).1 _ _ y1).trans hc0
  replace hc9 := ((bcell b).1 _ _ y1).trans hc9
  replace hc8 := ((bcell b).1 _ _ y2).trans hc8
  replace y1 := Nat.lt_of_lt_of_le y1 b.size
  replace y2 := Nat.lt_of_lt_of_le y2 b.size
  replace BB := BB.trans (b.mono BB.size)
  replace hM := hM.new b
  replace hB := hB.new b
  replace hT := hT.new b
  replace hF := hF.new b
  replace hV := hV.new b
  clear b
  have hX := o.rd
  obtain ⟨AhX, chX, rfl, qhX, phX⟩ := hX.form
  rw [HLen.out] at hX qhX ⊢
  clear o
  go_wp2_with fail
  first | (refine hK _ _ ?_; clear hK K) | skip
  try simp only [Act.put, List.setIfInBounds_toArray, List.set_cons_zero, List.set_cons_succ]
  refine wpAny_ready (rs := [3]) (by kernel_rfl) (by simp) ?_
  refine AllReady.cons rfl (fun K hK => ?_) AllReady.nil
  go_simp
  go_at_call 51
  refine (alike_walk _ _ _ _ _ _ _ _ hX hM).mono ?_
  rintro e w9 ⟨rfl, d⟩
  have b := drew_below d
  clear d
  replace hc0 := ((bcell b).1 _ _ y1).trans hc0
  replace hc9 := ((bcell b).1 _ _ y1).trans hc9
  replace hc8 := ((bcell b).1 _ _ y2).trans hc8
  replace y1 := Nat.lt_of_lt_of_le y1 b.size
  replace y2 := Nat.lt_of_lt_of_le y2 b.size
  replace BB := BB.trans (b.mono BB.size)
  replace hM := hM.new b
  replace hB := hB.new b
  replace hT := hT.new b
  replace hF := hF.new b
  replace hV := hV.new b
  replace hX := hX.new b
  clear b
  go_wp2_with fail
  first | (refine hK _ _ ?_; clear hK K) | skip
  try simp only [Act.put, List.setIfInBounds_toArray, List.set_cons_zero, List.set_cons_succ]
  refine wpAny_take (i := 4) (v := ?v4) rfl (by kernel_rfl) (by kernel_rfl) (by kernel_rfl) (fun _ _ _ h => h) (Or.inl ⟨by rfl, ?hy4⟩) ?rest4
  case hy4 => (intro w; go_simp; first | done | (with_reducible rfl))
  try simp only [Act.put, List.setIfInBounds_toArray, List.set_cons_zero, List.set_cons_succ]
  refine wpAny_take (i := 5) (v := ?v5) rfl (by kernel_rfl) (by kernel_rfl) (by kernel_rfl) (fun _ _ _ h => h) (Or.inl ⟨by rfl, ?hy5⟩) ?rest5
  case hy5 => (intro w; go_simp; first | done | (with_reducible rfl))
  try simp only [Act.put, List.setIfInBounds_toArray, List.set_cons_zero, List.set_cons_succ]
  refine wpAny_take (i := 7) (v := ?v7) rfl (by kernel_rfl) (by kernel_rfl) (by kernel_rfl) (fun _ _ _ h => h) (Or.inl ⟨by rfl, ?hy7⟩) ?rest7
  case hy7 => (intro w; go_simp; first | done | (with_reducible rfl))
  try simp only [Act.put, List.setIfInBounds_toArray, List.set_cons_zero, List.set_cons_succ]
  refine wpAny_ready (rs := [6]) (by kernel_rfl) (by simp) ?_
  refine AllReady.cons rfl (fun K hK => ?_) AllReady.nil
  go_simp
  go_at_call 25
  refine (impl_MirrorOf _ _ _ _ _ hF).mono ?_
  rintro e w9 ⟨u, rfl, o, b⟩
  rw [T2.out] at o
  replace hc0 := ((bcell b).1 _ _ y1).trans hc0
  replace hc9 := ((bcell b).1 _ _ y1).trans hc9
  replace hc8 := ((bcell b).1 _ _ y2).trans hc8
  replace y1 := Nat.lt_of_lt_of_le y1 b.size
  replace y2 := Nat.lt_of_lt_of_le y2 b.size
  replace BB := BB.trans (b.mono BB.size)
  replace hM := hM.new b
  replace hB := hB.new b
  replace hT := hT.new b
  replace hF := hF.new b
  replace hV := hV.new b
  replace hX := hX.new b
  clear b
  have hY := o.rd
  obtain ⟨AhY, chY, rfl, qhY, phY⟩ := hY.form
  rw [HLen.out] at hY qhY ⊢
  clear o
  go_wp2_with fail
  first | (refine hK _ _ ?_; clear hK K) | skip
  try simp only [Act.put, List.setIfInBounds_toArray, List.set_cons_zero, List.set_cons_succ]
  refine wpAny_ready (rs := [8]) (by kernel_rfl) (by simp) ?_
  refine AllReady.cons rfl (fun K hK => ?_) AllReady.nil
  go_simp
  go_at_call 51
  refine (alike_walk _ _ _ _ _ _ _ _ hY hM).mono ?_
  rintro e w9 ⟨rfl, d⟩
  have b := drew_below d
  clear d
  replace hc0 := ((bcell b).1 _ _ y1).trans hc0
  replace hc9 := ((bcell b).1 _ _ y1).trans hc9
  replace hc8 := ((bcell b).1 _ _ y2).trans hc8
  replace y1 := Nat.lt_of_lt_of_le y1 b.size
  replace y2 := Nat.lt_of_lt_of_le y2 b.size
  replace BB := BB.trans (b.mono BB.size)
  replace hM := hM.new b
  replace hB := hB.new b
  replace hT := hT.new b
  replace hF := hF.new b
  replace hV := hV.new b
  replace hX := hX.new b
  replace hY := hY.new b
  clear b
  go_wp2_with fail
  first | (refine hK _ _ ?_; clear hK K) | skip
  try simp only [Act.put, List.setIfInBounds_toArray, List.set_cons_zero, List.set_cons_succ]
  refine wpAny_take (i := 9) (v := ?v9) rfl (by kernel_rfl) (by kernel_rfl) (by kernel_rfl) (fun _ _ _ h => h) (Or.inl ⟨by rfl, ?hy9⟩) ?rest9
  case hy9 => (intro w; go_simp; first | done | (with_reducible rfl))
  try simp only [Act.put, List.setIfInBounds_toArray, List.set_cons_zero, List.set_cons_succ]
  refine wpAny_take (i := 10) (v := ?v10) rfl (by kernel_rfl) (by kernel_rfl) (by kernel_rfl) (fun _ _ _ h => h) (Or.inl ⟨by rfl, ?hy10⟩) ?rest10
  case hy10 => (intro w; go_simp; first | done | (with_reducible rfl))
  try simp only [Act.put, List.setIfInBounds_toArray, List.set_cons_zero, List.set_cons_succ]
  refine wpAny_take (i := 11) (v := ?v11) rfl (by kernel_rfl) (by kernel_rfl) (by kernel_rfl) (fun _ _ _ h => h) (Or.inl ⟨by rfl, ?hy11⟩) ?rest11
  case hy11 => (intro w; go_simp; first | done | (with_reducible rfl))
  try simp only [Act.put, List.setIfInBounds_toArray, List.set_cons_zero, List.set_cons_succ]
  refine wpAny_take (i := 13) (v := ?v13) rfl (by kernel_rfl) (by kernel_rfl) (by kernel_rfl) (fun _ _ _ h => h) (Or.inl ⟨by rfl, ?hy13⟩) ?rest13
  case hy13 => (intro w; go_simp; first | done | (with_reducible rfl))
  try simp only [Act.put, List.setIfInBounds_toArray, List.set_cons_zero, List.set_cons_succ]
  refine wpAny_ready (rs := [12]) (by kernel_rfl) (by simp) ?_
  refine AllReady.cons rfl (fun K hK => ?_) AllReady.nil
  go_simp
  go_at_call 23
  refine (impl_InvertOf _ _ _ _ _ hV).mono ?_
  rintro e w9 ⟨u, rfl, o, b⟩
  rw [T3.out] at o
  replace hc0 := ((bcell b).1 _ _ y1).trans hc0
  replace hc9 := ((bcell b).1 _ _ y1).trans hc9
  replace hc8 := ((bcell b).1 _ _ y2).trans hc8
  replace y1 := Nat.lt_of_lt_of_le y1 b.size
  replace y2 := Nat.lt_of_lt_of_le y2 b.size
  replace BB := BB.trans (b.mono BB.size)
  replace hM := hM.new b
  replace hB := hB.new b
  replace hT := hT.new b
  replace hF := hF.new b
  replace hV := hV.new b
  replace hX := hX.new b
  replace hY := hY.new b
  clear b
  have hZ := o.rd
  obtain ⟨AhZ, chZ, rfl, qhZ, phZ⟩ := hZ.form
  rw [HLen.out] at hZ qhZ ⊢
  clear o
  go_wp2_with fail
  first | (refine hK _ _ ?_; clear hK K) | skip
  try simp only [Act.put, List.setIfInBounds_toArray, List.set_cons_zero, List.set_cons_succ]
  have Q1 : ∀ m : Nat, Calls Try.prog 51 #[.slice AhZ R chZ, .slice (some ⟨bm, om, none⟩) R cm] (w9.drewN m) fun e w1 => e = .returned (.bool true) ∧ ∃ k, w1 = w9.drewN k := by
    intro m
    have hq := alike_walk g _ _ _ _ _ _ _ (hZ.drewN m) (hM.drewN m)
    exact qdrew hq
  have Q2 : ∀ m : Nat, Calls Try.prog 49 #[.slice AhT (transR g).length chT] (w9.drewN m) fun e w1 => e = .returned (.int .i64 n) ∧ ∃ k, w1 = w9.drewN k := by
    intro m
    have hq := impl_CountBlack _ _ _ _ _ (hT.drewN m)
    rw [T4.out] at hq
    exact qsame hq
  have Q3 : ∀ m : Nat, Calls Try.prog 49 #[.slice AhF (mirrR g).length chF] (w9.drewN m) fun e w1 => e = .returned (.int .i64 n) ∧ ∃ k, w1 = w9.drewN k := by
    intro m
    have hq := impl_CountBlack _ _ _ _ _ (hF.drewN m)
    rw [T5.out] at hq
    exact qsame hq
  have Q4 : ∀ m : Nat, Calls Try.prog 49 #[.slice AhV (invR g).length chV] (w9.drewN m) fun e w1 => e = .returned (.int .i64 D6) ∧ ∃ k, w1 = w9.drewN k := by
    intro m
    have hq := impl_CountBlack _ _ _ _ _ (hV.drewN m)
    rw [T6.out] at hq
    exact qsame hq
  have Q5 : ∀ m : Nat, Calls Try.prog 50 #[.slice AhB gb.length chB, .slice (some ⟨bm, om, none⟩) R cm] (w9.drewN m) fun e w1 => e = .returned (.int .i64 d) ∧ ∃ k, w1 = w9.drewN k := by
    intro m
    have hq := impl_DistanceOf _ _ _ _ _ _ _ _ _ (hB.drewN m) (hM.drewN m)
    rw [D2.out] at hq
    exact qdrew hq
  have Q6 : ∀ m : Nat, Calls Try.prog 52 #[.slice (some ⟨bm, om, none⟩) R cm, .slice AhB gb.length chB] (w9.drewN m) fun e w1 => e = .returned (.bool zz) ∧ ∃ k, w1 = w9.drewN k := by
    intro m
    have hq := impl_SameImage _ _ _ _ _ _ _ _ _ (hM.drewN m) (hB.drewN m)
    rw [D3.out] at hq
    exact qdrew hq
  have Q7 : ∀ m : Nat, Calls Try.prog 50 #[.slice (some ⟨bm, om, none⟩) R cm, .slice AhV (invR g).length chV] (w9.drewN m) fun e w1 => e = .returned (.int .i64 P) ∧ ∃ k, w1 = w9.drewN k := by
    intro m
    have hq := impl_DistanceOf _ _ _ _ _ _ _ _ _ (hM.drewN m) (hV.drewN m)
    rw [T7.out] at hq
    exact qdrew hq
  have Q8 : ∀ m : Nat, Calls Try.prog 53 #[.slice AhT (transR g).length chT, .int .i64 0, .int .i64 Q] (w9.drewN m) fun e w1 => e = .returned (.int .i64 z) ∧ ∃ k, w1 = w9.drewN k := by
    intro m
    have hq := impl_CellAt _ 0 (Q : Int) _ _ _ _ (hT.drewN m)
    rw [T8.out] at hq
    exact qsame hq
  have HQ1 := Lib.hid Q1
  have HQ2 := Lib.hid Q2
  have HQ3 := Lib.hid Q3
  have HQ4 := Lib.hid Q4
  have HQ5 := Lib.hid Q5
  have HQ6 := Lib.hid Q6
  have HQ7 := Lib.hid Q7
  have HQ8 := Lib.hid Q8
  clear Q1 Q2 Q3 Q4 Q5 Q6 Q7 Q8 hT hF hV hX hY hZ hM hB
  have e1 : (n == n) = true := by simp
  have e2 : (d == d) = true := by simp
  have e3 : (z == z) = true := by simp
  refine region_tail (k := 14) (C := fun w1 => ∃ m, w1 = w9.drewN m) (by kernel_rfl) (by kernel_rfl) (by kernel_rfl) ⟨0, rfl⟩ ?tail
  dsimp only [List.drop]
  repeat (go_big_quiet_step ((first | (go_at_call 51; with_reducible exact HQ1.out _) | (go_at_call 49; with_reducible exact HQ2.out _) | (go_at_call 49; with_reducible exact HQ3.out _) | (go_at_call 49; with_reducible exact HQ4.out _) | (go_at_call 50; with_reducible exact HQ5.out _) | (go_at_call 52; with_reducible exact HQ6.out _) | (go_at_call 50; with_reducible exact HQ7.out _) | (go_at_call 53; with_reducible exact HQ8.out _))))
  refine wpQuiet_nil ?_
  intro _ hw1
  obtain ⟨nq, hw2⟩ := hw1
  subst hw2
  show NoPanic _ _ _ _
  refine NoPanic.normal ?_
  go_wp2_with fail
  go_ret
  exact ⟨rfl, below_drewN BB nq⟩
end Go.Proofs.Ytdgkiebgmhcmdaa
