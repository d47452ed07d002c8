/- The walk of l06Visit of spec. -/
import Derived.Test.YtpjlgcohafbbdaaProg
import Derived.Test.YtpjlgcohafbbdaaW1
import Derived.Test.YtpjlgcohafbbdaaW3
import Derived.Test.YtpjlgcohafbbdaaW4
import Derived.Test.YtpjlgcohafbbdaaW6
import Derived.Test.YtpjlgcohafbbdaaW8
import Derived.Test.YtpjlgcohafbbdaaW19
import Derived.Test.YtpjlgcohafbbdaaW23
import Derived.Test.YtpjlgcohafbbdaaW25
import Derived.Test.YtpjlgcohafbbdaaW30
import Derived.Test.YtpjlgcohafbbdaaW33
import Derived.Test.YtpjlgcohafbbdaaSw
import Derived.Test.YtpjlgcohafbbdaaPoke
import Derived.Test.YtpjlgcohafbbdaaR2
import Derived.Test.YtpjlgcohafbbdaaN1
import Derived.Test.YtpjlgcohafbbdaaN2
import Derived.Test.YtpjlgcohafbbdaaN3
import Derived.Test.YtpjlgcohafbbdaaN4
import Derived.Test.YtpjlgcohafbbdaaN7
import Derived.Test.YtpjlgcohafbbdaaN8
import Derived.Test.YtpjlgcohafbbdaaN9
import Derived.Test.YtpjlgcohafbbdaaN11
import Derived.Test.YtpjlgcohafbbdaaMem
import Derived.WalkKit
import Derived.WalkSpells
import Derived.WalkLawsBesides
import Derived.KernelRfl
import Derived.Lib.Hide
import Derived.Deep.RegionHeld3
import Derived.Deep.RegionLaw
import Derived.Deep.Cut
import Derived.Deep.CutRange
import Derived.Deep.CutBlock
import Derived.StillTailTactics
import Derived.Deep.QuietTactic
import Derived.BigQuiet
namespace Go.Proofs.Ytpjlgcohafbbdaa
open Go.RowKit
set_option linter.unusedVariables false
set_option linter.unusedSimpArgs false

theorem sws_info : (Try.prog.info? 26).map (fun i => (i.zero, i.size, i.bytes)) = some (some (.slice none 0 0), 1, 24) := by kernel_rfl
theorem QWne : (23 : Nat) ≠ 26 := by decide
def XV (Q W : Value) (b : Nat) : Prop := Q.ownBlock ≠ some b ∧ W.ownBlock ≠ some b
structure VisS (w : World) (lo : Nat) (Q W : Value) (us ws : List Value) (L : List (Vx Img Sw)) (R C : Nat) : Prop where
  hQ : Ow w lo w.heap.size 23 Q us
  hW : Ow w lo w.heap.size 26 W ws
  lQ : us.length = L.length
  lW : ws.length = L.length
  el : ∀ (k : Nat) (u : Value) (v : Vx Img Sw), us[k]? = some u → L[k]? = some v → RdPG (XV Q W) w u v.x
  wl : ∀ (k : Nat) (u : Value) (v : Vx Img Sw), ws[k]? = some u → L[k]? = some v → RdPS (XV Q W) w u v.w
  good : ∀ (k : Nat) (v : Vx Img Sw), L[k]? = some v → Good v.x R C
section
variable {w w' : World} {lo R C : Nat} {Q W Q' W' u a : Value} {us ws : List Value} {L : List (Vx Img Sw)} {x : Vx Img Sw}
theorem VisS.new (h : VisS w lo Q W us ws L R C) (hb : Below w.heap.size w w') : VisS w' lo Q W us ws L R C :=
  ⟨(h.hQ.new hb).mono (Nat.le_refl _) hb.size, (h.hW.new hb).mono (Nat.le_refl _) hb.size, h.lQ, h.lW, fun k u v hu hv => (h.el k u v hu hv).move (keep_new hb), fun k u v hu hv => (h.wl k u v hu hv).move (keep_new hb) hb.size, h.good⟩
theorem VisS.push (h : VisS w lo Q W us ws L R C) (hk : KeepP (XV Q W) (XV Q' W') w w') (hs : w.heap.size ≤ w'.heap.size) (hQ : Ow w' lo w'.heap.size 23 Q' (us ++ [u])) (hW : Ow w' lo w'.heap.size 26 W' (ws ++ [a]))
    (hu : RdPG (XV Q' W') w' u x.x) (ha : RdPS (XV Q' W') w' a x.w) (hg : Good x.x R C) : VisS w' lo Q' W' (us ++ [u]) (ws ++ [a]) (L ++ [x]) R C := by
  refine ⟨hQ, hW, by simp [h.lQ], by simp [h.lW], fun k b v hb hv => ?_, fun k b v hb hv => ?_, fun k v hv => ?_⟩
  · rcases get_snoc hb with hb | ⟨rfl, rfl⟩
    · have hkl := get_lt hb
      rw [List.getElem?_append_left (by rw [← h.lQ]; exact hkl)] at hv
      exact (h.el k b v hb hv).move hk
    · rw [h.lQ] at hv; simp at hv; subst hv; exact hu
  · rcases get_snoc hb with hb | ⟨rfl, rfl⟩
    · have hkl := get_lt hb
      rw [List.getElem?_append_left (by rw [← h.lW]; exact hkl)] at hv
      exact (h.wl k b v hb hv).move hk hs
    · rw [h.lW] at hv; simp at hv; subst hv; exact ha
  · rcases get_snoc hv with hv | ⟨_, rfl⟩
    · exact h.good k v hv
    · exact hg
theorem VisS.list (h : VisS w lo Q W us ws L R C) : RdL w Q us (L.map Vx.x) :=
  ⟨⟨_, _, h.hQ.rd⟩, by rw [List.length_map]; exact h.lQ, fun k a g ha hg => by
    rw [List.getElem?_map] at hg
    cases hv : L[k]? with
    | none => rw [hv] at hg; simp at hg
    | some v => rw [hv] at hg; simp at hg; subst hg; exact (h.el k a v ha hv).rd⟩
end
theorem VisS.begin {w2 w4 : World} {lo R C : Nat} {t : Img} {vt : Value} (hr : OwG w2 lo w2.heap.size 50 3 vt t) (hlo : lo ≤ w2.heap.size) (hg : Good t R C)
    (e : w4 = ((w2.alloc (.cells #[vt] 23)).alloc (.cells #[] 32)).alloc (.cells #[.slice (some ⟨w2.heap.size + 1, 0, none⟩) 0 0] 26)) :
    VisS w4 lo (.slice (some ⟨w2.heap.size, 0, none⟩) 1 1) (.slice (some ⟨w2.heap.size + 2, 0, none⟩) 1 1) [vt] [.slice (some ⟨w2.heap.size + 1, 0, none⟩) 0 0] [⟨t, [], 0, 0⟩] R C := by
  obtain ⟨W1, h1⟩ : ∃ W, W = w2.alloc (.cells #[vt] 23) := ⟨_, rfl⟩
  obtain ⟨W2, h2⟩ : ∃ W, W = W1.alloc (.cells #[] 32) := ⟨_, rfl⟩
  rw [← h1, ← h2] at e
  have s1 : W1.heap.size = w2.heap.size + 1 := by rw [h1]; simp
  have s2 : W2.heap.size = w2.heap.size + 2 := by rw [h2]; simp; omega
  have s4 : w4.heap.size = w2.heap.size + 3 := by rw [e]; simp; omega
  have b1 : Below w2.heap.size w2 W1 := by rw [h1]; exact (Below.refl _ _).alloc (Nat.le_refl _) _
  have b2 : Below W1.heap.size W1 W2 := by rw [h2]; exact (Below.refl _ _).alloc (Nat.le_refl _) _
  have b4 : Below W2.heap.size W2 w4 := by rw [e]; exact (Below.refl _ _).alloc (Nat.le_refl _) _
  have b14 : Below W1.heap.size W1 w4 := b2.trans (b4.mono (by omega))
  have b04 : Below w2.heap.size w2 w4 := b1.trans (b14.mono (by omega))
  have hQ1 : Ow W1 lo W1.heap.size 23 (.slice (some ⟨w2.heap.size, 0, none⟩) 1 1) [vt] := by rw [h1]; exact Ow.of_top (own_oneN w2 lo _ vt hlo)
  have hW4 : Ow w4 lo w4.heap.size 26 (.slice (some ⟨W2.heap.size, 0, none⟩) 1 1) [.slice (some ⟨w2.heap.size + 1, 0, none⟩) 0 0] := by rw [e]; exact Ow.of_top (own_oneN W2 lo _ _ (by omega))
  rw [s2] at hW4
  refine ⟨(hQ1.new b14).mono (Nat.le_refl _) b14.size, hW4, rfl, rfl, fun k u v hu hv => ?_, fun k u v hu hv => ?_, fun k v hv => ?_⟩
  · match k, hu, hv with
    | 0, hu, hv =>
      simp at hu hv; subst hu; subst hv
      refine RdPG.of (hr.rd.new b04) (fun b q1 q2 q3 => ⟨?_, ?_⟩)
      · simp [Value.ownBlock]; omega
      · simp [Value.ownBlock]; omega
    | k + 1, hu, _ => simp at hu
  · match k, hu, hv with
    | 0, hu, hv =>
      simp at hu hv; subst hu; subst hv
      exact ⟨_, 0, rfl, by simp, by simp, fun k s hs => by simp at hs⟩
    | k + 1, hu, _ => simp at hu
  · match k, hv with
    | 0, hv => simp at hv; subst hv; exact hg
    | k + 1, hv => simp at hv

theorem own_emptyS (w : World) (base : Nat) (e : TypeId) (hb : base ≤ w.heap.size) : (w.alloc (.cells #[] e)).ownsRow base e 4 (.slice (some ⟨w.heap.size, 0, none⟩) 0 0) 0 [] := World.ownsRow_lit w #[] 0 hb (Nat.zero_le _) rfl
theorem lit_rdS (w : World) (s : Sw) (t : TypeId) : RdS (w.alloc (.cells #[.int .i64 s.1, .int .i64 s.2.1, .int .i64 s.2.2.1, .int .i64 s.2.2.2] t)) w.heap.size (w.heap.size + 1) (.slice (some ⟨w.heap.size, 0, none⟩) 1 1) [s] := by
  refine ⟨_, 1, rfl, by simp, by unfold maxLen; omega, fun k x hx => ?_⟩
  match k, hx with
  | 0, hx =>
    simp at hx; subst hx
    refine ⟨_, 0, rfl, Nat.le_refl _, Nat.lt_succ_self _, by simp, fun j u hu => ?_⟩
    have := cell_sw_new w s t j u hu
    rw [Addr.add_lit] at this
    simpa using this
  | k + 1, hx => simp at hx
theorem VisS.fin {wc w6 w9 w11 : World} {lo R C n : Nat} {Q W v6 v11 y9 u4 sv : Value} {vs zs : List Value} {M : List (Vx Img Sw)} {x : Vx Img Sw} {o : Obj} {sl : List Sw} (hSc : VisS wc lo Q W vs zs M R C) (hk6 : KeepP (XV Q W) (XV v6 W) wc w6) (s6 : wc.heap.size ≤ w6.heap.size)
    (hQ6 : Ow w6 lo w6.heap.size 23 v6 (vs ++ [u4])) (hW6 : Ow w6 lo w6.heap.size 26 W zs) (h4 : RdPG (XV v6 W) w6 u4 x.x) (hg : Good x.x R C) (hb9 : Below w6.heap.size w6 w9) (hO9 : OwS w9 w6.heap.size w9.heap.size 32 y9 x.w)
    (hown11 : w11.ownsRow lo 26 1 v11 n (zs ++ [y9])) (hg11 : (w9.alloc o).grownBy w11 W.ownBlock) (hnew11 : v11.ownBlock = W.ownBlock ∨ v11.ownBlock = some (w9.alloc o).heap.size) (hsP : RdPS (XV v6 W) w6 sv sl) (hlo : lo ≤ w6.heap.size) :
    VisS w11 lo v6 v11 (vs ++ [u4]) (zs ++ [y9]) (M ++ [x]) R C ∧ RdPS (XV v6 v11) w11 sv sl ∧ Below lo w6 w11 := by
  have s9 := hb9.size
  have sal : (w9.alloc o).heap.size = w9.heap.size + 1 := by simp
  have s11 := hg11.size
  have bal : Below w9.heap.size w9 (w9.alloc o) := (Below.refl _ _).alloc (Nat.le_refl _) _
  have hk : KeepP (XV v6 W) (XV v6 v11) w6 w11 := fun b hb hx => by
    refine ⟨(hg11.block b (by omega) (fun e => hx.2 e.symm)).trans ((bal.block b (by omega)).trans (hb9.block b hb)), hx.1, ?_⟩
    rcases hnew11 with e | e
    · rw [e]; exact hx.2
    · rw [e]; intro hh; injection hh with hh; omega
  have hQ11 : Ow w11 lo w11.heap.size 23 v6 (vs ++ [u4]) := (((hQ6.new hb9).alloc o).grown hg11 (fun q hq e => hQ6.ne_ hW6 QWne hq e)).mono (Nat.le_refl _) (by omega)
  have hy : RdPS (XV v6 v11) w11 y9 x.w := by
    have h1 : RdPS (fun b => w6.heap.size ≤ b ∧ b < w9.heap.size) w9 y9 x.w := RdPS.of hO9.rd (fun b q1 q2 _ => ⟨q1, q2⟩)
    refine h1.move (fun b hb hx => ⟨(hg11.block b (by omega) (fun e => by have := (hW6.blk e.symm).2.2; omega)).trans (bal.block b hb), fun e => by have := (hQ6.blk e).2.2; omega, ?_⟩) (by omega)
    rcases hnew11 with e | e
    · rw [e]; intro hh; have := (hW6.blk hh).2.2; omega
    · rw [e]; intro hh; injection hh with hh; omega
  refine ⟨hSc.push (hk6.trans hk s6) (by omega) hQ11 (Ow.of_top hown11) (h4.move hk) hy hg, hsP.move hk (by omega), ?_⟩
  exact ((hb9.mono hlo).alloc (by omega) o).grown hg11 (by omega) (fun q hq => (hW6.blk hq).1)

/-- The post of l06Visit. -/
def RetV (w : World) (t : Img) (R C : Nat) (e : Ending) (w' : World) : Prop := ∃ Q W us ws L, e = .returned (.tuple #[Q, W]) ∧ InvB nbI t L L.length 0 ∧ VisS w' w.heap.size Q W us ws L R C ∧ L.length ≤ 65536 ∧ Below w.heap.size w w'
set_option maxRecDepth 100000 in
set_option maxHeartbeats 4000000 in
theorem spec_l06Visit {R C : Nat} (t : Img) (v : Value) (w : World) (a b : Nat) (hr : RdG w a b v t) (hg : Good t R C) (h4 : R ≤ 4) (h5 : C ≤ 4) :
    Calls Try.prog 45 #[v] w (RetV w t R C) := by
  obtain ⟨A, c, rfl, n1, n2⟩ := hr.form
  obtain ⟨j0, hj, jz0, jz1, jz2⟩ := info_parts grid_info
  obtain ⟨s0, hs0, sz0, sz1, sz2⟩ := info_parts sw_info
  obtain ⟨w0, hw0, wz0, wz1, wz2⟩ := info_parts sws_info
  have Sg := Lib.hid (imgOk_short hg.img)
  have HG := Lib.hid hg; clear hg
  go_enter Try.func45, Try.ntmps45
  go_wp2_with (go_at_call 26; refine (spec_l02Copy _ _ _ _ _ hr Sg.out).mono ?_; rintro e w2 ⟨u, rfl, hu, hb⟩; obtain ⟨Au, cu, rfl, _, _⟩ := hu.form')
  have hS0 := VisS.begin (hu.mono (Nat.le_refl _) (Nat.le_refl _)) hb.size HG.out rfl
  have hb3 := ((hb.alloc hb.size (.cells #[.slice Au t.length cu] 23)).alloc (by have := hb.size; simp; omega) (.cells #[] 32)).alloc (by have := hb.size; simp; omega) (.cells #[.slice (some ⟨w2.heap.size + 1, 0, none⟩) 0 0] 26)
  clear hu hb
  go_loopw [4, 5, 6] (fun q y i wr => ∃ (k : Nat) (Q W : Value) (us ws : List Value) (L : List (Vx Img Sw)), Q = q ∧ W = y ∧ i = .int .i64 k ∧ k ≤ L.length ∧ Hid (InvB nbI t L k 0) ∧ VisS wr w.heap.size Q W us ws L R C ∧ Below w.heap.size w wr) (fun _ _ i _ => 65537 - (intOf i).toNat)
  case atStart => exact ⟨0, _, _, _, _, _, rfl, rfl, rfl, Nat.zero_le _, Lib.hid (InvB.begin nbI t), hS0, hb3⟩
  case round =>
    clear hS0 hb3
    obtain ⟨k, Q, W, us, ws, L, rfl, rfl, rfl, hk, HI, hS, hbw⟩ := hrel
    rename World => wr
    have hLb := found_bd HI.out.nodup hS.good h4 h5
    obtain ⟨AQ, cQ, rfl, n3, n4⟩ := hS.hQ.form'
    have hul := hS.lQ
    rw [hul] at n3 hS ⊢
    have HUL := Lib.hid hul; clear hul
    by_cases hlt : k < L.length
    rotate_left
    · obtain rfl : k = L.length := by omega
      go_wp2_with fail
      go_ret2
      exact ⟨_, _, us, ws, L, rfl, HI.out, hS, hLb, hbw⟩
    obtain ⟨v, hv⟩ := get_of_lt L k hlt
    obtain ⟨uk, huk⟩ := get_of_lt us k (by rw [HUL.out]; exact hlt)
    have hrd := hS.el k uk v huk hv
    have hgv := hS.good k v hv
    obtain ⟨qb, rfl, _, _, _, hcq, _⟩ := hS.hQ.at_ huk
    have HV := Lib.hid hv; clear hv
    have HUK := Lib.hid huk; clear huk
    have HGV := Lib.hid hgv; clear hgv
    have i1 : (k : Int) < (L.length : Int) := by omega
    go_wp2_with (go_at_call 28; refine (spec_SwitchesOf _ _ _ _ _ hrd.rd).mono ?_; rintro e w3 ⟨vs, rfl, hsw, hb3⟩; obtain ⟨As, cs, rfl, _, _⟩ := hsw.form')
    have hS3 := hS.new hb3
    have hs3 := hb3.size
    have hbs := hbw.size
    have hsP : RdPS (XV (.slice (some ⟨qb, 0, none⟩) L.length cQ) W) w3 (.slice As (swsR v.x).length cs) (swsR v.x) :=
      RdPS.of hsw.rd (fun b h1 h2 h3 => ⟨fun e => by have := (hS.hQ.blk e).2.2; omega, fun e => by have := (hS.hW.blk e).2.2; omega⟩)
    have hbw3 := hbw.trans (hb3.mono hbs)
    clear hsw hrd hS hcq
    go_wp2_with fail
    go_loopw [4, 5, 27] (fun q y i wq => ∃ (j : Nat) (Q W : Value) (us ws : List Value) (L : List (Vx Img Sw)), Q = q ∧ W = y ∧ i = .int .i64 j ∧ j ≤ (swsR v.x).length ∧ Hid (InvB nbI t L k j) ∧ Hid (L[k]? = some v) ∧ VisS wq w.heap.size Q W us ws L R C ∧ RdPS (XV Q W) wq (.slice As (swsR v.x).length cs) (swsR v.x) ∧ Below w.heap.size w wq) (fun _ _ i _ => (swsR v.x).length - (intOf i).toNat)
    case atStart => exact ⟨0, _, _, us, ws, L, rfl, rfl, rfl, Nat.zero_le _, HI, HV, hS3, hsP, hbw3⟩
    case round =>
      clear hS3 hsP hbw3
      obtain ⟨j, Q, W, vs, zs, M, rfl, rfl, rfl, hj', HJ, HVM, hS, hsP, hbq⟩ := hrel
      rename World => wq
      by_cases hlj : j < (swsR v.x).length
      rotate_left
      · have HN := Lib.hid (HJ.out.next HVM.out (by rw [nb_len]; omega))
        have hkM := get_lt HVM.out
        go_wp2_with fail
        go_roundw
        case rel => first
          | exact ⟨k + 1, Q, W, vs, zs, M, rfl, rfl, by go_num, by omega, HN, hS, hbq⟩
          | ((repeat apply Exists.intro); exact ⟨⟨k + 1, Q, W, vs, zs, M, rfl, rfl, by go_num, by omega, HN, hS, hbq⟩, rfl⟩)
        case measure => simp [intOf]; omega
      obtain ⟨⟨s1, s2, s3, s4⟩, hx⟩ := get_of_lt (swsR v.x) j hlj
      obtain ⟨b1, o1, rfl, _, _, _, c0, c1, c2, c3⟩ := hsP.rd.at_ hx
      dsimp only at c0 c1 c2 c3
      have hok := sws_ok HGV.out hx
      dsimp only at hok
      have hnb := nb_get hx
      dsimp only at hnb
      have hgn := (nb_good HGV.out (List.mem_of_getElem? hnb)).1
      dsimp only at hgn
      obtain ⟨N, hN⟩ : ∃ N, N = swR v.x s1 s2 s3 s4 := ⟨_, rfl⟩
      rw [← hN] at hgn hnb
      have happ := fun (u : Value) (w : World) (a b : Nat) (hr : RdG w a b u v.x) => spec_l06Apply v.x s1 s2 s3 s4 u w a b hr hok
      rw [← hN] at happ
      have HAPP := Lib.hid happ; clear happ hN
      have HX := Lib.hid hx; clear hx
      have HNB := Lib.hid hnb; clear hnb
      have HGN := Lib.hid hgn; clear hgn
      have hkM := get_lt HVM.out
      obtain ⟨uq, huq⟩ := get_of_lt vs k (by rw [hS.lQ]; exact hkM)
      obtain ⟨yq, hyq⟩ := get_of_lt zs k (by rw [hS.lW]; exact hkM)
      have hrdq := hS.el k uq v huq HVM.out
      have hwyq := hS.wl k yq v hyq HVM.out
      have hLbM := found_bd HJ.out.nodup hS.good h4 h5
      obtain ⟨AQ, cQ2, rfl, n5, n6⟩ := hS.hQ.form'
      obtain ⟨AW, cW2, rfl, n7, n8⟩ := hS.hW.form'
      obtain ⟨qc, rfl, _, _, _, hcq, _⟩ := hS.hQ.at_ huq
      obtain ⟨yc, rfl, _, _, _, hcy, _⟩ := hS.hW.at_ hyq
      have hul := hS.lQ
      have hyl := hS.lW
      rw [hul] at n5 hS hrdq hsP hwyq ⊢
      rw [hyl] at n7 hS hrdq hsP hwyq ⊢
      have HUL2 := Lib.hid hul; clear hul
      have HYL2 := Lib.hid hyl; clear hyl
      have HUQ := Lib.hid huq; clear huq
      have HYQ := Lib.hid hyq; clear hyq
      have ba : Below wq.heap.size wq (wq.alloc (.cells #[.int .i64 s1, .int .i64 s2, .int .i64 s3, .int .i64 s4] 32)) := (Below.refl _ _).alloc (Nat.le_refl _) _
      have hrda := (hrdq.move (keep_new ba)).rd
      have hcqa := cell_keep hcq ba
      have i2 : (k : Int) < (M.length : Int) := by omega
      have i3 : (j : Int) < ((swsR v.x).length : Int) := by omega
      go_upto_block 3 with fail
      go_cut [4, 5] from 28 to 57 (fun s4' s5' wd => ∃ us' ws' M', Hid (InvB nbI t M' k (j + 1)) ∧ Hid (M'[k]? = some v) ∧ VisS wd w.heap.size s4' s5' us' ws' M' R C ∧ RdPS (XV s4' s5') wd (.slice (some ⟨b1, o1, none⟩) (swsR v.x).length cs) (swsR v.x) ∧ Below w.heap.size w wd)
      case rest =>
        obtain ⟨us', ws', M', HI9, HV9, hS9, hsP9, hb9⟩ := hcut
        go_wp2_with fail
        go_roundw
        case rel => first
          | exact ⟨j + 1, _, _, _, _, _, rfl, rfl, by go_num, by omega, HI9, HV9, hS9, hsP9, hb9⟩
          | ((repeat apply Exists.intro); exact ⟨⟨j + 1, _, _, _, _, _, rfl, rfl, by go_num, by omega, HI9, HV9, hS9, hsP9, hb9⟩, rfl⟩)
        case measure => simp [intOf]; omega
      go_upto_region 9 with fail
      have hcqd : (World.drew (wq.alloc (.cells #[.int .i64 s1, .int .i64 s2, .int .i64 s3, .int .i64 s4] 32))).cell? ⟨qc, k, none⟩ = some uq := hcqa
      have hrdd : RdG (World.drew (wq.alloc (.cells #[.int .i64 s1, .int .i64 s2, .int .i64 s3, .int .i64 s4] 32))) 0 _ uq v.x := hrda
      go_cut [9] from 28 to 57 (fun s9 wc => ∃ A4 c4, s9 = .slice A4 N.length c4 ∧ OwG wc (wq.heap.size + 1) wc.heap.size 50 3 s9 N ∧ Below wq.heap.size wq wc ∧ (wc.cell? ⟨wq.heap.size, 0, none⟩ = some (.int .i64 s1) ∧ wc.cell? ⟨wq.heap.size, 1, none⟩ = some (.int .i64 s2) ∧ wc.cell? ⟨wq.heap.size, 2, none⟩ = some (.int .i64 s3) ∧ wc.cell? ⟨wq.heap.size, 3, none⟩ = some (.int .i64 s4)))
      case first =>
        go_region_law (first
          | (refine step_callN rfl 29 _ _ rfl #[uq, .agg #[.int .i64 s1, .int .i64 s2, .int .i64 s3, .int .i64 s4]] (by kernel_rfl) (HAPP.out uq _ _ _ hrdd) (fun e w' h => by obtain ⟨v, h, _⟩ := h; exact ⟨_, h⟩) ?_; rintro r4 w4 ⟨u4, hvv, ho4, hb4⟩; injection hvv with hvv; subst hvv; obtain ⟨A4, c4, rfl, _, _⟩ := ho4.form'))
        all_goals (go_wp2_with fail)
        all_goals go_meet
        all_goals (case rel => exact ⟨A4, c4, rfl, ho4.mono (by simp) (Nat.le_refl _), (ba.drew).trans (hb4.mono (by simp)), box4 wq w4 s1 s2 s3 s4 _ ⟨hb4.os, hb4.tape, hb4.output, hb4.size, hb4.block⟩⟩)
      case rest =>
        obtain ⟨A4, c4, rfl, ho4, hb4, x0, x1, x2, x3⟩ := hcut
        have hSc := hS.new hb4
        have hs4 := hb4.size
        have hsPc := hsP.move (keep_new hb4) hs4
        have hbc := hbq.trans (hb4.mono hbq.size)
        have h4P : RdPG (XV (.slice (some ⟨qc, 0, none⟩) M.length cQ2) (.slice (some ⟨yc, 0, none⟩) M.length cW2)) wc (.slice A4 N.length c4) N :=
          RdPG.of ho4.rd (fun b h1 h2 h3 => ⟨fun e => by have := (hS.hQ.blk e).2.2; omega, fun e => by have := (hS.hW.blk e).2.2; omega⟩)
        have hqlt : qc < wq.heap.size := (hS.hQ.blk (k := qc) rfl).2.2
        have hylt : yc < wq.heap.size := (hS.hW.blk (k := yc) rfl).2.2
        have hsz4 : wq.heap.size + 1 ≤ wc.heap.size := by have := World.block_lt_of_cell? wc _ x0; simp at this; omega
        clear hcqd hrdd hrda hcqa ba hcq hcy hrdq ho4 hS hsP hb4 hwyq
        have h4r := h4P.rd
        have hlist := hSc.list
        by_cases hmem : ∃ (k' : Nat) (v' : Vx Img Sw), M[k']? = some v' ∧ v'.x = N
        · obtain ⟨k', v', hk', hv'⟩ := hmem
          have hfind := find_yes (M.map Vx.x) vs N k' _ _ wc _ _ hlist h4r (by rw [List.getElem?_map, hk']; simp [hv']) (fun q g hq hg e => by
            rw [List.getElem?_map] at hg
            cases hqv : M[q]? with
            | none => rw [hqv] at hg; simp at hg
            | some v2 =>
              rw [hqv] at hg; simp at hg
              have := HJ.out.nodup q k' v2 v' hqv hk' (by rw [hg, e, hv'])
              omega)
          have HFI := Lib.hid hfind; clear hfind hlist
          have HSE := Lib.hid (HJ.out.seen HVM.out HNB.out ⟨k', v', hk', hv'⟩)
          have hk0 : ¬ ((k' : Int) < 0) := by omega
          clear hk' hv'
          go_wp2_with (go_at_call 46; refine HFI.out.mono ?_; rintro e w' ⟨rfl, rfl⟩)
          go_meet
          case rel => exact ⟨vs, zs, M, HSE, HVM, hSc, hsPc, hbc⟩
        have hfind := find_no (M.map Vx.x) vs N _ _ wc _ _ hlist h4r (fun q g hg e => by
          rw [List.getElem?_map] at hg
          cases hqv : M[q]? with
          | none => rw [hqv] at hg; simp at hg
          | some v2 => rw [hqv] at hg; simp at hg; exact hmem ⟨q, v2, hqv, hg.trans e⟩)
        have HFI := Lib.hid hfind; clear hfind hlist
        have HAD := Lib.hid (HJ.out.add HVM.out HNB.out (fun k' v' hk' e => hmem ⟨k', v', hk', e⟩))
        clear hmem
        have hQo := (hSc.hQ.alloc (.cells #[.slice A4 N.length c4] 23)).1
        rw [HUL2.out] at hQo
        have hwlo := hbc.size
        go_upto_region 12 with (first
          | (go_at_call 46; refine HFI.out.mono ?_; rintro e w' ⟨rfl, rfl⟩)
          | (at_builtin; refine wpList_append_rd rfl _ _ 53 rfl w.heap.size 23 j0 (.slice none 0 0) 24 Try.underlying53 hj jz0 jz1 jz2 rfl (.slice (some ⟨qc, 0, none⟩) M.length cQ2) M.length vs rfl hQo (some ⟨wc.heap.size, 0, none⟩) 1 1 [.slice A4 N.length c4] rfl (Ow.of_top (own_oneN wc 0 23 (.slice A4 N.length c4) (Nat.zero_le _))).rd (by simp [Value.oneCell']) (by unfold maxLen; omega) (by omega) (by simp; omega) ?_; intro v6 w6 hown6 hg6 hnew6))
        have sal : (wc.alloc (.cells #[.slice A4 N.length c4] 23)).heap.size = wc.heap.size + 1 := by simp
        have s6 := hg6.size
        have bal : Below wc.heap.size wc (wc.alloc (.cells #[.slice A4 N.length c4] 23)) := (Below.refl _ _).alloc (Nat.le_refl _) _
        have hk6 : KeepP (XV (.slice (some ⟨qc, 0, none⟩) M.length cQ2) (.slice (some ⟨yc, 0, none⟩) M.length cW2)) (XV v6 (.slice (some ⟨yc, 0, none⟩) M.length cW2)) wc w6 := fun b hb hx => by
          refine ⟨(hg6.block b (by omega) (fun e => hx.1 e.symm)).trans (bal.block b hb), ?_, hx.2⟩
          rcases hnew6 with e | e
          · rw [e]; exact hx.1
          · rw [e]; intro hh; injection hh with hh; omega
        have hQ6 : Ow w6 w.heap.size w6.heap.size 23 v6 (vs ++ [.slice A4 N.length c4]) := Ow.of_top hown6
        have hW6 : Ow w6 w.heap.size w6.heap.size 26 (.slice (some ⟨yc, 0, none⟩) M.length cW2) zs :=
          ((hSc.hW.alloc (.cells #[.slice A4 N.length c4] 23)).grown hg6 (fun q hq e => by
            have hne := hSc.hW.ne_ hSc.hQ (fun e => QWne e.symm) hq
            exact hne e)).mono (Nat.le_refl _) (by omega)
        have b6 : Below w.heap.size wc w6 := ((Below.refl _ _).alloc (by omega) (.cells #[.slice A4 N.length c4] 23)).grown hg6 (by omega) (fun q hq => (hSc.hQ.blk hq).1)
        have hwy6 := (hSc.wl k yq v HYQ.out HVM.out).move hk6 (by omega)
        obtain ⟨_, ey, _, _, _, hcy6, _⟩ := hW6.at_ HYQ.out
        injection ey with ey; injection ey with ey
        rw [← ey] at hcy6
        clear ey
        have hbox : w6.heap[wq.heap.size]? = wc.heap[wq.heap.size]? := (hk6 wq.heap.size (by omega) ⟨by simp [Value.ownBlock]; omega, by simp [Value.ownBlock]; omega⟩).1
        replace x0 := (World.cell?_of_block (w := wc) (w' := w6) (a := ⟨wq.heap.size, 0, none⟩) hbox).trans x0
        replace x1 := (World.cell?_of_block (w := wc) (w' := w6) (a := ⟨wq.heap.size, 1, none⟩) hbox).trans x1
        replace x2 := (World.cell?_of_block (w := wc) (w' := w6) (a := ⟨wq.heap.size, 2, none⟩) hbox).trans x2
        replace x3 := (World.cell?_of_block (w := wc) (w' := w6) (a := ⟨wq.heap.size, 3, none⟩) hbox).trans x3
        have h4P6 := h4P.move hk6
        have hsP6 := hsPc.move hk6 (by omega)
        have hvl := dist_tail HJ.out (k + 1) k v (Nat.lt_succ_self _) HVM.out
        have hlo6 : w.heap.size ≤ w6.heap.size := by omega
        have hq6 : wq.heap.size < w6.heap.size := by omega
        have hs6c : wc.heap.size ≤ w6.heap.size := by omega
        clear hown6 hg6 hnew6 hQo bal sal hbox
        obtain ⟨Ay, cy, rfl, _, _, _⟩ := id hwy6
        have hwr : RdS w6.drew 0 w6.drew.heap.size (.slice Ay v.w.length cy) v.w := hwy6.rd
        have hcy6d : w6.drew.cell? ⟨yc, k, none⟩ = some (.slice Ay v.w.length cy) := hcy6
        have hcy6e := cell_keep hcy6d ((Below.refl _ _).alloc (Nat.le_refl w6.drew.heap.size) (.cells #[] 32))
        have hcy6l := cell_keep hcy6d ((Below.refl _ _).alloc (Nat.le_refl w6.drew.heap.size) (.cells #[.int .i64 s1, .int .i64 s2, .int .i64 s3, .int .i64 s4] 32))
        have hcy6el := cell_keep hcy6e ((Below.refl _ _).alloc (Nat.le_refl _) (.cells #[.int .i64 s1, .int .i64 s2, .int .i64 s3, .int .i64 s4] 32))
        have hcy6le := cell_keep hcy6l ((Below.refl _ _).alloc (Nat.le_refl _) (.cells #[] 32))
        have x0d : w6.drew.cell? ⟨wq.heap.size, 0, none⟩ = some (.int .i64 s1) := x0
        have x0e := cell_keep x0d ((Below.refl _ _).alloc (Nat.le_refl w6.drew.heap.size) (.cells #[] 32))
        have x0l := cell_keep x0d ((Below.refl _ _).alloc (Nat.le_refl w6.drew.heap.size) (.cells #[.int .i64 s1, .int .i64 s2, .int .i64 s3, .int .i64 s4] 32))
        have x0el := cell_keep x0e ((Below.refl _ _).alloc (Nat.le_refl _) (.cells #[.int .i64 s1, .int .i64 s2, .int .i64 s3, .int .i64 s4] 32))
        have x0le := cell_keep x0l ((Below.refl _ _).alloc (Nat.le_refl _) (.cells #[] 32))
        have x1d : w6.drew.cell? ⟨wq.heap.size, 1, none⟩ = some (.int .i64 s2) := x1
        have x1e := cell_keep x1d ((Below.refl _ _).alloc (Nat.le_refl w6.drew.heap.size) (.cells #[] 32))
        have x1l := cell_keep x1d ((Below.refl _ _).alloc (Nat.le_refl w6.drew.heap.size) (.cells #[.int .i64 s1, .int .i64 s2, .int .i64 s3, .int .i64 s4] 32))
        have x1el := cell_keep x1e ((Below.refl _ _).alloc (Nat.le_refl _) (.cells #[.int .i64 s1, .int .i64 s2, .int .i64 s3, .int .i64 s4] 32))
        have x1le := cell_keep x1l ((Below.refl _ _).alloc (Nat.le_refl _) (.cells #[] 32))
        have x2d : w6.drew.cell? ⟨wq.heap.size, 2, none⟩ = some (.int .i64 s3) := x2
        have x2e := cell_keep x2d ((Below.refl _ _).alloc (Nat.le_refl w6.drew.heap.size) (.cells #[] 32))
        have x2l := cell_keep x2d ((Below.refl _ _).alloc (Nat.le_refl w6.drew.heap.size) (.cells #[.int .i64 s1, .int .i64 s2, .int .i64 s3, .int .i64 s4] 32))
        have x2el := cell_keep x2e ((Below.refl _ _).alloc (Nat.le_refl _) (.cells #[.int .i64 s1, .int .i64 s2, .int .i64 s3, .int .i64 s4] 32))
        have x2le := cell_keep x2l ((Below.refl _ _).alloc (Nat.le_refl _) (.cells #[] 32))
        have x3d : w6.drew.cell? ⟨wq.heap.size, 3, none⟩ = some (.int .i64 s4) := x3
        have x3e := cell_keep x3d ((Below.refl _ _).alloc (Nat.le_refl w6.drew.heap.size) (.cells #[] 32))
        have x3l := cell_keep x3d ((Below.refl _ _).alloc (Nat.le_refl w6.drew.heap.size) (.cells #[.int .i64 s1, .int .i64 s2, .int .i64 s3, .int .i64 s4] 32))
        have x3el := cell_keep x3e ((Below.refl _ _).alloc (Nat.le_refl _) (.cells #[.int .i64 s1, .int .i64 s2, .int .i64 s3, .int .i64 s4] 32))
        have x3le := cell_keep x3l ((Below.refl _ _).alloc (Nat.le_refl _) (.cells #[] 32))
        replace hcy6e : ((w6.alloc (.cells #[] 32)).drew).cell? ⟨yc, k, none⟩ = some (.slice Ay v.w.length cy) := hcy6e
        replace hcy6l : ((w6.alloc (.cells #[.int .i64 s1, .int .i64 s2, .int .i64 s3, .int .i64 s4] 32)).drew).cell? ⟨yc, k, none⟩ = some (.slice Ay v.w.length cy) := hcy6l
        replace hcy6el : (((w6.alloc (.cells #[] 32)).alloc (.cells #[.int .i64 s1, .int .i64 s2, .int .i64 s3, .int .i64 s4] 32)).drew).cell? ⟨yc, k, none⟩ = some (.slice Ay v.w.length cy) := hcy6el
        replace hcy6le : (((w6.alloc (.cells #[.int .i64 s1, .int .i64 s2, .int .i64 s3, .int .i64 s4] 32)).alloc (.cells #[] 32)).drew).cell? ⟨yc, k, none⟩ = some (.slice Ay v.w.length cy) := hcy6le
        replace x0e : ((w6.alloc (.cells #[] 32)).drew).cell? ⟨wq.heap.size, 0, none⟩ = some (.int .i64 s1) := x0e
        replace x0l : ((w6.alloc (.cells #[.int .i64 s1, .int .i64 s2, .int .i64 s3, .int .i64 s4] 32)).drew).cell? ⟨wq.heap.size, 0, none⟩ = some (.int .i64 s1) := x0l
        replace x0el : (((w6.alloc (.cells #[] 32)).alloc (.cells #[.int .i64 s1, .int .i64 s2, .int .i64 s3, .int .i64 s4] 32)).drew).cell? ⟨wq.heap.size, 0, none⟩ = some (.int .i64 s1) := x0el
        replace x0le : (((w6.alloc (.cells #[.int .i64 s1, .int .i64 s2, .int .i64 s3, .int .i64 s4] 32)).alloc (.cells #[] 32)).drew).cell? ⟨wq.heap.size, 0, none⟩ = some (.int .i64 s1) := x0le
        replace x1e : ((w6.alloc (.cells #[] 32)).drew).cell? ⟨wq.heap.size, 1, none⟩ = some (.int .i64 s2) := x1e
        replace x1l : ((w6.alloc (.cells #[.int .i64 s1, .int .i64 s2, .int .i64 s3, .int .i64 s4] 32)).drew).cell? ⟨wq.heap.size, 1, none⟩ = some (.int .i64 s2) := x1l
        replace x1el : (((w6.alloc (.cells #[] 32)).alloc (.cells #[.int .i64 s1, .int .i64 s2, .int .i64 s3, .int .i64 s4] 32)).drew).cell? ⟨wq.heap.size, 1, none⟩ = some (.int .i64 s2) := x1el
        replace x1le : (((w6.alloc (.cells #[.int .i64 s1, .int .i64 s2, .int .i64 s3, .int .i64 s4] 32)).alloc (.cells #[] 32)).drew).cell? ⟨wq.heap.size, 1, none⟩ = some (.int .i64 s2) := x1le
        replace x2e : ((w6.alloc (.cells #[] 32)).drew).cell? ⟨wq.heap.size, 2, none⟩ = some (.int .i64 s3) := x2e
        replace x2l : ((w6.alloc (.cells #[.int .i64 s1, .int .i64 s2, .int .i64 s3, .int .i64 s4] 32)).drew).cell? ⟨wq.heap.size, 2, none⟩ = some (.int .i64 s3) := x2l
        replace x2el : (((w6.alloc (.cells #[] 32)).alloc (.cells #[.int .i64 s1, .int .i64 s2, .int .i64 s3, .int .i64 s4] 32)).drew).cell? ⟨wq.heap.size, 2, none⟩ = some (.int .i64 s3) := x2el
        replace x2le : (((w6.alloc (.cells #[.int .i64 s1, .int .i64 s2, .int .i64 s3, .int .i64 s4] 32)).alloc (.cells #[] 32)).drew).cell? ⟨wq.heap.size, 2, none⟩ = some (.int .i64 s3) := x2le
        replace x3e : ((w6.alloc (.cells #[] 32)).drew).cell? ⟨wq.heap.size, 3, none⟩ = some (.int .i64 s4) := x3e
        replace x3l : ((w6.alloc (.cells #[.int .i64 s1, .int .i64 s2, .int .i64 s3, .int .i64 s4] 32)).drew).cell? ⟨wq.heap.size, 3, none⟩ = some (.int .i64 s4) := x3l
        replace x3el : (((w6.alloc (.cells #[] 32)).alloc (.cells #[.int .i64 s1, .int .i64 s2, .int .i64 s3, .int .i64 s4] 32)).drew).cell? ⟨wq.heap.size, 3, none⟩ = some (.int .i64 s4) := x3el
        replace x3le : (((w6.alloc (.cells #[.int .i64 s1, .int .i64 s2, .int .i64 s3, .int .i64 s4] 32)).alloc (.cells #[] 32)).drew).cell? ⟨wq.heap.size, 3, none⟩ = some (.int .i64 s4) := x3le
        have n1e : (w6.drew.alloc (.cells #[] 32)).heap.size = w6.heap.size + 1 := by simp
        have n1l : (w6.drew.alloc (.cells #[.int .i64 s1, .int .i64 s2, .int .i64 s3, .int .i64 s4] 32)).heap.size = w6.heap.size + 1 := by simp
        have n0 : w6.drew.heap.size = w6.heap.size := rfl
        have be : Below w6.heap.size w6.drew (w6.drew.alloc (.cells #[] 32)) := (Below.refl w6.heap.size w6.drew).alloc (Nat.le_refl _) _
        have bl : Below w6.heap.size w6.drew (w6.drew.alloc (.cells #[.int .i64 s1, .int .i64 s2, .int .i64 s3, .int .i64 s4] 32)) := (Below.refl w6.heap.size w6.drew).alloc (Nat.le_refl _) _
        have bel : Below w6.heap.size w6.drew ((w6.drew.alloc (.cells #[] 32)).alloc (.cells #[.int .i64 s1, .int .i64 s2, .int .i64 s3, .int .i64 s4] 32)) := be.alloc (by omega) _
        have ble : Below w6.heap.size w6.drew ((w6.drew.alloc (.cells #[.int .i64 s1, .int .i64 s2, .int .i64 s3, .int .i64 s4] 32)).alloc (.cells #[] 32)) := bl.alloc (by omega) _
        have oe : (w6.drew.alloc (.cells #[] 32)).ownsRow w6.heap.size 32 4 (.slice (some ⟨w6.heap.size, 0, none⟩) 0 0) 0 [] := own_emptyS w6.drew w6.heap.size _ (Nat.le_refl _)
        have oel : ((w6.drew.alloc (.cells #[] 32)).alloc (.cells #[.int .i64 s1, .int .i64 s2, .int .i64 s3, .int .i64 s4] 32)).ownsRow w6.heap.size 32 4 (.slice (some ⟨w6.heap.size, 0, none⟩) 0 0) 0 [] := ((OwS.of_top (l := []) oe rfl).alloc (.cells #[.int .i64 s1, .int .i64 s2, .int .i64 s3, .int .i64 s4] 32)).1
        have ole : ((w6.drew.alloc (.cells #[.int .i64 s1, .int .i64 s2, .int .i64 s3, .int .i64 s4] 32)).alloc (.cells #[] 32)).ownsRow w6.heap.size 32 4 (.slice (some ⟨w6.heap.size + 1, 0, none⟩) 0 0) 0 [] := by
          have := own_emptyS (w6.drew.alloc (.cells #[.int .i64 s1, .int .i64 s2, .int .i64 s3, .int .i64 s4] 32)) w6.heap.size 32 (by omega)
          rw [n1l] at this; exact this
        have hwe := hwr.new be
        have hwel := hwr.new bel
        have hwle := hwr.new ble
        have lel : RdS ((w6.drew.alloc (.cells #[] 32)).alloc (.cells #[.int .i64 s1, .int .i64 s2, .int .i64 s3, .int .i64 s4] 32)) (w6.heap.size + 1) (w6.heap.size + 2) (.slice (some ⟨w6.heap.size + 1, 0, none⟩) 1 1) [(s1, s2, s3, s4)] := by
          have := lit_rdS (w6.drew.alloc (.cells #[] 32)) (s1, s2, s3, s4) 32
          rw [n1e] at this; exact this
        have lle : RdS ((w6.drew.alloc (.cells #[.int .i64 s1, .int .i64 s2, .int .i64 s3, .int .i64 s4] 32)).alloc (.cells #[] 32)) w6.heap.size (w6.heap.size + 1) (.slice (some ⟨w6.heap.size, 0, none⟩) 1 1) [(s1, s2, s3, s4)] := (lit_rdS w6.drew (s1, s2, s3, s4) 32).new ((Below.refl _ _).alloc (Nat.le_refl _) _)
        have hvl2 : v.w.length ≤ 65536 := by omega
        go_region_law (first
          | (refine step_append_sw rfl (.tmp 46) (.tmp 50) 26 rfl w6.heap.size 32 s0 (.agg #[.int .i64 0, .int .i64 0, .int .i64 0, .int .i64 0]) 32 Try.underlying26 hs0 sz0 sz1 sz2 rfl (.slice (some ⟨w6.heap.size, 0, none⟩) 0 0) 0 [] rfl oe Ay v.w.length cy v.w rfl hwe (by unfold maxLen; omega) (by omega) (by first | (simp; done) | (simp; omega)) ?_; intro v7 w7 hown7 hg7 hnew7; have hO7 : OwS w7 w6.heap.size w7.heap.size 32 v7 v.w := OwS.of_top hown7 (List.nil_append _); have hb7 : Below w6.heap.size w6.drew w7 := be.grown hg7 (by first | (simp; done) | (simp; omega)) (fun q hq => by simp [Value.ownBlock] at hq; omega); have z7 : w6.heap.size ≤ w7.heap.size := hb7.size; have x07 := (World.cell?_of_block (w := w6.drew) (w' := w7) (a := ⟨wq.heap.size, 0, none⟩) (hb7.block _ hq6)).trans x0d; have x17 := (World.cell?_of_block (w := w6.drew) (w' := w7) (a := ⟨wq.heap.size, 1, none⟩) (hb7.block _ hq6)).trans x1d; have x27 := (World.cell?_of_block (w := w6.drew) (w' := w7) (a := ⟨wq.heap.size, 2, none⟩) (hb7.block _ hq6)).trans x2d; have x37 := (World.cell?_of_block (w := w6.drew) (w' := w7) (a := ⟨wq.heap.size, 3, none⟩) (hb7.block _ hq6)).trans x3d; obtain ⟨A7, c7, rfl, _, _⟩ := hO7.form')
          | (refine step_append_sw rfl (.tmp 46) (.tmp 50) 26 rfl w6.heap.size 32 s0 (.agg #[.int .i64 0, .int .i64 0, .int .i64 0, .int .i64 0]) 32 Try.underlying26 hs0 sz0 sz1 sz2 rfl (.slice (some ⟨w6.heap.size, 0, none⟩) 0 0) 0 [] rfl oel Ay v.w.length cy v.w rfl hwel (by unfold maxLen; omega) (by omega) (by first | (simp; done) | (simp; omega)) ?_; intro v7 w7 hown7 hg7 hnew7; have hO7 : OwS w7 w6.heap.size w7.heap.size 32 v7 v.w := OwS.of_top hown7 (List.nil_append _); have hb7 : Below w6.heap.size w6.drew w7 := bel.grown hg7 (by first | (simp; done) | (simp; omega)) (fun q hq => by simp [Value.ownBlock] at hq; omega); have z7 : w6.heap.size ≤ w7.heap.size := hb7.size; have hl7 : RdS w7 (w6.heap.size + 1) (w6.heap.size + 2) (.slice (some ⟨w6.heap.size + 1, 0, none⟩) 1 1) [(s1, s2, s3, s4)] := lel.chg ((Chg.refl w6.heap.size (w6.heap.size + 1) _).grown hg7 (fun q hq => by simp [Value.ownBlock] at hq; omega)) (.inr (.inl (Nat.le_refl _))); obtain ⟨A7, c7, rfl, _, _⟩ := hO7.form')
          | (refine step_append_sw rfl (.tmp 46) (.tmp 50) 26 rfl w6.heap.size 32 s0 (.agg #[.int .i64 0, .int .i64 0, .int .i64 0, .int .i64 0]) 32 Try.underlying26 hs0 sz0 sz1 sz2 rfl (.slice (some ⟨w6.heap.size + 1, 0, none⟩) 0 0) 0 [] rfl ole Ay v.w.length cy v.w rfl hwle (by unfold maxLen; omega) (by omega) (by first | (simp; done) | (simp; omega)) ?_; intro v7 w7 hown7 hg7 hnew7; have hO7 : OwS w7 w6.heap.size w7.heap.size 32 v7 v.w := OwS.of_top hown7 (List.nil_append _); have hb7 : Below w6.heap.size w6.drew w7 := ble.grown hg7 (by first | (simp; done) | (simp; omega)) (fun q hq => by simp [Value.ownBlock] at hq; omega); have z7 : w6.heap.size ≤ w7.heap.size := hb7.size; have hl7 : RdS w7 w6.heap.size (w6.heap.size + 1) (.slice (some ⟨w6.heap.size, 0, none⟩) 1 1) [(s1, s2, s3, s4)] := lle.chg ((Chg.refl (w6.heap.size + 1) (w6.heap.size + 2) _).grown hg7 (fun q hq => by simp [Value.ownBlock] at hq; omega)) (.inl (Nat.le_refl _)); obtain ⟨A7, c7, rfl, _, _⟩ := hO7.form')
          | (refine step_append_sw rfl (.tmp 51) (.tmp 53) 26 rfl w6.heap.size 32 s0 (.agg #[.int .i64 0, .int .i64 0, .int .i64 0, .int .i64 0]) 32 Try.underlying26 hs0 sz0 sz1 sz2 rfl (.slice A7 v.w.length c7) v.w.length (swFlat v.w) rfl (hO7.alloc (.cells #[.int .i64 s1, .int .i64 s2, .int .i64 s3, .int .i64 s4] 32)).1 (some ⟨w7.heap.size, 0, none⟩) 1 1 [(s1, s2, s3, s4)] rfl (lit_rdS w7 (s1, s2, s3, s4) 32) (by unfold maxLen; omega) (by omega) (by first | omega | (simp; omega)) ?_; intro v9 w9 hown9 hg9 hnew9; have hO9 : OwS w9 w6.heap.size w9.heap.size 32 v9 (v.w ++ [(s1, s2, s3, s4)]) := OwS.of_top hown9 (swFlat_app _ _).symm; have hb9 : Below w6.heap.size w6.drew w9 := (hb7.alloc z7 (.cells #[.int .i64 s1, .int .i64 s2, .int .i64 s3, .int .i64 s4] 32)).grown hg9 (by first | omega | (simp; omega)) (fun q hq => (hO7.blk hq).1); obtain ⟨A9, c9, rfl, _, _⟩ := hO9.form'; rw [List.length_append, List.length_singleton] at hO9; have hW9 := ((hW6.new (w' := w9) ⟨hb9.os, hb9.tape, hb9.output, hb9.size, hb9.block⟩).alloc (.cells #[.slice A9 (v.w.length + 1) c9] 26)).1; rw [HYL2.out] at hW9)
          | (refine step_append_sw rfl (.tmp 51) (.tmp 53) 26 rfl w6.heap.size 32 s0 (.agg #[.int .i64 0, .int .i64 0, .int .i64 0, .int .i64 0]) 32 Try.underlying26 hs0 sz0 sz1 sz2 rfl (.slice A7 v.w.length c7) v.w.length (swFlat v.w) rfl hO7.1 (some ⟨w6.heap.size + 1, 0, none⟩) 1 1 [(s1, s2, s3, s4)] rfl hl7 (by unfold maxLen; omega) (by omega) (by first | omega | (simp; omega)) ?_; intro v9 w9 hown9 hg9 hnew9; have hO9 : OwS w9 w6.heap.size w9.heap.size 32 v9 (v.w ++ [(s1, s2, s3, s4)]) := OwS.of_top hown9 (swFlat_app _ _).symm; have hb9 : Below w6.heap.size w6.drew w9 := hb7.grown hg9 (by first | omega | (simp; omega)) (fun q hq => (hO7.blk hq).1); obtain ⟨A9, c9, rfl, _, _⟩ := hO9.form'; rw [List.length_append, List.length_singleton] at hO9; have hW9 := ((hW6.new (w' := w9) ⟨hb9.os, hb9.tape, hb9.output, hb9.size, hb9.block⟩).alloc (.cells #[.slice A9 (v.w.length + 1) c9] 26)).1; rw [HYL2.out] at hW9)
          | (refine step_append_sw rfl (.tmp 51) (.tmp 53) 26 rfl w6.heap.size 32 s0 (.agg #[.int .i64 0, .int .i64 0, .int .i64 0, .int .i64 0]) 32 Try.underlying26 hs0 sz0 sz1 sz2 rfl (.slice A7 v.w.length c7) v.w.length (swFlat v.w) rfl hO7.1 (some ⟨w6.heap.size, 0, none⟩) 1 1 [(s1, s2, s3, s4)] rfl hl7 (by unfold maxLen; omega) (by omega) (by first | omega | (simp; omega)) ?_; intro v9 w9 hown9 hg9 hnew9; have hO9 : OwS w9 w6.heap.size w9.heap.size 32 v9 (v.w ++ [(s1, s2, s3, s4)]) := OwS.of_top hown9 (swFlat_app _ _).symm; have hb9 : Below w6.heap.size w6.drew w9 := hb7.grown hg9 (by first | omega | (simp; omega)) (fun q hq => (hO7.blk hq).1); obtain ⟨A9, c9, rfl, _, _⟩ := hO9.form'; rw [List.length_append, List.length_singleton] at hO9; have hW9 := ((hW6.new (w' := w9) ⟨hb9.os, hb9.tape, hb9.output, hb9.size, hb9.block⟩).alloc (.cells #[.slice A9 (v.w.length + 1) c9] 26)).1; rw [HYL2.out] at hW9)
          | (refine step_append_rdN rfl (.tmp 45) (.tmp 55) 61 rfl w.heap.size 26 w0 (.slice none 0 0) 24 Try.underlying61 hw0 wz0 wz1 wz2 rfl (.slice (some ⟨yc, 0, none⟩) M.length cW2) M.length zs rfl hW9 (some ⟨w9.heap.size, 0, none⟩) 1 1 [.slice A9 (v.w.length + 1) c9] rfl (Ow.of_top (own_oneN w9 0 26 (.slice A9 (v.w.length + 1) c9) (Nat.zero_le _))).rd (by simp [Value.oneCell']) (by unfold maxLen; omega) (by omega) (by have z9 : w6.heap.size ≤ w9.heap.size := hb9.size; simp; omega) ?_; intro v11 w11 hown11 hg11 hnew11))
        all_goals (go_wp2_with fail)
        all_goals go_meet
        all_goals (case rel =>
          have hF := VisS.fin (x := ⟨N, v.w ++ [(s1, s2, s3, s4)], k, j⟩) hSc hk6 hs6c hQ6 hW6 h4P6 HGN.out ⟨hb9.os, hb9.tape, hb9.output, hb9.size, hb9.block⟩ hO9 hown11 hg11 hnew11 hsP6 hlo6
          exact ⟨_, _, _, HAD, Lib.hid (get_old HVM.out), hF.1, hF.2.1, hbc.trans (b6.trans hF.2.2)⟩)
end Go.Proofs.Ytpjlgcohafbbdaa
