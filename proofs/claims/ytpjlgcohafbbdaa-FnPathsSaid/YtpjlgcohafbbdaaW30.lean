/- Walks: SwitchesOf, IsUnique. -/
import Derived.Test.YtpjlgcohafbbdaaProg
import Derived.Test.YtpjlgcohafbbdaaW1
import Derived.Test.YtpjlgcohafbbdaaW2
import Derived.Test.YtpjlgcohafbbdaaW3
import Derived.Test.YtpjlgcohafbbdaaW4
import Derived.Test.YtpjlgcohafbbdaaW6
import Derived.Test.YtpjlgcohafbbdaaW8
import Derived.Test.YtpjlgcohafbbdaaW21
import Derived.Test.YtpjlgcohafbbdaaMem
import Derived.Test.YtpjlgcohafbbdaaPoke
import Derived.Test.YtpjlgcohafbbdaaSw
import Derived.WalkKit
import Derived.WalkSpells
import Derived.WalkLawsBesides
import Derived.KernelRfl
import Derived.Lib.Hide
import Derived.Deep.QuietTactic
import Derived.BigQuiet
namespace Go.Proofs.Ytpjlgcohafbbdaa
open Go.RowKit
set_option linter.unusedVariables false
set_option linter.unusedSimpArgs false

/-- The switches with rows a, b and left column c among the first n right columns, behind those of L. -/
def sw4 (g : List (List Int)) (a b c : Nat) (L : List Sw) : Nat → List Sw
  | 0 => L
  | n + 1 => if swOk g a b c ((c + 1 + n : Nat) : Int) = true then sw4 g a b c L n ++ [((a : Int), (b : Int), (c : Int), ((c + 1 + n : Nat) : Int))] else sw4 g a b c L n
def sw3 (g : List (List Int)) (C a b : Nat) (L : List Sw) : Nat → List Sw
  | 0 => L
  | k + 1 => sw4 g a b k (sw3 g C a b L k) (C - (k + 1))
def sw2 (g : List (List Int)) (C a : Nat) (L : List Sw) : Nat → List Sw
  | 0 => L
  | n + 1 => sw3 g C a (a + 1 + n) (sw2 g C a L n) C
def sw1 (g : List (List Int)) (R C : Nat) : Nat → List Sw
  | 0 => []
  | k + 1 => sw2 g C k (sw1 g R C k) (R - (k + 1))
def swsR (g : List (List Int)) : List Sw := if imgOk g = true then sw1 g g.length (hd g).length g.length else []
theorem sws_no {g : List (List Int)} (h : imgOk g = false) : swsR g = [] := by simp [swsR, h]
theorem sws_yes {g : List (List Int)} (h : imgOk g = true) : swsR g = sw1 g g.length (hd g).length g.length := by simp [swsR, h]
theorem sw4_len (g : List (List Int)) (a b c : Nat) (L : List Sw) : ∀ n, (sw4 g a b c L n).length ≤ L.length + n
  | 0 => by simp [sw4]
  | n + 1 => by
    have := sw4_len g a b c L n
    rw [sw4]; split
    · simp; omega
    · omega
theorem sw3_len (g : List (List Int)) (C a b : Nat) (hC : C ≤ 5) (L : List Sw) : ∀ k, (sw3 g C a b L k).length ≤ L.length + 5 * k
  | 0 => by simp [sw3]
  | k + 1 => by
    have := sw3_len g C a b hC L k
    have := sw4_len g a b k (sw3 g C a b L k) (C - (k + 1))
    rw [sw3]; omega
theorem sw2_len (g : List (List Int)) (C a : Nat) (hC : C ≤ 5) (L : List Sw) : ∀ n, (sw2 g C a L n).length ≤ L.length + 25 * n
  | 0 => by simp [sw2]
  | n + 1 => by
    have := sw2_len g C a hC L n
    have := sw3_len g C a (a + 1 + n) hC (sw2 g C a L n) C
    rw [sw2]; omega
theorem sw1_len (g : List (List Int)) (R C : Nat) (hC : C ≤ 5) (hR : R ≤ 5) : ∀ k, (sw1 g R C k).length ≤ 125 * k
  | 0 => by simp [sw1]
  | k + 1 => by
    have := sw1_len g R C hC hR k
    have := sw2_len g C k hC (sw1 g R C k) (R - (k + 1))
    rw [sw1]; omega
theorem cell_sw_new (w : World) (s : Sw) (t : TypeId) : ∀ j u, (swCells s)[j]? = some u → (w.alloc (.cells #[.int .i64 s.1, .int .i64 s.2.1, .int .i64 s.2.2.1, .int .i64 s.2.2.2] t)).cell? ((⟨w.heap.size, 0, none⟩ : Addr).add j) = some u := by
  intro j u hj
  match j, hj with
  | 0, hj => simp [swCells] at hj; subst hj; simp [Addr.add]
  | 1, hj => simp [swCells] at hj; subst hj; simp [Addr.add]
  | 2, hj => simp [swCells] at hj; subst hj; simp [Addr.add]
  | 3, hj => simp [swCells] at hj; subst hj; simp [Addr.add]
  | j + 4, hj => simp [swCells] at hj

theorem sw_info : (Try.prog.info? 32).map (fun i => (i.zero, i.size, i.bytes)) = some (some (.agg #[.int .i64 0, .int .i64 0, .int .i64 0, .int .i64 0]), 4, 32) := by kernel_rfl
/-- The post of a call that makes a new []Switch. -/
def RetS (w : World) (l : List Sw) (e : Ending) (w' : World) : Prop := ∃ v, e = .returned v ∧ OwS w' w.heap.size w'.heap.size 32 v l ∧ Below w.heap.size w w'
theorem RetS_nil {w : World} {l : List Sw} (h : l = []) : RetS w l (.returned (.slice none 0 0)) w := by
  subst h; exact ⟨_, rfl, OwS.nil _ _ _ _, Below.refl _ _⟩
theorem OwS.empty (w : World) (base : Nat) (hb : base ≤ w.heap.size) : OwS (w.alloc (.cells #[] 32)) base (w.alloc (.cells #[] 32)).heap.size 32 (.slice (some ⟨w.heap.size, 0, none⟩) 0 0) [] :=
  ⟨World.ownsRow_lit w #[] 0 hb (Nat.zero_le _) rfl, fun k hk => by simp [Value.ownBlock] at hk; subst hk; simp⟩
theorem box4 (w w' : World) (x y z u : Int) (t : TypeId) (hb : Below (w.alloc (.cells #[.int .i64 x, .int .i64 y, .int .i64 z, .int .i64 u] t)).heap.size (w.alloc (.cells #[.int .i64 x, .int .i64 y, .int .i64 z, .int .i64 u] t)) w') :
    w'.cell? ⟨w.heap.size, 0, none⟩ = some (.int .i64 x) ∧ w'.cell? ⟨w.heap.size, 1, none⟩ = some (.int .i64 y) ∧ w'.cell? ⟨w.heap.size, 2, none⟩ = some (.int .i64 z) ∧ w'.cell? ⟨w.heap.size, 3, none⟩ = some (.int .i64 u) := by
  refine ⟨?_, ?_, ?_, ?_⟩ <;> rw [hb.cell (by simp)] <;> simp

set_option maxRecDepth 100000 in
set_option maxHeartbeats 4000000 in
theorem impl_SwitchesOf (g : List (List Int)) (v : Value) (w : World) (a b : Nat) (hr : RdG w a b v g) :
    Calls Try.prog 31 #[v] w (RetS w (swsR g)) := by
  obtain ⟨A, c, rfl, h1, h2⟩ := hr.form
  replace hr := hr.clip
  by_cases g1 : imgOk g = true
  rotate_left
  · have g1 : imgOk g = false := by simpa using g1
    have GD := Lib.hid (sws_no g1)
    go_enter Try.func31, Try.ntmps31
    go_wp2_with (go_at_call 38; refine (impl_ImageOk _ _ _ _ _ hr).mono ?_; rintro e w' ⟨rfl, rfl⟩)
    go_ret
    exact RetS_nil GD.out
  have GD := Lib.hid (sws_yes g1)
  obtain ⟨l1, l2, l3, l4, l5⟩ := imgOk_in g1
  clear l5
  have G0 := Lib.hid (hd_get (g := g) (by omega))
  obtain ⟨b0, o0, rfl, _, hb0⟩ := hr.some_ (by omega)
  obtain ⟨i0, hi, hz0, hz1, hz2⟩ := info_parts sw_info
  go_enter Try.func31, Try.ntmps31
  go_wp2_with (go_at_call 38; refine (impl_ImageOk _ _ _ _ _ hr).mono ?_; rintro e w' ⟨rfl, rfl⟩)
  go_loopw [3, 14] (fun out i wr => ∃ (n : Nat) (o : Value), n ≤ g.length ∧ i = .int .i64 n ∧ o = out ∧ OwS wr w.heap.size wr.heap.size 32 o (sw1 g g.length (hd g).length n) ∧ RdG wr a w.heap.size (.slice (some ⟨b0, o0, none⟩) g.length c) g ∧ Below w.heap.size w wr) (fun _ i _ => g.length - (intOf i).toNat)
  case atStart => exact ⟨0, _, Nat.zero_le _, rfl, rfl, OwS.nil _ _ _ _, hr, Below.refl _ _⟩
  case round =>
    clear hr
    obtain ⟨k, o1, hk, rfl, rfl, ho, hr, hb⟩ := hrel
    rename World => wk
    by_cases hlt : k < g.length
    rotate_left
    · have Hlt := Lib.hid (show k = g.length by omega)
      go_wp2_with fail
      go_ret
      rw [Hlt.out] at ho
      exact ⟨_, rfl, by rw [GD.out]; exact ho, hb⟩
    go_wp2_with fail
    go_loopw [3, 5] (fun out i wr => ∃ (n E : Nat) (o : Value), E = k + 1 + n ∧ E ≤ g.length ∧ i = .int .i64 E ∧ o = out ∧ OwS wr w.heap.size wr.heap.size 32 o (sw2 g (hd g).length k (sw1 g g.length (hd g).length k) n) ∧ RdG wr a w.heap.size (.slice (some ⟨b0, o0, none⟩) g.length c) g ∧ Below w.heap.size w wr) (fun _ i _ => g.length - (intOf i).toNat)
    case atStart => exact ⟨0, k + 1, _, by omega, by omega, by go_num, rfl, ho, hr, hb⟩
    case round =>
      clear ho hr hb
      obtain ⟨m, B, o2, hB, hm, rfl, rfl, ho, hr, hb⟩ := hrel
      rename World => wm
      have kB : k < B := by omega
      by_cases hlt2 : B < g.length
      rotate_left
      · have Hm := Lib.hid (show g.length - (k + 1) = m by omega)
        clear hB
        go_wp2_with fail
        go_roundw
        case rel => exact ⟨k + 1, _, by omega, by go_num, rfl, by rw [sw1, Hm.out]; exact ho, hr, hb⟩
        case measure => simp [intOf]; omega
      have HB := Lib.hid hB; clear hB
      obtain ⟨A0, c0, hc0, t1, t2, hrow0⟩ := hr.row0 G0.out
      go_wp2_with fail
      go_loopw [3, 29] (fun out i wr => ∃ (n : Nat) (o : Value), n ≤ (hd g).length ∧ i = .int .i64 n ∧ o = out ∧ OwS wr w.heap.size wr.heap.size 32 o (sw3 g (hd g).length k B (sw2 g (hd g).length k (sw1 g g.length (hd g).length k) m) n) ∧ RdG wr a w.heap.size (.slice (some ⟨b0, o0, none⟩) g.length c) g ∧ Below w.heap.size w wr) (fun _ i _ => (hd g).length - (intOf i).toNat)
      case atStart => exact ⟨0, _, by omega, by go_num, rfl, ho, hr, hb⟩
      case round =>
        clear ho hr hb hc0 hrow0
        obtain ⟨j, o3, hj, rfl, rfl, ho, hr, hb⟩ := hrel
        rename World => wj
        by_cases hlt3 : j < (hd g).length
        rotate_left
        · have Hj := Lib.hid (show j = (hd g).length by omega)
          go_wp2_with fail
          go_roundw
          case rel => exact ⟨m + 1, B + 1, _, by rw [HB.out]; omega, by omega, by go_num, rfl, by rw [sw2, ← HB.out]; rw [Hj.out] at ho; exact ho, hr, hb⟩
          case measure => simp [intOf]; omega
        go_wp2_with fail
        go_loopw [3, 7] (fun out i wr => ∃ (n E : Nat) (o : Value), E = j + 1 + n ∧ E ≤ (hd g).length ∧ i = .int .i64 E ∧ o = out ∧ OwS wr w.heap.size wr.heap.size 32 o (sw4 g k B j (sw3 g (hd g).length k B (sw2 g (hd g).length k (sw1 g g.length (hd g).length k) m) j) n) ∧ RdG wr a w.heap.size (.slice (some ⟨b0, o0, none⟩) g.length c) g ∧ Below w.heap.size w wr) (fun _ i _ => (hd g).length - (intOf i).toNat)
        case atStart => exact ⟨0, j + 1, _, by omega, by omega, by go_num, rfl, ho, hr, hb⟩
        case round =>
          clear ho hr hb
          obtain ⟨n, D, o4, hD, hn, rfl, rfl, ho, hr, hb⟩ := hrel
          have jD : j < D := by omega
          obtain ⟨A1, c1, hc1, t3, t4, hrow1⟩ := hr.row0 G0.out
          by_cases hlt4 : D < (hd g).length
          rotate_left
          · have Hn := Lib.hid (show (hd g).length - (j + 1) = n by omega)
            clear hD
            go_wp2_with fail
            go_roundw
            case rel => exact ⟨j + 1, _, by omega, by go_num, rfl, by rw [sw3, Hn.out]; exact ho, hr, hb⟩
            case measure => simp [intOf]; omega
          have hn5 : n ≤ 5 := by omega
          have HD := Lib.hid hD; clear hD
          have hm5 : m ≤ 5 := by have := HB.out; omega
          have hbs := hb.size
          obtain ⟨L, hL⟩ : ∃ L, L = sw4 g k B j (sw3 g (hd g).length k B (sw2 g (hd g).length k (sw1 g g.length (hd g).length k) m) j) n := ⟨_, rfl⟩
          have hll : L.length ≤ 2000 := by
            have hl1 := sw1_len g g.length (hd g).length (by omega) (by omega) k
            have hl2 := sw2_len g (hd g).length k (by omega) (sw1 g g.length (hd g).length k) m
            have hl3 := sw3_len g (hd g).length k B (by omega) (sw2 g (hd g).length k (sw1 g g.length (hd g).length k) m) j
            have hl4 := sw4_len g k B j (sw3 g (hd g).length k B (sw2 g (hd g).length k (sw1 g g.length (hd g).length k) m) j) n
            rw [hL]; omega
          rw [← hL] at ho
          have HL := Lib.hid hL; clear hL
          by_cases gs : swOk g k B j D = true
          rotate_left
          · have Hs := Lib.hid (show sw4 g k B j (sw3 g (hd g).length k B (sw2 g (hd g).length k (sw1 g g.length (hd g).length k) m) j) (n + 1) = L by rw [sw4, ← HD.out, if_neg gs, HL.out])
            have gs : swOk g k B j D = false := by simpa using gs
            go_wp2_with (go_at_call 36; refine (impl_SwitchOk _ _ _ _ _ _ _ _ _ (hr.new (al (.cells #[.int .i64 (k : Int), .int .i64 (B : Int), .int .i64 (j : Int), .int .i64 (D : Int)] 32)))).mono ?_; rintro e w3 ⟨rfl, hb3⟩; have e4 := box4 _ _ _ _ _ _ _ hb3; obtain ⟨e0, e1, e2, e3⟩ := e4; replace hb3 := (al (w := wr) (.cells #[.int .i64 (k : Int), .int .i64 (B : Int), .int .i64 (j : Int), .int .i64 (D : Int)] 32)).trans (hb3.mono (by simp)); have s3 := hb3.size)
            go_roundw
            case rel => exact ⟨n + 1, D + 1, _, by rw [HD.out]; omega, by omega, by go_num, rfl, by rw [Hs.out]; exact (ho.new hb3).mono (Nat.le_refl _) s3, hr.new hb3, hb.trans (hb3.mono hbs)⟩
            case measure => simp [intOf]; omega
          have Hs := Lib.hid (show sw4 g k B j (sw3 g (hd g).length k B (sw2 g (hd g).length k (sw1 g g.length (hd g).length k) m) j) (n + 1) = L ++ [((k : Int), (B : Int), (j : Int), (D : Int))] by rw [sw4, ← HD.out, if_pos gs, HL.out])
          go_wp2_with (first
            | (go_at_call 36; refine (impl_SwitchOk _ _ _ _ _ _ _ _ _ (hr.new (al (.cells #[.int .i64 (k : Int), .int .i64 (B : Int), .int .i64 (j : Int), .int .i64 (D : Int)] 32)))).mono ?_; rintro e w3 ⟨rfl, hb3⟩; have e4 := box4 _ _ _ _ _ _ _ hb3; obtain ⟨e0, e1, e2, e3⟩ := e4; replace hb3 := (al (w := wr) (.cells #[.int .i64 (k : Int), .int .i64 (B : Int), .int .i64 (j : Int), .int .i64 (D : Int)] 32)).trans (hb3.mono (by simp)); have s3 := hb3.size)
            | (at_builtin; refine wpList_append_own _ rfl _ _ 26 rfl w.heap.size 32 i0 (.agg #[.int .i64 0, .int .i64 0, .int .i64 0, .int .i64 0]) 4 32 Try.underlying26 hi hz0 hz1 hz2 rfl (by decide) _ _ _ rfl ((ho.new hb3).1.alloc _) ⟨w3.heap.size, 0, none⟩ 1 1 (swCells ((k : Int), (B : Int), (j : Int), (D : Int))) rfl rfl (cell_sw_new _ _ _) (by simp [swCells, Value.oneCell']) (by unfold maxLen; omega) (by omega) (by simp; omega) ?_; intro v2 w2 hown2 hg2 _))
          go_roundw
          case rel =>
            have hb2 : Below w.heap.size wr w2 := ((hb3.mono hbs).trans ((Below.refl _ _).alloc (by omega) _)).grown hg2 (by simp; omega) (fun q hq => (ho.blk hq).1)
            have ho2 : OwS w2 w.heap.size w2.heap.size 32 v2 (sw4 g k B j (sw3 g (hd g).length k B (sw2 g (hd g).length k (sw1 g g.length (hd g).length k) m) j) (n + 1)) := by
              rw [Hs.out]
              exact OwS.of_top hown2 (by rw [swFlat_app, swFlat_one])
            exact ⟨n + 1, D + 1, _, by rw [HD.out]; omega, by omega, by go_num, rfl, ho2, hr.below hb2 (Nat.le_refl _), hb.trans hb2⟩
          case measure => simp [intOf]; omega

set_option maxRecDepth 100000 in
set_option maxHeartbeats 4000000 in
theorem spec_SwitchesOf (g : List (List Int)) (v : Value) (w : World) (a b : Nat) (hr : RdG w a b v g) :
    Calls Try.prog 28 #[v] w (RetS w (swsR g)) := by
  obtain ⟨A, c, rfl, h1, h2⟩ := hr.form
  replace hr := hr.clip
  by_cases g1 : imgOk g = true
  rotate_left
  · have g1 : imgOk g = false := by simpa using g1
    have GD := Lib.hid (sws_no g1)
    go_enter Try.func28, Try.ntmps28
    go_wp2_with (go_at_call 50; refine (spec_ImageOk _ _ _ _ _ hr).mono ?_; rintro e w' ⟨rfl, rfl⟩)
    go_ret
    exact RetS_nil GD.out
  have GD := Lib.hid (sws_yes g1)
  obtain ⟨l1, l2, l3, l4, l5⟩ := imgOk_in g1
  clear l5
  have G0 := Lib.hid (hd_get (g := g) (by omega))
  obtain ⟨b0, o0, rfl, _, hb0⟩ := hr.some_ (by omega)
  obtain ⟨i0, hi, hz0, hz1, hz2⟩ := info_parts sw_info
  go_enter Try.func28, Try.ntmps28
  go_wp2_with (go_at_call 50; refine (spec_ImageOk _ _ _ _ _ hr).mono ?_; rintro e w' ⟨rfl, rfl⟩)
  go_loopw [3, 15] (fun out i wr => ∃ (n : Nat) (o : Value), n ≤ g.length ∧ i = .int .i64 n ∧ o = out ∧ OwS wr w.heap.size wr.heap.size 32 o (sw1 g g.length (hd g).length n) ∧ RdG wr a w.heap.size (.slice (some ⟨b0, o0, none⟩) g.length c) g ∧ Below w.heap.size w wr) (fun _ i _ => g.length - (intOf i).toNat)
  case atStart => exact ⟨0, _, Nat.zero_le _, rfl, rfl, OwS.empty _ _ (Nat.le_refl _), hr.new (al _), al _⟩
  case round =>
    clear hr
    obtain ⟨k, o1, hk, rfl, rfl, ho, hr, hb⟩ := hrel
    rename World => wk
    by_cases hlt : k < g.length
    rotate_left
    · have Hlt := Lib.hid (show k = g.length by omega)
      go_wp2_with fail
      go_ret
      rw [Hlt.out] at ho
      exact ⟨_, rfl, by rw [GD.out]; exact ho, hb⟩
    go_wp2_with fail
    go_loopw [3, 5] (fun out i wr => ∃ (n E : Nat) (o : Value), E = k + 1 + n ∧ E ≤ g.length ∧ i = .int .i64 E ∧ o = out ∧ OwS wr w.heap.size wr.heap.size 32 o (sw2 g (hd g).length k (sw1 g g.length (hd g).length k) n) ∧ RdG wr a w.heap.size (.slice (some ⟨b0, o0, none⟩) g.length c) g ∧ Below w.heap.size w wr) (fun _ i _ => g.length - (intOf i).toNat)
    case atStart => exact ⟨0, k + 1, _, by omega, by omega, by go_num, rfl, ho, hr, hb⟩
    case round =>
      clear ho hr hb
      obtain ⟨m, B, o2, hB, hm, rfl, rfl, ho, hr, hb⟩ := hrel
      rename World => wm
      have kB : k < B := by omega
      by_cases hlt2 : B < g.length
      rotate_left
      · have Hm := Lib.hid (show g.length - (k + 1) = m by omega)
        clear hB
        go_wp2_with fail
        go_roundw
        case rel => exact ⟨k + 1, _, by omega, by go_num, rfl, by rw [sw1, Hm.out]; exact ho, hr, hb⟩
        case measure => simp [intOf]; omega
      have HB := Lib.hid hB; clear hB
      obtain ⟨A0, c0, hc0, t1, t2, hrow0⟩ := hr.row0 G0.out
      go_wp2_with fail
      go_loopw [3, 30] (fun out i wr => ∃ (n : Nat) (o : Value), n ≤ (hd g).length ∧ i = .int .i64 n ∧ o = out ∧ OwS wr w.heap.size wr.heap.size 32 o (sw3 g (hd g).length k B (sw2 g (hd g).length k (sw1 g g.length (hd g).length k) m) n) ∧ RdG wr a w.heap.size (.slice (some ⟨b0, o0, none⟩) g.length c) g ∧ Below w.heap.size w wr) (fun _ i _ => (hd g).length - (intOf i).toNat)
      case atStart => exact ⟨0, _, by omega, by go_num, rfl, ho, hr, hb⟩
      case round =>
        clear ho hr hb hc0 hrow0
        obtain ⟨j, o3, hj, rfl, rfl, ho, hr, hb⟩ := hrel
        rename World => wj
        by_cases hlt3 : j < (hd g).length
        rotate_left
        · have Hj := Lib.hid (show j = (hd g).length by omega)
          go_wp2_with fail
          go_roundw
          case rel => exact ⟨m + 1, B + 1, _, by rw [HB.out]; omega, by omega, by go_num, rfl, by rw [sw2, ← HB.out]; rw [Hj.out] at ho; exact ho, hr, hb⟩
          case measure => simp [intOf]; omega
        go_wp2_with fail
        go_loopw [3, 7] (fun out i wr => ∃ (n E : Nat) (o : Value), E = j + 1 + n ∧ E ≤ (hd g).length ∧ i = .int .i64 E ∧ o = out ∧ OwS wr w.heap.size wr.heap.size 32 o (sw4 g k B j (sw3 g (hd g).length k B (sw2 g (hd g).length k (sw1 g g.length (hd g).length k) m) j) n) ∧ RdG wr a w.heap.size (.slice (some ⟨b0, o0, none⟩) g.length c) g ∧ Below w.heap.size w wr) (fun _ i _ => (hd g).length - (intOf i).toNat)
        case atStart => exact ⟨0, j + 1, _, by omega, by omega, by go_num, rfl, ho, hr, hb⟩
        case round =>
          clear ho hr hb
          obtain ⟨n, D, o4, hD, hn, rfl, rfl, ho, hr, hb⟩ := hrel
          have jD : j < D := by omega
          obtain ⟨A1, c1, hc1, t3, t4, hrow1⟩ := hr.row0 G0.out
          by_cases hlt4 : D < (hd g).length
          rotate_left
          · have Hn := Lib.hid (show (hd g).length - (j + 1) = n by omega)
            clear hD
            go_wp2_with fail
            go_roundw
            case rel => exact ⟨j + 1, _, by omega, by go_num, rfl, by rw [sw3, Hn.out]; exact ho, hr, hb⟩
            case measure => simp [intOf]; omega
          have hn5 : n ≤ 5 := by omega
          have HD := Lib.hid hD; clear hD
          have hm5 : m ≤ 5 := by have := HB.out; omega
          have hbs := hb.size
          obtain ⟨L, hL⟩ : ∃ L, L = sw4 g k B j (sw3 g (hd g).length k B (sw2 g (hd g).length k (sw1 g g.length (hd g).length k) m) j) n := ⟨_, rfl⟩
          have hll : L.length ≤ 2000 := by
            have hl1 := sw1_len g g.length (hd g).length (by omega) (by omega) k
            have hl2 := sw2_len g (hd g).length k (by omega) (sw1 g g.length (hd g).length k) m
            have hl3 := sw3_len g (hd g).length k B (by omega) (sw2 g (hd g).length k (sw1 g g.length (hd g).length k) m) j
            have hl4 := sw4_len g k B j (sw3 g (hd g).length k B (sw2 g (hd g).length k (sw1 g g.length (hd g).length k) m) j) n
            rw [hL]; omega
          rw [← hL] at ho
          have HL := Lib.hid hL; clear hL
          by_cases gs : swOk g k B j D = true
          rotate_left
          · have Hs := Lib.hid (show sw4 g k B j (sw3 g (hd g).length k B (sw2 g (hd g).length k (sw1 g g.length (hd g).length k) m) j) (n + 1) = L by rw [sw4, ← HD.out, if_neg gs, HL.out])
            have gs : swOk g k B j D = false := by simpa using gs
            go_wp2_with (go_at_call 51; refine (spec_SwitchOk _ _ _ _ _ _ _ _ _ (hr.new (al (.cells #[.int .i64 (k : Int), .int .i64 (B : Int), .int .i64 (j : Int), .int .i64 (D : Int)] 32)))).mono ?_; rintro e w3 ⟨rfl, hb3⟩; have e4 := box4 _ _ _ _ _ _ _ hb3; obtain ⟨e0, e1, e2, e3⟩ := e4; replace hb3 := (al (w := wr) (.cells #[.int .i64 (k : Int), .int .i64 (B : Int), .int .i64 (j : Int), .int .i64 (D : Int)] 32)).trans (hb3.mono (by simp)); have s3 := hb3.size)
            go_roundw
            case rel => exact ⟨n + 1, D + 1, _, by rw [HD.out]; omega, by omega, by go_num, rfl, by rw [Hs.out]; exact (ho.new hb3).mono (Nat.le_refl _) s3, hr.new hb3, hb.trans (hb3.mono hbs)⟩
            case measure => simp [intOf]; omega
          have Hs := Lib.hid (show sw4 g k B j (sw3 g (hd g).length k B (sw2 g (hd g).length k (sw1 g g.length (hd g).length k) m) j) (n + 1) = L ++ [((k : Int), (B : Int), (j : Int), (D : Int))] by rw [sw4, ← HD.out, if_pos gs, HL.out])
          go_wp2_with (first
            | (go_at_call 51; refine (spec_SwitchOk _ _ _ _ _ _ _ _ _ (hr.new (al (.cells #[.int .i64 (k : Int), .int .i64 (B : Int), .int .i64 (j : Int), .int .i64 (D : Int)] 32)))).mono ?_; rintro e w3 ⟨rfl, hb3⟩; have e4 := box4 _ _ _ _ _ _ _ hb3; obtain ⟨e0, e1, e2, e3⟩ := e4; replace hb3 := (al (w := wr) (.cells #[.int .i64 (k : Int), .int .i64 (B : Int), .int .i64 (j : Int), .int .i64 (D : Int)] 32)).trans (hb3.mono (by simp)); have s3 := hb3.size)
            | (at_builtin; refine wpList_append_own _ rfl _ _ 26 rfl w.heap.size 32 i0 (.agg #[.int .i64 0, .int .i64 0, .int .i64 0, .int .i64 0]) 4 32 Try.underlying26 hi hz0 hz1 hz2 rfl (by decide) _ _ _ rfl ((ho.new hb3).1.alloc _) ⟨w3.heap.size, 0, none⟩ 1 1 (swCells ((k : Int), (B : Int), (j : Int), (D : Int))) rfl rfl (cell_sw_new _ _ _) (by simp [swCells, Value.oneCell']) (by unfold maxLen; omega) (by omega) (by simp; omega) ?_; intro v2 w2 hown2 hg2 _))
          go_roundw
          case rel =>
            have hb2 : Below w.heap.size wr w2 := ((hb3.mono hbs).trans ((Below.refl _ _).alloc (by omega) _)).grown hg2 (by simp; omega) (fun q hq => (ho.blk hq).1)
            have ho2 : OwS w2 w.heap.size w2.heap.size 32 v2 (sw4 g k B j (sw3 g (hd g).length k B (sw2 g (hd g).length k (sw1 g g.length (hd g).length k) m) j) (n + 1)) := by
              rw [Hs.out]
              exact OwS.of_top hown2 (by rw [swFlat_app, swFlat_one])
            exact ⟨n + 1, D + 1, _, by rw [HD.out]; omega, by omega, by go_num, rfl, ho2, hr.below hb2 (Nat.le_refl _), hb.trans hb2⟩
          case measure => simp [intOf]; omega

end Go.Proofs.Ytpjlgcohafbbdaa
