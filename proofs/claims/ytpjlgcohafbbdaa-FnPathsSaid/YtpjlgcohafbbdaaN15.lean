/- Walks: NextTo of impl and of spec. -/
import Derived.Test.YtpjlgcohafbbdaaProg
import Derived.Test.YtpjlgcohafbbdaaW1
import Derived.Test.YtpjlgcohafbbdaaW3
import Derived.Test.YtpjlgcohafbbdaaW23
import Derived.Test.YtpjlgcohafbbdaaW30
import Derived.Test.YtpjlgcohafbbdaaSw
import Derived.Test.YtpjlgcohafbbdaaN1
import Derived.Test.YtpjlgcohafbbdaaN2
import Derived.Test.YtpjlgcohafbbdaaN3
import Derived.Test.YtpjlgcohafbbdaaN7
import Derived.Test.YtpjlgcohafbbdaaN8
import Derived.Test.YtpjlgcohafbbdaaN12
import Derived.Test.YtpjlgcohafbbdaaN13
import Derived.Test.YtpjlgcohafbbdaaMem
import Derived.WalkKit
import Derived.WalkSpells
import Derived.WalkLawsBesides
import Derived.KernelRfl
import Derived.Lib.Hide
import Derived.Laws.ResultCell
import Derived.Laws.NewBlocks
namespace Go.Proofs.Ytpjlgcohafbbdaa
open Go.RowKit
set_option linter.unusedVariables false
set_option linter.unusedSimpArgs false

theorem box4f (w w' : World) (x y z u : Int) (t : TypeId) (hb : Below (w.alloc (.cells #[.int .i64 x, .int .i64 y, .int .i64 z, .int .i64 u] t)).heap.size (w.alloc (.cells #[.int .i64 x, .int .i64 y, .int .i64 z, .int .i64 u] t)) w') :
    w'.frozen? ⟨w.heap.size, 0, none⟩ = false ∧ w'.frozen? ⟨w.heap.size, 1, none⟩ = false ∧ w'.frozen? ⟨w.heap.size, 2, none⟩ = false ∧ w'.frozen? ⟨w.heap.size, 3, none⟩ = false := by
  have h : ∀ i, w'.frozen? ⟨w.heap.size, i, none⟩ = (w.alloc (.cells #[.int .i64 x, .int .i64 y, .int .i64 z, .int .i64 u] t)).frozen? ⟨w.heap.size, i, none⟩ := fun i => World.frozen?_of_block (hb.block _ (by simp))
  refine ⟨?_, ?_, ?_, ?_⟩ <;> rw [h] <;> simp
noncomputable def nextC (g t : Img) : Sw := (pathC g t).headD (0, 0, 0, 0)
noncomputable def nextOk (g t : Img) : Bool := !(pathC g t).isEmpty
/-- The post of NextTo. -/
def RetNx (w : World) (s : Sw) (ok : Bool) (e : Ending) (w' : World) : Prop := e = .returned (.tuple #[.agg #[.int .i64 s.1, .int .i64 s.2.1, .int .i64 s.2.2.1, .int .i64 s.2.2.2], .bool ok]) ∧ Below w.heap.size w w'
set_option maxRecDepth 100000 in
set_option maxHeartbeats 1000000 in
theorem impl_NextTo (g t : Img) (v u : Value) (w : World) (a b a' b' : Nat) (hr : RdG w a b v g) (hs : RdG w a' b' u t) :
    Calls Try.prog 10 #[v, u] w (RetNx w (nextC g t) (nextOk g t)) := by
  have ba : Below w.heap.size w (w.alloc (.cells #[.int .i64 0, .int .i64 0, .int .i64 0, .int .i64 0] 32)) := (Below.refl _ _).alloc (Nat.le_refl _) _
  have hC := impl_PathTo' g t v u _ _ _ _ _ (hr.new ba) (hs.new ba)
  unfold nextC nextOk
  cases hP : pathC g t with
  | nil =>
    rw [hP] at hC
    have HC := Lib.hid hC; clear hC hP
    go_enter Try.func10, Try.ntmps10
    go_wp2_with (go_at_call 7; refine HC.out.mono ?_; rintro e w1 ⟨x, rfl, ho, hb⟩; obtain ⟨A, c, rfl, _, _⟩ := ho.form'; obtain ⟨x0, x1, x2, x3⟩ := box4 w w1 0 0 0 0 _ hb; obtain ⟨f0, f1, f2, f3⟩ := box4f w w1 0 0 0 0 _ hb)
    (try simp only [Exit.inBlock, Exit.then])
    refine bodyPost_ret_by (v := .tuple #[.agg #[.int .i64 0, .int .i64 0, .int .i64 0, .int .i64 0], .bool false]) ?_ ?_ ?_
    · rw [results_cell_tmp (fn := Try.f10) rfl]
      go_simp
    · rfl
    exact ⟨rfl, ba.trans (((((hb.mono (show w.heap.size ≤ _ by simp)).setCell (p := ⟨w.heap.size, 0, none⟩) (Nat.le_refl _) _).setCell (p := ⟨w.heap.size, 1, none⟩) (Nat.le_refl _) _).setCell (p := ⟨w.heap.size, 2, none⟩) (Nat.le_refl _) _).setCell (p := ⟨w.heap.size, 3, none⟩) (Nat.le_refl _) _)⟩
  | cons s l =>
    rw [hP] at hC
    have HC := Lib.hid hC; clear hC hP
    obtain ⟨s1, s2, s3, s4⟩ := s
    go_enter Try.func10, Try.ntmps10
    go_wp2_with (go_at_call 7; refine HC.out.mono ?_; rintro e w1 ⟨x, rfl, ho, hb⟩; obtain ⟨A, c, rfl, _, _⟩ := ho.form'; obtain ⟨g0, rfl, _, _, _, c0, c1, c2, c3, _⟩ := ho.at_ (k := 0) (s := (s1, s2, s3, s4)) rfl; obtain ⟨x0, x1, x2, x3⟩ := box4 w w1 0 0 0 0 _ hb; obtain ⟨f0, f1, f2, f3⟩ := box4f w w1 0 0 0 0 _ hb)
    (try simp only [Exit.inBlock, Exit.then])
    refine bodyPost_ret_by (v := .tuple #[.agg #[.int .i64 s1, .int .i64 s2, .int .i64 s3, .int .i64 s4], .bool true]) ?_ ?_ ?_
    · rw [results_cell_tmp (fn := Try.f10) rfl]
      go_simp
    · rfl
    exact ⟨rfl, ba.trans (((((hb.mono (show w.heap.size ≤ _ by simp)).setCell (p := ⟨w.heap.size, 0, none⟩) (Nat.le_refl _) _).setCell (p := ⟨w.heap.size, 1, none⟩) (Nat.le_refl _) _).setCell (p := ⟨w.heap.size, 2, none⟩) (Nat.le_refl _) _).setCell (p := ⟨w.heap.size, 3, none⟩) (Nat.le_refl _) _)⟩
set_option maxRecDepth 100000 in
set_option maxHeartbeats 1000000 in
theorem spec_NextTo (g t : Img) (v u : Value) (w : World) (a b a' b' : Nat) (hr : RdG w a b v g) (hs : RdG w a' b' u t) :
    Calls Try.prog 15 #[v, u] w (RetNx w (nextC g t) (nextOk g t)) := by
  have ba : Below w.heap.size w (w.alloc (.cells #[.int .i64 0, .int .i64 0, .int .i64 0, .int .i64 0] 32)) := (Below.refl _ _).alloc (Nat.le_refl _) _
  have hC := spec_PathTo' g t v u _ _ _ _ _ (hr.new ba) (hs.new ba)
  unfold nextC nextOk
  cases hk : okP g t with
  | false =>
    rw [path_no hk] at hC ⊢
    rw [hk] at hC
    have HC := Lib.hid hC; clear hC hk
    go_enter Try.func15, Try.ntmps15
    go_wp2_with (go_at_call 19; refine HC.out.mono ?_; rintro e w1 ⟨x, rfl, ho, hb⟩; obtain ⟨A, c, rfl, _, _⟩ := ho.form; obtain ⟨x0, x1, x2, x3⟩ := box4 w w1 0 0 0 0 _ hb; obtain ⟨f0, f1, f2, f3⟩ := box4f w w1 0 0 0 0 _ hb)
    (try simp only [Exit.inBlock, Exit.then])
    refine bodyPost_ret_by (v := .tuple #[.agg #[.int .i64 0, .int .i64 0, .int .i64 0, .int .i64 0], .bool false]) ?_ ?_ ?_
    · rw [results_cell_tmp (fn := Try.f15) rfl]
      go_simp
    · rfl
    exact ⟨rfl, ba.trans (((((hb.mono (show w.heap.size ≤ _ by simp)).setCell (p := ⟨w.heap.size, 0, none⟩) (Nat.le_refl _) _).setCell (p := ⟨w.heap.size, 1, none⟩) (Nat.le_refl _) _).setCell (p := ⟨w.heap.size, 2, none⟩) (Nat.le_refl _) _).setCell (p := ⟨w.heap.size, 3, none⟩) (Nat.le_refl _) _)⟩
  | true =>
    rw [hk] at hC
    cases hP : pathC g t with
    | nil =>
      rw [hP] at hC
      have HC := Lib.hid hC; clear hC hP hk
      go_enter Try.func15, Try.ntmps15
      go_wp2_with (go_at_call 19; refine HC.out.mono ?_; rintro e w1 ⟨x, rfl, ho, hb⟩; obtain ⟨A, c, rfl, _, _⟩ := ho.form; obtain ⟨x0, x1, x2, x3⟩ := box4 w w1 0 0 0 0 _ hb; obtain ⟨f0, f1, f2, f3⟩ := box4f w w1 0 0 0 0 _ hb)
      (try simp only [Exit.inBlock, Exit.then])
      refine bodyPost_ret_by (v := .tuple #[.agg #[.int .i64 0, .int .i64 0, .int .i64 0, .int .i64 0], .bool false]) ?_ ?_ ?_
      · rw [results_cell_tmp (fn := Try.f15) rfl]
        go_simp
      · rfl
      exact ⟨rfl, ba.trans (((((hb.mono (show w.heap.size ≤ _ by simp)).setCell (p := ⟨w.heap.size, 0, none⟩) (Nat.le_refl _) _).setCell (p := ⟨w.heap.size, 1, none⟩) (Nat.le_refl _) _).setCell (p := ⟨w.heap.size, 2, none⟩) (Nat.le_refl _) _).setCell (p := ⟨w.heap.size, 3, none⟩) (Nat.le_refl _) _)⟩
    | cons s l =>
      rw [hP] at hC
      have HC := Lib.hid hC; clear hC hP hk
      obtain ⟨s1, s2, s3, s4⟩ := s
      go_enter Try.func15, Try.ntmps15
      go_wp2_with (go_at_call 19; refine HC.out.mono ?_; rintro e w1 ⟨x, rfl, ho, hb⟩; obtain ⟨A, c, rfl, _, _⟩ := ho.form; obtain ⟨g0, o0, rfl, _, _, _, c0, c1, c2, c3⟩ := ho.at_ (k := 0) (s := (s1, s2, s3, s4)) rfl; simp only [Nat.zero_mul, Nat.add_zero] at c0 c1 c2 c3; obtain ⟨x0, x1, x2, x3⟩ := box4 w w1 0 0 0 0 _ hb; obtain ⟨f0, f1, f2, f3⟩ := box4f w w1 0 0 0 0 _ hb)
      (try simp only [Exit.inBlock, Exit.then])
      refine bodyPost_ret_by (v := .tuple #[.agg #[.int .i64 s1, .int .i64 s2, .int .i64 s3, .int .i64 s4], .bool true]) ?_ ?_ ?_
      · rw [results_cell_tmp (fn := Try.f15) rfl]
        go_simp
      · rfl
      exact ⟨rfl, ba.trans (((((hb.mono (show w.heap.size ≤ _ by simp)).setCell (p := ⟨w.heap.size, 0, none⟩) (Nat.le_refl _) _).setCell (p := ⟨w.heap.size, 1, none⟩) (Nat.le_refl _) _).setCell (p := ⟨w.heap.size, 2, none⟩) (Nat.le_refl _) _).setCell (p := ⟨w.heap.size, 3, none⟩) (Nat.le_refl _) _)⟩
end Go.Proofs.Ytpjlgcohafbbdaa
