/- Walks: ApplyAll. -/
import Derived.Test.YtpjlgcohafbbdaaProg
import Derived.Test.YtpjlgcohafbbdaaW1
import Derived.Test.YtpjlgcohafbbdaaW2
import Derived.Test.YtpjlgcohafbbdaaW3
import Derived.Test.YtpjlgcohafbbdaaW4
import Derived.Test.YtpjlgcohafbbdaaW6
import Derived.Test.YtpjlgcohafbbdaaW8
import Derived.Test.YtpjlgcohafbbdaaW16
import Derived.Test.YtpjlgcohafbbdaaW21
import Derived.Test.YtpjlgcohafbbdaaW25
import Derived.Test.YtpjlgcohafbbdaaW26
import Derived.Test.YtpjlgcohafbbdaaW30
import Derived.Test.YtpjlgcohafbbdaaMem
import Derived.Test.YtpjlgcohafbbdaaPoke
import Derived.Test.YtpjlgcohafbbdaaSw
import Derived.WalkKit
import Derived.WalkSpells
import Derived.WalkLawsBesides
import Derived.KernelRfl
import Derived.Lib.Hide
import Derived.Deep.QuietTactic
import Derived.BigQuiet
namespace Go.Proofs.Ytpjlgcohafbbdaa
open Go.RowKit
set_option linter.unusedVariables false
set_option linter.unusedSimpArgs false

def step1 (g : List (List Int)) (s : Sw) : Option (List (List Int)) := if swOk g s.1 s.2.1 s.2.2.1 s.2.2.2 = true then some (swR g s.1 s.2.1 s.2.2.1 s.2.2.2) else none
def steps (g : List (List Int)) : List Sw → Option (List (List Int))
  | [] => some g
  | s :: l => (step1 g s).bind fun h => steps h l
theorem steps_app (l m : List Sw) : ∀ g, steps g (l ++ m) = (steps g l).bind fun h => steps h m := by
  induction l with
  | nil => intro g; rfl
  | cons s l ih =>
    intro g
    simp only [List.cons_append, steps]
    cases step1 g s with
    | none => rfl
    | some h => simp only [Option.bind_some]; exact ih h
theorem stepsA_step {g G : List (List Int)} {l : List Sw} {k : Nat} {s : Sw} (hs : l[k]? = some s) (h : steps g (l.take k) = some G) : steps g (l.take (k + 1)) = step1 G s := by
  rw [take_snoc hs, steps_app, h, Option.bind_some, steps]
  cases step1 G s <;> rfl
theorem steps_bad {g : List (List Int)} {l : List Sw} {k : Nat} (h : steps g (l.take k) = none) : steps g l = none := by
  rw [← List.take_append_drop k l, steps_app, h]; rfl
def allOk (g : List (List Int)) (l : List Sw) : Bool := imgOk g && decide (l.length ≤ 60) && (steps g l).isSome
def allR (g : List (List Int)) (l : List Sw) : List (List Int) := if allOk g l = true then (steps g l).getD [] else []
theorem allR_no {g : List (List Int)} {l : List Sw} (h : allOk g l = false) : allR g l = [] := by simp [allR, h]
theorem allR_yes {g G : List (List Int)} {l : List Sw} (h : allOk g l = true) (h2 : steps g l = some G) : allR g l = G := by simp [allR, h, h2]
theorem step1_total {g h : List (List Int)} {s : Sw} (e : step1 g s = some h) : total h ≤ 25 := by
  unfold step1 at e
  split at e
  · injection e with e; subst e; exact swR_total _ _ _ _ _
  · cases e
theorem steps_total : ∀ (l : List Sw) (g h : List (List Int)), total g ≤ 25 → steps g l = some h → total h ≤ 25
  | [], g, h, hg, e => by injection e with e; subst e; exact hg
  | s :: l, g, h, hg, e => by
    simp only [steps] at e
    cases hs : step1 g s with
    | none => rw [hs] at e; cases e
    | some x => rw [hs] at e; exact steps_total l x h (step1_total hs) e
theorem allR_total (g : List (List Int)) (l : List Sw) : total (allR g l) ≤ 25 := by
  unfold allR
  split
  · rename_i h
    simp only [allOk, Bool.and_eq_true] at h
    obtain ⟨⟨h1, _⟩, h2⟩ := h
    obtain ⟨G, hG⟩ := Option.isSome_iff_exists.1 h2
    rw [hG]; exact steps_total l g G (short_total h1) hG
  · simp [total]
theorem RdS.alloc {w : World} {lo hi : Nat} {v : Value} {l : List Sw} (h : RdS w lo hi v l) (o : Obj) : RdS (w.alloc o) lo hi v l := h.new (al _)
theorem RetGB_nil {w : World} (h : World) {g : List (List Int)} {ok : Bool} (hb : Below w.heap.size w h) (hg : g = []) (h2 : ok = false) : RetGB w g ok (.returned (.tuple #[.slice none 0 0, .bool false])) h := by
  subst hg; subst h2; exact ⟨_, rfl, OwG.nil _ _ _ _ _, hb⟩
theorem apply_no (g : List (List Int)) (y1 y2 x1 x2 : Int) (v : Value) (w : World) (a b : Nat) (hr : RdG w a b v g) (gs : swOk g y1 y2 x1 x2 = false) :
    Calls Try.prog 11 #[v, .agg #[.int .i64 y1, .int .i64 y2, .int .i64 x1, .int .i64 x2]] w fun e w' => ∃ u, e = .returned (.tuple #[u, .bool false]) ∧ Below w.heap.size w w' :=
  (impl_ApplySwitch g y1 y2 x1 x2 v w a b hr).mono fun e w' ⟨u, he, ho, hb⟩ => ⟨u, by rw [he, gs], hb⟩
theorem apply_yes (g : List (List Int)) (y1 y2 x1 x2 : Int) (v : Value) (w : World) (a b : Nat) (hr : RdG w a b v g) (gs : swOk g y1 y2 x1 x2 = true) :
    Calls Try.prog 11 #[v, .agg #[.int .i64 y1, .int .i64 y2, .int .i64 x1, .int .i64 x2]] w fun e w' => ∃ u, e = .returned (.tuple #[u, .bool true]) ∧ OwG w' w.heap.size w'.heap.size 50 3 u (swR g y1 y2 x1 x2) ∧ Below w.heap.size w w' :=
  (impl_ApplySwitch g y1 y2 x1 x2 v w a b hr).mono fun e w' ⟨u, he, ho, hb⟩ => ⟨u, by rw [he, gs], ho, hb⟩

set_option maxRecDepth 100000 in
set_option maxHeartbeats 4000000 in
theorem impl_ApplyAll (g : List (List Int)) (l : List Sw) (v v' : Value) (w : World) (a b a' b' : Nat) (hr : RdG w a b v g) (hs : RdS w a' b' v' l) :
    Calls Try.prog 12 #[v, v'] w (RetGB w (allR g l) (allOk g l)) := by
  obtain ⟨A, c, rfl, h1, h2⟩ := hs.form
  replace hr := hr.clip
  replace hs := hs.clip
  by_cases g1 : imgOk g = true
  rotate_left
  · have g1 : imgOk g = false := by simpa using g1
    have GO := Lib.hid (show allOk g l = false by simp [allOk, g1])
    go_enter Try.func12, Try.ntmps12
    go_wp2_with (go_at_call 38; refine (impl_ImageOk _ _ _ _ _ hr).mono ?_; rintro e w' ⟨rfl, rfl⟩)
    go_ret2
    exact RetGB_no (allR_no GO.out) GO.out
  by_cases g2 : l.length ≤ 60
  rotate_left
  · have GO := Lib.hid (show allOk g l = false by simp [allOk, g2])
    go_enter Try.func12, Try.ntmps12
    go_wp2_with (go_at_call 38; refine (impl_ImageOk _ _ _ _ _ hr).mono ?_; rintro e w' ⟨rfl, rfl⟩)
    go_ret2
    exact RetGB_no (allR_no GO.out) GO.out
  have Sg := Lib.hid (imgOk_short g1)
  have G1 := Lib.hid (show allOk g l = (steps g l).isSome by simp [allOk, g1, g2])
  go_enter Try.func12, Try.ntmps12
  go_wp2_with (first
    | (go_at_call 38; refine (impl_ImageOk _ _ _ _ _ hr).mono ?_; rintro e w' ⟨rfl, rfl⟩)
    | (go_at_call 37; refine (impl_copyGrid _ _ _ _ _ hr Sg.out).mono ?_; rintro e w1 ⟨u, rfl, hu, hb⟩))
  have hs1 := hs.new hb
  clear hs hr
  go_loopw [6, 23] (fun o i wr => ∃ (k : Nat) (u : Value) (G : List (List Int)), k ≤ l.length ∧ i = .int .i64 k ∧ u = o ∧ steps g (l.take k) = some G ∧ OwG wr w.heap.size wr.heap.size 50 3 u G ∧ RdS wr a' w.heap.size (.slice A l.length c) l ∧ Below w.heap.size w wr) (fun _ i _ => l.length - (intOf i).toNat)
  case atStart => exact ⟨0, _, g, Nat.zero_le _, rfl, rfl, rfl, hu, hs1, hb⟩
  case round =>
    clear hs1 hu hb
    obtain ⟨k, u, G, hk, rfl, rfl, hS, hG, hs, hb⟩ := hrel
    have HS := Lib.hid hS; clear hS
    by_cases hlt : k < l.length
    rotate_left
    · have Hl := Lib.hid (take_all hlt)
      go_wp2_with fail
      go_ret2
      have h3 := HS.out
      rw [Hl.out] at h3
      have h4 : allOk g l = true := by rw [G1.out, h3]; rfl
      exact RetGB_yes h4 (by rw [allR_yes h4 h3]; exact hG) hb
    obtain ⟨⟨x, y, z, t⟩, hx⟩ := get_of_lt l k hlt
    obtain ⟨b1, o1, rfl, _, _, q1, c0, c1, c2, c3⟩ := hs.at_ hx
    have Hn := Lib.hid (stepsA_step hx HS.out)
    clear hx
    dsimp only at c0 c1 c2 c3
    have hbs := hb.size
    by_cases gs : swOk G x y z t = true
    rotate_left
    · have gs : swOk G x y z t = false := by simpa using gs
      have GO := Lib.hid (show allOk g l = false by
        rw [G1.out, steps_bad (k := k + 1) (by rw [Hn.out]; simp [step1, gs])]; rfl)
      go_wp2_with (go_at_call 11; refine (apply_no _ _ _ _ _ _ _ _ _ (hG.rd.new (al (.cells #[.int .i64 x, .int .i64 y, .int .i64 z, .int .i64 t] 32))) gs).mono ?_; rintro e w3 ⟨u3, rfl, hb3⟩; replace hb3 := (al (w := wr) (.cells #[.int .i64 x, .int .i64 y, .int .i64 z, .int .i64 t] 32)).trans (hb3.mono (by simp)); have s3 := hb3.size)
      go_ret2
      exact RetGB_nil _ (hb.trans (hb3.mono hbs)) (allR_no GO.out) GO.out
    have GO := Lib.hid (show steps g (l.take (k + 1)) = some (swR G x y z t) by rw [Hn.out]; simp [step1, gs])
    go_wp2_with (go_at_call 11; refine (apply_yes _ _ _ _ _ _ _ _ _ (hG.rd.new (al (.cells #[.int .i64 x, .int .i64 y, .int .i64 z, .int .i64 t] 32))) gs).mono ?_; rintro e w3 ⟨u3, rfl, hu3, hb3⟩; replace hb3 := (al (w := wr) (.cells #[.int .i64 x, .int .i64 y, .int .i64 z, .int .i64 t] 32)).trans (hb3.mono (by simp)); have s3 := hb3.size; replace hu3 := hu3.mono (lo' := w.heap.size) (by simp; omega) (Nat.le_refl _))
    go_roundw
    case rel => exact ⟨k + 1, _, _, by omega, by go_num, rfl, GO.out, hu3, hs.new hb3, hb.trans (hb3.mono hbs)⟩
    case measure => simp [intOf]; omega

end Go.Proofs.Ytpjlgcohafbbdaa
