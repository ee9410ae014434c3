/- Relations turned. -/
import Derived.Test.YthnfoiaahiopdaaDoorRows
import Derived.WalkKit
import Derived.WalkSpells
import Derived.WalkLawsBesides
import Derived.Deep.QuietTactic
import Derived.BigQuiet
import Derived.Lib.Hide
import Derived.Lib.ConvBytes
import Derived.Deep.Slices
import Derived.ProofKit
import Derived.SizedLaws
import Derived.Test.YthnfoiaahiopdaaDoorShelf
import Derived.Laws.BytesArg
import Derived.Laws.BitsLemmas
import Derived.Deep.RegionHeld3
import Derived.Deep.AppendLies
import Derived.Maps.AppendAt
import Derived.Test.YthnfoiaahiopdaaDoorKq
import Derived.Test.YthnfoiaahiopdaaDoorV3
import Derived.Test.YthnfoiaahiopdaaDoorV6
set_option linter.unusedVariables false
set_option linter.unusedSimpArgs false
set_option linter.unnecessarySimpa false
namespace Go.Proofs.YthnfoiaahiopdaaDoor
open Go.RowKit Go.Shelf
attribute [local go_sem] Oper.semAt_some

theorem holdsV_swap (r : Int) (a b : ValD) : holdsV (swapV r) b a = holdsV r a b := by
  unfold holdsV
  rw [cmpV_swap a b]
  cases hc : (cmpV a b).2 with
  | true =>
    simp only [if_true]
    have hx := cmpV_range a b
    by_cases h : 1 ≤ r ∧ r ≤ 6
    · have hr : r = 1 ∨ r = 2 ∨ r = 3 ∨ r = 4 ∨ r = 5 ∨ r = 6 := by omega
      rcases hx with e | e | e <;> rw [e] <;> rcases hr with rfl | rfl | rfl | rfl | rfl | rfl <;> rfl
    · have e1 : swapV r = 0 := by unfold swapV otherV; repeat (first | rfl | (rw [if_neg (by omega)]) | split)
      rw [e1]
      have e2 : ∀ x, relV r x = false := by intro x; unfold relV; repeat (first | rfl | (rw [if_neg (by omega)]))
      rw [e2]; rfl
  | false =>
    simp only [Bool.false_eq_true, if_false]
    have e : decide (swapV r = 2) = decide (r = 2) := by
      by_cases h : 1 ≤ r ∧ r ≤ 6
      · have hr : r = 1 ∨ r = 2 ∨ r = 3 ∨ r = 4 ∨ r = 5 ∨ r = 6 := by omega
        rcases hr with rfl | rfl | rfl | rfl | rfl | rfl <;> rfl
      · have e1 : swapV r = 0 := by unfold swapV otherV; repeat (first | rfl | (rw [if_neg (by omega)]) | split)
        rw [e1]
        have : ¬ r = 2 := by omega
        simp [this]
    rw [e, Bool.and_comm (someV b) (someV a)]
theorem swap_four (r : Int) : swapV (swapV (swapV (swapV r))) = swapV (swapV r) := by
  by_cases h : 1 ≤ r ∧ r ≤ 6
  · have hr : r = 1 ∨ r = 2 ∨ r = 3 ∨ r = 4 ∨ r = 5 ∨ r = 6 := by omega
    rcases hr with rfl | rfl | rfl | rfl | rfl | rfl <;> rfl
  · have e1 : swapV r = 0 := by unfold swapV otherV; repeat (first | rfl | (rw [if_neg (by omega)]) | split)
    rw [e1]; rfl
theorem holdsV_not (r : Int) (a b : ValD) (h : 1 ≤ r) (h' : r ≤ 6) (hc : (cmpV a b).2 = true) : holdsV (notV r) a b = !holdsV r a b := by
  unfold holdsV
  rw [hc]
  simp only [if_true]
  have hx := cmpV_range a b
  have hr : r = 1 ∨ r = 2 ∨ r = 3 ∨ r = 4 ∨ r = 5 ∨ r = 6 := by omega
  rcases hx with e | e | e <;> rw [e] <;> rcases hr with rfl | rfl | rfl | rfl | rfl | rfl <;> rfl

/-- What every world behind the call's own bests holds: old blocks, two values. -/
def S2 (w : World) (k1 n1 k2 n2 : Int) (s1 s2 : ByteArray) (w' : World) : Prop := Kept [] w w' ∧ Two w' w.heap.size (w.heap.size + 1) k1 n1 k2 n2 s1 s2
theorem S2.stays {w : World} {k1 n1 k2 n2 : Int} {s1 s2 : ByteArray} : Stays (S2 w k1 n1 k2 n2 s1 s2) := fun a b h hk => ⟨h.1.trans hk, h.2.keep hk⟩

set_option maxRecDepth 100000 in
set_option maxHeartbeats 8000000 in
theorem turns_any (r k1 n1 k2 n2 : Int) (s1 s2 : ByteArray) (w : World) :
    Calls Tryd.prog 5 #[.int .i64 r, .agg #[.int .i64 k1, .int .i64 n1, .string s1], .agg #[.int .i64 k2, .int .i64 n2, .string s2]] w fun e w' => e = .returned (.bool true) ∧ Kept [] w w' := by
  have HK0 := Lib.hid (((Kept.refl [] w).alloc (.cells #[.int .i64 k1, .int .i64 n1, .string s1] 23)).alloc (.cells #[.int .i64 k2, .int .i64 n2, .string s2] 23))
  have HT0 := Lib.hid (Two.new w k1 n1 k2 n2 s1 s2 23)
  have HSW := Lib.hid (holdsV_swap r (k1, n1, s1) (k2, n2, s2))
  have HS4 := Lib.hid (swap_four r)
  have HNT := Lib.hid (fun h h' => holdsV_not r (k1, n1, s1) (k2, n2, s2) h h')
  have ca0 : ∀ s : SW (S2 w k1 n1 k2 n2 s1 s2), s.to.cell? ⟨w.heap.size, 0, none⟩ = some (.int .i64 k1) := fun s => s.ok.2.a0
  have ca1 : ∀ s : SW (S2 w k1 n1 k2 n2 s1 s2), s.to.cell? ⟨w.heap.size, 1, none⟩ = some (.int .i64 n1) := fun s => s.ok.2.a1
  have ca2 : ∀ s : SW (S2 w k1 n1 k2 n2 s1 s2), s.to.cell? ⟨w.heap.size, 2, none⟩ = some (.string s1) := fun s => s.ok.2.a2
  have cb0 : ∀ s : SW (S2 w k1 n1 k2 n2 s1 s2), s.to.cell? ⟨w.heap.size + 1, 0, none⟩ = some (.int .i64 k2) := fun s => s.ok.2.b0
  have cb1 : ∀ s : SW (S2 w k1 n1 k2 n2 s1 s2), s.to.cell? ⟨w.heap.size + 1, 1, none⟩ = some (.int .i64 n2) := fun s => s.ok.2.b1
  have cb2 : ∀ s : SW (S2 w k1 n1 k2 n2 s1 s2), s.to.cell? ⟨w.heap.size + 1, 2, none⟩ = some (.string s2) := fun s => s.ok.2.b2
  obtain ⟨c, hc⟩ : ∃ c, cmpV (k1, n1, s1) (k2, n2, s2) = c := ⟨_, rfl⟩
  rw [hc] at HNT
  obtain ⟨cn, ci⟩ := c
  have HC := Lib.hid hc
  obtain ⟨h, hh⟩ : ∃ h, holdsV r (k1, n1, s1) (k2, n2, s2) = h := ⟨_, rfl⟩
  rw [hh] at HSW HNT
  have HH := Lib.hid hh
  have X0 : Hid (∀ W, Calls Tryd.prog 16 #[.int .i64 r] W fun e w' => e = .returned (.int .i64 (swapV r)) ∧ Kept [] W w') := fun W => swap_any r W
  obtain ⟨x1, hx1⟩ : ∃ x1, swapV r = x1 := ⟨_, rfl⟩
  rw [hx1] at X0 HSW HS4
  have X1 : Hid (∀ W, Calls Tryd.prog 16 #[.int .i64 x1] W fun e w' => e = .returned (.int .i64 (swapV x1)) ∧ Kept [] W w') := fun W => swap_any x1 W
  obtain ⟨x2, hx2⟩ : ∃ x2, swapV x1 = x2 := ⟨_, rfl⟩
  rw [hx2] at X1 HS4
  have X2 : Hid (∀ W, Calls Tryd.prog 16 #[.int .i64 x2] W fun e w' => e = .returned (.int .i64 (swapV x2)) ∧ Kept [] W w') := fun W => swap_any x2 W
  obtain ⟨x3, hx3⟩ : ∃ x3, swapV x2 = x3 := ⟨_, rfl⟩
  rw [hx3] at X2 HS4
  have X3 : Hid (∀ W, Calls Tryd.prog 16 #[.int .i64 x3] W fun e w' => e = .returned (.int .i64 x2) ∧ Kept [] W w') := fun W => by have := swap_any x3 W; rwa [HS4.out] at this
  have XH : Hid (∀ W, Calls Tryd.prog 14 #[.int .i64 x1, .agg #[.int .i64 k2, .int .i64 n2, .string s2], .agg #[.int .i64 k1, .int .i64 n1, .string s1]] W fun e w' => e = .returned (.bool h) ∧ Kept [] W w') := fun W => by have := holds_any x1 k2 n2 k1 n1 s2 s1 W; rwa [HSW.out] at this
  have XN : Hid (∀ W, Calls Tryd.prog 18 #[.int .i64 r] W fun e w' => e = .returned (.int .i64 (notV r)) ∧ Kept [] W w') := fun W => not_any r W
  obtain ⟨y1, hy1⟩ : ∃ y1, notV r = y1 := ⟨_, rfl⟩
  rw [hy1] at XN HNT
  have XG : Hid (ci = true → 1 ≤ r → r ≤ 6 → ∀ W, Calls Tryd.prog 14 #[.int .i64 y1, .agg #[.int .i64 k1, .int .i64 n1, .string s1], .agg #[.int .i64 k2, .int .i64 n2, .string s2]] W fun e w' => e = .returned (.bool (!h)) ∧ Kept [] W w') := fun h1 h2 h3 W => by
    have := holds_any y1 k1 n1 k2 n2 s1 s2 W
    rwa [HNT.out h2 h3 h1] at this
  clear hc hh hx1 hx2 hx3 hy1
  go_enter Tryd.func5, Tryd.ntmps5
  go_wp2_with fail
  refine (compare_any k1 n1 k2 n2 s1 s2 _).mono ?_
  rintro e w1 ⟨rfl, hk1⟩
  have HK1 := Lib.hid (HK0.out.trans hk1)
  have HT1 := Lib.hid (HT0.out.keep hk1)
  clear hk1
  rw [HC.out]
  obtain ⟨a0, a1, a2, b0, b1, b2⟩ := HT1.out
  go_wp2_with fail
  refine (holds_any r k1 n1 k2 n2 s1 s2 _).mono ?_
  rintro e w2 ⟨rfl, hk2⟩
  have HK2 := Lib.hid (HK1.out.trans hk2)
  have HT2 := Lib.hid (HT1.out.keep hk2)
  clear hk2 a0 a1 a2 b0 b1 b2
  rw [HH.out]
  go_wp2_with fail
  refine wp_region_sw (S2 w k1 n1 k2 n2 s1 s2) S2.stays ⟨HK2.out, HT2.out⟩ (by kernel_rfl) (by kernel_rfl) (fun hne => ?_)
  repeat (go_big_quiet_step (first
    | (go_at_call 12; exact SW.calls S2.stays (live_any _))
    | (go_at_call 16; first | exact SW.calls S2.stays (X0.out _) | exact SW.calls S2.stays (X1.out _) | exact SW.calls S2.stays (X2.out _) | exact SW.calls S2.stays (X3.out _))
    | (go_at_call 14; exact SW.calls S2.stays (XH.out _))))
  refine wpQuiet_nil ?_
  intro w3 hs3
  have HS3 := Lib.hid hs3
  clear hs3
  go_wp2_with fail
  cases ci with
  | false =>
    refine wp_region_sw (S2 w k1 n1 k2 n2 s1 s2) S2.stays HS3.out (by kernel_rfl) (by kernel_rfl) (fun hne => ?_)
    repeat (go_big_quiet_step (fail))
    refine wpQuiet_nil ?_
    intro w4 hs4
    have HS4 := Lib.hid hs4
    clear hs4
    go_wp2_with fail
    go_ret
    exact ⟨rfl, HS4.out.1⟩
  | true =>
    by_cases h1 : r < 1
    · have d1 : decide (r < 1) = true := decide_eq_true h1
      clear h1
      refine wp_region_sw (S2 w k1 n1 k2 n2 s1 s2) S2.stays HS3.out (by kernel_rfl) (by kernel_rfl) (fun hne => ?_)
      repeat (go_big_quiet_step (fail))
      refine wpQuiet_nil ?_
      intro w4 hs4
      have HS4 := Lib.hid hs4
      clear hs4
      go_wp2_with fail
      go_ret
      exact ⟨rfl, HS4.out.1⟩
    · have d1 : decide (r < 1) = false := decide_eq_false h1
      by_cases h6 : 6 < r
      · have d2 : decide (6 < r) = true := decide_eq_true h6
        clear h1 h6
        refine wp_region_sw (S2 w k1 n1 k2 n2 s1 s2) S2.stays HS3.out (by kernel_rfl) (by kernel_rfl) (fun hne => ?_)
        repeat (go_big_quiet_step (fail))
        refine wpQuiet_nil ?_
        intro w4 hs4
        have HS4 := Lib.hid hs4
        clear hs4
        go_wp2_with fail
        go_ret
        exact ⟨rfl, HS4.out.1⟩
      · have d2 : decide (6 < r) = false := decide_eq_false h6
        have XG2 := Lib.hid (XG.out rfl (by omega) (by omega))
        clear h1 h6
        refine wp_region_sw (S2 w k1 n1 k2 n2 s1 s2) S2.stays HS3.out (by kernel_rfl) (by kernel_rfl) (fun hne => ?_)
        repeat (go_big_quiet_step (first
          | (go_at_call 18; exact SW.calls S2.stays (XN.out _))
          | (go_at_call 14; exact SW.calls S2.stays (XG2.out _))))
        refine wpQuiet_nil ?_
        intro w4 hs4
        have HS4 := Lib.hid hs4
        clear hs4
        go_wp2_with fail
        go_ret
        exact ⟨rfl, HS4.out.1⟩

end Go.Proofs.YthnfoiaahiopdaaDoor
