/- Any two values held against each other. -/
import Derived.Test.YthnfoiaahiopdaaDoorRows
import Derived.WalkKit
import Derived.WalkSpells
import Derived.WalkLawsBesides
import Derived.Deep.QuietTactic
import Derived.BigQuiet
import Derived.Lib.Hide
import Derived.Lib.ConvBytes
import Derived.Deep.Slices
import Derived.ProofKit
import Derived.SizedLaws
import Derived.Test.YthnfoiaahiopdaaDoorShelf
import Derived.Laws.BytesArg
import Derived.Laws.BitsLemmas
import Derived.Deep.RegionHeld3
import Derived.Deep.AppendLies
import Derived.Maps.AppendAt
import Derived.Test.YthnfoiaahiopdaaDoorV7
set_option linter.unusedVariables false
set_option linter.unusedSimpArgs false
set_option linter.unnecessarySimpa false
namespace Go.Proofs.YthnfoiaahiopdaaDoor
open Go.RowKit Go.Shelf
attribute [local go_sem] Oper.semAt_some

set_option maxRecDepth 100000 in
set_option maxHeartbeats 8000000 in
theorem lawHolds_any (r k1 n1 k2 n2 : Int) (s1 s2 : ByteArray) (w : World) :
    Calls Tryd.prog 4 #[.int .i64 r, .agg #[.int .i64 k1, .int .i64 n1, .string s1], .agg #[.int .i64 k2, .int .i64 n2, .string s2]] w fun e w' => e = .returned (.bool true) ∧ Kept [] w w' := by
  have HK0 := Lib.hid (((Kept.refl [] w).alloc (.cells #[.int .i64 k1, .int .i64 n1, .string s1] 23)).alloc (.cells #[.int .i64 k2, .int .i64 n2, .string s2] 23))
  have HT0 := Lib.hid (Two.new w k1 n1 k2 n2 s1 s2 23)
  have ca0 : ∀ s : SW (S2 w k1 n1 k2 n2 s1 s2), s.to.cell? ⟨w.heap.size, 0, none⟩ = some (.int .i64 k1) := fun s => s.ok.2.a0
  have ca1 : ∀ s : SW (S2 w k1 n1 k2 n2 s1 s2), s.to.cell? ⟨w.heap.size, 1, none⟩ = some (.int .i64 n1) := fun s => s.ok.2.a1
  have ca2 : ∀ s : SW (S2 w k1 n1 k2 n2 s1 s2), s.to.cell? ⟨w.heap.size, 2, none⟩ = some (.string s1) := fun s => s.ok.2.a2
  have cb0 : ∀ s : SW (S2 w k1 n1 k2 n2 s1 s2), s.to.cell? ⟨w.heap.size + 1, 0, none⟩ = some (.int .i64 k2) := fun s => s.ok.2.b0
  have cb1 : ∀ s : SW (S2 w k1 n1 k2 n2 s1 s2), s.to.cell? ⟨w.heap.size + 1, 1, none⟩ = some (.int .i64 n2) := fun s => s.ok.2.b1
  have cb2 : ∀ s : SW (S2 w k1 n1 k2 n2 s1 s2), s.to.cell? ⟨w.heap.size + 1, 2, none⟩ = some (.string s2) := fun s => s.ok.2.b2
  obtain ⟨c, hc⟩ : ∃ c, cmpV (k1, n1, s1) (k2, n2, s2) = c := ⟨_, rfl⟩
  obtain ⟨cn, ci⟩ := c
  have HC := Lib.hid hc
  have X1 : Hid (∀ W, Calls Tryd.prog 16 #[.int .i64 r] W fun e w' => e = .returned (.int .i64 (swapV r)) ∧ Kept [] W w') := fun W => swap_any r W
  have X2 : Hid (∀ W, Calls Tryd.prog 17 #[.int .i64 r] W fun e w' => e = .returned (.int .i64 (swapV r)) ∧ Kept [] W w') := fun W => rswap_any r W
  obtain ⟨x1, hx1⟩ : ∃ x1, swapV r = x1 := ⟨_, rfl⟩
  rw [hx1] at X1 X2
  have Y1 : Hid (∀ W, Calls Tryd.prog 18 #[.int .i64 r] W fun e w' => e = .returned (.int .i64 (notV r)) ∧ Kept [] W w') := fun W => not_any r W
  have Y2 : Hid (∀ W, Calls Tryd.prog 19 #[.int .i64 r] W fun e w' => e = .returned (.int .i64 (notV r)) ∧ Kept [] W w') := fun W => rnot_any r W
  obtain ⟨y1, hy1⟩ : ∃ y1, notV r = y1 := ⟨_, rfl⟩
  rw [hy1] at Y1 Y2
  have H1 : Hid (∀ W, Calls Tryd.prog 14 #[.int .i64 r, .agg #[.int .i64 k1, .int .i64 n1, .string s1], .agg #[.int .i64 k2, .int .i64 n2, .string s2]] W fun e w' => e = .returned (.bool (holdsV r (k1, n1, s1) (k2, n2, s2))) ∧ Kept [] W w') := fun W => holds_any r k1 n1 k2 n2 s1 s2 W
  have H2 : Hid (∀ W, Calls Tryd.prog 15 #[.int .i64 r, .agg #[.int .i64 k1, .int .i64 n1, .string s1], .agg #[.int .i64 k2, .int .i64 n2, .string s2]] W fun e w' => e = .returned (.bool (holdsV r (k1, n1, s1) (k2, n2, s2))) ∧ Kept [] W w') := fun W => rholds_any r k1 n1 k2 n2 s1 s2 W
  obtain ⟨h, hh⟩ : ∃ h, holdsV r (k1, n1, s1) (k2, n2, s2) = h := ⟨_, rfl⟩
  rw [hh] at H1 H2
  clear hc hh hx1 hy1
  go_enter Tryd.func4, Tryd.ntmps4
  go_wp2_with fail
  refine (compare_any k1 n1 k2 n2 s1 s2 _).mono ?_
  rintro e w1 ⟨rfl, hk1⟩
  have HK1 := Lib.hid (HK0.out.trans hk1)
  have HT1 := Lib.hid (HT0.out.keep hk1)
  clear hk1
  rw [HC.out]
  obtain ⟨a0, a1, a2, b0, b1, b2⟩ := HT1.out
  go_wp2_with fail
  refine (rcompare_any k1 n1 k2 n2 s1 s2 _).mono ?_
  rintro e w2 ⟨rfl, hk2⟩
  have HK2 := Lib.hid (HK1.out.trans hk2)
  have HT2 := Lib.hid (HT1.out.keep hk2)
  clear hk2 a0 a1 a2 b0 b1 b2
  rw [HC.out]
  go_wp2_with fail
  refine wp_region_sw (S2 w k1 n1 k2 n2 s1 s2) S2.stays ⟨HK2.out, HT2.out⟩ (by kernel_rfl) (by kernel_rfl) (fun hne => ?_)
  repeat (go_big_quiet_step (first
    | (go_at_call 12; exact SW.calls S2.stays (live_any _))
    | (go_at_call 16; exact SW.calls S2.stays (X1.out _))
    | (go_at_call 17; exact SW.calls S2.stays (X2.out _))
    | (go_at_call 18; exact SW.calls S2.stays (Y1.out _))
    | (go_at_call 19; exact SW.calls S2.stays (Y2.out _))
    | (go_at_call 14; exact SW.calls S2.stays (H1.out _))
    | (go_at_call 15; exact SW.calls S2.stays (H2.out _))))
  refine wpQuiet_nil ?_
  intro w3 hs3
  have HS3 := Lib.hid hs3
  clear hs3
  go_wp2_with fail
  go_ret
  exact ⟨rfl, HS3.out.1⟩

end Go.Proofs.YthnfoiaahiopdaaDoor
