/- A pattern that may be: a node with two leaves, the document's questions one by one. -/
import Derived.Test.YtbaifjdealmckaaGreatRows
import Derived.WalkKit
import Derived.WalkSpells
import Derived.WalkLawsBesides
import Derived.Deep.QuietTactic
import Derived.BigQuiet
import Derived.Lib.Hide
import Derived.BigRegion
import Derived.Shelf.Abstract
import Derived.Lib.ConvBytes
import Derived.Deep.RegionHeld3
import Derived.Laws.CopyRow
import Derived.Laws.MakeOwn
import Derived.Deep.AppendLies
import Derived.Deep.RegionLaw
import Derived.Laws.OwnMore
import Derived.Deep.DeepCutAuto
import Derived.StillTailTactics
import Derived.Laws.AppendOwnNone
import Derived.Deep.Slices
import Derived.ProofKit
import Derived.SizedLaws
import Derived.Test.YtbaifjdealmckaaGreatP18
set_option linter.unusedVariables false
set_option linter.unusedSimpArgs false
set_option linter.unnecessarySimpa false
namespace Go.Proofs.YtbaifjdealmckaaGreat
open Go.RowKit Go.Shelf
attribute [local go_sem] Oper.semAt_some

abbrev leafV (v t : ByteArray) : Value := .agg #[.int .i64 1, .string v, .string t, .slice none 0 0, .slice none 0 0]
abbrev twoV (kb : Nat) : Value := .agg #[.int .i64 2, .string ⟨#[]⟩, .string ⟨#[]⟩, .slice none 0 0, .slice (some ⟨kb, 0, none⟩) 2 2]
abbrev KB (w : World) (kb : Nat) (v1 t1 v2 t2 : ByteArray) : Prop := Blk w kb #[.int .i64 1, .string v1, .string t1, .slice none 0 0, .slice none 0 0, .int .i64 1, .string v2, .string t2, .slice none 0 0, .slice none 0 0] 62
abbrev NB (w : World) (nb kb : Nat) : Prop := Blk w nb #[.int .i64 2, .string ⟨#[]⟩, .string ⟨#[]⟩, .slice none 0 0, .slice (some ⟨kb, 0, none⟩) 2 2] 62
theorem KB.cells {w : World} {kb : Nat} {v1 t1 v2 t2 : ByteArray} (h : KB w kb v1 t1 v2 t2) : w.cell? ⟨kb, 0, none⟩ = some (.int .i64 1) ∧ w.cell? ⟨kb, 1, none⟩ = some (.string v1) ∧ w.cell? ⟨kb, 2, none⟩ = some (.string t1) ∧ w.cell? ⟨kb, 3, none⟩ = some (.slice none 0 0) ∧ w.cell? ⟨kb, 4, none⟩ = some (.slice none 0 0) ∧ w.cell? ⟨kb, 5, none⟩ = some (.int .i64 1) ∧ w.cell? ⟨kb, 6, none⟩ = some (.string v2) ∧ w.cell? ⟨kb, 7, none⟩ = some (.string t2) ∧ w.cell? ⟨kb, 8, none⟩ = some (.slice none 0 0) ∧ w.cell? ⟨kb, 9, none⟩ = some (.slice none 0 0) :=
  ⟨(h.cell 0).trans rfl, (h.cell 1).trans rfl, (h.cell 2).trans rfl, (h.cell 3).trans rfl, (h.cell 4).trans rfl, (h.cell 5).trans rfl, (h.cell 6).trans rfl, (h.cell 7).trans rfl, (h.cell 8).trans rfl, (h.cell 9).trans rfl⟩
theorem NB.cells {w : World} {nb kb : Nat} (h : NB w nb kb) : w.cell? ⟨nb, 0, none⟩ = some (.int .i64 2) ∧ w.cell? ⟨nb, 1, none⟩ = some (.string ⟨#[]⟩) ∧ w.cell? ⟨nb, 2, none⟩ = some (.string ⟨#[]⟩) ∧ w.cell? ⟨nb, 3, none⟩ = some (.slice none 0 0) ∧ w.cell? ⟨nb, 4, none⟩ = some (.slice (some ⟨kb, 0, none⟩) 2 2) :=
  ⟨(h.cell 0).trans rfl, (h.cell 1).trans rfl, (h.cell 2).trans rfl, (h.cell 3).trans rfl, (h.cell 4).trans rfl⟩


theorem deep_leaf (v t : ByteArray) (w : World) : Calls Tryz.prog 80 #[leafV v t] w fun e w' => e = .returned (.int .i64 1) ∧ Kept [] w w' := by
  go_enter Tryz.func80, Tryz.ntmps80
  go_wp2_with fail
  refine wp_loop_rounds 1 ?_
  rw [rounds_succ]
  go_wp2_with fail
  go_ret
  exact ⟨rfl, by (repeat (first | exact Kept.refl _ _ | assumption | refine Kept.drewN ?_ _ | refine Kept.drew ?_ | refine Kept.alloc ?_ _))⟩
theorem terms_leaf (v t : ByteArray) (w : World) : Calls Tryz.prog 81 #[leafV v t] w fun e w' => e = .returned (.int .i64 1) ∧ Kept [] w w' := by
  go_enter Tryz.func81, Tryz.ntmps81
  go_wp2_with fail
  go_ret
  exact ⟨rfl, by (repeat (first | exact Kept.refl _ _ | assumption | refine Kept.drewN ?_ _ | refine Kept.drew ?_ | refine Kept.alloc ?_ _))⟩
theorem alts_leaf (v t : ByteArray) (w : World) : Calls Tryz.prog 83 #[leafV v t] w fun e w' => e = .returned (.int .i64 1) ∧ Kept [] w w' := by
  go_enter Tryz.func83, Tryz.ntmps83
  go_wp2_with fail
  go_ret
  exact ⟨rfl, by (repeat (first | exact Kept.refl _ _ | assumption | refine Kept.drewN ?_ _ | refine Kept.drew ?_ | refine Kept.alloc ?_ _))⟩

set_option maxRecDepth 100000 in
set_option maxHeartbeats 1000000 in
theorem deep_two (kb : Nat) (v1 t1 v2 t2 : ByteArray) (w : World) (hkb : KB w kb v1 t1 v2 t2) : Calls Tryz.prog 80 #[twoV kb] w fun e w' => e = .returned (.int .i64 2) ∧ Kept [] w w' := by
  have hkb0 := Lib.hid hkb
  have HB := Lib.hid (Blk.new w #[.int .i64 2, .string ⟨#[]⟩, .string ⟨#[]⟩, .slice none 0 0, .slice (some ⟨kb, 0, none⟩) 2 2] 62)
  have HK0 := Lib.hid ((Kept.refl [] w).alloc (.cells #[.int .i64 2, .string ⟨#[]⟩, .string ⟨#[]⟩, .slice none 0 0, .slice (some ⟨kb, 0, none⟩) 2 2] 62))
  clear hkb
  go_enter Tryz.func80, Tryz.ntmps80
  go_wp2_with fail
  obtain ⟨w1, hw1⟩ : ∃ w1, w.alloc (.cells #[.int .i64 2, .string ⟨#[]⟩, .string ⟨#[]⟩, .slice none 0 0, .slice (some ⟨kb, 0, none⟩) 2 2] 62) = w1 := ⟨_, rfl⟩
  rw [hw1] at HB HK0 ⊢
  clear hw1
  have HKN := Lib.hid (Kept.refl [] w1)
  obtain ⟨kc0, kc1, kc2, kc3, kc4, kc5, kc6, kc7, kc8, kc9⟩ := KB.cells (hkb0.out.kept (HK0.out.trans HKN.out) (by simp))
  obtain ⟨nc0, nc1, nc2, nc3, nc4⟩ := NB.cells (HB.out.kept HKN.out (by simp))
  refine wp_loop_rounds 3 ?_
  rw [rounds_succ]
  go_wp2_with fail
  refine (deep_leaf _ _ _).mono ?_
  rintro e w5 ⟨rfl, hk5⟩
  have HK5 := Lib.hid hk5
  clear hk5
  obtain ⟨kc0, kc1, kc2, kc3, kc4, kc5, kc6, kc7, kc8, kc9⟩ := KB.cells (hkb0.out.kept (HK0.out.trans HK5.out) (by simp))
  obtain ⟨nc0, nc1, nc2, nc3, nc4⟩ := NB.cells (HB.out.kept HK5.out (by simp))
  go_wp2_with fail
  rw [rounds_succ]
  go_wp2_with fail
  refine (deep_leaf _ _ _).mono ?_
  rintro e w6 ⟨rfl, hk6⟩
  have HK6 := Lib.hid (HK5.out.trans hk6)
  clear hk6
  obtain ⟨kc0, kc1, kc2, kc3, kc4, kc5, kc6, kc7, kc8, kc9⟩ := KB.cells (hkb0.out.kept (HK0.out.trans HK6.out) (by simp))
  obtain ⟨nc0, nc1, nc2, nc3, nc4⟩ := NB.cells (HB.out.kept HK6.out (by simp))
  go_wp2_with fail
  rw [rounds_succ]
  go_wp2_with fail
  go_ret
  exact ⟨rfl, HK0.out.trans HK6.out⟩
set_option maxRecDepth 100000 in
set_option maxHeartbeats 1000000 in
theorem terms_two (kb : Nat) (v1 t1 v2 t2 : ByteArray) (w : World) (hkb : KB w kb v1 t1 v2 t2) : Calls Tryz.prog 81 #[twoV kb] w fun e w' => e = .returned (.int .i64 2) ∧ Kept [] w w' := by
  have hkb0 := Lib.hid hkb
  have HB := Lib.hid (Blk.new w #[.int .i64 2, .string ⟨#[]⟩, .string ⟨#[]⟩, .slice none 0 0, .slice (some ⟨kb, 0, none⟩) 2 2] 62)
  have HK0 := Lib.hid ((Kept.refl [] w).alloc (.cells #[.int .i64 2, .string ⟨#[]⟩, .string ⟨#[]⟩, .slice none 0 0, .slice (some ⟨kb, 0, none⟩) 2 2] 62))
  clear hkb
  go_enter Tryz.func81, Tryz.ntmps81
  go_wp2_with fail
  obtain ⟨w1, hw1⟩ : ∃ w1, w.alloc (.cells #[.int .i64 2, .string ⟨#[]⟩, .string ⟨#[]⟩, .slice none 0 0, .slice (some ⟨kb, 0, none⟩) 2 2] 62) = w1 := ⟨_, rfl⟩
  rw [hw1] at HB HK0 ⊢
  clear hw1
  have HKN := Lib.hid (Kept.refl [] w1)
  obtain ⟨kc0, kc1, kc2, kc3, kc4, kc5, kc6, kc7, kc8, kc9⟩ := KB.cells (hkb0.out.kept (HK0.out.trans HKN.out) (by simp))
  obtain ⟨nc0, nc1, nc2, nc3, nc4⟩ := NB.cells (HB.out.kept HKN.out (by simp))
  refine wp_loop_rounds 3 ?_
  rw [rounds_succ]
  go_wp2_with fail
  refine (terms_leaf _ _ _).mono ?_
  rintro e w5 ⟨rfl, hk5⟩
  have HK5 := Lib.hid hk5
  clear hk5
  obtain ⟨kc0, kc1, kc2, kc3, kc4, kc5, kc6, kc7, kc8, kc9⟩ := KB.cells (hkb0.out.kept (HK0.out.trans HK5.out) (by simp))
  obtain ⟨nc0, nc1, nc2, nc3, nc4⟩ := NB.cells (HB.out.kept HK5.out (by simp))
  go_wp2_with fail
  rw [rounds_succ]
  go_wp2_with fail
  refine (terms_leaf _ _ _).mono ?_
  rintro e w6 ⟨rfl, hk6⟩
  have HK6 := Lib.hid (HK5.out.trans hk6)
  clear hk6
  obtain ⟨kc0, kc1, kc2, kc3, kc4, kc5, kc6, kc7, kc8, kc9⟩ := KB.cells (hkb0.out.kept (HK0.out.trans HK6.out) (by simp))
  obtain ⟨nc0, nc1, nc2, nc3, nc4⟩ := NB.cells (HB.out.kept HK6.out (by simp))
  go_wp2_with fail
  rw [rounds_succ]
  go_wp2_with fail
  go_ret
  exact ⟨rfl, HK0.out.trans HK6.out⟩
set_option maxRecDepth 100000 in
set_option maxHeartbeats 1000000 in
theorem alts_two (kb : Nat) (v1 t1 v2 t2 : ByteArray) (w : World) (hkb : KB w kb v1 t1 v2 t2) : Calls Tryz.prog 83 #[twoV kb] w fun e w' => e = .returned (.int .i64 1) ∧ Kept [] w w' := by
  have hkb0 := Lib.hid hkb
  have HB := Lib.hid (Blk.new w #[.int .i64 2, .string ⟨#[]⟩, .string ⟨#[]⟩, .slice none 0 0, .slice (some ⟨kb, 0, none⟩) 2 2] 62)
  have HK0 := Lib.hid ((Kept.refl [] w).alloc (.cells #[.int .i64 2, .string ⟨#[]⟩, .string ⟨#[]⟩, .slice none 0 0, .slice (some ⟨kb, 0, none⟩) 2 2] 62))
  clear hkb
  go_enter Tryz.func83, Tryz.ntmps83
  go_wp2_with fail
  obtain ⟨w1, hw1⟩ : ∃ w1, w.alloc (.cells #[.int .i64 2, .string ⟨#[]⟩, .string ⟨#[]⟩, .slice none 0 0, .slice (some ⟨kb, 0, none⟩) 2 2] 62) = w1 := ⟨_, rfl⟩
  rw [hw1] at HB HK0 ⊢
  clear hw1
  have HKN := Lib.hid (Kept.refl [] w1)
  obtain ⟨kc0, kc1, kc2, kc3, kc4, kc5, kc6, kc7, kc8, kc9⟩ := KB.cells (hkb0.out.kept (HK0.out.trans HKN.out) (by simp))
  obtain ⟨nc0, nc1, nc2, nc3, nc4⟩ := NB.cells (HB.out.kept HKN.out (by simp))
  refine wp_loop_rounds 3 ?_
  rw [rounds_succ]
  go_wp2_with fail
  refine (alts_leaf _ _ _).mono ?_
  rintro e w5 ⟨rfl, hk5⟩
  have HK5 := Lib.hid hk5
  clear hk5
  obtain ⟨kc0, kc1, kc2, kc3, kc4, kc5, kc6, kc7, kc8, kc9⟩ := KB.cells (hkb0.out.kept (HK0.out.trans HK5.out) (by simp))
  obtain ⟨nc0, nc1, nc2, nc3, nc4⟩ := NB.cells (HB.out.kept HK5.out (by simp))
  go_wp2_with fail
  rw [rounds_succ]
  go_wp2_with fail
  refine (alts_leaf _ _ _).mono ?_
  rintro e w6 ⟨rfl, hk6⟩
  have HK6 := Lib.hid (HK5.out.trans hk6)
  clear hk6
  obtain ⟨kc0, kc1, kc2, kc3, kc4, kc5, kc6, kc7, kc8, kc9⟩ := KB.cells (hkb0.out.kept (HK0.out.trans HK6.out) (by simp))
  obtain ⟨nc0, nc1, nc2, nc3, nc4⟩ := NB.cells (HB.out.kept HK6.out (by simp))
  go_wp2_with fail
  rw [rounds_succ]
  go_wp2_with fail
  go_ret
  exact ⟨rfl, HK0.out.trans HK6.out⟩
end Go.Proofs.YtbaifjdealmckaaGreat
