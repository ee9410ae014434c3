/- A pattern that may be: the pattern of two terms, its variables and what binds them. -/
import Derived.Test.YtbaifjdealmckaaGreatRows
import Derived.WalkKit
import Derived.WalkSpells
import Derived.WalkLawsBesides
import Derived.Deep.QuietTactic
import Derived.BigQuiet
import Derived.Lib.Hide
import Derived.BigRegion
import Derived.Shelf.Abstract
import Derived.Lib.ConvBytes
import Derived.Deep.RegionHeld3
import Derived.Laws.CopyRow
import Derived.Laws.MakeOwn
import Derived.Deep.AppendLies
import Derived.Deep.RegionLaw
import Derived.Laws.OwnMore
import Derived.Deep.DeepCutAuto
import Derived.StillTailTactics
import Derived.Laws.AppendOwnNone
import Derived.Deep.Slices
import Derived.ProofKit
import Derived.SizedLaws
import Derived.Test.YtbaifjdealmckaaGreatP22
set_option linter.unusedVariables false
set_option linter.unusedSimpArgs false
set_option linter.unnecessarySimpa false
namespace Go.Proofs.YtbaifjdealmckaaGreat
open Go.RowKit Go.Shelf
attribute [local go_sem] Oper.semAt_some


/-- A text that is not empty. -/
structure Some1 (s : ByteArray) : Prop where
  ne : s.toList ≠ []

set_option maxRecDepth 100000 in
set_option maxHeartbeats 1000000 in
theorem vars_leaf (v t : ByteArray) (hv : Some1 v) (w : World) : Calls Tryz.prog 54 #[leafV v t] w (StrsPost w [v]) := by
  have hv1 : (v.toList == []) = false := by rw [beq_eq_false_iff_ne]; exact hv.ne
  have hv2 : (v.toList != []) = true := by rw [bne_iff_ne]; exact hv.ne
  have hv3 : v.toList.isEmpty = false := by rw [List.isEmpty_eq_false_iff]; exact hv.ne
  have HB := Lib.hid (Blk.new w #[.int .i64 1, .string v, .string t, .slice none 0 0, .slice none 0 0] 62)
  clear hv
  have HP := Lib.hid (fun W : World => put_nil v W)
  go_enter Tryz.func54, Tryz.ntmps54
  go_wp2_with fail
  refine (HP.out _).mono ?_
  rintro e w5 ⟨g, c, rfl, ho, hk⟩
  have HO := Lib.hid (own_lower ho (base' := w.heap.size) (by simp))
  have HK5 : Hid (Kept [] w w5) := ((Kept.refl [] w).alloc _).trans hk
  have HB5 := Lib.hid (HB.out.kept hk (by simp))
  clear ho hk
  have b4 := HB5.out.cell 4
  simp at b4
  go_wp2_with fail
  refine wp_loop_rounds 1 ?_
  rw [rounds_succ]
  go_wp2_with fail
  go_ret
  exact ⟨g, c, rfl, HO.out, HK5.out⟩
theorem strs_cell {w : World} {base b c n : Nat} {l : List ByteArray} (h : w.ownsRow base 9 1 (.slice (some ⟨b, 0, none⟩) n c) n (l.map .string)) (i : Nat) (s : ByteArray) (hi : l[i]? = some s) : w.cell? ⟨b, i, none⟩ = some (.string s) := by
  have := h.cells (g := b) rfl i (.string s) (by simp [hi])
  have ha : (⟨b, 0, none⟩ : Addr).add i = ⟨b, i, none⟩ := by unfold Addr.add; split <;> simp_all
  rwa [ha] at this
theorem strs_cap {w : World} {base b c n : Nat} {xs : List Value} (h : w.ownsRow base 9 1 (.slice (some ⟨b, 0, none⟩) n c) n xs) : n ≤ c ∧ c ≤ maxLen := by
  rcases h.2 with ⟨h0, _⟩ | ⟨g, cap, cur, he, _, _, h4, h5, _⟩
  · cases h0
  · injection he with _ _ he
    subst he
    exact ⟨by omega, by omega⟩

abbrev tA : ByteArray := ⟨#[97]⟩
abbrev tB : ByteArray := ⟨#[98]⟩
set_option maxRecDepth 100000 in
set_option maxHeartbeats 2000000 in
theorem vars_two (kb : Nat) (t1 t2 : ByteArray) (w : World) (hkb : KB w kb ⟨#[97]⟩ t1 ⟨#[98]⟩ t2) : Calls Tryz.prog 54 #[twoV kb] w (StrsPost w [⟨#[97]⟩, ⟨#[98]⟩]) := by
  have ha : Some1 ⟨#[97]⟩ := ⟨by rw [ByteArray.toList_eq]; decide⟩
  have hb : Some1 ⟨#[98]⟩ := ⟨by rw [ByteArray.toList_eq]; decide⟩
  have hkb0 := Lib.hid hkb
  have HB := Lib.hid (Blk.new w #[.int .i64 2, .string ⟨#[]⟩, .string ⟨#[]⟩, .slice none 0 0, .slice (some ⟨kb, 0, none⟩) 2 2] 62)
  have HK0 := Lib.hid ((Kept.refl [] w).alloc (.cells #[.int .i64 2, .string ⟨#[]⟩, .string ⟨#[]⟩, .slice none 0 0, .slice (some ⟨kb, 0, none⟩) 2 2] 62))
  clear hkb
  go_enter Tryz.func54, Tryz.ntmps54
  go_wp2_with fail
  obtain ⟨w1, hw1⟩ : ∃ w1, w.alloc (.cells #[.int .i64 2, .string ⟨#[]⟩, .string ⟨#[]⟩, .slice none 0 0, .slice (some ⟨kb, 0, none⟩) 2 2] 62) = w1 := ⟨_, rfl⟩
  rw [hw1] at HB HK0 ⊢
  clear hw1
  have HKN := Lib.hid (Kept.refl [] w1)
  obtain ⟨kc0, kc1, kc2, kc3, kc4, kc5, kc6, kc7, kc8, kc9⟩ := KB.cells (hkb0.out.kept (HK0.out.trans HKN.out) (by simp))
  obtain ⟨nc0, nc1, nc2, nc3, nc4⟩ := NB.cells (HB.out.kept HKN.out (by simp))
  refine wp_loop_rounds 3 ?_
  rw [rounds_succ]
  go_wp2_with fail
  refine (vars_leaf _ _ ha _).mono ?_
  rintro e w5 ⟨g5, c5, rfl, ho5, hk5⟩
  have HK5 := Lib.hid hk5
  have HO5 := Lib.hid ho5
  have d5 := strs_cell ho5 0 _ rfl
  clear hk5 ho5
  obtain ⟨kc0, kc1, kc2, kc3, kc4, kc5, kc6, kc7, kc8, kc9⟩ := KB.cells (hkb0.out.kept (HK0.out.trans HK5.out) (by simp))
  obtain ⟨nc0, nc1, nc2, nc3, nc4⟩ := NB.cells (HB.out.kept HK5.out (by simp))
  go_wp2_with fail
  refine wp_loop_rounds 2 ?_
  rw [rounds_succ]
  go_wp2_with fail
  refine (put_nil _ _).mono ?_
  rintro e w6 ⟨g6, c6, rfl, ho6, hk6⟩
  have HK6 := Lib.hid (HK5.out.trans hk6)
  have HO6 := Lib.hid ho6
  clear hk6 ho6
  obtain ⟨kc0, kc1, kc2, kc3, kc4, kc5, kc6, kc7, kc8, kc9⟩ := KB.cells (hkb0.out.kept (HK0.out.trans HK6.out) (by simp))
  obtain ⟨nc0, nc1, nc2, nc3, nc4⟩ := NB.cells (HB.out.kept HK6.out (by simp))
  go_wp2_with fail
  rw [rounds_succ]
  go_wp2_with fail
  rw [rounds_succ]
  go_wp2_with fail
  refine (vars_leaf _ _ hb _).mono ?_
  rintro e w7 ⟨g7, c7, rfl, ho7, hk7⟩
  have HK7 := Lib.hid (HK6.out.trans hk7)
  have d7 := strs_cell ho7 0 _ rfl
  have d6 := hk7.cell (by simp) (strs_cell HO6.out 0 _ rfl)
  clear hk7 ho7
  obtain ⟨kc0, kc1, kc2, kc3, kc4, kc5, kc6, kc7, kc8, kc9⟩ := KB.cells (hkb0.out.kept (HK0.out.trans HK7.out) (by simp))
  obtain ⟨nc0, nc1, nc2, nc3, nc4⟩ := NB.cells (HB.out.kept HK7.out (by simp))
  go_wp2_with fail
  refine wp_loop_rounds 2 ?_
  rw [rounds_succ]
  go_wp2_with fail
  refine (put_ab _ _ _ (strs_cap HO6.out).1 (strs_cap HO6.out).2 d6).mono ?_
  rintro e w8 ⟨g8, c8, rfl, ho8, hk8⟩
  have HK8 := Lib.hid (HK7.out.trans hk8)
  have HO8 := Lib.hid ho8
  clear hk8 ho8
  obtain ⟨kc0, kc1, kc2, kc3, kc4, kc5, kc6, kc7, kc8, kc9⟩ := KB.cells (hkb0.out.kept (HK0.out.trans HK8.out) (by simp))
  obtain ⟨nc0, nc1, nc2, nc3, nc4⟩ := NB.cells (HB.out.kept HK8.out (by simp))
  go_wp2_with fail
  rw [rounds_succ]
  go_wp2_with fail
  rw [rounds_succ]
  go_wp2_with fail
  go_ret
  exact ⟨g8, c8, rfl, own_lower HO8.out (by have := (HK0.out.trans HK7.out).size; omega), HK0.out.trans HK8.out⟩

theorem binds_leaf (v t : ByteArray) (w : World) : Calls Tryz.prog 53 #[leafV v t] w fun e w' => e = .returned (.int .i64 0) ∧ Kept [] w w' := by
  go_enter Tryz.func53, Tryz.ntmps53
  go_wp2_with fail
  refine wp_loop_rounds 1 ?_
  rw [rounds_succ]
  go_wp2_with fail
  go_ret
  exact ⟨rfl, by (repeat (first | exact Kept.refl _ _ | assumption | refine Kept.drewN ?_ _ | refine Kept.drew ?_ | refine Kept.alloc ?_ _))⟩
set_option maxRecDepth 100000 in
set_option maxHeartbeats 2000000 in
theorem binds_two (kb : Nat) (t1 t2 : ByteArray) (w : World) (hkb : KB w kb ⟨#[97]⟩ t1 ⟨#[98]⟩ t2) : Calls Tryz.prog 53 #[twoV kb] w fun e w' => e = .returned (.int .i64 0) ∧ Kept [] w w' := by
  have ha : Some1 ⟨#[97]⟩ := ⟨by rw [ByteArray.toList_eq]; decide⟩
  have hb : Some1 ⟨#[98]⟩ := ⟨by rw [ByteArray.toList_eq]; decide⟩
  have hba : Hid ((⟨#[98]⟩ : ByteArray).toList ≠ (⟨#[97]⟩ : ByteArray).toList) := by
    show _ ≠ _
    rw [ByteArray.toList_eq, ByteArray.toList_eq]; decide
  have hkb0 := Lib.hid hkb
  have HB := Lib.hid (Blk.new w #[.int .i64 2, .string ⟨#[]⟩, .string ⟨#[]⟩, .slice none 0 0, .slice (some ⟨kb, 0, none⟩) 2 2] 62)
  have HK0 := Lib.hid ((Kept.refl [] w).alloc (.cells #[.int .i64 2, .string ⟨#[]⟩, .string ⟨#[]⟩, .slice none 0 0, .slice (some ⟨kb, 0, none⟩) 2 2] 62))
  clear hkb
  go_enter Tryz.func53, Tryz.ntmps53
  go_wp2_with fail
  obtain ⟨w1, hw1⟩ : ∃ w1, w.alloc (.cells #[.int .i64 2, .string ⟨#[]⟩, .string ⟨#[]⟩, .slice none 0 0, .slice (some ⟨kb, 0, none⟩) 2 2] 62) = w1 := ⟨_, rfl⟩
  rw [hw1] at HB HK0 ⊢
  clear hw1
  have HKN := Lib.hid (Kept.refl [] w1)
  obtain ⟨kc0, kc1, kc2, kc3, kc4, kc5, kc6, kc7, kc8, kc9⟩ := KB.cells (hkb0.out.kept (HK0.out.trans HKN.out) (by simp))
  obtain ⟨nc0, nc1, nc2, nc3, nc4⟩ := NB.cells (HB.out.kept HKN.out (by simp))
  refine wp_loop_rounds 3 ?_
  rw [rounds_succ]
  go_wp2_with fail
  refine (binds_leaf _ _ _).mono ?_
  rintro e w5 ⟨rfl, hk5⟩
  have HK5 := Lib.hid hk5
  clear hk5
  obtain ⟨kc0, kc1, kc2, kc3, kc4, kc5, kc6, kc7, kc8, kc9⟩ := KB.cells (hkb0.out.kept (HK0.out.trans HK5.out) (by simp))
  obtain ⟨nc0, nc1, nc2, nc3, nc4⟩ := NB.cells (HB.out.kept HK5.out (by simp))
  go_wp2_with fail
  refine (vars_leaf _ _ ha _).mono ?_
  rintro e w6 ⟨g6, c6, rfl, ho6, hk6⟩
  have HK6 := Lib.hid (HK5.out.trans hk6)
  clear hk6 ho6
  obtain ⟨kc0, kc1, kc2, kc3, kc4, kc5, kc6, kc7, kc8, kc9⟩ := KB.cells (hkb0.out.kept (HK0.out.trans HK6.out) (by simp))
  obtain ⟨nc0, nc1, nc2, nc3, nc4⟩ := NB.cells (HB.out.kept HK6.out (by simp))
  go_wp2_with fail
  refine wp_loop_rounds 1 ?_
  rw [rounds_succ]
  go_wp2_with fail
  rw [rounds_succ]
  go_wp2_with fail
  refine (binds_leaf _ _ _).mono ?_
  rintro e w7 ⟨rfl, hk7⟩
  have HK7 := Lib.hid (HK6.out.trans hk7)
  clear hk7
  obtain ⟨kc0, kc1, kc2, kc3, kc4, kc5, kc6, kc7, kc8, kc9⟩ := KB.cells (hkb0.out.kept (HK0.out.trans HK7.out) (by simp))
  obtain ⟨nc0, nc1, nc2, nc3, nc4⟩ := NB.cells (HB.out.kept HK7.out (by simp))
  go_wp2_with fail
  refine (vars_leaf _ _ hb _).mono ?_
  rintro e w8 ⟨g8, c8, rfl, ho8, hk8⟩
  have HK8 := Lib.hid (HK7.out.trans hk8)
  have HO8 := Lib.hid ho8
  clear hk8 ho8
  obtain ⟨kc0, kc1, kc2, kc3, kc4, kc5, kc6, kc7, kc8, kc9⟩ := KB.cells (hkb0.out.kept (HK0.out.trans HK8.out) (by simp))
  obtain ⟨nc0, nc1, nc2, nc3, nc4⟩ := NB.cells (HB.out.kept HK8.out (by simp))
  go_wp2_with fail
  refine wp_loop_rounds 2 ?_
  rw [rounds_succ]
  go_wp2_with fail
  refine (vars_leaf _ _ ha _).mono ?_
  rintro e w9 ⟨g9, c9, rfl, ho9, hk9⟩
  have HK9 := Lib.hid (HK8.out.trans hk9)
  have d9 := strs_cell ho9 0 _ rfl
  have d8 := hk9.cell (by simp) (strs_cell HO8.out 0 _ rfl)
  clear hk9 ho9
  obtain ⟨kc0, kc1, kc2, kc3, kc4, kc5, kc6, kc7, kc8, kc9⟩ := KB.cells (hkb0.out.kept (HK0.out.trans HK9.out) (by simp))
  obtain ⟨nc0, nc1, nc2, nc3, nc4⟩ := NB.cells (HB.out.kept HK9.out (by simp))
  go_wp2_with fail
  refine wp_loop_rounds 2 ?_
  rw [rounds_succ]
  go_wp2_with fail
  refine (has_one _ _ _ _ hba.out _ d8).mono ?_
  rintro e w10 ⟨rfl, rfl⟩
  go_wp2_with fail
  rw [rounds_succ]
  go_wp2_with fail
  rw [rounds_succ]
  go_wp2_with fail
  rw [rounds_succ]
  go_wp2_with fail
  go_ret
  exact ⟨rfl, HK0.out.trans HK9.out⟩
end Go.Proofs.YtbaifjdealmckaaGreat
