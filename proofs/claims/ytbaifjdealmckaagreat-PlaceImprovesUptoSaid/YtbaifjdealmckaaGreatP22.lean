/- A pattern that may be: a node with two leaves, its nodes, its shape, its variables. -/
import Derived.Test.YtbaifjdealmckaaGreatRows
import Derived.WalkKit
import Derived.WalkSpells
import Derived.WalkLawsBesides
import Derived.Deep.QuietTactic
import Derived.BigQuiet
import Derived.Lib.Hide
import Derived.BigRegion
import Derived.Shelf.Abstract
import Derived.Lib.ConvBytes
import Derived.Deep.RegionHeld3
import Derived.Laws.CopyRow
import Derived.Laws.MakeOwn
import Derived.Deep.AppendLies
import Derived.Deep.RegionLaw
import Derived.Laws.OwnMore
import Derived.Deep.DeepCutAuto
import Derived.StillTailTactics
import Derived.Laws.AppendOwnNone
import Derived.Deep.Slices
import Derived.ProofKit
import Derived.SizedLaws
import Derived.Test.YtbaifjdealmckaaGreatC6
import Derived.Test.YtbaifjdealmckaaGreatP20
import Derived.Test.YtbaifjdealmckaaGreatP21
set_option linter.unusedVariables false
set_option linter.unusedSimpArgs false
set_option linter.unnecessarySimpa false
namespace Go.Proofs.YtbaifjdealmckaaGreat
open Go.RowKit Go.Shelf
attribute [local go_sem] Oper.semAt_some


theorem name_yes (s : ByteArray) (hs : s.size ≤ maxLen) (h : nameV s = true) (w : World) : Calls Tryz.prog 51 #[.string s] w fun e w' => e = .returned (.bool true) ∧ w = w' := by
  have := rname_any s hs w
  rwa [h] at this
structure NameIs (s : ByteArray) : Prop where
  size : s.size ≤ maxLen
  is : nameV s = true

set_option maxRecDepth 100000 in
set_option maxHeartbeats 1000000 in
theorem node_leaf (v t : ByteArray) (hv : NameIs v) (ht : NameIs t) (w : World) : Calls Tryz.prog 82 #[leafV v t] w fun e w' => e = .returned (.int .i64 0) ∧ Kept [] w w' := by
  have HV := Lib.hid (fun W : World => name_yes v hv.size hv.is W)
  have HT := Lib.hid (fun W : World => name_yes t ht.size ht.is W)
  clear hv ht
  go_enter Tryz.func82, Tryz.ntmps82
  go_wp2_with fail
  refine (HV.out _).mono ?_
  rintro e w' ⟨rfl, rfl⟩
  go_wp2_with fail
  refine (HT.out _).mono ?_
  rintro e w' ⟨rfl, rfl⟩
  go_wp2_with fail
  refine wp_loop_rounds 1 ?_
  rw [rounds_succ]
  go_wp2_with fail
  refine wp_loop_rounds 1 ?_
  rw [rounds_succ]
  go_wp2_with fail
  go_ret
  exact ⟨rfl, by (repeat (first | exact Kept.refl _ _ | assumption | refine Kept.drewN ?_ _ | refine Kept.drew ?_ | refine Kept.alloc ?_ _))⟩
set_option maxRecDepth 100000 in
set_option maxHeartbeats 1000000 in
theorem node_two (kb : Nat) (v1 t1 v2 t2 : ByteArray) (h1 : NameIs v1) (h2 : NameIs t1) (h3 : NameIs v2) (h4 : NameIs t2) (w : World) (hkb : KB w kb v1 t1 v2 t2) : Calls Tryz.prog 82 #[twoV kb] w fun e w' => e = .returned (.int .i64 0) ∧ Kept [] w w' := by
  have hkb0 := Lib.hid hkb
  have HB := Lib.hid (Blk.new w #[.int .i64 2, .string ⟨#[]⟩, .string ⟨#[]⟩, .slice none 0 0, .slice (some ⟨kb, 0, none⟩) 2 2] 62)
  have HK0 := Lib.hid ((Kept.refl [] w).alloc (.cells #[.int .i64 2, .string ⟨#[]⟩, .string ⟨#[]⟩, .slice none 0 0, .slice (some ⟨kb, 0, none⟩) 2 2] 62))
  clear hkb
  go_enter Tryz.func82, Tryz.ntmps82
  go_wp2_with fail
  obtain ⟨w1, hw1⟩ : ∃ w1, w.alloc (.cells #[.int .i64 2, .string ⟨#[]⟩, .string ⟨#[]⟩, .slice none 0 0, .slice (some ⟨kb, 0, none⟩) 2 2] 62) = w1 := ⟨_, rfl⟩
  rw [hw1] at HB HK0 ⊢
  clear hw1
  have HKN := Lib.hid (Kept.refl [] w1)
  obtain ⟨kc0, kc1, kc2, kc3, kc4, kc5, kc6, kc7, kc8, kc9⟩ := KB.cells (hkb0.out.kept (HK0.out.trans HKN.out) (by simp))
  obtain ⟨nc0, nc1, nc2, nc3, nc4⟩ := NB.cells (HB.out.kept HKN.out (by simp))
  refine wp_loop_rounds 3 ?_
  rw [rounds_succ]
  go_wp2_with fail
  refine (node_leaf v1 t1 h1 h2 _).mono ?_
  rintro e w5 ⟨rfl, hk5⟩
  have HK5 := Lib.hid hk5
  clear hk5
  obtain ⟨kc0, kc1, kc2, kc3, kc4, kc5, kc6, kc7, kc8, kc9⟩ := KB.cells (hkb0.out.kept (HK0.out.trans HK5.out) (by simp))
  obtain ⟨nc0, nc1, nc2, nc3, nc4⟩ := NB.cells (HB.out.kept HK5.out (by simp))
  go_wp2_with fail
  rw [rounds_succ]
  go_wp2_with fail
  refine (node_leaf v2 t2 h3 h4 _).mono ?_
  rintro e w6 ⟨rfl, hk6⟩
  have HK6 := Lib.hid (HK5.out.trans hk6)
  clear hk6
  obtain ⟨kc0, kc1, kc2, kc3, kc4, kc5, kc6, kc7, kc8, kc9⟩ := KB.cells (hkb0.out.kept (HK0.out.trans HK6.out) (by simp))
  obtain ⟨nc0, nc1, nc2, nc3, nc4⟩ := NB.cells (HB.out.kept HK6.out (by simp))
  go_wp2_with fail
  rw [rounds_succ]
  go_wp2_with fail
  go_ret
  exact ⟨rfl, HK0.out.trans HK6.out⟩
set_option maxRecDepth 100000 in
set_option maxHeartbeats 1000000 in
theorem shape_two (kb : Nat) (v1 t1 v2 t2 : ByteArray) (h1 : NameIs v1) (h2 : NameIs t1) (h3 : NameIs v2) (h4 : NameIs t2) (w : World) (hkb : KB w kb v1 t1 v2 t2) : Calls Tryz.prog 52 #[twoV kb] w fun e w' => e = .returned (.int .i64 0) ∧ Kept [] w w' := by
  have hkb0 := Lib.hid hkb
  have HB := Lib.hid (Blk.new w #[.int .i64 2, .string ⟨#[]⟩, .string ⟨#[]⟩, .slice none 0 0, .slice (some ⟨kb, 0, none⟩) 2 2] 62)
  have HK0 := Lib.hid ((Kept.refl [] w).alloc (.cells #[.int .i64 2, .string ⟨#[]⟩, .string ⟨#[]⟩, .slice none 0 0, .slice (some ⟨kb, 0, none⟩) 2 2] 62))
  clear hkb
  go_enter Tryz.func52, Tryz.ntmps52
  go_wp2_with fail
  obtain ⟨w1, hw1⟩ : ∃ w1, w.alloc (.cells #[.int .i64 2, .string ⟨#[]⟩, .string ⟨#[]⟩, .slice none 0 0, .slice (some ⟨kb, 0, none⟩) 2 2] 62) = w1 := ⟨_, rfl⟩
  rw [hw1] at HB HK0 ⊢
  clear hw1
  have HKN := Lib.hid (Kept.refl [] w1)
  obtain ⟨kc0, kc1, kc2, kc3, kc4, kc5, kc6, kc7, kc8, kc9⟩ := KB.cells (hkb0.out.kept (HK0.out.trans HKN.out) (by simp))
  obtain ⟨nc0, nc1, nc2, nc3, nc4⟩ := NB.cells (HB.out.kept HKN.out (by simp))
  have HQ : Hid (∀ W, Kept [] w1 W → KB W kb v1 t1 v2 t2) := fun W hW => hkb0.out.kept (HK0.out.trans hW) (by simp)
  refine (deep_two _ _ _ _ _ _ (HQ.out _ (by (repeat (first | exact Kept.refl _ _ | assumption | refine Kept.drewN ?_ _ | refine Kept.drew ?_ | refine Kept.alloc ?_ _))))).mono ?_
  rintro e w5 ⟨rfl, hk5⟩
  have HK5 := Lib.hid hk5
  clear hk5
  obtain ⟨kc0, kc1, kc2, kc3, kc4, kc5, kc6, kc7, kc8, kc9⟩ := KB.cells (hkb0.out.kept (HK0.out.trans HK5.out) (by simp))
  obtain ⟨nc0, nc1, nc2, nc3, nc4⟩ := NB.cells (HB.out.kept HK5.out (by simp))
  go_wp2_with fail
  refine (terms_two _ _ _ _ _ _ (HQ.out _ HK5.out)).mono ?_
  rintro e w6 ⟨rfl, hk6⟩
  have HK6 := Lib.hid (HK5.out.trans hk6)
  clear hk6
  obtain ⟨kc0, kc1, kc2, kc3, kc4, kc5, kc6, kc7, kc8, kc9⟩ := KB.cells (hkb0.out.kept (HK0.out.trans HK6.out) (by simp))
  obtain ⟨nc0, nc1, nc2, nc3, nc4⟩ := NB.cells (HB.out.kept HK6.out (by simp))
  go_wp2_with fail
  refine (node_two _ _ _ _ _ h1 h2 h3 h4 _ (HQ.out _ HK6.out)).mono ?_
  rintro e w7 ⟨rfl, hk7⟩
  have HK7 := Lib.hid (HK6.out.trans hk7)
  clear hk7
  obtain ⟨kc0, kc1, kc2, kc3, kc4, kc5, kc6, kc7, kc8, kc9⟩ := KB.cells (hkb0.out.kept (HK0.out.trans HK7.out) (by simp))
  obtain ⟨nc0, nc1, nc2, nc3, nc4⟩ := NB.cells (HB.out.kept HK7.out (by simp))
  go_wp2_with fail
  refine (alts_two _ _ _ _ _ _ (HQ.out _ HK7.out)).mono ?_
  rintro e w8 ⟨rfl, hk8⟩
  have HK8 := Lib.hid (HK7.out.trans hk8)
  clear hk8
  obtain ⟨kc0, kc1, kc2, kc3, kc4, kc5, kc6, kc7, kc8, kc9⟩ := KB.cells (hkb0.out.kept (HK0.out.trans HK8.out) (by simp))
  obtain ⟨nc0, nc1, nc2, nc3, nc4⟩ := NB.cells (HB.out.kept HK8.out (by simp))
  go_wp2_with fail
  go_ret
  exact ⟨rfl, HK0.out.trans HK8.out⟩

theorem has_nil (s : ByteArray) (w : World) : Calls Tryz.prog 84 #[.slice none 0 0, .string s] w fun e w' => e = .returned (.bool false) ∧ w = w' := by
  go_enter Tryz.func84, Tryz.ntmps84
  go_wp2_with fail
  refine wp_loop_rounds 1 ?_
  rw [rounds_succ]
  go_wp2_with fail
  go_ret
  exact ⟨rfl, rfl⟩
theorem has_one (b c : Nat) (s u : ByteArray) (hne : s.toList ≠ u.toList) (w : World) (hc : w.cell? ⟨b, 0, none⟩ = some (.string s)) : Calls Tryz.prog 84 #[.slice (some ⟨b, 0, none⟩) 1 c, .string u] w fun e w' => e = .returned (.bool false) ∧ w = w' := by
  have hne' : (s.toList == u.toList) = false := by rw [beq_eq_false_iff_ne]; exact hne
  clear hne
  go_enter Tryz.func84, Tryz.ntmps84
  go_wp2_with fail
  refine wp_loop_rounds 2 ?_
  rw [rounds_succ]
  go_wp2_with fail
  rw [rounds_succ]
  go_wp2_with fail
  go_ret
  exact ⟨rfl, rfl⟩
/-- A row of texts that the call made. -/
def StrsPost (w : World) (l : List ByteArray) : Ending → World → Prop := fun e w' => ∃ b c, e = .returned (.slice (some ⟨b, 0, none⟩) l.length c) ∧ w'.ownsRow w.heap.size 9 1 (.slice (some ⟨b, 0, none⟩) l.length c) l.length (l.map .string) ∧ Kept [] w w'
theorem infoS : (Tryz.prog.info? 9).map (fun i => (i.zero, i.size, i.bytes)) = some (some (.string { data := #[] }), 1, 16) := by kernel_rfl
theorem own_some {w : World} {base : Nat} {e : TypeId} {z n : Nat} {v : Value} {xs : List Value} (h : w.ownsRow base e z v n xs) (hn : 0 < n) : ∃ g c, v = .slice (some ⟨g, 0, none⟩) n c ∧ n ≤ c ∧ c ≤ maxLen := by
  rcases h.2 with ⟨_, h0⟩ | ⟨g, cap, cur, rfl, _, _, h4, h5, _⟩
  · omega
  · exact ⟨g, cap, rfl, by omega, by omega⟩
theorem cell_at1 (w : World) (b : Nat) (x : Value) (t : TypeId) (hb : b = w.heap.size) : ∀ j u, [x][j]? = some u → (w.alloc (.cells #[x] t)).cell? ((⟨b, 0, none⟩ : Addr).add j) = some u := by
  have := cells_at8 w b #[x] t hb
  simpa using this
set_option maxRecDepth 100000 in
set_option maxHeartbeats 1000000 in
theorem put_nil (s : ByteArray) (w : World) : Calls Tryz.prog 85 #[.slice none 0 0, .string s] w (StrsPost w [s]) := by
  obtain ⟨i0, hi0, hz0, hz1, hz2⟩ := info_parts infoS
  have HH := Lib.hid (fun W => has_nil s W)
  go_enter Tryz.func85, Tryz.ntmps85
  go_wp2_with fail
  refine (HH.out _).mono ?_
  rintro e w' ⟨rfl, rfl⟩
  go_wp2_with fail
  refine wp_loop_rounds 1 ?_
  rw [rounds_succ]
  go_wp2_with (first
    | (at_builtin; refine wpList_append_own_none rfl (.tmp 25) (.tmp 28) 110 rfl w.heap.size 9 i0 1 Tryz.underlying110 hi0 (.slice none 0 0) 0 [] rfl (World.ownsRow_nil _ _ _ _) rfl ?_)
    | (at_builtin; refine wpList_append_own_at _ rfl (.tmp 29) (.tmp 31) 110 rfl w.heap.size 9 i0 (.string { data := #[] }) 1 16 Tryz.underlying110 hi0 hz0 hz1 hz2 rfl (by decide) (.slice none 0 0) 0 [] rfl (World.ownsRow_nil _ _ _ _) ⟨w.heap.size, 0, none⟩ 1 1 [.string s] rfl rfl (cell_at1 _ _ _ _ rfl) (by simp [Value.oneCell']) (by unfold maxLen; omega) (by omega) (by simp) ?_; intro v1 w1 hown1 hgrow1 _ _; obtain ⟨g1, c1, rfl, hc1, hc2⟩ := own_some hown1 (by omega))
    | (at_builtin; refine wpList_append_own_none rfl (.tmp 33) (.tmp 36) 110 rfl w.heap.size 9 i0 1 Tryz.underlying110 hi0 (.slice (some ⟨g1, 0, none⟩) 1 c1) 1 [.string s] rfl hown1 rfl ?_))
  go_ret
  exact ⟨g1, c1, rfl, hown1, (((Kept.refl [] w).alloc _)).grown hgrow1 (by simp [Value.ownBlock])⟩
set_option maxRecDepth 100000 in
set_option maxHeartbeats 1000000 in
theorem put_ab (b c : Nat) (w : World) (hc1 : 1 ≤ c) (hc2 : c ≤ maxLen) (hcell : w.cell? ⟨b, 0, none⟩ = some (.string ⟨#[97]⟩)) : Calls Tryz.prog 85 #[.slice (some ⟨b, 0, none⟩) 1 c, .string ⟨#[98]⟩] w (StrsPost w [⟨#[97]⟩, ⟨#[98]⟩]) := by
  obtain ⟨i0, hi0, hz0, hz1, hz2⟩ := info_parts infoS
  have HH := Lib.hid (has_one b c ⟨#[97]⟩ ⟨#[98]⟩ (by rw [ByteArray.toList_eq, ByteArray.toList_eq]; decide) w hcell)
  unfold maxLen at hc2
  go_enter Tryz.func85, Tryz.ntmps85
  go_wp2_with fail
  refine HH.out.mono ?_
  rintro e w' ⟨rfl, rfl⟩
  go_wp2_with fail
  refine wp_loop_rounds 2 ?_
  rw [rounds_succ]
  go_wp2_with fail
  rw [rounds_succ]
  have HC1 : Hid (∀ j u, [Value.string ⟨#[97]⟩][j]? = some u → w.cell? ((⟨b, 0, none⟩ : Addr).add j) = some u) := by
    intro j u hu
    match j with
    | 0 =>
      simp at hu
      subst hu
      simpa [Addr.add] using hcell
    | j + 1 => simp at hu
  by_cases hc : c = 1
  all_goals
    first | subst hc | have hc0 : 1 < c := by omega
    go_wp2_with (first
      | (at_builtin; refine wpList_append_own_at _ rfl (.tmp 25) (.tmp 28) 110 rfl w.heap.size 9 i0 (.string { data := #[] }) 1 16 Tryz.underlying110 hi0 hz0 hz1 hz2 rfl (by decide) (.slice none 0 0) 0 [] rfl (World.ownsRow_nil _ _ _ _) ⟨b, 0, none⟩ 1 _ [.string ⟨#[97]⟩] rfl rfl HC1.out (by simp [Value.oneCell']) (by unfold maxLen; omega) (by omega) (by simp) ?_; intro v1 w1 hown1 hgrow1 _ _; obtain ⟨g1, c1, rfl, hd1, hd2⟩ := own_some hown1 (by omega); have hs1 := hgrow1.size)
      | (at_builtin; refine wpList_append_own_at _ rfl (.tmp 29) (.tmp 31) 110 rfl w.heap.size 9 i0 (.string { data := #[] }) 1 16 Tryz.underlying110 hi0 hz0 hz1 hz2 rfl (by decide) (.slice (some ⟨g1, 0, none⟩) 1 c1) 1 [.string ⟨#[97]⟩] rfl (hown1.alloc _) ⟨w1.heap.size, 0, none⟩ 1 1 [.string ⟨#[98]⟩] rfl rfl (cell_at1 _ _ _ _ rfl) (by simp [Value.oneCell']) (by unfold maxLen; omega) (by omega) (by simp; omega) ?_; intro v2 w2 hown2 hgrow2 _ _; obtain ⟨g2, c2, rfl, he1, he2⟩ := own_some hown2 (by omega); have hs2 := hgrow2.size))
    go_ret
    exact ⟨g2, c2, rfl, hown2, (((Kept.refl [] w).grown hgrow1 (by simp [Value.ownBlock])).alloc _).grown hgrow2 (fun k hk => .inr (hown1.lt k hk).1)⟩
end Go.Proofs.YtbaifjdealmckaaGreat
