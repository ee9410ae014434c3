/- A pattern's plan, made as the document says: a node with its conditions becomes an operator; a leaf. -/
import Derived.Laws.OwnMore
import Derived.Laws.MakeOwn
import Derived.Test.YtbaifjdealmckaaGreatRows
import Derived.WalkKit
import Derived.WalkSpells
import Derived.WalkLawsBesides
import Derived.Deep.QuietTactic
import Derived.BigQuiet
import Derived.Lib.Hide
import Derived.BigRegion
import Derived.Shelf.Abstract
import Derived.Lib.ConvBytes
import Derived.Deep.RegionHeld3
import Derived.Laws.CopyRow
import Derived.Deep.AppendLies
import Derived.Deep.RegionLaw
import Derived.StillTailTactics
import Derived.Laws.AppendOwnNone
import Derived.Deep.Slices
import Derived.ProofKit
import Derived.SizedLaws
import Derived.Test.YtbaifjdealmckaaGreatP18
set_option linter.unusedVariables false
set_option linter.unusedSimpArgs false
set_option linter.unnecessarySimpa false
namespace Go.Proofs.YtbaifjdealmckaaGreat
open Go.RowKit Go.Shelf
attribute [local go_sem] Oper.semAt_some


theorem kind1 (w : World) : Calls Tryz.prog 56 #[.int .i64 1] w fun e w' => e = .returned (.int .i64 1) ∧ w = w' := by
  go_enter Tryz.func56, Tryz.ntmps56
  go_wp2
  go_ret
  exact ⟨rfl, rfl⟩
theorem kind2 (w : World) : Calls Tryz.prog 56 #[.int .i64 2] w fun e w' => e = .returned (.int .i64 2) ∧ w = w' := by
  go_enter Tryz.func56, Tryz.ntmps56
  go_wp2
  go_ret
  exact ⟨rfl, rfl⟩

theorem PA.keep {B : Nat} {N : Nat → Prop} {w w' : World} {xb : Nat} {ops : List BareD} {rows : List (List Int)} (h : PA B N w xb ops rows) (hk : Kept [] w w') : PA B N w' xb ops rows := by
  obtain ⟨ov, fv, fs, hB, hov, hfv, hfl, hfs, hfn⟩ := h
  exact ⟨ov, fv, fs, hB.kept hk (by simp), ownsRow_keep hov hk (by simp), ownsRow_keep hfv hk (by simp), hfl, fun i v row hv hr => ownsRow_keep (hfs i v row hv hr) hk (by simp), hfn⟩
theorem PA.lt {B : Nat} {N : Nat → Prop} {w : World} {xb : Nat} {ops : List BareD} {rows : List (List Int)} (h : PA B N w xb ops rows) : xb < w.heap.size := by
  obtain ⟨ov, fv, fs, hB, _⟩ := h
  exact hB.lt
theorem PA.mono {B : Nat} {N M : Nat → Prop} {w : World} {xb : Nat} {ops : List BareD} {rows : List (List Int)} (h : PA B N w xb ops rows) (hNM : ∀ b, N b → b < w.heap.size → M b) : PA B M w xb ops rows := by
  obtain ⟨ov, fv, fs, hB, hov, hfv, hfl, hfs, hfn⟩ := h
  refine ⟨ov, fv, fs, hB, hov, hfv, hfl, hfs, fun v hv b hb => hNM b (hfn v hv b hb) ?_⟩
  obtain ⟨i, hi, rfl⟩ := List.getElem_of_mem hv
  have := hfs i fs[i] rows[i] (List.getElem?_eq_getElem hi) (List.getElem?_eq_getElem (by omega))
  exact (this.lt b hb).2
theorem PutPost.from {B : Nat} {N : Nat → Prop} {w w1 : World} {xb k : Nat} {ops : List BareD} {rows : List (List Int)} {e : Ending} {w' : World} (hk : KT B xb w w1) (h : PutPost B N w1 xb ops rows k e w') : PutPost B N w xb ops rows k e w' := ⟨h.1, h.2.1, hk.trans h.2.2⟩

set_option maxRecDepth 100000 in
set_option maxHeartbeats 2000000 in
theorem makes_leaf (B : Nat) (N : Nat → Prop) (xb : Nat) (ops : List BareD) (rows : List (List Int)) (v t : ByteArray) (x : Int) (w : World) (hxB : xb < B) (hBw : B ≤ w.heap.size) (hP : PA B N w xb ops rows) (hl : ops.length = rows.length) (hn : ops.length ≤ 8) (hd : ∀ a ∈ ops, differ a (1, v, t, x, 1)) :
    Calls Tryz.prog 34 #[.pointer (some ⟨xb, 0, none⟩), .agg #[.int .i64 1, .string v, .string t, .slice none 0 0, .slice none 0 0], .slice none 0 0, .int .i64 x] w (PutPost B (fun b => N b ∨ w.heap.size ≤ b) w xb (ops ++ [(1, v, t, x, 1)]) (rows ++ [[-1]]) ops.length) := by
  have hxl := hP.lt
  have HPUT : Hid (∀ (W : World) (g : Nat), Kept [] w W → g = W.heap.size → Calls Tryz.prog 35 #[.pointer (some ⟨xb, 0, none⟩), .agg #[.int .i64 1, .string v, .string t, .slice none 0 0, .slice none 0 0, .int .i64 x, .int .i64 1], .slice (some ⟨g, 0, none⟩) 1 1] (W.alloc (.cells #[.int .i64 (-1)] 3)).drew (PutPost B (fun b => N b ∨ w.heap.size ≤ b) w xb (ops ++ [(1, v, t, x, 1)]) (rows ++ [[-1]]) ops.length)) := fun W g hk hg => by
    subst hg
    have hs := hk.size
    have hkd : Kept [] w (W.alloc (.cells #[.int .i64 (-1)] 3)).drew := (hk.alloc _).drew
    have ho : (W.alloc (.cells #[.int .i64 (-1)] 3)).ownsRow B 3 1 (.slice (some ⟨W.heap.size, 0, none⟩) 1 1) 1 [.int .i64 (-1)] := by simpa using World.ownsRow_lit (base := B) (e := 3) (size := 1) W #[.int .i64 (-1)] 1 (by omega) (by unfold maxLen; omega) (by simp)
    exact (put_any B (fun b => N b ∨ w.heap.size ≤ b) xb ops rows (1, v, t, x, 1) [-1] _ _ hxB (by have := hkd.size; omega) ((hP.keep hkd).mono (fun b hb _ => .inl hb)) (fun b hb => .inr (by injection hb with hb; simp at hb; omega)) (ownsRow_keep ho ((Kept.refl [] _).drew) (by simp)) hl hn hd).mono fun e w' h => h.from (KT.of hkd)
  have HB := Lib.hid (Blk.new w #[.int .i64 1, .string v, .string t, .slice none 0 0, .slice none 0 0] 62)
  have HK0 := Lib.hid ((Kept.refl [] w).alloc (.cells #[.int .i64 1, .string v, .string t, .slice none 0 0, .slice none 0 0] 62))
  have hmk : ∀ W : World, (Instr.makeSlice 119 (.int .i64 0) (.int .i64 0)).run Tryz.prog W = .ok (.slice (some ⟨W.heap.size, 0, none⟩) 0 0) (W.alloc (.cells #[] 59)) := fun _ => by kernel_rfl
  clear hP hl hn hd
  go_enter Tryz.func34, Tryz.ntmps34
  go_wp2_with fail
  obtain ⟨w1, hw1⟩ : ∃ w1, w.alloc (.cells #[.int .i64 1, .string v, .string t, .slice none 0 0, .slice none 0 0] 62) = w1 := ⟨_, rfl⟩
  rw [hw1] at HB HK0 ⊢
  have hs1 : w1.heap.size = w.heap.size + 1 := by rw [← hw1]; simp
  clear hw1
  have b0 := HB.out.cell 0
  have b1 := HB.out.cell 1
  have b2 := HB.out.cell 2
  have b3 := HB.out.cell 3
  have b4 := HB.out.cell 4
  simp at b0 b1 b2 b3 b4
  go_region_held3 (fun w' => w'.cell? ⟨w.heap.size, 0, none⟩ = some (.int .i64 1) ∧ w'.cell? ⟨w.heap.size, 1, none⟩ = some (.string v) ∧ w'.cell? ⟨w.heap.size, 2, none⟩ = some (.string t) ∧ w'.cell? ⟨w.heap.size, 3, none⟩ = some (.slice none 0 0) ∧ w'.cell? ⟨w.heap.size, 4, none⟩ = some (.slice none 0 0)) (go_keep) (first | (go_at_call 56; refine (kind1 _).mono ?_; rintro e w' ⟨rfl, rfl⟩))
  all_goals
    go_wp2_with fail
    refine wp_loop_rounds 1 ?_
    rw [rounds_succ]
    go_wp2_with fail
    refine (HPUT.out _ _ (by (repeat (first | exact Kept.refl _ _ | assumption | exact HK0.out | refine Kept.drewN ?_ _ | refine Kept.drew ?_ | refine Kept.alloc ?_ _))) (by (first | rfl | (simp; done) | (simp; omega)))).mono ?_
    rintro e w' ⟨rfl, hpa, hkt⟩
    have HPA := Lib.hid hpa
    have HKT := Lib.hid hkt
    clear hpa hkt
    go_wp2_with fail
    go_ret
    exact ⟨rfl, HPA.out, HKT.out⟩
end Go.Proofs.YtbaifjdealmckaaGreat
