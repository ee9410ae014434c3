/- A pattern's plan, made as the document says: a node with two leaves becomes three operators. -/
import Derived.Deep.DeepCutAuto
import Derived.Test.YtbaifjdealmckaaGreatRows
import Derived.WalkKit
import Derived.WalkSpells
import Derived.WalkLawsBesides
import Derived.Deep.QuietTactic
import Derived.BigQuiet
import Derived.Lib.Hide
import Derived.BigRegion
import Derived.Shelf.Abstract
import Derived.Lib.ConvBytes
import Derived.Deep.RegionHeld3
import Derived.Laws.CopyRow
import Derived.Laws.MakeOwn
import Derived.Deep.AppendLies
import Derived.Deep.RegionLaw
import Derived.Laws.OwnMore
import Derived.StillTailTactics
import Derived.Laws.AppendOwnNone
import Derived.Deep.Slices
import Derived.ProofKit
import Derived.SizedLaws
import Derived.Test.YtbaifjdealmckaaGreatP19
set_option linter.unusedVariables false
set_option linter.unusedSimpArgs false
set_option linter.unnecessarySimpa false
namespace Go.Proofs.YtbaifjdealmckaaGreat
open Go.RowKit Go.Shelf
attribute [local go_sem] Oper.semAt_some


theorem cell_one_at8 (w : World) (b : Nat) (x : Value) (t : TypeId) (hb : b = w.heap.size) : ∀ j u, [x][j]? = some u → (w.alloc (.cells #[x] t)).cell? ((⟨b, 0, none⟩ : Addr).add j) = some u := by
  have := cells_at8 w b #[x] t hb
  simpa using this

/-- All is as it was below B but the plan at xb. -/
structure KL (B xb : Nat) (w w' : World) : Prop where
  os : w'.os = w.os
  tape : w'.tape = w.tape
  output : w'.output = w.output
  size : w.heap.size ≤ w'.heap.size
  low : ∀ k, k < B → k ≠ xb → k < w.heap.size → w'.heap[k]? = w.heap[k]?
theorem KL.of {B xb : Nat} {w w' : World} (h : Kept [] w w') : KL B xb w w' := ⟨h.os, h.tape, h.output, h.size, fun k _ _ hk => h.block k hk (by simp)⟩
theorem KL.of_kt {B xb : Nat} {w w' : World} (h : KT B xb w w') : KL B xb w w' := ⟨h.os, h.tape, h.output, h.size, h.low⟩
theorem KL.trans {B xb : Nat} {a b c : World} (h : KL B xb a b) (k : KL B xb b c) : KL B xb a c :=
  ⟨k.os.trans h.os, k.tape.trans h.tape, k.output.trans h.output, Nat.le_trans h.size k.size, fun i hi hx hs => (k.low i hi hx (Nat.lt_of_lt_of_le hs h.size)).trans (h.low i hi hx hs)⟩
theorem KL.grown {B xb : Nat} {w a b : World} {v : Value} (h : KL B xb w a) (ho : ∀ k, v.ownBlock = some k → B ≤ k) (hg : a.grownBy b v.ownBlock) : KL B xb w b :=
  ⟨hg.os.trans h.os, hg.tape.trans h.tape, hg.output.trans h.output, Nat.le_trans h.size hg.size, fun k hk hx hs => (hg.block k (Nat.lt_of_lt_of_le hs h.size) (fun e => by have := ho k e.symm; omega)).trans (h.low k hk hx hs)⟩
theorem Blk.kl {B xb : Nat} {w w' : World} {b : Nat} {cs : Array Value} {t : TypeId} (h : Blk w b cs t) (k : KL B xb w w') (hb : b < B) (hx : b ≠ xb) : Blk w' b cs t := by
  have hl := h.lt
  unfold Blk at *
  rw [k.low b hb hx hl]; exact h
theorem KT.own' {B xb : Nat} {w w' : World} {v : Value} {n : Nat} {xs : List Value} {e : TypeId} (hxB : xb < B) (h : KT B xb w w') (ho : w.ownsRow B e 1 v n xs) (h1 : e ≠ 88) (h2 : e ≠ 22) : w'.ownsRow B e 1 v n xs := KT.own hxB h ho h1 h2
/-- A row of numbers of the call's own grows: the plan stands. -/
theorem PA.grown {B : Nat} {N : Nat → Prop} {w w' : World} {xb : Nat} {ops : List BareD} {rows : List (List Int)} {v : Value} {n : Nat} {xs : List Value} (h : PA B N w xb ops rows) (hxB : xb < B) (ho : w.ownsRow B 3 1 v n xs) (hN : ∀ b, N b → v.ownBlock ≠ some b) (hg : w.grownBy w' v.ownBlock) : PA B N w' xb ops rows := by
  obtain ⟨ov, fv, fs, hB, hov, hfv, hfl, hfs, hfn⟩ := h
  refine ⟨ov, fv, fs, hB.grown hg (own_ne hxB ho), own_grown hov ho (by decide) hg, own_grown hfv ho (by decide) hg, hfl, fun i u row hu hr => ?_, hfn⟩
  exact ownsRow_keep (hfs i u row hu hr) (grown_kept hg) (fun b hb hm => hN b (hfn u (List.mem_of_getElem? hu) b hb) (by simpa using hm))
theorem own_lower {w : World} {base base' : Nat} {e : TypeId} {z n : Nat} {v : Value} {xs : List Value} (h : w.ownsRow base e z v n xs) (hb : base' ≤ base) : w.ownsRow base' e z v n xs := by
  refine ⟨h.1, ?_⟩
  rcases h.2 with h0 | ⟨g, cap, cur, rfl, h1, h3⟩
  · exact .inl h0
  · exact .inr ⟨g, cap, cur, rfl, by omega, h3⟩
theorem PA.lower {B B' : Nat} {N : Nat → Prop} {w : World} {xb : Nat} {ops : List BareD} {rows : List (List Int)} (h : PA B N w xb ops rows) (hb : B' ≤ B) : PA B' N w xb ops rows := by
  obtain ⟨ov, fv, fs, hB, hov, hfv, hfl, hfs, hfn⟩ := h
  exact ⟨ov, fv, fs, hB, own_lower hov hb, own_lower hfv hb, hfl, fun i v row hv hr => own_lower (hfs i v row hv hr) hb, hfn⟩
theorem KT.finish {B xb : Nat} {w w2 wr w8 : World} (k0 : Kept [] w w2) (h : KL B xb w2 wr) (k : KT B xb wr w8) (hB : w.heap.size ≤ B) : KT w.heap.size xb w w8 := by
  refine ⟨(k.os.trans h.os).trans k0.os, (k.tape.trans h.tape).trans k0.tape, (k.output.trans h.output).trans k0.output, Nat.le_trans k0.size (Nat.le_trans h.size k.size), fun i hi hx hs => ?_, fun i cs t fr hi hx hc _ _ => ?_⟩
  · have s0 := k0.size
    have s1 := h.size
    exact ((k.low i (by omega) hx (by omega)).trans (h.low i (by omega) hx (by omega))).trans (k0.block i hs (by simp))
  · have := (Array.getElem?_eq_some_iff.1 hc).1
    omega
theorem infoI : (Tryz.prog.info? 3).map (fun i => (i.zero, i.size, i.bytes)) = some (some (.int .i64 0), 1, 8) := by kernel_rfl
def twoO (v1 t1 v2 t2 : ByteArray) (k : Nat) : List BareD := [((1 : Int), v1, t1, (5 : Int), (1 : Int)), (1, v2, t2, 5, 1)].take k
def twoR (k : Nat) : List (List Int) := [[(-1 : Int)], [-1]].take k
def twoI (k : Nat) : List Int := [(0 : Int), 1].take k
theorem twoO_len (v1 t1 v2 t2 : ByteArray) {k : Nat} (h : k ≤ 2) : (twoO v1 t1 v2 t2 k).length = k := by simp [twoO]; omega
theorem twoR_len {k : Nat} (h : k ≤ 2) : (twoR k).length = k := by simp [twoR]; omega
theorem twoI_len {k : Nat} (h : k ≤ 2) : (twoI k).length = k := by simp [twoI]; omega


set_option maxRecDepth 100000 in
set_option maxHeartbeats 4000000 in
theorem makes_two (kb xb : Nat) (v1 t1 v2 t2 : ByteArray) (w : World) (hkx : kb < xb) (hkb : Blk w kb #[.int .i64 1, .string v1, .string t1, .slice none 0 0, .slice none 0 0, .int .i64 1, .string v2, .string t2, .slice none 0 0, .slice none 0 0] 62) (hxb : Blk w xb #[.slice none 0 0, .slice none 0 0] 26) (hne : v1.toList ≠ v2.toList) :
    Calls Tryz.prog 34 #[.pointer (some ⟨xb, 0, none⟩), .agg #[.int .i64 2, .string ⟨#[]⟩, .string ⟨#[]⟩, .slice none 0 0, .slice (some ⟨kb, 0, none⟩) 2 2], .slice none 0 0, .int .i64 5] w (PutPost w.heap.size (fun _ => True) w xb [(1, v1, t1, 5, 1), (1, v2, t2, 5, 1), (2, ⟨#[]⟩, ⟨#[]⟩, 5, 2)] [[-1], [-1], [0, 1]] 2) := by
  have hxl := hxb.lt
  obtain ⟨i0, hi0, hz0, hz1, hz2⟩ := info_parts infoI
  have HB := Lib.hid (Blk.new w #[.int .i64 2, .string ⟨#[]⟩, .string ⟨#[]⟩, .slice none 0 0, .slice (some ⟨kb, 0, none⟩) 2 2] 62)
  have HK0 := Lib.hid ((Kept.refl [] w).alloc (.cells #[.int .i64 2, .string ⟨#[]⟩, .string ⟨#[]⟩, .slice none 0 0, .slice (some ⟨kb, 0, none⟩) 2 2] 62))
  have hmk : ∀ W : World, (Instr.makeSlice 119 (.int .i64 2) (.int .i64 2)).run Tryz.prog W = .ok (.slice (some ⟨W.heap.size, 0, none⟩) 2 2) (W.alloc (.cells #[.slice none 0 0, .slice none 0 0] 59)) := fun _ => by kernel_rfl
  have HKB := Lib.hid hkb
  have HXB := Lib.hid hxb
  have HNE := Lib.hid hne
  clear hkb hxb hne
  go_enter Tryz.func34, Tryz.ntmps34
  go_wp2_with fail
  obtain ⟨w1, hw1⟩ : ∃ w1, w.alloc (.cells #[.int .i64 2, .string ⟨#[]⟩, .string ⟨#[]⟩, .slice none 0 0, .slice (some ⟨kb, 0, none⟩) 2 2] 62) = w1 := ⟨_, rfl⟩
  rw [hw1] at HB HK0 ⊢
  have hs1 : w1.heap.size = w.heap.size + 1 := by rw [← hw1]; simp
  clear hw1
  have b0 := HB.out.cell 0
  have b1 := HB.out.cell 1
  have b2 := HB.out.cell 2
  have b3 := HB.out.cell 3
  have b4 := HB.out.cell 4
  simp at b0 b1 b2 b3 b4
  go_upto_region 1 with fail
  go_cut [9] (fun p wx => p = .pointer (some ⟨w.heap.size + 1, 0, none⟩) ∧ wx.heap.size = w.heap.size + 2 ∧ Blk wx (w.heap.size + 1) #[.int .i64 2, .string ⟨#[]⟩, .string ⟨#[]⟩, .slice none 0 0, .slice none 0 0, .int .i64 5, .int .i64 2] 88 ∧ Kept [] w1 wx)
  case first =>
    go_region_held3 (fun w' => w'.cell? ⟨w.heap.size, 0, none⟩ = some (.int .i64 2) ∧ w'.cell? ⟨w.heap.size, 1, none⟩ = some (.string ⟨#[]⟩) ∧ w'.cell? ⟨w.heap.size, 2, none⟩ = some (.string ⟨#[]⟩) ∧ w'.cell? ⟨w.heap.size, 3, none⟩ = some (.slice none 0 0) ∧ w'.cell? ⟨w.heap.size, 4, none⟩ = some (.slice (some ⟨kb, 0, none⟩) 2 2)) (go_keep) (first | (go_at_call 56; refine (kind2 _).mono ?_; rintro e w' ⟨rfl, rfl⟩))
    all_goals
      go_wp2_with fail
      go_meet
      case rel => exact ⟨rfl, by simp [hs1], by rw [← hs1]; exact Blk.new _ _ _, by (repeat (first | exact Kept.refl _ _ | assumption | exact HK0.out | refine Kept.drewN ?_ _ | refine Kept.drew ?_ | refine Kept.alloc ?_ _))⟩
  case rest =>
    obtain ⟨rfl, hcs, hob, hk1⟩ := hcut
    have HOB := Lib.hid hob
    have HKC := Lib.hid (HK0.out.trans hk1)
    have HBC := Lib.hid (HB.out.kept hk1 (by simp))
    have c4 := HBC.out.cell 4
    simp at c4
    obtain ⟨w2, hw2⟩ : ∃ w2, wc.alloc (.cells #[.slice none 0 0, .slice none 0 0] 59) = w2 := ⟨_, rfl⟩
    have hs2 : w2.heap.size = w.heap.size + 3 := by rw [← hw2]; simp [hcs]
    have HDB : Hid (Blk w2 (w.heap.size + 2) #[.slice none 0 0, .slice none 0 0] 59) := by rw [← hw2, ← hcs]; exact Blk.new _ _ _
    have HK2 : Hid (Kept [] wc w2) := by rw [← hw2]; exact (Kept.refl [] wc).alloc _
    have HW2 := Lib.hid hw2
    clear hob hk1 hw2
    go_wp2_with fail
    refine wp_loop_rounds 1 ?_
    rw [rounds_succ]
    go_wp2_with fail
    rw [HW2.out]
    obtain ⟨B, hB⟩ : ∃ B, w2.heap.size = B := ⟨_, rfl⟩
    have HBB := Lib.hid hB
    have hxB : xb < B := by omega
    have hbB : w.heap.size + 3 = B := by omega
    have HBE := Lib.hid hbB
    have hbl : B ≤ w2.heap.size := by omega
    have hnB : w.heap.size + 2 < B := by omega
    have HPA0 : Hid (PA B (fun b => (Value.slice none 0 0).ownBlock ≠ some b) w2 xb [] []) := ⟨_, _, [], HXB.out.kept (HKC.out.trans HK2.out) (by simp), World.ownsRow_nil _ _ _ _, World.ownsRow_nil _ _ _ _, rfl, (fun i v row h => by simp at h), (fun v h => by simp at h)⟩
    have HKB2 := Lib.hid (HKB.out.kept (HKC.out.trans HK2.out) (by simp))
    have HBC2 := Lib.hid (HBC.out.kept HK2.out (by simp))
    have HOB2 := Lib.hid (HOB.out.kept HK2.out (by simp))
    clear hB hbB hcs hs2
    go_loopw [14, 15] (fun v ii wr => ∃ k : Nat, k ≤ 2 ∧ ii = .int .i64 k ∧ wr.ownsRow B 3 1 v k ((twoI k).map (.int .i64)) ∧ PA B (fun b => v.ownBlock ≠ some b) wr xb (twoO v1 t1 v2 t2 k) (twoR k) ∧ KL B xb w2 wr) (fun _ ii _ => 2 - (intOf ii).toNat)
    case atStart => exact ⟨0, by omega, rfl, World.ownsRow_nil _ _ _ _, HPA0.out, KL.of (Kept.refl _ _)⟩
    case round =>
      obtain ⟨k, hk, rfl, hown, hpa, hkl⟩ := hrel
      obtain ⟨A, c, rfl⟩ := own_len hown
      have HPA := Lib.hid hpa
      have HKL := Lib.hid hkl
      have HOWN := Lib.hid hown
      have hbr : B ≤ wr.heap.size := Nat.le_trans hbl hkl.size
      clear hown hpa hkl
      have HKB3 := Lib.hid (HKB2.out.kl HKL.out (by omega) (by omega))
      have HBC3 := Lib.hid (HBC2.out.kl HKL.out (by omega) (by omega))
      have HOB3 := Lib.hid (HOB2.out.kl HKL.out (by omega) (by omega))
      have HDB3 := Lib.hid (HDB.out.kl HKL.out (by omega) (by omega))
      have c4 := HBC3.out.cell 4
      simp at c4
      by_cases hlt : k < 2
      · have HAPP : Hid (∀ w5, KT B xb wr w5 → ∀ W, Kept [] w5 W → W.ownsRow B 3 1 (.slice A k c) k ((twoI k).map (.int .i64))) := fun w5 h5 W hW => ownsRow_keep (KT.own hxB h5 HOWN.out (by decide) (by decide)) hW (by simp)
        have HOB1 : Hid (∀ b, (Value.slice A k c).ownBlock = some b → B ≤ b) := fun b hb => (HOWN.out.lt b hb).1
        have hk01 : k = 0 ∨ k = 1 := by omega
        clear hlt hk
        rcases hk01 with hk0 | hk0
        · subst hk0
          have HLEAF : Hid (∀ W, Kept [] wr W → Calls Tryz.prog 34 #[.pointer (some ⟨xb, 0, none⟩), .agg #[.int .i64 1, .string v1, .string t1, .slice none 0 0, .slice none 0 0], .slice none 0 0, .int .i64 5] W (PutPost B (fun b => (Value.slice A 0 c).ownBlock ≠ some b) wr xb (twoO v1 t1 v2 t2 (0 + 1)) (twoR (0 + 1)) 0)) := fun W hW => by
            have h1 := makes_leaf B _ xb _ _ v1 t1 5 W hxB (by have := hW.size; omega) (HPA.out.keep hW) (by rfl) (by rw [twoO_len _ _ _ _ (by omega)]; omega) (by first | (intro a ha; simp [twoO] at ha; done) | (intro a ha; simp [twoO] at ha; subst ha; exact .inr ⟨rfl, HNE.out⟩))
            refine h1.mono fun e w' h => ⟨h.1, (h.2.1.mono (fun b hb _ => ?_)), (KT.of hW).trans h.2.2⟩
            rcases hb with hb | hb
            · exact hb
            · intro hc
              have := (HOWN.out.lt b hc).2
              have := hW.size
              omega
          have HS : Hid (∀ W, KL B xb wr W → W.cell? ⟨w.heap.size, 4, none⟩ = some (.slice (some ⟨kb, 0, none⟩) 2 2) ∧ W.cell? ⟨kb, 0, none⟩ = some (.int .i64 1) ∧ W.cell? ⟨kb, 1, none⟩ = some (.string v1) ∧ W.cell? ⟨kb, 2, none⟩ = some (.string t1) ∧ W.cell? ⟨kb, 3, none⟩ = some (.slice none 0 0) ∧ W.cell? ⟨kb, 4, none⟩ = some (.slice none 0 0) ∧ W.cell? ⟨w.heap.size + 2, 0, none⟩ = some (.slice none 0 0)) := fun W hW => by
            have q1 := HKB3.out.kl hW (by omega) (by omega)
            have q2 := HBC3.out.kl hW (by omega) (by omega)
            have q3 := HDB3.out.kl hW (by omega) (by omega)
            exact ⟨(q2.cell 4).trans rfl, (q1.cell 0).trans rfl, (q1.cell 1).trans rfl, (q1.cell 2).trans rfl, (q1.cell 3).trans rfl, (q1.cell 4).trans rfl, (q3.cell 0).trans rfl⟩
          go_wp2_with fail
          go_region_held3 (fun w' => w'.cell? ⟨w.heap.size, 4, none⟩ = some (.slice (some ⟨kb, 0, none⟩) 2 2) ∧ w'.cell? ⟨kb, 0, none⟩ = some (.int .i64 1) ∧ w'.cell? ⟨kb, 1, none⟩ = some (.string v1) ∧ w'.cell? ⟨kb, 2, none⟩ = some (.string t1) ∧ w'.cell? ⟨kb, 3, none⟩ = some (.slice none 0 0) ∧ w'.cell? ⟨kb, 4, none⟩ = some (.slice none 0 0) ∧ w'.cell? ⟨w.heap.size + 2, 0, none⟩ = some (.slice none 0 0)) (first | (refine HS.out _ ?_; (repeat (first | exact KL.of (Kept.refl _ _) | assumption | refine KL.trans ?_ (KL.of ((Kept.refl _ _).drewN _)) | refine KL.trans ?_ (KL.of (Kept.refl _ _).drew) | refine KL.trans ?_ (KL.of ((Kept.refl _ _).alloc _)))); done) | (refine HS.out _ (KL.grown ?_ HOB1.out hgrow7); (repeat (first | exact KL.of (Kept.refl _ _) | assumption | refine KL.trans ?_ (KL.of ((Kept.refl _ _).drewN _)) | refine KL.trans ?_ (KL.of (Kept.refl _ _).drew) | refine KL.trans ?_ (KL.of ((Kept.refl _ _).alloc _)))); done)) (first
            | (go_at_call 34; refine (HLEAF.out _ (by (repeat (first | exact Kept.refl _ _ | assumption | exact HK0.out | refine Kept.drewN ?_ _ | refine Kept.drew ?_ | refine Kept.alloc ?_ _)))).mono ?_; rintro e w5 ⟨rfl, hpa5, hkt5⟩; have hkl5 : KL B xb wr w5 := KL.of_kt hkt5)
            | (refine step_guard8 _ _ 22 (by rfl) ?_; refine step_append_lies _ (by rfl) _ _ 22 (by rfl) B 3 i0 (.int .i64 0) 1 8 Tryz.underlying22 hi0 hz0 hz1 hz2 (by rfl) (by decide) (.slice A 0 c) 0 ((twoI 0).map (.int .i64)) (by rfl) (HAPP.out _ hkt5 _ (by (repeat (first | exact Kept.refl _ _ | assumption | exact HK0.out | refine Kept.drewN ?_ _ | refine Kept.drew ?_ | refine Kept.alloc ?_ _)))) ⟨w5.heap.size, 0, none⟩ 1 1 [.int .i64 0] (by rfl) (by rfl) (by (repeat (first | exact cell_one_at8 _ _ _ _ (by (first | rfl | (simp; done) | (simp; omega))) | refine cells_drew8 ?_ | refine cells_drewN8 ?_))) (by simp [Value.oneCell']) (by decide) (by unfold maxLen; omega) (by omega) (by have := hkl5.size; simp; omega) (w5.heap.size + 1) (by (first | rfl | (simp; done) | (simp; omega))) ?_; intro gg cap w7 hown7 hgrow7 hat7 hlt7))
          all_goals
            have HROW : Hid (w7.ownsRow B 3 1 (.slice (some ⟨gg, 0, none⟩) (0 + 1) cap) (0 + 1) ((twoI (0 + 1)).map (.int .i64))) := hown7
            have HKL7 : Hid (KL B xb w2 w7) := HKL.out.trans (KL.grown (by (repeat (first | exact KL.of (Kept.refl _ _) | assumption | refine KL.trans ?_ (KL.of ((Kept.refl _ _).drewN _)) | refine KL.trans ?_ (KL.of (Kept.refl _ _).drew) | refine KL.trans ?_ (KL.of ((Kept.refl _ _).alloc _))))) HOB1.out hgrow7)
            have HPA7 : Hid (PA B (fun b => (Value.slice (some ⟨gg, 0, none⟩) (0 + 1) cap).ownBlock ≠ some b) w7 xb (twoO v1 t1 v2 t2 (0 + 1)) (twoR (0 + 1))) := by
              refine PA.mono (PA.grown (N := fun b => (Value.slice A 0 c).ownBlock ≠ some b ∧ (Value.slice (some ⟨gg, 0, none⟩) (0 + 1) cap).ownBlock ≠ some b) (PA.keep (PA.mono hpa5 (fun b hb hlt => ⟨hb, fun h => ?_⟩)) (by (repeat (first | exact Kept.refl _ _ | assumption | exact HK0.out | refine Kept.drewN ?_ _ | refine Kept.drew ?_ | refine Kept.alloc ?_ _)))) hxB (HAPP.out _ hkt5 _ (by (repeat (first | exact Kept.refl _ _ | assumption | exact HK0.out | refine Kept.drewN ?_ _ | refine Kept.drew ?_ | refine Kept.alloc ?_ _)))) (fun b hb => hb.1) hgrow7) (fun b hb _ => hb.2)
              injection h with h
              simp at h
              subst h
              rcases hat7 with h | h
              · exact hb h
              · omega
            clear hown7 hgrow7 hat7 hlt7 hpa5
            go_wp2_with fail
            go_roundw
            case rel => exact ⟨0 + 1, by omega, by go_num, HROW.out, HPA7.out, HKL7.out⟩
            case measure => simp [intOf]
        · subst hk0
          have HLEAF : Hid (∀ W, Kept [] wr W → Calls Tryz.prog 34 #[.pointer (some ⟨xb, 0, none⟩), .agg #[.int .i64 1, .string v2, .string t2, .slice none 0 0, .slice none 0 0], .slice none 0 0, .int .i64 5] W (PutPost B (fun b => (Value.slice A 1 c).ownBlock ≠ some b) wr xb (twoO v1 t1 v2 t2 (1 + 1)) (twoR (1 + 1)) 1)) := fun W hW => by
            have h1 := makes_leaf B _ xb _ _ v2 t2 5 W hxB (by have := hW.size; omega) (HPA.out.keep hW) (by rfl) (by rw [twoO_len _ _ _ _ (by omega)]; omega) (by first | (intro a ha; simp [twoO] at ha; done) | (intro a ha; simp [twoO] at ha; subst ha; exact .inr ⟨rfl, HNE.out⟩))
            refine h1.mono fun e w' h => ⟨h.1, (h.2.1.mono (fun b hb _ => ?_)), (KT.of hW).trans h.2.2⟩
            rcases hb with hb | hb
            · exact hb
            · intro hc
              have := (HOWN.out.lt b hc).2
              have := hW.size
              omega
          have HS : Hid (∀ W, KL B xb wr W → W.cell? ⟨w.heap.size, 4, none⟩ = some (.slice (some ⟨kb, 0, none⟩) 2 2) ∧ W.cell? ⟨kb, 5, none⟩ = some (.int .i64 1) ∧ W.cell? ⟨kb, 6, none⟩ = some (.string v2) ∧ W.cell? ⟨kb, 7, none⟩ = some (.string t2) ∧ W.cell? ⟨kb, 8, none⟩ = some (.slice none 0 0) ∧ W.cell? ⟨kb, 9, none⟩ = some (.slice none 0 0) ∧ W.cell? ⟨w.heap.size + 2, 1, none⟩ = some (.slice none 0 0)) := fun W hW => by
            have q1 := HKB3.out.kl hW (by omega) (by omega)
            have q2 := HBC3.out.kl hW (by omega) (by omega)
            have q3 := HDB3.out.kl hW (by omega) (by omega)
            exact ⟨(q2.cell 4).trans rfl, (q1.cell 5).trans rfl, (q1.cell 6).trans rfl, (q1.cell 7).trans rfl, (q1.cell 8).trans rfl, (q1.cell 9).trans rfl, (q3.cell 1).trans rfl⟩
          go_wp2_with fail
          go_region_held3 (fun w' => w'.cell? ⟨w.heap.size, 4, none⟩ = some (.slice (some ⟨kb, 0, none⟩) 2 2) ∧ w'.cell? ⟨kb, 5, none⟩ = some (.int .i64 1) ∧ w'.cell? ⟨kb, 6, none⟩ = some (.string v2) ∧ w'.cell? ⟨kb, 7, none⟩ = some (.string t2) ∧ w'.cell? ⟨kb, 8, none⟩ = some (.slice none 0 0) ∧ w'.cell? ⟨kb, 9, none⟩ = some (.slice none 0 0) ∧ w'.cell? ⟨w.heap.size + 2, 1, none⟩ = some (.slice none 0 0)) (first | (refine HS.out _ ?_; (repeat (first | exact KL.of (Kept.refl _ _) | assumption | refine KL.trans ?_ (KL.of ((Kept.refl _ _).drewN _)) | refine KL.trans ?_ (KL.of (Kept.refl _ _).drew) | refine KL.trans ?_ (KL.of ((Kept.refl _ _).alloc _)))); done) | (refine HS.out _ (KL.grown ?_ HOB1.out hgrow7); (repeat (first | exact KL.of (Kept.refl _ _) | assumption | refine KL.trans ?_ (KL.of ((Kept.refl _ _).drewN _)) | refine KL.trans ?_ (KL.of (Kept.refl _ _).drew) | refine KL.trans ?_ (KL.of ((Kept.refl _ _).alloc _)))); done)) (first
            | (go_at_call 34; refine (HLEAF.out _ (by (repeat (first | exact Kept.refl _ _ | assumption | exact HK0.out | refine Kept.drewN ?_ _ | refine Kept.drew ?_ | refine Kept.alloc ?_ _)))).mono ?_; rintro e w5 ⟨rfl, hpa5, hkt5⟩; have hkl5 : KL B xb wr w5 := KL.of_kt hkt5)
            | (refine step_guard8 _ _ 22 (by rfl) ?_; refine step_append_lies _ (by rfl) _ _ 22 (by rfl) B 3 i0 (.int .i64 0) 1 8 Tryz.underlying22 hi0 hz0 hz1 hz2 (by rfl) (by decide) (.slice A 1 c) 1 ((twoI 1).map (.int .i64)) (by rfl) (HAPP.out _ hkt5 _ (by (repeat (first | exact Kept.refl _ _ | assumption | exact HK0.out | refine Kept.drewN ?_ _ | refine Kept.drew ?_ | refine Kept.alloc ?_ _)))) ⟨w5.heap.size, 0, none⟩ 1 1 [.int .i64 1] (by rfl) (by rfl) (by (repeat (first | exact cell_one_at8 _ _ _ _ (by (first | rfl | (simp; done) | (simp; omega))) | refine cells_drew8 ?_ | refine cells_drewN8 ?_))) (by simp [Value.oneCell']) (by decide) (by unfold maxLen; omega) (by omega) (by have := hkl5.size; simp; omega) (w5.heap.size + 1) (by (first | rfl | (simp; done) | (simp; omega))) ?_; intro gg cap w7 hown7 hgrow7 hat7 hlt7))
          all_goals
            have HROW : Hid (w7.ownsRow B 3 1 (.slice (some ⟨gg, 0, none⟩) (1 + 1) cap) (1 + 1) ((twoI (1 + 1)).map (.int .i64))) := hown7
            have HKL7 : Hid (KL B xb w2 w7) := HKL.out.trans (KL.grown (by (repeat (first | exact KL.of (Kept.refl _ _) | assumption | refine KL.trans ?_ (KL.of ((Kept.refl _ _).drewN _)) | refine KL.trans ?_ (KL.of (Kept.refl _ _).drew) | refine KL.trans ?_ (KL.of ((Kept.refl _ _).alloc _))))) HOB1.out hgrow7)
            have HPA7 : Hid (PA B (fun b => (Value.slice (some ⟨gg, 0, none⟩) (1 + 1) cap).ownBlock ≠ some b) w7 xb (twoO v1 t1 v2 t2 (1 + 1)) (twoR (1 + 1))) := by
              refine PA.mono (PA.grown (N := fun b => (Value.slice A 1 c).ownBlock ≠ some b ∧ (Value.slice (some ⟨gg, 0, none⟩) (1 + 1) cap).ownBlock ≠ some b) (PA.keep (PA.mono hpa5 (fun b hb hlt => ⟨hb, fun h => ?_⟩)) (by (repeat (first | exact Kept.refl _ _ | assumption | exact HK0.out | refine Kept.drewN ?_ _ | refine Kept.drew ?_ | refine Kept.alloc ?_ _)))) hxB (HAPP.out _ hkt5 _ (by (repeat (first | exact Kept.refl _ _ | assumption | exact HK0.out | refine Kept.drewN ?_ _ | refine Kept.drew ?_ | refine Kept.alloc ?_ _)))) (fun b hb => hb.1) hgrow7) (fun b hb _ => hb.2)
              injection h with h
              simp at h
              subst h
              rcases hat7 with h | h
              · exact hb h
              · omega
            clear hown7 hgrow7 hat7 hlt7 hpa5
            go_wp2_with fail
            go_roundw
            case rel => exact ⟨1 + 1, by omega, by go_num, HROW.out, HPA7.out, HKL7.out⟩
            case measure => simp [intOf]
      · have hk2 : k = 2 := by omega
        subst hk2
        have HPUT : Hid (Calls Tryz.prog 35 #[.pointer (some ⟨xb, 0, none⟩), .agg #[.int .i64 2, .string ⟨#[]⟩, .string ⟨#[]⟩, .slice none 0 0, .slice none 0 0, .int .i64 5, .int .i64 2], .slice A 2 c] wr (PutPost B (fun _ => True) wr xb [(1, v1, t1, 5, 1), (1, v2, t2, 5, 1), (2, ⟨#[]⟩, ⟨#[]⟩, 5, 2)] [[-1], [-1], [0, 1]] 2)) := by
          have := put_any B (fun _ => True) xb (twoO v1 t1 v2 t2 2) (twoR 2) (2, ⟨#[]⟩, ⟨#[]⟩, 5, 2) [0, 1] (.slice A 2 c) wr hxB hbr (HPA.out.mono (fun _ _ _ => trivial)) (fun _ _ => trivial) HOWN.out (by rfl) (by rw [twoO_len _ _ _ _ (by omega)]; omega) (by
            intro a ha
            simp [twoO] at ha
            rcases ha with ha | ha <;> (subst ha; exact .inl (by simp)))
          exact this
        have o0 := HOB3.out.cell 0
        have o1 := HOB3.out.cell 1
        have o2 := HOB3.out.cell 2
        have o3 := HOB3.out.cell 3
        have o4 := HOB3.out.cell 4
        have o5 := HOB3.out.cell 5
        have o6 := HOB3.out.cell 6
        simp at o0 o1 o2 o3 o4 o5 o6
        go_wp2_with fail
        refine HPUT.out.mono ?_
        rintro e w8 ⟨rfl, hpa8, hkt8⟩
        have HPA8 := Lib.hid (hpa8.lower (B' := w.heap.size) (by omega))
        have HKT8 := Lib.hid (KT.finish (HKC.out.trans HK2.out) HKL.out hkt8 (by omega))
        clear hpa8 hkt8
        go_wp2_with fail
        go_ret
        exact ⟨rfl, HPA8.out, HKT8.out⟩
end Go.Proofs.YtbaifjdealmckaaGreat
