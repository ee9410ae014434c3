/- A pattern of two terms, one behind the other: what the document makes of it. -/
import Derived.Test.YtbaifjdealmckaaGreatRows
import Derived.WalkKit
import Derived.WalkSpells
import Derived.WalkLawsBesides
import Derived.Deep.QuietTactic
import Derived.BigQuiet
import Derived.Lib.Hide
import Derived.BigRegion
import Derived.Shelf.Abstract
import Derived.Lib.ConvBytes
import Derived.Deep.RegionHeld3
import Derived.Laws.CopyRow
import Derived.Laws.MakeOwn
import Derived.Deep.AppendLies
import Derived.Deep.RegionLaw
import Derived.Laws.OwnMore
import Derived.Deep.DeepCutAuto
import Derived.StillTailTactics
import Derived.Laws.AppendOwnNone
import Derived.Deep.Slices
import Derived.ProofKit
import Derived.SizedLaws
import Derived.Test.YtbaifjdealmckaaGreatP17
import Derived.Test.YtbaifjdealmckaaGreatP23
set_option linter.unusedVariables false
set_option linter.unusedSimpArgs false
set_option linter.unnecessarySimpa false
namespace Go.Proofs.YtbaifjdealmckaaGreat
open Go.RowKit Go.Shelf
attribute [local go_sem] Oper.semAt_some


/-- A row of elements that the call made is read as such. -/
theorem Rds.of_own {α : Type} {d : Rk α} {w : World} {base : Nat} {e : TypeId} {v : Value} {xs : List Value} {l : List α} (h : w.ownsRow base e d.sz v l.length xs) (hd : 0 < d.sz)
    (hx : ∀ i x, l[i]? = some x → ∃ cs, d.K w x cs ∧ ∀ j, j < d.sz → xs[i * d.sz + j]? = cs[j]?) : Rds d w v l := by
  rcases h.2 with ⟨rfl, h0⟩ | ⟨g, cap, cur, rfl, _, hb, h4, h5, _, _⟩
  · have hl : l = [] := List.eq_nil_of_length_eq_zero h0
    subst hl
    exact ⟨none, 0, rfl, Nat.le_refl _, by unfold maxLen; omega, fun _ => ⟨rfl, rfl⟩, fun h => absurd rfl h⟩
  · refine ⟨some ⟨g, 0, none⟩, cap, rfl, by omega, by omega, (fun h => by cases h), fun _ => ⟨g, 0, rfl, fun i x hi => ?_⟩⟩
    obtain ⟨cs, hK, hc⟩ := hx i x hi
    refine ⟨cs, hK, fun j hj => ?_⟩
    have hj' : j < cs.length := by rw [d.len hK]; exact hj
    have := hc j hj
    rw [List.getElem?_eq_getElem hj'] at this ⊢
    have hcell := h.cells (g := g) rfl _ _ this
    have ha : (⟨g, 0, none⟩ : Addr).add (i * d.sz + j) = ⟨g, 0 + i * d.sz + j, none⟩ := by unfold Addr.add; split <;> simp_all
    rwa [ha] at hcell

def bareD (o : BareD) : OpD := (o.1, (o.2.1, (o.2.2.1, ([], ([], (o.2.2.2.1, o.2.2.2.2))))))
structure BareOk (o : BareD) : Prop where
  k : (Lit.int .i64 o.1).wf = true
  v : o.2.1.size ≤ maxLen
  t : o.2.2.1.size ≤ maxLen
  x : (Lit.int .i64 o.2.2.2.1).wf = true
  i : (Lit.int .i64 o.2.2.2.2).wf = true
theorem Rds.nil {α : Type} (d : Rk α) (w : World) : Rds d w (.slice none 0 0) [] := ⟨none, 0, rfl, Nat.le_refl _, by unfold maxLen; omega, fun _ => ⟨rfl, rfl⟩, fun h => absurd rfl h⟩
theorem bare_reads (w : World) (o : BareD) (h : BareOk o) : opR.K w (bareD o) (bareC o) :=
  ⟨[_], _, rfl, ⟨rfl, h.k⟩, [_], _, rfl, ⟨rfl, h.v⟩, [_], _, rfl, ⟨rfl, h.t⟩, [_], _, rfl, Rds.nil _ _, [_], _, rfl, Rds.nil _ _, [_], [_], rfl, ⟨rfl, h.x⟩, ⟨rfl, h.i⟩⟩
theorem PA.reads {B : Nat} {N : Nat → Prop} {w : World} {xb : Nat} {ops : List BareD} {rows : List (List Int)} (h : PA B N w xb ops rows) (hl : ops.length = rows.length) (ho : ∀ o ∈ ops, BareOk o) (hr : ∀ r ∈ rows, ∀ x ∈ r, (Lit.int .i64 x).wf = true) :
    ∃ ov fv, Blk w xb #[ov, fv] 26 ∧ Rds opR w ov (ops.map bareD) ∧ Rds intsR w fv rows := by
  obtain ⟨ov, fv, fs, hB, hov, hfv, hfl, hfs, _⟩ := h
  refine ⟨ov, fv, hB, ?_, ?_⟩
  · refine Rds.of_own (xs := ops.flatMap bareC) (base := B) (e := 88) (by rw [List.length_map]; exact hov) (by decide) (fun i x hi => ?_)
    rw [List.getElem?_map] at hi
    obtain ⟨o, hoi, rfl⟩ := Option.map_eq_some_iff.1 hi
    refine ⟨bareC o, bare_reads w o (ho o (List.mem_of_getElem? hoi)), fun j hj => ?_⟩
    have hj7 : j < (bareC o).length := hj
    rw [List.getElem?_eq_getElem hj7]
    exact flat7 ops i o j _ hoi (List.getElem?_eq_getElem hj7)
  · rw [hl] at hfv
    refine Rds.of_own (xs := fs) (base := B) (e := 22) hfv (by decide) (fun i r hi => ?_)
    have hi' : i < fs.length := by rw [hfl]; exact (List.getElem?_eq_some_iff.1 hi).1
    have ho := hfs i fs[i] r (List.getElem?_eq_getElem hi') hi
    refine ⟨[fs[i]], ?_, fun j hj => ?_⟩
    · refine Rds.of_own (d := Rk.int .i64) (xs := r.map (.int .i64)) (base := B) (e := 3) ho (by decide) (fun q x hq => ?_)
      refine ⟨[.int .i64 x], ⟨rfl, hr r (List.mem_of_getElem? hi) x (List.mem_of_getElem? hq)⟩, fun j hj => ?_⟩
      have hj0 : j = 0 := by have : j < 1 := hj; omega
      subst hj0
      show (r.map (Value.int .i64))[q * 1 + 0]? = _
      rw [Nat.mul_one, Nat.add_zero, List.getElem?_map, hq]
      rfl
    · have hj0 : j = 0 := by have : j < 1 := hj; omega
      subst hj0
      show fs[i * 1 + 0]? = _
      rw [Nat.mul_one, Nat.add_zero, List.getElem?_eq_getElem hi']
      rfl

abbrev patV (kb : Nat) : Value := .agg #[.string ⟨#[112]⟩, .int .i64 5, .int .i64 2, .string ⟨#[]⟩, .string ⟨#[]⟩, .slice none 0 0, .slice (some ⟨kb, 0, none⟩) 2 2, .slice none 0 0]
abbrev patC (kb : Nat) : Array Value := #[.string ⟨#[112]⟩, .int .i64 5, .int .i64 2, .string ⟨#[]⟩, .string ⟨#[]⟩, .slice none 0 0, .slice (some ⟨kb, 0, none⟩) 2 2, .slice none 0 0]
theorem pat_cells {w : World} {b kb : Nat} (h : Blk w b (patC kb) 64) : w.cell? ⟨b, 0, none⟩ = some (.string ⟨#[112]⟩) ∧ w.cell? ⟨b, 1, none⟩ = some (.int .i64 5) ∧ w.cell? ⟨b, 2, none⟩ = some (.int .i64 2) ∧ w.cell? ⟨b, 3, none⟩ = some (.string ⟨#[]⟩) ∧ w.cell? ⟨b, 4, none⟩ = some (.string ⟨#[]⟩) ∧ w.cell? ⟨b, 5, none⟩ = some (.slice none 0 0) ∧ w.cell? ⟨b, 6, none⟩ = some (.slice (some ⟨kb, 0, none⟩) 2 2) ∧ w.cell? ⟨b, 7, none⟩ = some (.slice none 0 0) :=
  ⟨(h.cell 0).trans rfl, (h.cell 1).trans rfl, (h.cell 2).trans rfl, (h.cell 3).trans rfl, (h.cell 4).trans rfl, (h.cell 5).trans rfl, (h.cell 6).trans rfl, (h.cell 7).trans rfl⟩
theorem nameP : NameIs ⟨#[112]⟩ := ⟨by decide, by kernel_rfl⟩
theorem nameA : NameIs ⟨#[97]⟩ := ⟨by decide, by kernel_rfl⟩
theorem nameB : NameIs ⟨#[98]⟩ := ⟨by decide, by kernel_rfl⟩
theorem nameUA : NameIs ⟨#[65]⟩ := ⟨by decide, by kernel_rfl⟩
theorem nameUB : NameIs ⟨#[66]⟩ := ⟨by decide, by kernel_rfl⟩
abbrev KAB (w : World) (kb : Nat) : Prop := KB w kb ⟨#[97]⟩ ⟨#[65]⟩ ⟨#[98]⟩ ⟨#[66]⟩

set_option maxRecDepth 100000 in
set_option maxHeartbeats 2000000 in
theorem pattern_two (kb : Nat) (w : World) (hkb : KAB w kb) : Calls Tryz.prog 33 #[patV kb] w fun e w' => e = .returned (.int .i64 0) ∧ Kept [] w w' := by
  have hkb0 := Lib.hid hkb
  have HB := Lib.hid (Blk.new w (patC kb) 64)
  have HK0 := Lib.hid ((Kept.refl [] w).alloc (.cells (patC kb) 64))
  clear hkb
  go_enter Tryz.func33, Tryz.ntmps33
  go_wp2_with fail
  obtain ⟨w1, hw1⟩ : ∃ w1, w.alloc (.cells (patC kb) 64) = w1 := ⟨_, rfl⟩
  rw [hw1] at HB HK0 ⊢
  clear hw1
  obtain ⟨a0, a1, a2, a3, a4, a5, a6, a7⟩ := pat_cells HB.out
  have HQ : Hid (∀ W, Kept [] w1 W → KAB W kb) := fun W hW => hkb0.out.kept (HK0.out.trans hW) (by simp)
  have HR : Hid (∀ W, Kept [] w1 W → Blk W w.heap.size (patC kb) 64) := fun W hW => HB.out.kept hW (by simp)
  refine (name_yes _ nameP.size nameP.is _).mono ?_
  rintro e w5 ⟨rfl, rfl⟩
  go_wp2_with fail
  refine (shape_two _ _ _ _ _ nameA nameUA nameB nameUB _ (HQ.out _ (Kept.refl _ _))).mono ?_
  rintro e w5 ⟨rfl, hk5⟩
  have HK5 := Lib.hid hk5
  clear hk5
  obtain ⟨a0, a1, a2, a3, a4, a5, a6, a7⟩ := pat_cells (HR.out _ HK5.out)
  go_wp2_with fail
  refine (binds_two _ _ _ _ (HQ.out _ HK5.out)).mono ?_
  rintro e w6 ⟨rfl, hk6⟩
  have HK6 := Lib.hid (HK5.out.trans hk6)
  clear hk6
  obtain ⟨a0, a1, a2, a3, a4, a5, a6, a7⟩ := pat_cells (HR.out _ HK6.out)
  go_wp2_with fail
  refine (vars_two _ _ _ _ (HQ.out _ HK6.out)).mono ?_
  rintro e w7 ⟨g7, c7, rfl, _, hk7⟩
  have HK7 := Lib.hid (HK6.out.trans hk7)
  clear hk7
  obtain ⟨a0, a1, a2, a3, a4, a5, a6, a7⟩ := pat_cells (HR.out _ HK7.out)
  go_wp2_with fail
  refine wp_loop_rounds 1 ?_
  rw [rounds_succ]
  go_wp2_with fail
  go_ret
  exact ⟨rfl, HK0.out.trans HK7.out⟩

def begunO : List BareD := [(1, ⟨#[97]⟩, ⟨#[65]⟩, 5, 1), (1, ⟨#[98]⟩, ⟨#[66]⟩, 5, 1), (2, ⟨#[]⟩, ⟨#[]⟩, 5, 2), (5, ⟨#[]⟩, ⟨#[]⟩, 5, 1)]
def begunF : List (List Int) := [[-1], [-1], [0, 1], [2]]
def OfPost (w : World) : Ending → World → Prop := fun e w' => ∃ ov fv, e = .returned (.tuple #[.agg #[ov, fv], .int .i64 0]) ∧ Rds opR w' ov (begunO.map bareD) ∧ Rds intsR w' fv begunF ∧ Kept [] w w'

theorem PA.set_other {B : Nat} {N : Nat → Prop} {w : World} {xb rb i : Nat} {ops : List BareD} {rows : List (List Int)} (h : PA B N w xb ops rows) (hr : rb < B) (hx : rb ≠ xb) (u : Value) : PA B N (w.setCell ⟨rb, i, none⟩ u) xb ops rows := by
  have hk : Kept [rb] w (w.setCell ⟨rb, i, none⟩ u) := (Kept.refl [rb] w).setCell (.inl (by simp)) u
  have key : ∀ {e : TypeId} {z n : Nat} {v : Value} {xs : List Value}, w.ownsRow B e z v n xs → (w.setCell ⟨rb, i, none⟩ u).ownsRow B e z v n xs := fun ho => ownsRow_keep ho hk (fun b hb hm => by
    have := (ho.lt b hb).1
    simp at hm
    omega)
  obtain ⟨ov, fv, fs, hB, hov, hfv, hfl, hfs, hfn⟩ := h
  exact ⟨ov, fv, fs, hB.kept hk (by simpa using fun e => hx e.symm), key hov, key hfv, hfl, fun i v row hv hr => key (hfs i v row hv hr), hfn⟩
theorem KL.kept {B xb : Nat} {w w6 w8 : World} (h0 : Kept [] w w6) (hx : w.heap.size ≤ xb) (hB : w.heap.size ≤ B) (h : KL B xb w6 w8) : Kept [] w w8 :=
  ⟨h.os.trans h0.os, h.tape.trans h0.tape, h.output.trans h0.output, Nat.le_trans h0.size h.size, fun k hk hs => (h.low k (by omega) (by omega) (Nat.lt_of_lt_of_le hk h0.size)).trans (h0.block k hk hs)⟩
theorem Blk.same {w : World} {b : Nat} {c1 c2 : Array Value} {t : TypeId} (h1 : Blk w b c1 t) (h2 : Blk w b c2 t) : c1 = c2 := by
  unfold Blk at h1 h2
  rw [h1] at h2
  injection h2 with h2
  injection h2
theorem begunO_ok : ∀ o ∈ begunO, BareOk o := by
  intro o ho
  unfold begunO at ho
  simp at ho
  rcases ho with rfl | rfl | rfl | rfl <;> exact ⟨by decide, by decide, by decide, by decide, by decide⟩
theorem begunF_ok : ∀ r ∈ begunF, ∀ x ∈ r, (Lit.int .i64 x).wf = true := by
  intro r hr x hx
  unfold begunF at hr
  simp at hr
  rcases hr with rfl | rfl | rfl <;> simp at hx <;> (try rcases hx with rfl | rfl) <;> (try subst hx) <;> decide

set_option maxRecDepth 100000 in
set_option maxHeartbeats 2000000 in
theorem of_two (kb : Nat) (w : World) (hkb : KAB w kb) : Calls Tryz.prog 19 #[patV kb] w (OfPost w) := by
  have hkl := hkb.lt
  have hkb0 := Lib.hid hkb
  have HK0 := Lib.hid (((Kept.refl [] w).alloc (.cells (patC kb) 64)).alloc (.cells #[.slice none 0 0, .slice none 0 0] 26))
  have HPB : Hid (Blk ((w.alloc (.cells (patC kb) 64)).alloc (.cells #[.slice none 0 0, .slice none 0 0] 26)) w.heap.size (patC kb) 64) := (Blk.new w _ _).alloc _
  have HRB : Hid (Blk ((w.alloc (.cells (patC kb) 64)).alloc (.cells #[.slice none 0 0, .slice none 0 0] 26)) (w.heap.size + 1) #[.slice none 0 0, .slice none 0 0] 26) := by
    have := Blk.new (w.alloc (.cells (patC kb) 64)) #[.slice none 0 0, .slice none 0 0] 26
    rwa [show (w.alloc (.cells (patC kb) 64)).heap.size = w.heap.size + 1 by simp] at this
  clear hkb
  go_enter Tryz.func19, Tryz.ntmps19
  go_wp2_with fail
  refine (pattern_two kb _ (hkb0.out.kept HK0.out (by simp))).mono ?_
  rintro e w5 ⟨rfl, hk5⟩
  have HK5 := Lib.hid (HK0.out.trans hk5)
  have HPB5 := Lib.hid (HPB.out.kept hk5 (by simp))
  have HRB5 := Lib.hid (HRB.out.kept hk5 (by simp))
  have hl5 := hk5.size
  have hr5 : w.heap.size + 1 < w5.heap.size := HRB5.out.lt
  clear hk5
  obtain ⟨a0, a1, a2, a3, a4, a5, a6, a7⟩ := pat_cells (HPB5.out.alloc (.cells #[.slice none 0 0, .slice none 0 0] 26))
  have HB6 := Lib.hid (Blk.new w5 #[.slice none 0 0, .slice none 0 0] 26)
  have HKB5 := Lib.hid (hkb0.out.kept HK5.out (by simp))
  go_wp2_with fail
  obtain ⟨w6, hw6⟩ : ∃ w6, w5.alloc (.cells #[.slice none 0 0, .slice none 0 0] 26) = w6 := ⟨_, rfl⟩
  have HK6 : Hid (Kept [] w5 w6) := by
    show Kept [] w5 w6
    rw [← hw6]
    exact (Kept.refl [] w5).alloc _
  rw [hw6] at HB6 ⊢
  clear hw6
  have hs6 := HK6.out.size
  have hx6 : w5.heap.size < w6.heap.size := HB6.out.lt
  refine (makes_two kb w5.heap.size ⟨#[97]⟩ ⟨#[65]⟩ ⟨#[98]⟩ ⟨#[66]⟩ w6 (by omega) (HKB5.out.kept HK6.out (by simp)) HB6.out (by rw [ByteArray.toList_eq, ByteArray.toList_eq]; decide)).mono ?_
  rintro e w7 ⟨rfl, hpa7, hkt7⟩
  obtain ⟨B, hB⟩ : ∃ B, w6.heap.size = B := ⟨_, rfl⟩
  rw [hB] at hpa7 hkt7 hx6
  have HPA7 := Lib.hid hpa7
  have HKL7 := Lib.hid (KL.of_kt hkt7)
  have hB7 : B ≤ w7.heap.size := by have := hkt7.size; omega
  have HBB := Lib.hid hB
  clear hpa7 hkt7 hB
  obtain ⟨a0, a1, a2, a3, a4, a5, a6, a7⟩ := pat_cells ((HPB5.out.kept HK6.out (by simp)).kl HKL7.out (by omega) (by omega))
  have HPUT : Hid (Calls Tryz.prog 35 #[.pointer (some ⟨w5.heap.size, 0, none⟩), .agg #[.int .i64 5, .string ⟨#[]⟩, .string ⟨#[]⟩, .slice none 0 0, .slice none 0 0, .int .i64 5, .int .i64 1], .slice (some ⟨w7.heap.size, 0, none⟩) 1 1] (w7.alloc (.cells #[.int .i64 2] 3)) (PutPost B (fun _ => True) (w7.alloc (.cells #[.int .i64 2] 3)) w5.heap.size begunO begunF 3)) := by
    have hkd : Kept [] w7 (w7.alloc (.cells #[.int .i64 2] 3)) := (Kept.refl [] w7).alloc _
    have ho : (w7.alloc (.cells #[.int .i64 2] 3)).ownsRow B 3 1 (.slice (some ⟨w7.heap.size, 0, none⟩) 1 1) 1 [.int .i64 2] := by simpa using World.ownsRow_lit (base := B) (e := 3) (size := 1) w7 #[.int .i64 2] 1 (by omega) (by unfold maxLen; omega) (by simp)
    exact put_any B (fun _ => True) w5.heap.size [(1, ⟨#[97]⟩, ⟨#[65]⟩, 5, 1), (1, ⟨#[98]⟩, ⟨#[66]⟩, 5, 1), (2, ⟨#[]⟩, ⟨#[]⟩, 5, 2)] [[-1], [-1], [0, 1]] (5, ⟨#[]⟩, ⟨#[]⟩, 5, 1) [2] _ _ hx6 (by have := hkd.size; omega) (HPA7.out.keep hkd) (fun _ _ => trivial) ho (by rfl) (by decide) (by
      intro a ha
      simp at ha
      rcases ha with ha | ha | ha <;> (subst ha; exact .inl (by simp)))
  go_wp2_with fail
  refine HPUT.out.mono ?_
  rintro e w8 ⟨rfl, hpa8, hkt8⟩
  have HPA8 := Lib.hid hpa8
  have HKL8 : Hid (KL B w5.heap.size w6 w8) := (HKL7.out.trans (KL.of ((Kept.refl [] w7).alloc _))).trans (KL.of_kt hkt8)
  clear hpa8 hkt8
  obtain ⟨ov, fv, hb8, ho8, hf8⟩ := HPA8.out.reads (by rfl) begunO_ok begunF_ok
  obtain ⟨OA, oc, rfl, _⟩ := ho8.form
  obtain ⟨FA, fc, rfl, _⟩ := hf8.form
  have HRB8 := Lib.hid ((HRB5.out.kept HK6.out (by simp)).kl HKL8.out (by omega) (by omega))
  have x0 := hb8.cell 0
  have x1 := hb8.cell 1
  have r0 := HRB8.out.cell 0
  have r1 := HRB8.out.cell 1
  have f0 := HRB8.out.free 0
  have f1 := HRB8.out.free 1
  simp at x0 x1 r0 r1
  have HB8 := Lib.hid hb8
  clear hb8 ho8 hf8
  go_wp2_with fail
  have HP9 := Lib.hid ((HPA8.out.set_other (i := 0) (rb := w.heap.size + 1) (by omega) (by omega) (.slice OA begunO.length oc)).set_other (i := 1) (rb := w.heap.size + 1) (by omega) (by omega) (.slice FA begunF.length fc))
  obtain ⟨ov, fv, hb9, ho9, hf9⟩ := HP9.out.reads (by rfl) begunO_ok begunF_ok
  have hb9' : Blk ((w8.setCell ⟨w.heap.size + 1, 0, none⟩ (.slice OA begunO.length oc)).setCell ⟨w.heap.size + 1, 1, none⟩ (.slice FA begunF.length fc)) w5.heap.size #[.slice OA begunO.length oc, .slice FA begunF.length fc] 26 := (HB8.out.set_other (by simp; omega) _).set_other (by simp; omega) _
  have he := hb9'.same hb9
  simp at he
  obtain ⟨rfl, rfl⟩ := he
  have hrr : Blk ((w8.setCell ⟨w.heap.size + 1, 0, none⟩ (.slice OA begunO.length oc)).setCell ⟨w.heap.size + 1, 1, none⟩ (.slice FA begunF.length fc)) (w.heap.size + 1) #[.slice OA begunO.length oc, .slice FA begunF.length fc] 26 := by
    have := (HRB8.out.set 0 (.slice OA begunO.length oc)).set 1 (.slice FA begunF.length fc)
    simpa using this
  have hk8 : Kept [] w w8 := KL.kept (HK5.out.trans HK6.out) (by omega) (by omega) HKL8.out
  refine bodyPost_ret (res_ct rfl _ _ (w.heap.size + 1) 26 #[.slice OA begunO.length oc, .slice FA begunF.length fc] _ rfl hrr Tryz.underlying26 rfl (by kernel_rfl)) rfl ?_
  exact ⟨_, _, rfl, ho9, hf9, (hk8.setCell (.inr (by simp)) _).setCell (.inr (by simp)) _⟩
end Go.Proofs.YtbaifjdealmckaaGreat
