/- What an operator's inputs cost: an operator that is no term. -/
import Derived.Test.YtiiiflckphgdiaaM4
set_option linter.unusedVariables false
set_option linter.unusedSimpArgs false
set_option linter.unnecessarySimpa false
namespace Go.Proofs.Ytiiiflckphgdiaa
open Go.RowKit Go.Shelf Tr
attribute [local go_sem] Oper.semAt_some

set_option maxRecDepth 100000 in
set_option maxHeartbeats 4000000 in
theorem in_else (mb b : Nat) (P : List Int) (x : PlanD) (r : RatesD) (O A S : List Int) (ov fv sv tv pv av zv uv : Value) (k : Nat) (h : Int) (w : World) (hM : MdAt w mb b P x r O A S ov fv sv tv pv av zv uv) (hT : Tree P)
    (hk : k < x.1.length) (h1 : ¬ (opAt x k).1 = 1) (hr : x.2.length = x.1.length) (hO : O.length = x.1.length) (hA : A.length = x.1.length) (hn32 : x.1.length ≤ 32) (hF : fromLen x.2 ≤ 1048576)
    (hrow : ∀ f ∈ rowAt x k, 0 ≤ f ∧ f < (x.1.length : Int)) :
    Calls Try.prog 49 #[.pointer (some ⟨mb, 0, none⟩), .int .i64 k, .int .i64 h] w (IntsPost w (inV P x r O A S k h)) := by
  obtain ⟨i0, hi0, hz0, hz1, hz2⟩ := info_parts info64
  have HM := Lib.hid hM
  rw [inV, if_neg h1]
  have HWY := Lib.hid (fun (n a : Int) (W : World) (hW : Kept [] w W) => way_any mb b P n a h W (hM.tree.keep hW) hT ((hM.blk.kept hW (by simp)).cell 0))
  obtain ⟨b1, off, c, o, cs, he, hx, hE, hc⟩ := hM.ops.at hk
  obtain ⟨xv, cv, rfl, hrt, hrc, hz1', hz2'⟩ := opR_cells hE
  obtain ⟨o0, o1, o2, o3, o4, o5, o6⟩ := o
  have e0 := hc 0 (by decide)
  simp [opCells, show opR.sz = 7 from rfl] at e0
  have ho1 : (o0 == 1) = false := by rw [beq_eq_false_iff_ne]; rw [opAt_of hx] at h1; exact h1
  subst he
  obtain ⟨b2, off2, c2, row, cs2, he, hx2, hE2, hc2⟩ := hM.rows.at (k := k) (by omega)
  obtain ⟨rv, rfl, hro⟩ := intsR_cells hE2
  have e00 := hc2 0 (by decide)
  simp only [show intsR.sz = 1 from rfl, Nat.mul_one, Nat.add_zero, List.getElem?_cons_zero] at e00
  have HROW := Lib.hid hro.ints
  obtain ⟨RA, rc, rfl, hrm⟩ := hro.form
  subst he
  rw [rowAt_of hx2] at hrow ⊢
  have hrl := Nat.le_trans (row_fromLen hx2) hF
  have HRW := Lib.hid hrow
  obtain ⟨n, hn⟩ : ∃ n, x.1.length = n := ⟨_, rfl⟩
  rw [hn] at hk HM hr hO hA hn32 HRW
  rw [hr] at HM
  obtain ⟨UA, uc, rfl, hmU, -⟩ := hM.out
  obtain ⟨AA, ac, rfl, hmA, -⟩ := hM.at_
  rw [hO] at hmU HM
  rw [hA] at hmA HM
  have HLO := Lib.hid hO
  have HLA := Lib.hid hA
  obtain ⟨m, hm⟩ : ∃ m, row.length = m := ⟨_, rfl⟩
  rw [hm] at hrl HROW hrm e00
  have HLM := Lib.hid hm
  unfold maxLen at hmU hmA
  have c1 := (HM.out.blk).cell 1
  have c2' := (HM.out.blk).cell 2
  have c6 := (HM.out.blk).cell 6
  have c8 := (HM.out.blk).cell 8
  simp at c1 c2' c6 c8
  obtain ⟨g, hg⟩ : ∃ g, g = (fun f : Int => wayV P (O.getD f.toNat 0) (A.getD f.toNat 0) h) := ⟨_, rfl⟩
  rw [← hg]
  have HG : Hid (∀ (f : Nat) (s a : Int), O[f]? = some s → A[f]? = some a → wayV P s a h = g (f : Int)) := fun f s a h1 h2 => by
    rw [hg]; simp only [Int.toNat_natCast, List.getD, h1, h2, Option.getD]
  clear hM h1 hx hE hc hrt hrc hz1' hz2' hx2 hE2 hc2 hro hn hr hO hA hm hrow hg hF
  go_enter Try.func49, Try.ntmps49
  go_wp2_with fail
  go_loopw [7, 58] (fun o jj wr => ∃ (j : Nat), j ≤ m ∧ jj = .int .i64 j ∧ wr.ownsRow w.heap.size 2 1 o j (((row.take j).map g).map (.int .i64)) ∧ Kept [] w wr) (fun _ jj _ => m - (intOf jj).toNat)
  case atStart => exact ⟨0, by omega, rfl, World.ownsRow_nil _ _ _ _, Kept.refl _ _⟩
  case round =>
    obtain ⟨j, hj, rfl, hown, hK⟩ := hrel
    obtain ⟨BA, cc, rfl⟩ := own_len hown
    have HOWN := Lib.hid hown
    have HGB : Hid (∀ x, (Value.slice BA j cc).ownBlock = some x → w.heap.size ≤ x) := fun x hx => (hown.lt x hx).1
    have HK := Lib.hid hK
    have hsz2 := hK.size
    clear hown hK
    by_cases hlt : j < m
    · obtain ⟨bz, oz, c', f, he, hy, hcf0⟩ := RdI.at HROW.out (i := j) (by rw [HLM.out]; exact hlt)
      injection he with he1 he2 he3
      subst he1 he3
      obtain ⟨hf0, hfn⟩ := HRW.out f (List.mem_of_getElem? hy)
      obtain ⟨q, rfl⟩ := Int.eq_ofNat_of_zero_le hf0
      have hqn : q < n := by omega
      obtain ⟨bu, ou, cu, s, he, hys, hcs0⟩ := RdI.at HM.out.out (i := q) (by rw [HLO.out]; exact hqn)
      injection he with he1 he4 he3
      subst he1 he3
      obtain ⟨ba, oa, ca, a, he, hya, hca0⟩ := RdI.at HM.out.at_ (i := q) (by rw [HLA.out]; exact hqn)
      injection he with he1 he5 he3
      subst he1 he3
      have hcf := HK.out.cell (by simp) hcf0
      have HS : Hid (∀ W, Kept [] wr W → W.cell? ⟨mb, 8, none⟩ = some (.slice (some ⟨bu, ou, none⟩) n uc) ∧ W.cell? ⟨mb, 6, none⟩ = some (.slice (some ⟨ba, oa, none⟩) n ac) ∧ W.cell? ⟨bu, ou + q, none⟩ = some (.int .i64 s) ∧ W.cell? ⟨ba, oa + q, none⟩ = some (.int .i64 a)) := fun W hW =>
        ⟨(HK.out.trans hW).cell (by simp) c8, (HK.out.trans hW).cell (by simp) c6, (HK.out.trans hW).cell (by simp) hcs0, (HK.out.trans hW).cell (by simp) hca0⟩
      have HSG : Hid (∀ W, (∃ V, Kept [] wr V ∧ V.grownBy W (Value.slice BA j cc).ownBlock) → W.cell? ⟨mb, 8, none⟩ = some (.slice (some ⟨bu, ou, none⟩) n uc) ∧ W.cell? ⟨mb, 6, none⟩ = some (.slice (some ⟨ba, oa, none⟩) n ac) ∧ W.cell? ⟨bu, ou + q, none⟩ = some (.int .i64 s) ∧ W.cell? ⟨ba, oa + q, none⟩ = some (.int .i64 a)) := fun W ⟨V, hV, hg⟩ => by
        have hh : Kept (Value.slice BA j cc).ownBlock.toList w W := ((HK.out.trans hV).nil).grown hg (fun y hy => .inl (by rw [hy]; simp))
        have nb : ∀ b, b < w.heap.size → b ∉ (Value.slice BA j cc).ownBlock.toList := fun b hb hm => by
          have hy : (Value.slice BA j cc).ownBlock = some b := by simpa using hm
          have h1 := HGB.out b hy
          omega
        exact ⟨hh.cell (nb _ (cell_lt c8)) c8, hh.cell (nb _ (cell_lt c6)) c6, hh.cell (nb _ (cell_lt hcs0)) hcs0, hh.cell (nb _ (cell_lt hca0)) hca0⟩
      obtain ⟨y, hyy⟩ : ∃ y, wayV P s a h = y := ⟨_, rfl⟩
      have HW := Lib.hid (fun (W : World) (hW : Kept [] wr W) => HWY.out s a W (HK.out.trans hW))
      rw [hyy] at HW
      have HY : Hid (g (q : Int) = y) := by show _ = _; rw [← hyy]; exact (HG.out q s a hys hya).symm
      have HTK : Hid (row.take (j + 1) = row.take j ++ [(q : Int)]) := by
        show _ = _
        obtain ⟨q1, q2⟩ := List.getElem?_eq_some_iff.1 hy
        rw [List.take_succ_eq_append_getElem q1, q2]
      have HOWNC : Hid (∀ W, Kept [] wr W → W.ownsRow w.heap.size 2 1 (.slice BA j cc) j (((row.take j).map g).map (.int .i64))) := fun W hk => ownsRow_keep HOWN.out hk (by simp)
      have hq0 : (0 : Int) ≤ (q : Int) := by omega
      have hqn' : (q : Int) < (n : Int) := by omega
      clear hy hys hya he2 he4 he5 hcs0 hca0 hcf0 hyy hfn hf0
      go_wp2_with fail
      go_region_held3 (fun w' => w'.cell? ⟨mb, 8, none⟩ = some (.slice (some ⟨bu, ou, none⟩) n uc) ∧ w'.cell? ⟨mb, 6, none⟩ = some (.slice (some ⟨ba, oa, none⟩) n ac) ∧ w'.cell? ⟨bu, ou + q, none⟩ = some (.int .i64 s) ∧ w'.cell? ⟨ba, oa + q, none⟩ = some (.int .i64 a)) (first | (refine HS.out _ ?_; (repeat (first | exact Kept.refl _ _ | assumption | refine Kept.drewN ?_ _ | refine Kept.drew ?_ | refine Kept.alloc ?_ _)); done) | (refine HSG.out _ ⟨_, ?_, hgrow7⟩; (repeat (first | exact Kept.refl _ _ | assumption | refine Kept.drewN ?_ _ | refine Kept.drew ?_ | refine Kept.alloc ?_ _)); done)) (first
        | (go_at_call 55; refine (HW.out _ (by (repeat (first | exact Kept.refl _ _ | assumption | refine Kept.drewN ?_ _ | refine Kept.drew ?_ | refine Kept.alloc ?_ _)))).mono ?_; rintro e w5 ⟨rfl, hk5⟩; have hk5' : Kept [] wr w5 := Kept.trans (by (repeat (first | exact Kept.refl _ _ | assumption | refine Kept.drewN ?_ _ | refine Kept.drew ?_ | refine Kept.alloc ?_ _))) hk5)
        | (refine step_guard _ _ 22 (by rfl) ?_; refine step_append_lies _ (by rfl) _ _ 22 (by rfl) w.heap.size 2 i0 (.int .i64 0) 1 8 Try.underlying22 hi0 hz0 hz1 hz2 (by rfl) (by decide) (.slice BA j cc) j _ (by rfl) (HOWNC.out _ (by (repeat (first | exact Kept.refl _ _ | assumption | refine Kept.drewN ?_ _ | refine Kept.drew ?_ | refine Kept.alloc ?_ _)))) ⟨w5.heap.size, 0, none⟩ 1 1 [.int .i64 y] (by rfl) (by rfl) (by (repeat (first | exact cell_one_at _ _ _ _ (by (first | rfl | (simp; done) | (simp; omega))) | refine cells_drew ?_ | refine cells_drewN ?_))) (by simp [Value.oneCell']) (by decide) (by unfold maxLen; omega) (by omega) (by have := hk5'.size; simp; omega) (w5.heap.size + 1) (by (first | rfl | (simp; done) | (simp; omega))) ?_; intro gg cap w7 hown7 hgrow7 hat7 hlt7))
      all_goals
        have HK7 : Hid (Kept [] w w7) := Kept.grown (S := []) (a := w) (Kept.trans HK.out (by (repeat (first | exact Kept.refl _ _ | assumption | refine Kept.drewN ?_ _ | refine Kept.drew ?_ | refine Kept.alloc ?_ _)))) hgrow7 (fun y hy => .inr (HGB.out y hy))
        have HOWN7 := Lib.hid hown7
        clear hown7 hgrow7 hat7 hlt7
        go_wp2_with fail
        go_roundw
        case rel => exact ⟨j + 1, by omega, by go_num, by rw [HTK.out, List.map_append, List.map_append, List.map_singleton, HY.out]; exact HOWN7.out, HK7.out⟩
        case measure => simp [intOf]; omega
    · have hjm : j = m := by omega
      subst hjm
      go_wp2_with fail
      go_ret
      refine ⟨_, rfl, ?_, HK.out⟩
      have := HOWN.out
      rw [List.take_of_length_le (by rw [HLM.out]; omega)] at this
      rw [List.length_map, HLM.out]
      exact this

end Go.Proofs.Ytiiiflckphgdiaa
