/- Where any operator costs least: the walk of PlaceLeast. -/
import Derived.Test.YtbaifjdealmckaaGreatGJ
set_option linter.unusedVariables false
set_option linter.unusedSimpArgs false
set_option linter.unnecessarySimpa false
namespace Go.Proofs.YtbaifjdealmckaaGreat
open Go.RowKit Go.Shelf Tr
attribute [local go_sem] Oper.semAt_some

set_option maxRecDepth 100000 in
set_option maxHeartbeats 4000000 in
theorem leasts_any (qv ov fv sv tv pv zv av : Value) (P : List Int) (x : PlanD) (r : RatesD) (S A : List Int) (op : Int) (w : World) (hg : Gr w qv ov fv sv tv pv zv P x r S) (ha : Rds (Rk.int .i64) w av A) :
    Calls Tryz.prog 3 #[.agg (grC qv ov fv sv tv pv zv), av, .int .i64 op] w fun e w' => e = .returned (.bool true) ∧ Kept [] w w' := by
  have HTS := Lib.hid (fun (W : World) (hk : Kept [] w W) => trees_any qv ov fv sv tv pv zv P W (hg.keep hk).q.ints)
  have HL1 := Lib.hid (fun (tb : Nat) (W : World) (hk : Kept [] w W) (he : treeErr P = 0) (ht : TreeAt W tb P) => least_any tb P ov fv sv tv pv av zv x r A S op W ht (tree_of he) (hg.keep hk).pr (ha.keep hk) (hg.keep hk).z)
  have HL2 := Lib.hid (fun (rb : Nat) (tvv : Value) (W : World) (hk : Kept [] w W) (he : treeErr P = 0) (ht : RT W rb tvv P) => rleast_any rb tvv P ov fv sv tv pv av zv x r A S op W ht (tree_of he) (hg.keep hk).pr (ha.keep hk).ints (hg.keep hk).z.ints)
  obtain ⟨et, het⟩ : ∃ et, treeErr P = et := ⟨_, rfl⟩
  rw [het] at HTS HL1 HL2
  obtain ⟨V, hV⟩ : ∃ V, leastV P x r A S op = V := ⟨_, rfl⟩
  obtain ⟨E, hE⟩ : ∃ E, lookE P x r A S op = E := ⟨_, rfl⟩
  rw [hV, hE] at HL1 HL2
  clear het hV hE ha hg
  have HK0 := Lib.hid ((Kept.refl [] w).alloc (.cells (grC qv ov fv sv tv pv zv) 31))
  have HB := Lib.hid (Blk.new w (grC qv ov fv sv tv pv zv) 31)
  go_enter Tryz.func3, Tryz.ntmps3
  go_wp2_with fail
  obtain ⟨w0, hw0⟩ : ∃ w0, w.alloc (.cells (grC qv ov fv sv tv pv zv) 31) = w0 := ⟨_, rfl⟩
  rw [hw0] at HK0 HB ⊢
  clear hw0
  obtain ⟨a0, a1, a2, a3, a4, a5, a6⟩ := gr_cells HB.out
  refine (HTS.out _ HK0.out).mono ?_
  rintro e w1 ⟨k1, h1⟩
  have HK1 := Lib.hid k1
  clear k1 a0 a1 a2 a3 a4 a5 a6
  rcases h1 with ⟨hE, rfl⟩ | ⟨rfl, tb, rb, tvv, rfl, hta, hrt⟩
  · go_wp2_with fail
    refine (live_any _).mono ?_
    rintro e w2 ⟨rfl, k2⟩
    have HK2 := Lib.hid (HK1.out.trans k2)
    clear k2
    go_wp2_with fail
    go_ret
    exact ⟨rfl, HK0.out.trans HK2.out⟩
  · have HT1 := Lib.hid hta
    have HR1 := Lib.hid hrt
    clear hta hrt
    go_wp2_with fail
    refine (live_any _).mono ?_
    rintro e w2 ⟨rfl, k2⟩
    have HK2 := Lib.hid (HK1.out.trans k2)
    have HT2 := Lib.hid (HT1.out.keep k2)
    have HR2 := Lib.hid (HR1.out.keep k2)
    clear k2
    obtain ⟨a0, a1, a2, a3, a4, a5, a6⟩ := gr_cells (HB.out.kept HK2.out (by simp))
    go_wp2_with fail
    refine (HL1.out _ _ (HK0.out.trans HK2.out) (by first | trivial | rfl) HT2.out).mono ?_
    rintro e w3 ⟨rfl, k3⟩
    have HK3 := Lib.hid (HK2.out.trans k3)
    have HR3 := Lib.hid (HR2.out.keep k3)
    clear k3 a0 a1 a2 a3 a4 a5 a6
    obtain ⟨a0, a1, a2, a3, a4, a5, a6⟩ := gr_cells (HB.out.kept HK3.out (by simp))
    go_wp2_with fail
    refine (HL2.out _ _ _ (HK0.out.trans HK3.out) (by first | trivial | rfl) HR3.out).mono ?_
    rintro e w4 ⟨rfl, k4⟩
    have HK4 := Lib.hid (HK3.out.trans k4)
    clear k4 a0 a1 a2 a3 a4 a5 a6
    have v1 : (V == V) = true := beq_self_eq_true _
    have v2 : (E == E) = true := beq_self_eq_true _
    go_wp2_with fail
    go_ret
    exact ⟨rfl, HK0.out.trans HK4.out⟩
theorem placeLeast_any (w : World) (v : Array Value) (g : GroundD) (wg : groundR.K w g v.toList) (bg : groundW g + 1 ≤ 1048576) (A : Option Addr) (n cap : Nat) (T : List Int) (wT : (Rk.slice (Rk.int .i64)).K w T [.slice A n cap]) (op : Int) (wo : (Lit.int .i64 op).wf = true) :
    Calls Tryz.prog 3 #[.agg v, .slice A n cap, .int .i64 op] w fun e w' => e = .returned (.bool true) ∧ Below w.heap.size w w' := by
  obtain ⟨qv, ov, fv, sv, tv, pv, zv, rfl, hg⟩ := ground_reads wg bg
  obtain ⟨v1, he1, h1⟩ := intsR_cells wT
  simp only [List.cons.injEq, and_true] at he1
  subst he1
  exact (leasts_any qv ov fv sv tv pv zv _ _ _ _ _ T op w hg h1).mono fun e w' h => ⟨h.1, h.2.below⟩

end Go.Proofs.YtbaifjdealmckaaGreat
