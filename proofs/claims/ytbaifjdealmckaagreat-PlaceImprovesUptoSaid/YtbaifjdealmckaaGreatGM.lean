/- What is put elsewhere, in one pass, and till nothing is: the walk of PlaceImproves. -/
import Derived.Test.YtbaifjdealmckaaGreatGJ
set_option linter.unusedVariables false
set_option linter.unusedSimpArgs false
set_option linter.unnecessarySimpa false
namespace Go.Proofs.YtbaifjdealmckaaGreat
open Go.RowKit Go.Shelf Tr
attribute [local go_sem] Oper.semAt_some

theorem equal_keptm (u v : Value) (xs : List Int) (w : World) (hx : RdI w .i64 u xs) (hy : RdI w .i64 v xs) : Calls Tryz.prog 16 #[u, v] w fun e w' => e = .returned (.bool true) ∧ Kept [] w w' := by
  have := equal_any .i64 u v xs xs w hx hy
  rw [decide_eq_true rfl] at this
  exact this.mono fun e w' ⟨h1, h2⟩ => ⟨h1, Kept.of_drawn h2⟩
/-- Numbers read in memory are int64s. -/
theorem wf_of19 {w : World} {v : Value} {l : List Int} (h : Rds (Rk.int .i64) w v l) : ∀ x ∈ l, (Lit.int .i64 x).wf = true := by
  intro x hx
  obtain ⟨i, hi⟩ := List.getElem?_of_mem hx
  obtain ⟨b, off, c, y, cs, he, hy, hE, hc⟩ := h.at (List.getElem?_eq_some_iff.1 hi).1
  rw [hi] at hy
  injection hy with hy
  subst hy
  exact hE.2
set_option maxRecDepth 100000 in
set_option maxHeartbeats 4000000 in
theorem improves_any (qv ov fv sv tv pv zv av : Value) (P : List Int) (x : PlanD) (r : RatesD) (S A : List Int) (w : World) (hg : Gr w qv ov fv sv tv pv zv P x r S) (ha : Rds (Rk.int .i64) w av A) (hbig : A.length * 8 ≤ 140737488351232) :
    Calls Tryz.prog 4 #[.agg (grC qv ov fv sv tv pv zv), av] w fun e w' => e = .returned (.bool true) ∧ Kept [] w w' := by
  have HTS := Lib.hid (fun (W : World) (hk : Kept [] w W) => trees_any qv ov fv sv tv pv zv P W (hg.keep hk).q.ints)
  have HCL := Lib.hid (fun (W : World) (hk : Kept [] w W) => clonei_any av A W (ha.keep hk).ints hbig)
  have HWF := Lib.hid (wf_of19 ha)
  have HI1 := Lib.hid (fun (tb : Nat) (v : Value) (W : World) (hk : Kept [] w W) (he : treeErr P = 0) (ht : TreeAt W tb P) (hv : Rds (Rk.int .i64) W v A) => improve_any tb P ov fv sv tv pv v zv x r A S W ht (tree_of he) (hg.keep hk).pr hv (hg.keep hk).z)
  have HI2 := Lib.hid (fun (rb : Nat) (tvv : Value) (W : World) (hk : Kept [] w W) (he : treeErr P = 0) (ht : RT W rb tvv P) => rimprove_any rb tvv P ov fv sv tv pv av zv x r A S W ht (tree_of he) (hg.keep hk).pr (ha.keep hk) (hg.keep hk).z)
  have HS1 := Lib.hid (fun (tb : Nat) (v : Value) (W : World) (hk : Kept [] w W) (he : treeErr P = 0) (ht : TreeAt W tb P) (hv : Rds (Rk.int .i64) W v A) => settle_any tb P ov fv sv tv pv v zv x r A S W ht (tree_of he) (hg.keep hk).pr hv (hg.keep hk).z)
  have HS2 := Lib.hid (fun (rb : Nat) (tvv : Value) (W : World) (hk : Kept [] w W) (he : treeErr P = 0) (ht : RT W rb tvv P) => rsettle_any rb tvv P ov fv sv tv pv av zv x r A S W ht (tree_of he) (hg.keep hk).pr (ha.keep hk) (hg.keep hk).z)
  have HG1 := Lib.hid (fun (tb : Nat) (W : World) (hk : Kept [] w W) (he : treeErr P = 0) (ht : TreeAt W tb P) => greedy_any tb P ov fv sv tv pv zv x r S W ht (tree_of he) (hg.keep hk).pr (hg.keep hk).z)
  have HG2 := Lib.hid (fun (rb : Nat) (tvv : Value) (W : World) (hk : Kept [] w W) (he : treeErr P = 0) (ht : RT W rb tvv P) => rgreedy_any rb tvv P ov fv sv tv pv zv x r S W ht (tree_of he) (hg.keep hk).pr (hg.keep hk).z)
  obtain ⟨et, het⟩ : ∃ et, treeErr P = et := ⟨_, rfl⟩
  rw [het] at HTS HI1 HI2 HS1 HS2 HG1 HG2
  obtain ⟨q, hq⟩ : ∃ q, impV P x r S A = q := ⟨_, rfl⟩
  obtain ⟨E, hE⟩ : ∃ E, lookE P x r A S 0 = E := ⟨_, rfl⟩
  obtain ⟨T, hT⟩ : ∃ T, setV P x r S A = T := ⟨_, rfl⟩
  obtain ⟨E2, hE2⟩ : ∃ E, greedE P x r S = E := ⟨_, rfl⟩
  obtain ⟨G, hG⟩ : ∃ G, greedV P x r S = G := ⟨_, rfl⟩
  rw [hq, hE] at HI1 HI2
  rw [hE, hT] at HS1 HS2
  rw [hE2, hG] at HG1 HG2
  obtain ⟨L, m⟩ := q
  have HAV := Lib.hid ha
  obtain ⟨AA, ac, rfl, hmA⟩ := ha.form
  obtain ⟨na, hna⟩ : ∃ n, A.length = n := ⟨_, rfl⟩
  rw [hna] at HCL HI2 HS2 HAV ⊢
  have HNA := Lib.hid hna
  clear het hq hE hT hE2 hG ha hg hna hmA hbig
  have HK0 := Lib.hid ((Kept.refl [] w).alloc (.cells (grC qv ov fv sv tv pv zv) 31))
  have HB := Lib.hid (Blk.new w (grC qv ov fv sv tv pv zv) 31)
  go_enter Tryz.func4, Tryz.ntmps4
  go_wp2_with fail
  obtain ⟨w0, hw0⟩ : ∃ w0, w.alloc (.cells (grC qv ov fv sv tv pv zv) 31) = w0 := ⟨_, rfl⟩
  rw [hw0] at HK0 HB ⊢
  clear hw0
  obtain ⟨a0, a1, a2, a3, a4, a5, a6⟩ := gr_cells HB.out
  refine (HTS.out _ HK0.out).mono ?_
  rintro e w1 ⟨k1, h1⟩
  have HK1 := Lib.hid k1
  clear k1 a0 a1 a2 a3 a4 a5 a6
  rcases h1 with ⟨hE, rfl⟩ | ⟨rfl, tb, rb, tvv, rfl, hta, hrt⟩
  · go_wp2_with fail
    refine (live_any _).mono ?_
    rintro e w2 ⟨rfl, k2⟩
    have HK2 := Lib.hid (HK1.out.trans k2)
    clear k2
    go_wp2_with fail
    go_ret
    exact ⟨rfl, HK0.out.trans HK2.out⟩
  · have HT1 := Lib.hid hta
    have HR1 := Lib.hid hrt
    clear hta hrt
    go_wp2_with fail
    refine (live_any _).mono ?_
    rintro e w2 ⟨rfl, k2⟩
    have HK2 := Lib.hid (HK1.out.trans k2)
    have HT2 := Lib.hid (HT1.out.keep k2)
    have HR2 := Lib.hid (HR1.out.keep k2)
    clear k2
    go_wp2_with fail
    refine (HCL.out _ (HK0.out.trans HK2.out)).mono ?_
    rintro e w3 ⟨v3, rfl, o3, kq⟩
    have HV3 : Hid (Rds (Rk.int .i64) w3 v3 A) := rds_own o3 rfl HWF.out
    have HK23 := Lib.hid kq
    have HK3 := Lib.hid (HK2.out.trans kq)
    clear kq o3
    obtain ⟨a0, a1, a2, a3, a4, a5, a6⟩ := gr_cells (HB.out.kept HK3.out (by simp))
    go_wp2_with fail
    refine (HI1.out _ _ _ (HK0.out.trans HK3.out) (by first | trivial | rfl) (HT2.out.keep HK23.out) HV3.out).mono ?_
    rintro e w4 ⟨v4, rfl, hv4, kq⟩
    dsimp only at hv4 ⊢
    have HV4 := Lib.hid hv4
    have HK24 := Lib.hid (HK23.out.trans kq)
    have HK34 := Lib.hid kq
    clear hv4
    have HK4 := Lib.hid (HK3.out.trans kq)
    clear kq a0 a1 a2 a3 a4 a5 a6
    obtain ⟨a0, a1, a2, a3, a4, a5, a6⟩ := gr_cells (HB.out.kept HK4.out (by simp))
    go_wp2_with fail
    refine (HI2.out _ _ _ (HK0.out.trans HK4.out) (by first | trivial | rfl) (HR2.out.keep HK24.out)).mono ?_
    rintro e w5 ⟨v5, rfl, hv5, kq⟩
    dsimp only at hv5 ⊢
    have HV5 := Lib.hid hv5
    have HK25 := Lib.hid (HK24.out.trans kq)
    have HK35 := Lib.hid (HK34.out.trans kq)
    have HK45 := Lib.hid kq
    clear hv5
    have HK5 := Lib.hid (HK4.out.trans kq)
    clear kq a0 a1 a2 a3 a4 a5 a6
    obtain ⟨a0, a1, a2, a3, a4, a5, a6⟩ := gr_cells (HB.out.kept HK5.out (by simp))
    go_wp2_with fail
    refine (HS1.out _ _ _ (HK0.out.trans HK5.out) (by first | trivial | rfl) (HT2.out.keep HK25.out) (HV3.out.keep HK35.out)).mono ?_
    rintro e w6 ⟨v6, rfl, hv6, kq⟩
    have HV6 := Lib.hid hv6
    have HK26 := Lib.hid (HK25.out.trans kq)
    have HK56 := Lib.hid kq
    clear hv6
    have HK6 := Lib.hid (HK5.out.trans kq)
    clear kq a0 a1 a2 a3 a4 a5 a6
    obtain ⟨a0, a1, a2, a3, a4, a5, a6⟩ := gr_cells (HB.out.kept HK6.out (by simp))
    go_wp2_with fail
    refine (HS2.out _ _ _ (HK0.out.trans HK6.out) (by first | trivial | rfl) (HR2.out.keep HK26.out)).mono ?_
    rintro e w7 ⟨v7, rfl, hv7, kq⟩
    have HV7 := Lib.hid hv7
    have HK27 := Lib.hid (HK26.out.trans kq)
    have HK57 := Lib.hid (HK56.out.trans kq)
    have HK67 := Lib.hid kq
    clear hv7
    have HK7 := Lib.hid (HK6.out.trans kq)
    clear kq a0 a1 a2 a3 a4 a5 a6
    obtain ⟨a0, a1, a2, a3, a4, a5, a6⟩ := gr_cells (HB.out.kept HK7.out (by simp))
    go_wp2_with fail
    refine (HG1.out _ _ (HK0.out.trans HK7.out) (by first | trivial | rfl) (HT2.out.keep HK27.out)).mono ?_
    rintro e w8 ⟨v8, rfl, hv8, kq⟩
    have HV8 := Lib.hid hv8
    have HK28 := Lib.hid (HK27.out.trans kq)
    have HK58 := Lib.hid (HK57.out.trans kq)
    have HK68 := Lib.hid (HK67.out.trans kq)
    have HK78 := Lib.hid kq
    clear hv8
    have HK8 := Lib.hid (HK7.out.trans kq)
    clear kq a0 a1 a2 a3 a4 a5 a6
    obtain ⟨a0, a1, a2, a3, a4, a5, a6⟩ := gr_cells (HB.out.kept HK8.out (by simp))
    go_wp2_with fail
    refine (HG2.out _ _ _ (HK0.out.trans HK8.out) (by first | trivial | rfl) (HR2.out.keep HK28.out)).mono ?_
    rintro e w9 ⟨v9, rfl, hv9, kq⟩
    have HV9 := Lib.hid hv9
    have HK89 := Lib.hid kq
    have HK9 := Lib.hid (HK8.out.trans kq)
    clear hv9 kq a0 a1 a2 a3 a4 a5 a6
    have t1 : (((m : Nat) : Int) == ((m : Nat) : Int)) = true := beq_self_eq_true _
    have t2 : (E == E) = true := beq_self_eq_true _
    have t3 : (E2 == E2) = true := beq_self_eq_true _
    have HX1 : Hid (∀ W, Kept [] w9 W → RdI W .i64 v3 A ∧ RdI W .i64 (.slice AA na ac) A) := fun W hW => ⟨(HV3.out.keep ((HK35.out.trans (HK58.out.trans HK89.out)).trans hW)).ints, (HAV.out.keep ((HK0.out.trans HK9.out).trans hW)).ints⟩
    have HX2 : Hid (∀ W, Kept [] w9 W → RdI W .i64 v4 L ∧ RdI W .i64 v5 L) := fun W hW => ⟨(HV4.out.keep ((HK45.out.trans (HK58.out.trans HK89.out)).trans hW)).ints, (HV5.out.keep ((HK58.out.trans HK89.out).trans hW)).ints⟩
    have HX3 : Hid (∀ W, Kept [] w9 W → RdI W .i64 v6 T ∧ RdI W .i64 v7 T) := fun W hW => ⟨(HV6.out.keep ((HK68.out.trans HK89.out).trans hW)).ints, (HV7.out.keep ((HK78.out.trans HK89.out).trans hW)).ints⟩
    have HX4 : Hid (∀ W, Kept [] w9 W → RdI W .i64 v8 G ∧ RdI W .i64 v9 G) := fun W hW => ⟨(HV8.out.keep (HK89.out.trans hW)).ints, (HV9.out.keep hW).ints⟩
    go_wp2_with fail
    refine (equal_keptm _ _ _ _ (HX1.out _ (Kept.refl _ _)).1 (HX1.out _ (Kept.refl _ _)).2).mono ?_
    rintro e u1 ⟨rfl, k1⟩
    have HU1 := Lib.hid k1
    clear k1
    go_wp2_with fail
    refine (equal_keptm _ _ _ _ (HX2.out _ HU1.out).1 (HX2.out _ HU1.out).2).mono ?_
    rintro e u2 ⟨rfl, k2⟩
    have HU2 := Lib.hid (HU1.out.trans k2)
    clear k2
    go_wp2_with fail
    refine (equal_keptm _ _ _ _ (HX3.out _ HU2.out).1 (HX3.out _ HU2.out).2).mono ?_
    rintro e u3 ⟨rfl, k3⟩
    have HU3 := Lib.hid (HU2.out.trans k3)
    clear k3
    go_wp2_with fail
    refine (equal_keptm _ _ _ _ (HX4.out _ HU3.out).1 (HX4.out _ HU3.out).2).mono ?_
    rintro e u4 ⟨rfl, k4⟩
    have HU4 := Lib.hid (HU3.out.trans k4)
    clear k4
    go_wp2_with fail
    go_ret
    exact ⟨rfl, (HK0.out.trans HK9.out).trans HU4.out⟩
theorem placeImproves_any (w : World) (v : Array Value) (g : GroundD) (wg : groundR.K w g v.toList) (bg : groundW g + 1 ≤ 1048576) (A : Option Addr) (n cap : Nat) (T : List Int) (wT : (Rk.slice (Rk.int .i64)).K w T [.slice A n cap]) (yT : n * 8 ≤ 140737488351232) :
    Calls Tryz.prog 4 #[.agg v, .slice A n cap] w fun e w' => e = .returned (.bool true) ∧ Below w.heap.size w w' := by
  obtain ⟨qv, ov, fv, sv, tv, pv, zv, rfl, hg⟩ := ground_reads wg bg
  obtain ⟨v1, he1, h1⟩ := intsR_cells wT
  simp only [List.cons.injEq, and_true] at he1
  subst he1
  have l1 : n = T.length := by obtain ⟨A', c', he, _⟩ := h1; simp only [List.cons.injEq, and_true] at he; injection he
  exact (improves_any qv ov fv sv tv pv zv _ _ _ _ _ T w hg h1 (by omega)).mono fun e w' h => ⟨h.1, h.2.below⟩

end Go.Proofs.YtbaifjdealmckaaGreat
