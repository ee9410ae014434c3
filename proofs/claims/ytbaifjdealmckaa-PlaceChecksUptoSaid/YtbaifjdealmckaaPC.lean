/- Which placings may be; where they are unlike: the walk of PlaceChecks. -/
import Derived.Test.YtbaifjdealmckaaGC
set_option linter.unusedVariables false
set_option linter.unusedSimpArgs false
set_option linter.unnecessarySimpa false
namespace Go.Proofs.Ytbaifjdealmckaa
open Go.RowKit Go.Shelf Tr
attribute [local go_sem] Oper.semAt_some

theorem equal_kept (u v : Value) (xs : List Int) (w : World) (hx : RdI w .i64 u xs) (hy : RdI w .i64 v xs) : Calls Try.prog 8 #[u, v] w fun e w' => e = .returned (.bool true) ∧ Kept [] w w' := by
  have := equal_any .i64 u v xs xs w hx hy
  rw [decide_eq_true rfl] at this
  exact this.mono fun e w' ⟨h1, h2⟩ => ⟨h1, Kept.of_drawn h2⟩
set_option maxRecDepth 100000 in
set_option maxHeartbeats 4000000 in
theorem checks_any (qv ov fv sv tv pv zv av bv : Value) (P : List Int) (x : PlanD) (r : RatesD) (S A B : List Int) (w : World) (hg : Gr w qv ov fv sv tv pv zv P x r S) (ha : Rds (Rk.int .i64) w av A) (hb : Rds (Rk.int .i64) w bv B)
    (la : A.length * 8 ≤ 140737488351232) (lb : B.length * 8 ≤ 140737488351232) :
    Calls Try.prog 3 #[.agg (grC qv ov fv sv tv pv zv), av, bv] w fun e w' => e = .returned (.bool true) ∧ Kept [] w w' := by
  have HTS := Lib.hid (fun (W : World) (hk : Kept [] w W) => trees_any qv ov fv sv tv pv zv P W (hg.keep hk).q.ints)
  have HM1 := Lib.hid (fun (W : World) (hk : Kept [] w W) => moved_any av bv A B W (ha.keep hk).ints (hb.keep hk).ints la lb)
  have HM2 := Lib.hid (fun (W : World) (hk : Kept [] w W) => rmoved_any av bv A B W (ha.keep hk).ints (hb.keep hk).ints la lb)
  have HAT := Lib.hid (fun (tb : Nat) (W : World) (hk : Kept [] w W) (he : treeErr P = 0) (ht : TreeAt W tb P) => atroot_any tb P ov fv x W ht (tree_of he) (hg.keep hk).pr.o (hg.keep hk).pr.f hg.pr.F)
  have HRA := Lib.hid (fun (rb : Nat) (tvv : Value) (W : World) (hk : Kept [] w W) (he : treeErr P = 0) (ht : RT W rb tvv P) => ratroot_any rb tvv P ov fv x W ht (tree_of he) (hg.keep hk).pr.o (hg.keep hk).pr.f hg.pr.F)
  have HCH := Lib.hid (fun (tb : Nat) (W : World) (hk : Kept [] w W) (he : treeErr P = 0) (ht : TreeAt W tb P) => check_any tb P ov fv av zv x A S W ht (tree_of he) (hg.keep hk).pr.o (hg.keep hk).pr.f hg.pr.F (ha.keep hk) (hg.keep hk).z)
  have HRC := Lib.hid (fun (rb : Nat) (tvv : Value) (W : World) (hk : Kept [] w W) (he : treeErr P = 0) (ht : RT W rb tvv P) => rcheck_any rb tvv P ov fv av zv x A S W ht (tree_of he) (hg.keep hk).pr.o (hg.keep hk).pr.f hg.pr.F (ha.keep hk).ints (hg.keep hk).z.ints)
  obtain ⟨M, hM⟩ : ∃ M, movedV A B = M := ⟨_, rfl⟩
  rw [hM] at HM1 HM2
  obtain ⟨et, het⟩ : ∃ et, treeErr P = et := ⟨_, rfl⟩
  rw [het] at HTS HAT HRA HCH HRC
  obtain ⟨E, hE⟩ : ∃ E, standE P x A S = E := ⟨_, rfl⟩
  rw [hE] at HCH HRC
  obtain ⟨E2, hE2⟩ : ∃ E, errPlan (planV x) = E := ⟨_, rfl⟩
  obtain ⟨R, hR⟩ : ∃ R, (if planV x then rootsV P x else []) = R := ⟨_, rfl⟩
  rw [hE2, hR] at HAT HRA
  clear hM het hE hE2 hR la lb
  obtain ⟨AA, ac, rfl, hmA⟩ := ha.form
  obtain ⟨BA, bc, rfl, hmB⟩ := hb.form
  obtain ⟨na, hna⟩ : ∃ n, A.length = n := ⟨_, rfl⟩
  obtain ⟨nb, hnb⟩ : ∃ n, B.length = n := ⟨_, rfl⟩
  rw [hna] at HM1 HM2 HCH HRC ⊢
  rw [hnb] at HM1 HM2 ⊢
  clear ha hb hg hna hnb hmA hmB
  have HK0 := Lib.hid ((Kept.refl [] w).alloc (.cells (grC qv ov fv sv tv pv zv) 31))
  have HB := Lib.hid (Blk.new w (grC qv ov fv sv tv pv zv) 31)
  go_enter Try.func3, Try.ntmps3
  go_wp2_with fail
  obtain ⟨w0, hw0⟩ : ∃ w0, w.alloc (.cells (grC qv ov fv sv tv pv zv) 31) = w0 := ⟨_, rfl⟩
  rw [hw0] at HK0 HB ⊢
  clear hw0
  obtain ⟨a0, a1, a2, a3, a4, a5, a6⟩ := gr_cells HB.out
  refine (HTS.out _ HK0.out).mono ?_
  rintro e w1 ⟨k1, h1⟩
  have HK1 := Lib.hid k1
  clear k1 a0 a1 a2 a3 a4 a5 a6
  rcases h1 with ⟨hE, rfl⟩ | ⟨rfl, tb, rb, tvv, rfl, hta, hrt⟩
  · go_wp2_with fail
    refine (live_any _).mono ?_
    rintro e w2 ⟨rfl, k2⟩
    have HK2 := Lib.hid (HK1.out.trans k2)
    clear k2
    go_wp2_with fail
    refine (HM1.out _ (HK0.out.trans HK2.out)).mono ?_
    rintro e w3 ⟨v3, rfl, hv3, k3⟩
    have HK3 := Lib.hid (HK2.out.trans k3)
    have HV3 := Lib.hid hv3
    clear k3 hv3
    go_wp2_with fail
    refine (HM2.out _ (HK0.out.trans HK3.out)).mono ?_
    rintro e w4 ⟨v4, rfl, hv4, k4⟩
    have HK4 := Lib.hid (HK3.out.trans k4)
    have HV34 := Lib.hid (HV3.out.keep k4)
    have HV4 := Lib.hid hv4
    clear k4 hv4
    go_wp2_with fail
    refine (equal_kept _ _ _ _ HV34.out HV4.out).mono ?_
    rintro e w5 ⟨rfl, k5⟩
    have HK5 := Lib.hid (HK4.out.trans k5)
    clear k5
    obtain ⟨a0, a1, a2, a3, a4, a5, a6⟩ := gr_cells (HB.out.kept HK5.out (by simp))
    go_wp2_with fail
    refine (check_nil _ _ _ _ _).mono ?_
    rintro e w6 ⟨rfl, k6⟩
    have HK6 := Lib.hid (HK5.out.trans k6)
    clear k6 a0 a1 a2 a3 a4 a5 a6
    go_wp2_with fail
    go_ret
    exact ⟨rfl, HK0.out.trans HK6.out⟩
  · have HT1 := Lib.hid hta
    have HR1 := Lib.hid hrt
    clear hta hrt
    go_wp2_with fail
    refine (live_any _).mono ?_
    rintro e w2 ⟨rfl, k2⟩
    have HK12 := Lib.hid k2
    have HK2 := Lib.hid (HK1.out.trans k2)
    clear k2
    go_wp2_with fail
    refine (HM1.out _ (HK0.out.trans HK2.out)).mono ?_
    rintro e w3 ⟨v3, rfl, hv3, k3⟩
    have HK3 := Lib.hid (HK2.out.trans k3)
    have HK13 := Lib.hid (HK12.out.trans k3)
    have HV3 := Lib.hid hv3
    clear k3 hv3
    go_wp2_with fail
    refine (HM2.out _ (HK0.out.trans HK3.out)).mono ?_
    rintro e w4 ⟨v4, rfl, hv4, k4⟩
    have HK4 := Lib.hid (HK3.out.trans k4)
    have HK14 := Lib.hid (HK13.out.trans k4)
    have HV34 := Lib.hid (HV3.out.keep k4)
    have HV4 := Lib.hid hv4
    clear k4 hv4
    go_wp2_with fail
    refine (equal_kept _ _ _ _ HV34.out HV4.out).mono ?_
    rintro e w5 ⟨rfl, k5⟩
    have HK5 := Lib.hid (HK4.out.trans k5)
    have HK15 := Lib.hid (HK14.out.trans k5)
    clear k5
    obtain ⟨a0, a1, a2, a3, a4, a5, a6⟩ := gr_cells (HB.out.kept HK5.out (by simp))
    go_wp2_with fail
    refine (HAT.out _ _ (HK0.out.trans HK5.out) (by first | trivial | rfl) (HT1.out.keep HK15.out)).mono ?_
    rintro e w6 ⟨v6, rfl, hv6, k6⟩
    have HK6 := Lib.hid (HK5.out.trans k6)
    have HK16 := Lib.hid (HK15.out.trans k6)
    have HV6 := Lib.hid hv6
    clear k6 hv6 a0 a1 a2 a3 a4 a5 a6
    obtain ⟨a0, a1, a2, a3, a4, a5, a6⟩ := gr_cells (HB.out.kept HK6.out (by simp))
    go_wp2_with fail
    refine (HRA.out _ _ _ (HK0.out.trans HK6.out) (by first | trivial | rfl) (HR1.out.keep HK16.out)).mono ?_
    rintro e w7 ⟨v7, rfl, hv7, k7⟩
    have HK7 := Lib.hid (HK6.out.trans k7)
    have HK17 := Lib.hid (HK16.out.trans k7)
    have HV67 := Lib.hid (HV6.out.keep k7)
    have HV7 := Lib.hid hv7
    clear k7 hv7 a0 a1 a2 a3 a4 a5 a6
    have HTT := Lib.hid (HT1.out.keep HK17.out)
    have HRR := Lib.hid (HR1.out.keep HK17.out)
    have HKA := Lib.hid (HK0.out.trans HK7.out)
    have y1 : ∀ s : SW (Kept [] w7), s.to.cell? ⟨w.heap.size, 1, none⟩ = some ov := fun s => (gr_cells (HB.out.kept (HK7.out.trans s.ok) (by simp))).2.1
    have y2 : ∀ s : SW (Kept [] w7), s.to.cell? ⟨w.heap.size, 2, none⟩ = some fv := fun s => (gr_cells (HB.out.kept (HK7.out.trans s.ok) (by simp))).2.2.1
    have y6 : ∀ s : SW (Kept [] w7), s.to.cell? ⟨w.heap.size, 6, none⟩ = some zv := fun s => (gr_cells (HB.out.kept (HK7.out.trans s.ok) (by simp))).2.2.2.2.2.2
    have hall : ∀ s : SW (Kept [] w7), Kept [] w7 s.to := fun s => s.ok
    have he2 : (E2 == E2) = true := by rw [beq_self_eq_true]
    have he : (E == E) = true := by rw [beq_self_eq_true]
    go_wp2_with fail
    refine wp_region_sw (Kept [] w7) (stays_kept w7) (Kept.refl _ _) (by kernel_rfl) (by kernel_rfl) (fun hne => ?_)
    repeat (go_big_quiet_step (first
      | (go_at_call 8; exact SW.calls (stays_kept w7) (equal_kept _ _ _ _ (HV67.out.keep (hall _)).ints (HV7.out.keep (hall _)).ints))
      | (go_at_call 11; exact SW.calls (stays_kept w7) (HCH.out _ _ (HKA.out.trans (hall _)) (by first | trivial | rfl) (HTT.out.keep (hall _))))
      | (go_at_call 14; exact SW.calls (stays_kept w7) (HRC.out _ _ _ (HKA.out.trans (hall _)) (by first | trivial | rfl) (HRR.out.keep (hall _))))))
    refine wpQuiet_nil ?_
    intro w8 hs8
    have HK8 := Lib.hid (HKA.out.trans hs8)
    clear hs8
    go_wp2_with fail
    go_ret
    exact ⟨rfl, HK8.out⟩
theorem placeChecks_any (w : World) (v : Array Value) (g : GroundD) (wg : groundR.K w g v.toList) (bg : groundW g + 1 ≤ 1048576) (A : Option Addr) (n cap : Nat) (T : List Int) (wT : (Rk.slice (Rk.int .i64)).K w T [.slice A n cap]) (yT : n * 8 ≤ 140737488351232)
    (B : Option Addr) (nB capB : Nat) (U : List Int) (wU : (Rk.slice (Rk.int .i64)).K w U [.slice B nB capB]) (yU : nB * 8 ≤ 140737488351232) :
    Calls Try.prog 3 #[.agg v, .slice A n cap, .slice B nB capB] w fun e w' => e = .returned (.bool true) ∧ Below w.heap.size w w' := by
  obtain ⟨qv, ov, fv, sv, tv, pv, zv, rfl, hg⟩ := ground_reads wg bg
  obtain ⟨v1, he1, h1⟩ := intsR_cells wT
  obtain ⟨v2, he2, h2⟩ := intsR_cells wU
  simp only [List.cons.injEq, and_true] at he1 he2
  subst he1 he2
  have l1 : n = T.length := by obtain ⟨A', c', he, _⟩ := h1; simp only [List.cons.injEq, and_true] at he; injection he
  have l2 : nB = U.length := by obtain ⟨A', c', he, _⟩ := h2; simp only [List.cons.injEq, and_true] at he; injection he
  exact (checks_any qv ov fv sv tv pv zv _ _ _ _ _ _ T U w hg h1 h2 (by omega) (by omega)).mono fun e w' h => ⟨h.1, h.2.below⟩

end Go.Proofs.Ytbaifjdealmckaa
