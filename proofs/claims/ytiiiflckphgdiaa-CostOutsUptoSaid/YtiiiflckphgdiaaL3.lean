/- What comes out of each operator, what each keeps, and which rates may be: the walk of CostOuts. -/
import Derived.Test.YtiiiflckphgdiaaP34
import Derived.Test.YtiiiflckphgdiaaBK
import Derived.Deep.DeepCutAuto
set_option linter.unusedVariables false
set_option linter.unusedSimpArgs false
set_option linter.unnecessarySimpa false
namespace Go.Proofs.Ytiiiflckphgdiaa
open Go.RowKit Go.Shelf
attribute [local go_sem] Oper.semAt_some

theorem plan_reads3 {w : World} {v : Array Value} {x : PlanD} (h : planR.K w x v.toList) : ∃ ov fv, v = #[ov, fv] ∧ Rds opR w ov x.1 ∧ Rds intsR w fv x.2 := by
  obtain ⟨ov, fv, he, h1, h2⟩ := RdP.of_rk h
  simp at he
  exact ⟨ov, fv, he, h1, h2⟩
theorem rates_reads3 {w : World} {v : Array Value} {r : RatesD} (h : ratesR.K w r v.toList) : ∃ sv tv pv, v = #[sv, tv, pv] ∧ Rds (Rk.int .i64) w sv r.1 ∧ Rds (Rk.int .i64) w tv r.2.1 ∧ Rds (Rk.int .i64) w pv r.2.2 := by
  obtain ⟨c1, c2, he, h1, c3, c4, he2, h2, h3⟩ := h
  obtain ⟨sv, rfl, k1⟩ := intsR_cells h1
  obtain ⟨tv, rfl, k2⟩ := intsR_cells h2
  obtain ⟨pv, rfl, k3⟩ := intsR_cells h3
  subst he2
  refine ⟨sv, tv, pv, ?_, k1, k2, k3⟩
  rw [← Array.toArray_toList (xs := v), he]
  rfl

theorem eq_self {a b : Value} {l : List Int} {w : World} (ha : RdI w .i64 a l) (hb : RdI w .i64 b l) (W : World) (hW : Kept [] w W) : Calls Try.prog 20 #[a, b] W fun e w' => e = .returned (.bool true) ∧ Kept [] W w' :=
  (eq64_any .i64 a b l l W (ha.keep hW) (hb.keep hW)).mono fun _ _ ⟨he, m, hm⟩ => ⟨by rw [he]; simp, by rw [hm]; exact (Kept.refl [] W).drewN m⟩

set_option maxRecDepth 100000 in
set_option maxHeartbeats 4000000 in
theorem outs_any (ov fv sv tv pv : Value) (x : PlanD) (r : RatesD) (s : Int) (w : World) (ho : Rds opR w ov x.1) (hf : Rds intsR w fv x.2) (hF : fromLen x.2 ≤ 1048576)
    (hs : RdI w .i64 sv r.1) (ht : RdI w .i64 tv r.2.1) (hp : RdI w .i64 pv r.2.2) :
    Calls Try.prog 4 #[.agg #[ov, fv], .agg #[sv, tv, pv], .int .i64 s] w fun e w' => e = .returned (.bool true) ∧ Kept [] w w' := by
  have HO1 := Lib.hid (fun (W : World) (hk : Kept [] w W) => out_any ov fv sv tv pv x r W (ho.keep hk) (hf.keep hk) hF (hs.keep hk) (ht.keep hk) (hp.keep hk))
  have HO2 := Lib.hid (fun (W : World) (hk : Kept [] w W) => rout_any ov fv sv tv pv x r W (ho.keep hk) (hf.keep hk) hF (hs.keep hk) (ht.keep hk) (hp.keep hk))
  have HH1 := Lib.hid (fun (W : World) (hk : Kept [] w W) => held_any ov fv sv tv pv x r W (ho.keep hk) (hf.keep hk) hF (hs.keep hk) (ht.keep hk) (hp.keep hk))
  have HH2 := Lib.hid (fun (W : World) (hk : Kept [] w W) => rheld_any ov fv sv tv pv x r W (ho.keep hk) (hf.keep hk) hF (hs.keep hk) (ht.keep hk) (hp.keep hk))
  have HC1 := Lib.hid (fun (W : World) (hk : Kept [] w W) => costcheck_any ov fv sv tv pv x r W (ho.keep hk) (hf.keep hk) hF (hs.keep hk) (ht.keep hk) (hp.keep hk))
  have HC2 := Lib.hid (fun (W : World) (hk : Kept [] w W) => rcostcheck_any ov fv sv tv pv x r W (ho.keep hk) (hf.keep hk) hF (hs.keep hk) (ht.keep hk) (hp.keep hk))
  have HE1 := Lib.hid (fun (W : World) (hk : Kept [] w W) => even_any ov fv x s W (ho.keep hk) (hf.keep hk) hF)
  have HE2 := Lib.hid (fun (W : World) (hk : Kept [] w W) => reven_any ov fv x s W (ho.keep hk) (hf.keep hk) hF)
  obtain ⟨A, c, rfl, hmA⟩ := ho.form
  obtain ⟨B, d, rfl, hmB⟩ := hf.form
  obtain ⟨SA, sc, rfl, hmS, -⟩ := hs
  obtain ⟨TA, tc, rfl, hmT, -⟩ := ht
  obtain ⟨PA, pc, rfl, hmP, -⟩ := hp
  obtain ⟨ec, hec⟩ : ∃ ec, checkE x r = ec := ⟨_, rfl⟩
  obtain ⟨ee, hee⟩ : ∃ ee, evenE x s = ee := ⟨_, rfl⟩
  obtain ⟨V, hV⟩ : ∃ V, evenV x s = V := ⟨_, rfl⟩
  rw [hec] at HO1 HO2 HH1 HH2 HC1 HC2
  rw [hee, hV] at HE1 HE2
  obtain ⟨O, hO⟩ : ∃ O, (if ec = 0 then outV x r else []) = O := ⟨_, rfl⟩
  obtain ⟨H, hH⟩ : ∃ H, (if ec = 0 then heldV x r else []) = H := ⟨_, rfl⟩
  rw [hO] at HO1 HO2
  rw [hH] at HH1 HH2
  clear hec hee hV hO hH
  obtain ⟨n, hn⟩ : ∃ n, x.1.length = n := ⟨_, rfl⟩
  obtain ⟨m, hm⟩ : ∃ m, x.2.length = m := ⟨_, rfl⟩
  obtain ⟨ns, hns⟩ : ∃ ns, r.1.length = ns := ⟨_, rfl⟩
  obtain ⟨nt, hnt⟩ : ∃ nt, r.2.1.length = nt := ⟨_, rfl⟩
  obtain ⟨np, hnp⟩ : ∃ np, r.2.2.length = np := ⟨_, rfl⟩
  obtain ⟨lo, hlo⟩ : ∃ lo, O.length = lo := ⟨_, rfl⟩
  obtain ⟨lh, hlh⟩ : ∃ lh, H.length = lh := ⟨_, rfl⟩
  rw [hn] at HO1 HO2 HH1 HH2 HC1 HC2 HE1 HE2 ⊢
  rw [hm] at HO1 HO2 HH1 HH2 HC1 HC2 HE1 HE2 ⊢
  simp only [hns] at HO1 HO2 HH1 HH2 HC1 HC2 ⊢
  simp only [hnt] at HO1 HO2 HH1 HH2 HC1 HC2 ⊢
  simp only [hnp] at HO1 HO2 HH1 HH2 HC1 HC2 ⊢
  have HLO := Lib.hid hlo
  have HLH := Lib.hid hlh
  clear hn hm hns hnt hnp hlo hlh hF ho hf hmA hmB hmS hmT hmP
  have HK0 := Lib.hid (((Kept.refl [] w).alloc (.cells #[.slice A n c, .slice B m d] 30)).alloc (.cells #[.slice SA ns sc, .slice TA nt tc, .slice PA np pc] 32))
  have HB0 : Hid (Blk ((w.alloc (.cells #[.slice A n c, .slice B m d] 30)).alloc (.cells #[.slice SA ns sc, .slice TA nt tc, .slice PA np pc] 32)) w.heap.size #[.slice A n c, .slice B m d] 30) := (Blk.new w _ _).alloc _
  have HB1 : Hid (Blk ((w.alloc (.cells #[.slice A n c, .slice B m d] 30)).alloc (.cells #[.slice SA ns sc, .slice TA nt tc, .slice PA np pc] 32)) (w.heap.size + 1) #[.slice SA ns sc, .slice TA nt tc, .slice PA np pc] 32) := by
    have := Blk.new (w.alloc (.cells #[.slice A n c, .slice B m d] 30)) #[.slice SA ns sc, .slice TA nt tc, .slice PA np pc] 32
    rwa [show (w.alloc (.cells #[.slice A n c, .slice B m d] 30)).heap.size = w.heap.size + 1 by simp] at this
  go_enter Try.func4, Try.ntmps4
  go_wp2_with fail
  obtain ⟨w0, hw0⟩ : ∃ w0, (w.alloc (.cells #[.slice A n c, .slice B m d] 30)).alloc (.cells #[.slice SA ns sc, .slice TA nt tc, .slice PA np pc] 32) = w0 := ⟨_, rfl⟩
  rw [hw0] at HK0 HB0 HB1 ⊢
  clear hw0
  have HBX : Hid (∀ W, Kept [] w0 W → W.cell? ⟨w.heap.size, 0, none⟩ = some (.slice A n c) ∧ W.cell? ⟨w.heap.size, 1, none⟩ = some (.slice B m d) ∧ W.cell? ⟨w.heap.size + 1, 0, none⟩ = some (.slice SA ns sc) ∧ W.cell? ⟨w.heap.size + 1, 1, none⟩ = some (.slice TA nt tc) ∧ W.cell? ⟨w.heap.size + 1, 2, none⟩ = some (.slice PA np pc)) := fun W hW => ⟨((HB0.out.kept hW (by simp)).cell 0).trans rfl, ((HB0.out.kept hW (by simp)).cell 1).trans rfl, ((HB1.out.kept hW (by simp)).cell 0).trans rfl, ((HB1.out.kept hW (by simp)).cell 1).trans rfl, ((HB1.out.kept hW (by simp)).cell 2).trans rfl⟩
  refine (HO1.out _ HK0.out).mono ?_
  rintro e w1 ⟨v1, rfl, o1, k1⟩
  rw [HLO.out] at o1
  obtain ⟨A1, c1, rfl⟩ := own_len o1
  have HR1 : Hid (RdI w1 .i64 (.slice A1 lo c1) O) := (RdI.of_own (v := .slice A1 lo c1) (xs := O) o1).1
  have HK1 := Lib.hid k1
  obtain ⟨x0, x1, r0, r1, r2⟩ := HBX.out _ HK1.out
  clear o1 k1
  go_wp2_with fail
  refine (HO2.out _ (HK0.out.trans HK1.out)).mono ?_
  rintro e w2 ⟨v2, rfl, o2, k2⟩
  rw [HLO.out] at o2
  obtain ⟨A2, c2, rfl⟩ := own_len o2
  have HR2 : Hid (RdI w2 .i64 (.slice A2 lo c2) O) := (RdI.of_own (v := .slice A2 lo c2) (xs := O) o2).1
  have HR12 := Lib.hid (HR1.out.keep k2)
  have HK2 := Lib.hid (HK1.out.trans k2)
  obtain ⟨x0, x1, r0, r1, r2⟩ := HBX.out _ HK2.out
  clear o2 k2
  go_wp2_with fail
  refine (HH1.out _ (HK0.out.trans HK2.out)).mono ?_
  rintro e w3 ⟨v3, rfl, o3, k3⟩
  rw [HLH.out] at o3
  obtain ⟨A3, c3, rfl⟩ := own_len o3
  have HR3 : Hid (RdI w3 .i64 (.slice A3 lh c3) H) := (RdI.of_own (v := .slice A3 lh c3) (xs := H) o3).1
  have HK3 := Lib.hid (HK2.out.trans k3)
  have HK23 := Lib.hid k3
  obtain ⟨x0, x1, r0, r1, r2⟩ := HBX.out _ HK3.out
  clear o3 k3
  go_wp2_with fail
  refine (HH2.out _ (HK0.out.trans HK3.out)).mono ?_
  rintro e w4 ⟨v4, rfl, o4, k4⟩
  rw [HLH.out] at o4
  obtain ⟨A4, c4, rfl⟩ := own_len o4
  have HR4 : Hid (RdI w4 .i64 (.slice A4 lh c4) H) := (RdI.of_own (v := .slice A4 lh c4) (xs := H) o4).1
  have HR34 := Lib.hid (HR3.out.keep k4)
  have HK24 := Lib.hid (HK23.out.trans k4)
  have HK4 := Lib.hid (HK3.out.trans k4)
  obtain ⟨x0, x1, r0, r1, r2⟩ := HBX.out _ HK4.out
  clear o4 k4
  go_wp2_with fail
  refine (HE1.out _ (HK0.out.trans HK4.out)).mono ?_
  rintro e w5 ⟨a5, b5, d5, rfl, ra5, rb5, rd5, k5⟩
  have HRA := Lib.hid ra5
  have HRB := Lib.hid rb5
  have HRC := Lib.hid rd5
  obtain ⟨AA, ac, rfl, _, _⟩ := ra5
  obtain ⟨BA, bc, rfl, _, _⟩ := rb5
  obtain ⟨DA, dc, rfl, _, _⟩ := rd5
  have HK5 := Lib.hid (HK4.out.trans k5)
  have HK45 := Lib.hid k5
  obtain ⟨x0, x1, r0, r1, r2⟩ := HBX.out _ (HK5.out.alloc (.cells #[.slice AA V.1.length ac, .slice BA V.2.1.length bc, .slice DA V.2.2.length dc] 32))
  clear k5
  have HMB := Lib.hid (Blk.new w5 #[.slice AA V.1.length ac, .slice BA V.2.1.length bc, .slice DA V.2.2.length dc] 32)
  go_wp2_with fail
  refine (HE2.out _ (HK0.out.trans (HK5.out.alloc _))).mono ?_
  rintro e w6 ⟨a6, b6, d6, rfl, ra6, rb6, rd6, k6⟩
  have HSA := Lib.hid ra6
  have HSB := Lib.hid rb6
  have HSC := Lib.hid rd6
  obtain ⟨EA, ea, rfl, _, _⟩ := ra6
  obtain ⟨FA, fa, rfl, _, _⟩ := rb6
  obtain ⟨GA, ga, rfl, _, _⟩ := rd6
  have HK6 := Lib.hid ((HK5.out.alloc _).trans k6)
  have HK56 := Lib.hid (((Kept.refl [] w5).alloc _).trans k6)
  have HMB6 := Lib.hid (HMB.out.kept k6 (by simp))
  have HNB := Lib.hid (Blk.new w6 #[.slice EA V.1.length ea, .slice FA V.2.1.length fa, .slice GA V.2.2.length ga] 32)
  obtain ⟨w7, hw7⟩ : ∃ w7, w6.alloc (.cells #[.slice EA V.1.length ea, .slice FA V.2.1.length fa, .slice GA V.2.2.length ga] 32) = w7 := ⟨_, rfl⟩
  have HK67 : Hid (Kept [] w6 w7) := by
    show Kept [] w6 w7
    rw [← hw7]
    exact (Kept.refl [] w6).alloc _
  rw [hw7] at HNB
  have HMB7 := Lib.hid (HMB6.out.kept HK67.out (by simp))
  have HK7 := Lib.hid (HK6.out.trans HK67.out)
  have HW7 := Lib.hid hw7
  clear k6 hw7
  have HK47 := Lib.hid ((HK45.out.trans HK56.out).trans HK67.out)
  have HK27 := Lib.hid (HK24.out.trans HK47.out)
  have HK57 := Lib.hid (HK56.out.trans HK67.out)
  have HQ1 := Lib.hid (fun (W : World) (hW : Kept [] w7 W) => eq_self (HR12.out.keep HK27.out) (HR2.out.keep HK27.out) W hW)
  have HQ2 := Lib.hid (fun (W : World) (hW : Kept [] w7 W) => eq_self (HR34.out.keep HK47.out) (HR4.out.keep HK47.out) W hW)
  have HQ3 := Lib.hid (fun (W : World) (hW : Kept [] w7 W) => same_any _ _ _ _ _ _ V V W (HRA.out.keep (HK57.out.trans hW)) (HRB.out.keep (HK57.out.trans hW)) (HRC.out.keep (HK57.out.trans hW)) (HSA.out.keep (HK67.out.trans hW)) (HSB.out.keep (HK67.out.trans hW)) (HSC.out.keep (HK67.out.trans hW)) rfl)
  have HQ4 := Lib.hid (fun (W : World) (hW : Kept [] w7 W) => HC1.out W (HK0.out.trans (HK7.out.trans hW)))
  have HQ5 := Lib.hid (fun (W : World) (hW : Kept [] w7 W) => HC2.out W (HK0.out.trans (HK7.out.trans hW)))
  have HQ6 := Lib.hid (fun (W : World) (hW : Kept [] w7 W) => begun_any W)
  have cx0 : ∀ t : SW (Kept [] w7), t.to.cell? ⟨w.heap.size, 0, none⟩ = some (.slice A n c) := fun t => (HBX.out _ (HK7.out.trans t.ok)).1
  have cx1 : ∀ t : SW (Kept [] w7), t.to.cell? ⟨w.heap.size, 1, none⟩ = some (.slice B m d) := fun t => (HBX.out _ (HK7.out.trans t.ok)).2.1
  have cr0 : ∀ t : SW (Kept [] w7), t.to.cell? ⟨w.heap.size + 1, 0, none⟩ = some (.slice SA ns sc) := fun t => (HBX.out _ (HK7.out.trans t.ok)).2.2.1
  have cr1 : ∀ t : SW (Kept [] w7), t.to.cell? ⟨w.heap.size + 1, 1, none⟩ = some (.slice TA nt tc) := fun t => (HBX.out _ (HK7.out.trans t.ok)).2.2.2.1
  have cr2 : ∀ t : SW (Kept [] w7), t.to.cell? ⟨w.heap.size + 1, 2, none⟩ = some (.slice PA np pc) := fun t => (HBX.out _ (HK7.out.trans t.ok)).2.2.2.2
  have cm0 : ∀ t : SW (Kept [] w7), t.to.cell? ⟨w5.heap.size, 0, none⟩ = some (.slice AA V.1.length ac) := fun t => ((HMB7.out.kept t.ok (by simp)).cell 0).trans rfl
  have cm1 : ∀ t : SW (Kept [] w7), t.to.cell? ⟨w5.heap.size, 1, none⟩ = some (.slice BA V.2.1.length bc) := fun t => ((HMB7.out.kept t.ok (by simp)).cell 1).trans rfl
  have cm2 : ∀ t : SW (Kept [] w7), t.to.cell? ⟨w5.heap.size, 2, none⟩ = some (.slice DA V.2.2.length dc) := fun t => ((HMB7.out.kept t.ok (by simp)).cell 2).trans rfl
  have cn0 : ∀ t : SW (Kept [] w7), t.to.cell? ⟨w6.heap.size, 0, none⟩ = some (.slice EA V.1.length ea) := fun t => ((HNB.out.kept t.ok (by simp)).cell 0).trans rfl
  have cn1 : ∀ t : SW (Kept [] w7), t.to.cell? ⟨w6.heap.size, 1, none⟩ = some (.slice FA V.2.1.length fa) := fun t => ((HNB.out.kept t.ok (by simp)).cell 1).trans rfl
  have cn2 : ∀ t : SW (Kept [] w7), t.to.cell? ⟨w6.heap.size, 2, none⟩ = some (.slice GA V.2.2.length ga) := fun t => ((HNB.out.kept t.ok (by simp)).cell 2).trans rfl
  have hee : (ec == ec) = true := by simp
  have hff : (ee == ee) = true := by simp
  go_upto_region 7 with fail
  rw [HW7.out]
  refine wp_region_sw (Kept [] w7) (stays_kept w7) (Kept.refl [] w7) (by kernel_rfl) (by kernel_rfl) (fun hne => ?_)
  repeat (go_big_quiet_step (first
    | (go_at_call 9; exact SW.calls_of (stays_kept w7) HQ6.out)
    | (go_at_call_of 20 (Value.slice A1 lo c1); exact SW.calls_of (stays_kept w7) HQ1.out)
    | (go_at_call_of 20 (Value.slice A3 lh c3); exact SW.calls_of (stays_kept w7) HQ2.out)
    | (go_at_call 21; exact SW.calls_of (stays_kept w7) HQ3.out)
    | (go_at_call 22; exact SW.calls_of (stays_kept w7) HQ4.out)
    | (go_at_call 23; exact SW.calls_of (stays_kept w7) HQ5.out)))
  refine wpQuiet_nil ?_
  intro w8 hk8
  have HK8 := Lib.hid hk8
  clear hk8
  go_wp2_with fail
  go_ret
  exact ⟨rfl, HK0.out.trans (HK7.out.trans HK8.out)⟩
theorem costOuts_any (w : World) (v : Array Value) (x : PlanD) (wx : planR.K w x v.toList) (bx : planW x + 1 ≤ 1048576) (u : Array Value) (r : RatesD) (wr : ratesR.K w r u.toList) (s : Int) (ws : (Lit.int .i64 s).wf = true) :
    Calls Try.prog 4 #[.agg v, .agg u, .int .i64 s] w fun e w' => e = .returned (.bool true) ∧ Below w.heap.size w w' := by
  obtain ⟨ov, fv, rfl, ho, hf⟩ := plan_reads3 wx
  obtain ⟨sv, tv, pv, rfl, hs, ht, hp⟩ := rates_reads3 wr
  exact (outs_any ov fv sv tv pv x r s w ho hf (planW_le bx) hs.ints ht.ints hp.ints).mono fun e w' h => ⟨h.1, h.2.below⟩
end Go.Proofs.Ytiiiflckphgdiaa
