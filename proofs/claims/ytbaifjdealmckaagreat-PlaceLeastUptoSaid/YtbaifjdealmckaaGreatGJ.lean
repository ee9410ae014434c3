/- A placing that costs little, and passes till nothing is put elsewhere: the document's Greedy and Settle, the program's Settle. -/
import Derived.Test.YtbaifjdealmckaaGreatGI
set_option linter.unusedVariables false
set_option linter.unusedSimpArgs false
set_option linter.unnecessarySimpa false
namespace Go.Proofs.YtbaifjdealmckaaGreat
open Go.RowKit Go.Shelf Tr
attribute [local go_sem] Oper.semAt_some

set_option maxRecDepth 100000 in
set_option maxHeartbeats 2000000 in
theorem rgreedy_any (rb : Nat) (tvv : Value) (P : List Int) (ov fv sv tv pv zv : Value) (x : PlanD) (r : RatesD) (S : List Int) (w : World) (hR : RT w rb tvv P) (hTr : Tree P) (hpr : Pr w ov fv sv tv pv x r) (hzr : Rds (Rk.int .i64) w zv S) :
    Calls Tryz.prog 15 #[.pointer (some ⟨rb, 0, none⟩), .agg #[ov, fv], .agg #[sv, tv, pv], zv] w (TwoPost w (greedE P x r S) (greedV P x r S)) := by
  have HA := Lib.hid (fun (W : World) (hk : Kept [] w W) => ratroot_any rb tvv P ov fv x W (hR.keep hk) hTr (hpr.keep hk).o (hpr.keep hk).f hpr.F)
  have HI := Lib.hid (fun (W : World) (v : Value) (hk : Kept [] w W) (hv : Rds (Rk.int .i64) W v (rootsV P x)) => rimprove_any rb tvv P ov fv sv tv pv v zv x r (rootsV P x) S W (hR.keep hk) hTr (hpr.keep hk) hv (hzr.keep hk))
  obtain ⟨E, hE⟩ : ∃ E, greedE P x r S = E := ⟨_, rfl⟩
  obtain ⟨q, hq⟩ : ∃ q, impV P x r S (rootsV P x) = q := ⟨_, rfl⟩
  unfold greedV
  rw [hE, hq]
  unfold greedE at hE
  have HQ0 : Hid (planV x = false → q = ([], 0)) := fun h => by
    rw [← hq]
    unfold impV
    rw [if_neg]
    have e : standE P x (rootsV P x) S = 150 := by unfold standE; rw [h]; simp
    unfold lookE
    rw [e]
    simp
  obtain ⟨pv', hpv⟩ : ∃ p, planV x = p := ⟨_, rfl⟩
  rw [hpv] at HA hE HQ0
  rw [hq] at HI
  obtain ⟨R, hR'⟩ : ∃ R, rootsV P x = R := ⟨_, rfl⟩
  rw [hR'] at HA HI hE
  obtain ⟨EL, hEL⟩ : ∃ EL, lookE P x r R S 0 = EL := ⟨_, rfl⟩
  rw [hEL] at HI hE
  have HE := Lib.hid hE.symm
  clear hE hq hpv hR' hEL hR hTr hzr
  have HK0 := Lib.hid (((Kept.refl [] w).alloc (.cells #[ov, fv] 26)).alloc (.cells #[sv, tv, pv] 29))
  have HBX := Lib.hid (Bx.new w ov fv sv tv pv)
  clear hpr
  go_enter Tryz.func15, Tryz.ntmps15
  go_wp2_with fail
  obtain ⟨w0, hw0⟩ : ∃ w0, (w.alloc (.cells #[ov, fv] 26)).alloc (.cells #[sv, tv, pv] 29) = w0 := ⟨_, rfl⟩
  rw [hw0] at HK0 HBX ⊢
  clear hw0
  obtain ⟨x0, x1, r0, r1, r2⟩ := HBX.out.cs
  refine (HA.out _ HK0.out).mono ?_
  rintro e w1 ⟨v1, rfl, hv1, k1⟩
  have HK1 := Lib.hid k1
  have HV1 := Lib.hid hv1
  clear k1 hv1 x0 x1 r0 r1 r2
  cases pv' with
  | false =>
    have hE : Hid (E = 150) := HE.out
    have hQ := Lib.hid (HQ0.out rfl)
    rw [show errPlan false = 150 from rfl]
    go_wp2_with fail
    go_ret2
    exact ⟨_, by rw [hE.out] <;> rfl, by rw [hQ.out]; exact rds_nil _ _, HK0.out.trans HK1.out⟩
  | true =>
    have hE : Hid (E = EL) := HE.out
    rw [if_pos rfl] at HV1
    rw [show errPlan true = 0 from rfl]
    obtain ⟨x0, x1, r0, r1, r2⟩ := (HBX.out.keep HK1.out).cs
    go_wp2_with fail
    refine (HI.out _ _ (HK0.out.trans HK1.out) HV1.out).mono ?_
    rintro e w2 ⟨v2, rfl, hv2, k2⟩
    have HK2 := Lib.hid k2
    have HV2 := Lib.hid hv2
    clear k2 hv2 x0 x1 r0 r1 r2
    go_wp2_with fail
    go_ret2
    exact ⟨_, by rw [hE.out] <;> rfl, HV2.out, (HK0.out.trans HK1.out).trans HK2.out⟩

theorem setG_stop {P : List Int} {x : PlanD} {r : RatesD} {S B : List Int} {f : Nat} (h : (impG P x r S B x.1.length).2 = 0) : setG P x r S (f + 1) B = (impG P x r S B x.1.length).1 := by rw [setG, if_pos h]
theorem setG_more {P : List Int} {x : PlanD} {r : RatesD} {S B : List Int} {f : Nat} (h : ¬ (impG P x r S B x.1.length).2 = 0) : setG P x r S (f + 1) B = setG P x r S f (impG P x r S B x.1.length).1 := by rw [setG, if_neg h]

set_option maxRecDepth 100000 in
set_option maxHeartbeats 4000000 in
theorem settle_any (b : Nat) (P : List Int) (ov fv sv tv pv av zv : Value) (x : PlanD) (r : RatesD) (A S : List Int) (w : World) (hT : TreeAt w b P) (hTr : Tree P) (hpr : Pr w ov fv sv tv pv x r)
    (har : Rds (Rk.int .i64) w av A) (hzr : Rds (Rk.int .i64) w zv S) :
    Calls Tryz.prog 12 #[.pointer (some ⟨b, 0, none⟩), .agg #[ov, fv], .agg #[sv, tv, pv], av, zv] w (TwoPost w (lookE P x r A S 0) (setV P x r S A)) := by
  have HI := Lib.hid (fun (W : World) (v : Value) (B : List Int) (hk : Kept [] w W) (hv : Rds (Rk.int .i64) W v B) => improve_any b P ov fv sv tv pv v zv x r B S W (hT.keep hk) hTr (hpr.keep hk) hv (hzr.keep hk))
  clear hT
  obtain ⟨R, hR'⟩ : ∃ R, setV P x r S A = R := ⟨_, rfl⟩
  rw [hR']
  unfold setV at hR'
  have HGI : Hid (∀ B, Good P x r S B → lookE P x r B S 0 = 0 ∧ impV P x r S B = impG P x r S B x.1.length ∧ Good P x r S (impG P x r S B x.1.length).1 ∧ (impG P x r S B x.1.length).2 ≤ 32) := fun B hB => by
    have hf := hB.facts
    have h0 := hB.look (show (0 : Int) ≤ 0 by omega) (by omega)
    have hm := impG_moved (P := P) (x := x) (r := r) (S := S) (A := B) x.1.length
    refine ⟨h0, ?_, impG_good hTr hB _ (Nat.le_refl _), by omega⟩
    unfold impV
    rw [if_pos h0]
  have HST : Hid (∀ B f, (impG P x r S B x.1.length).2 = 0 → setG P x r S (f + 1) B = (impG P x r S B x.1.length).1) := fun B f h => setG_stop h
  have HSM : Hid (∀ B f, ¬ (impG P x r S B x.1.length).2 = 0 → setG P x r S (f + 1) B = setG P x r S f (impG P x r S B x.1.length).1) := fun B f h => setG_more h
  have HGA : Hid (lookE P x r A S 0 = 0 → Good P x r S A) := fun h => (lookE_zero h).1
  obtain ⟨E, hE⟩ : ∃ E, lookE P x r A S 0 = E := ⟨_, rfl⟩
  have HLE := Lib.hid hE
  rw [hE] at hR' HGA ⊢
  have HR := Lib.hid hR'.symm
  have HAV := Lib.hid har
  clear hR' hE hTr har hzr
  have HK0 := Lib.hid (((Kept.refl [] w).alloc (.cells #[ov, fv] 26)).alloc (.cells #[sv, tv, pv] 29))
  have HBX := Lib.hid (Bx.new w ov fv sv tv pv)
  clear hpr
  go_enter Tryz.func12, Tryz.ntmps12
  go_wp2_with fail
  obtain ⟨w0, hw0⟩ : ∃ w0, (w.alloc (.cells #[ov, fv] 26)).alloc (.cells #[sv, tv, pv] 29) = w0 := ⟨_, rfl⟩
  rw [hw0] at HK0 HBX ⊢
  clear hw0
  have HAV0 := Lib.hid (HAV.out.keep HK0.out)
  by_cases h1 : E = 0
  · subst h1
    rw [if_pos rfl] at HR
    have HG0 := Lib.hid (HGA.out rfl)
    go_loopw [3, 15] (fun v ii wr => ∃ (j : Nat) (B : List Int), j ≤ 8 ∧ ii = .int .i64 j ∧ Rds (Rk.int .i64) wr v B ∧ Good P x r S B ∧ R = setG P x r S (8 - j) B ∧ Kept [] w0 wr) (fun _ ii _ => 8 - (intOf ii).toNat)
    case atStart => exact ⟨0, A, by omega, rfl, HAV0.out, HG0.out, HR.out, Kept.refl _ _⟩
    case round =>
      obtain ⟨j, B, hj, rfl, hv, hG, hS, hK⟩ := hrel
      have HV := Lib.hid hv
      have HGB := Lib.hid hG
      have HS := Lib.hid hS
      have HK := Lib.hid hK
      clear hv hG hS hK
      by_cases hlt : j < 8
      · obtain ⟨f, hf⟩ : ∃ f, 8 - j = f + 1 := ⟨7 - j, by omega⟩
        have hf2 : f = 8 - (j + 1) := by omega
        obtain ⟨g0, g1, g2, g3⟩ := HGI.out B HGB.out
        have hC := HI.out _ _ B (HK0.out.trans HK.out) HV.out
        rw [g0, g1] at hC
        have HC := Lib.hid hC
        have HG2 := Lib.hid g2
        have HS1 := Lib.hid (HST.out B f)
        have HS2 := Lib.hid (HSM.out B f)
        rw [hf] at HS
        obtain ⟨q, hq⟩ : ∃ q, impG P x r S B x.1.length = q := ⟨_, rfl⟩
        rw [hq] at HC HG2 HS1 HS2 g3
        obtain ⟨L, m⟩ := q
        dsimp only at HG2 HS1 HS2 g3
        have HF2 := Lib.hid hf2
        clear hq g0 g1 g2 hf hf2 hC
        obtain ⟨x0, x1, r0, r1, r2⟩ := (HBX.out.keep HK.out).cs
        go_wp2_with fail
        refine HC.out.mono ?_
        rintro e w2 ⟨v2, rfl, hv2, k2⟩
        have HV2 := Lib.hid hv2
        have HK2 := Lib.hid (HK.out.trans k2)
        clear hv2 k2 x0 x1 r0 r1 r2
        by_cases hm : m = 0
        · have hm' : ((m : Int) == 0) = true := by rw [hm]; rfl
          have HRE : Hid (R = L) := by show _ = _; rw [HS.out]; exact HS1.out hm
          clear hm g3
          go_wp2_with fail
          go_ret2
          exact ⟨_, rfl, by rw [HRE.out]; exact HV2.out, HK0.out.trans HK2.out⟩
        · have hm' : ((m : Int) == 0) = false := by rw [beq_eq_false_iff_ne]; omega
          have HRE : Hid (R = setG P x r S (8 - (j + 1)) L) := by show _ = _; rw [HS.out, ← HF2.out]; exact HS2.out hm
          clear hm g3
          go_wp2_with fail
          go_roundw
          case rel => exact ⟨j + 1, L, by omega, by go_num, HV2.out, HG2.out, HRE.out, HK2.out⟩
          case measure => simp [intOf]; omega
      · have hj8 : j = 8 := by omega
        subst hj8
        have HRE : Hid (R = B) := HS.out
        go_wp2_with fail
        go_ret2
        exact ⟨_, rfl, by rw [HRE.out]; exact HV.out, HK0.out.trans HK.out⟩
  · have h1' : (E != 0) = true := by rw [bne_iff_ne]; exact h1
    have HRE : Hid (R = []) := by show _ = _; rw [HR.out, if_neg h1]
    have hC := HI.out _ _ A HK0.out HAV0.out
    rw [HLE.out] at hC
    have HC := Lib.hid hC
    clear hC
    obtain ⟨x0, x1, r0, r1, r2⟩ := HBX.out.cs
    refine wp_loop_rounds 9 ?_
    rw [rounds_succ]
    go_wp2_with fail
    refine HC.out.mono ?_
    rintro e w2 ⟨v2, rfl, -, k2⟩
    have HK2 := Lib.hid (HK0.out.trans k2)
    clear k2 x0 x1 r0 r1 r2
    go_wp2_with fail
    go_ret2
    exact ⟨_, rfl, by rw [HRE.out]; exact rds_nil _ _, HK2.out⟩
set_option maxRecDepth 100000 in
set_option maxHeartbeats 4000000 in
theorem rsettle_any (rb : Nat) (tvv : Value) (P : List Int) (ov fv sv tv pv av zv : Value) (x : PlanD) (r : RatesD) (A S : List Int) (w : World) (hR : RT w rb tvv P) (hTr : Tree P) (hpr : Pr w ov fv sv tv pv x r)
    (har : Rds (Rk.int .i64) w av A) (hzr : Rds (Rk.int .i64) w zv S) :
    Calls Tryz.prog 13 #[.pointer (some ⟨rb, 0, none⟩), .agg #[ov, fv], .agg #[sv, tv, pv], av, zv] w (TwoPost w (lookE P x r A S 0) (setV P x r S A)) := by
  have HI := Lib.hid (fun (W : World) (v : Value) (B : List Int) (hk : Kept [] w W) (hv : Rds (Rk.int .i64) W v B) => rimprove_any rb tvv P ov fv sv tv pv v zv x r B S W (hR.keep hk) hTr (hpr.keep hk) hv (hzr.keep hk))
  clear hR
  obtain ⟨R, hR'⟩ : ∃ R, setV P x r S A = R := ⟨_, rfl⟩
  rw [hR']
  unfold setV at hR'
  have HGI : Hid (∀ B, Good P x r S B → lookE P x r B S 0 = 0 ∧ impV P x r S B = impG P x r S B x.1.length ∧ Good P x r S (impG P x r S B x.1.length).1 ∧ (impG P x r S B x.1.length).2 ≤ 32) := fun B hB => by
    have hf := hB.facts
    have h0 := hB.look (show (0 : Int) ≤ 0 by omega) (by omega)
    have hm := impG_moved (P := P) (x := x) (r := r) (S := S) (A := B) x.1.length
    refine ⟨h0, ?_, impG_good hTr hB _ (Nat.le_refl _), by omega⟩
    unfold impV
    rw [if_pos h0]
  have HST : Hid (∀ B f, (impG P x r S B x.1.length).2 = 0 → setG P x r S (f + 1) B = (impG P x r S B x.1.length).1) := fun B f h => setG_stop h
  have HSM : Hid (∀ B f, ¬ (impG P x r S B x.1.length).2 = 0 → setG P x r S (f + 1) B = setG P x r S f (impG P x r S B x.1.length).1) := fun B f h => setG_more h
  have HGA : Hid (lookE P x r A S 0 = 0 → Good P x r S A) := fun h => (lookE_zero h).1
  obtain ⟨E, hE⟩ : ∃ E, lookE P x r A S 0 = E := ⟨_, rfl⟩
  have HLE := Lib.hid hE
  rw [hE] at hR' HGA ⊢
  have HR := Lib.hid hR'.symm
  have HAV := Lib.hid har
  clear hR' hE hTr har hzr
  have HK0 := Lib.hid (((Kept.refl [] w).alloc (.cells #[ov, fv] 26)).alloc (.cells #[sv, tv, pv] 29))
  have HBX := Lib.hid (Bx.new w ov fv sv tv pv)
  clear hpr
  go_enter Tryz.func13, Tryz.ntmps13
  go_wp2_with fail
  obtain ⟨w0, hw0⟩ : ∃ w0, (w.alloc (.cells #[ov, fv] 26)).alloc (.cells #[sv, tv, pv] 29) = w0 := ⟨_, rfl⟩
  rw [hw0] at HK0 HBX ⊢
  clear hw0
  have HAV0 := Lib.hid (HAV.out.keep HK0.out)
  by_cases h1 : E = 0
  · subst h1
    rw [if_pos rfl] at HR
    have HG0 := Lib.hid (HGA.out rfl)
    go_loopw [12, 13] (fun v ii wr => ∃ (j : Nat) (B : List Int), j ≤ 8 ∧ ii = .int .i64 j ∧ Rds (Rk.int .i64) wr v B ∧ Good P x r S B ∧ R = setG P x r S (8 - j) B ∧ Kept [] w0 wr) (fun _ ii _ => 8 - (intOf ii).toNat)
    case atStart => exact ⟨0, A, by omega, rfl, HAV0.out, HG0.out, HR.out, Kept.refl _ _⟩
    case round =>
      obtain ⟨j, B, hj, rfl, hv, hG, hS, hK⟩ := hrel
      have HV := Lib.hid hv
      have HGB := Lib.hid hG
      have HS := Lib.hid hS
      have HK := Lib.hid hK
      clear hv hG hS hK
      by_cases hlt : j < 8
      · obtain ⟨f, hf⟩ : ∃ f, 8 - j = f + 1 := ⟨7 - j, by omega⟩
        have hf2 : f = 8 - (j + 1) := by omega
        obtain ⟨g0, g1, g2, g3⟩ := HGI.out B HGB.out
        have hC := HI.out _ _ B (HK0.out.trans HK.out) HV.out
        rw [g0, g1] at hC
        have HC := Lib.hid hC
        have HG2 := Lib.hid g2
        have HS1 := Lib.hid (HST.out B f)
        have HS2 := Lib.hid (HSM.out B f)
        rw [hf] at HS
        obtain ⟨q, hq⟩ : ∃ q, impG P x r S B x.1.length = q := ⟨_, rfl⟩
        rw [hq] at HC HG2 HS1 HS2 g3
        obtain ⟨L, m⟩ := q
        dsimp only at HG2 HS1 HS2 g3
        have HF2 := Lib.hid hf2
        clear hq g0 g1 g2 hf hf2 hC
        obtain ⟨x0, x1, r0, r1, r2⟩ := (HBX.out.keep HK.out).cs
        go_wp2_with fail
        refine HC.out.mono ?_
        rintro e w2 ⟨v2, rfl, hv2, k2⟩
        have HV2 := Lib.hid hv2
        have HK2 := Lib.hid (HK.out.trans k2)
        clear hv2 k2 x0 x1 r0 r1 r2
        by_cases hm : m = 0
        · have hm' : ((m : Int) == 0) = true := by rw [hm]; rfl
          have HRE : Hid (R = L) := by show _ = _; rw [HS.out]; exact HS1.out hm
          clear hm g3
          go_wp2_with fail
          go_ret2
          exact ⟨_, rfl, by rw [HRE.out]; exact HV2.out, HK0.out.trans HK2.out⟩
        · have hm' : ((m : Int) == 0) = false := by rw [beq_eq_false_iff_ne]; omega
          have HRE : Hid (R = setG P x r S (8 - (j + 1)) L) := by show _ = _; rw [HS.out, ← HF2.out]; exact HS2.out hm
          clear hm g3
          go_wp2_with fail
          go_roundw
          case rel => exact ⟨j + 1, L, by omega, by go_num, HV2.out, HG2.out, HRE.out, HK2.out⟩
          case measure => simp [intOf]; omega
      · have hj8 : j = 8 := by omega
        subst hj8
        have HRE : Hid (R = B) := HS.out
        go_wp2_with fail
        go_ret2
        exact ⟨_, rfl, by rw [HRE.out]; exact HV.out, HK0.out.trans HK.out⟩
  · have h1' : (E != 0) = true := by rw [bne_iff_ne]; exact h1
    have HRE : Hid (R = []) := by show _ = _; rw [HR.out, if_neg h1]
    have hC := HI.out _ _ A HK0.out HAV0.out
    rw [HLE.out] at hC
    have HC := Lib.hid hC
    clear hC
    obtain ⟨x0, x1, r0, r1, r2⟩ := HBX.out.cs
    refine wp_loop_rounds 9 ?_
    rw [rounds_succ]
    go_wp2_with fail
    refine HC.out.mono ?_
    rintro e w2 ⟨v2, rfl, -, k2⟩
    have HK2 := Lib.hid (HK0.out.trans k2)
    clear k2 x0 x1 r0 r1 r2
    go_wp2_with fail
    go_ret2
    exact ⟨_, rfl, by rw [HRE.out]; exact rds_nil _ _, HK2.out⟩

end Go.Proofs.YtbaifjdealmckaaGreat
