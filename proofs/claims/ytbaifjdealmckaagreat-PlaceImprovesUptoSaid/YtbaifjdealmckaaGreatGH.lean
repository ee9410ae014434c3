/- Where operators stand: the document's Least, Improve, Greedy, Settle; the program's Settle. -/
import Derived.Test.YtbaifjdealmckaaGreatGC
set_option linter.unusedVariables false
set_option linter.unusedSimpArgs false
set_option linter.unnecessarySimpa false
namespace Go.Proofs.YtbaifjdealmckaaGreat
open Go.RowKit Go.Shelf Tr
attribute [local go_sem] Oper.semAt_some

set_option maxRecDepth 100000 in
set_option maxHeartbeats 2000000 in
theorem rpart19_any (rb : Nat) (tvv : Value) (P : List Int) (ov fv sv tv pv av zv : Value) (x : PlanD) (r : RatesD) (A S : List Int) (op h : Int) (w : World) (hR : RT w rb tvv P) (hTr : Tree P) (hpr : Pr w ov fv sv tv pv x r) (ha : RdI w .i64 av A) (hz : RdI w .i64 zv S) :
    Calls Tryz.prog 28 #[.pointer (some ⟨rb, 0, none⟩), .agg #[ov, fv], .agg #[sv, tv, pv], av, .int .i64 op, .int .i64 h, zv] w fun e w' => e = .returned (.int .i64 (partV P x r A S op h)) ∧ Kept [] w w' := by
  have HP := Lib.hid (fun (W : World) (hk : Kept [] w W) => rpart_any rb tvv P ov fv sv tv pv av zv x r A S op h W (hR.keep hk) hTr (hpr.keep hk).o (hpr.keep hk).f hpr.F (hpr.keep hk).s (hpr.keep hk).t (hpr.keep hk).p (ha.keep hk) (hz.keep hk))
  obtain ⟨q, hq⟩ : ∃ q, partV P x r A S op h = q := ⟨_, rfl⟩
  obtain ⟨E, hE⟩ : ∃ E, partE P.length x r A S op h = E := ⟨_, rfl⟩
  rw [hq, hE] at HP
  rw [hq]
  clear hq hE hpr ha hz hR hTr
  have HK0 := Lib.hid (((Kept.refl [] w).alloc (.cells #[ov, fv] 26)).alloc (.cells #[sv, tv, pv] 29))
  have HBX := Lib.hid (Bx.new w ov fv sv tv pv)
  go_enter Tryz.func28, Tryz.ntmps28
  go_wp2_with fail
  obtain ⟨w0, hw0⟩ : ∃ w0, (w.alloc (.cells #[ov, fv] 26)).alloc (.cells #[sv, tv, pv] 29) = w0 := ⟨_, rfl⟩
  rw [hw0] at HK0 HBX ⊢
  clear hw0
  obtain ⟨x0, x1, r0, r1, r2⟩ := HBX.out.cs
  refine (HP.out _ HK0.out).mono ?_
  rintro e w1 ⟨rfl, k1⟩
  have HK1 := Lib.hid (HK0.out.trans k1)
  clear k1 x0 x1 r0 r1 r2
  go_wp2_with fail
  go_ret
  exact ⟨rfl, HK1.out⟩

theorem bestG_less {f : Nat → Int} {i : Nat} (h : f (i + 1) < f (bestG f i)) : bestG f (i + 1) = i + 1 := by rw [bestG, if_pos h]
theorem bestG_more {f : Nat → Int} {i : Nat} (h : ¬ f (i + 1) < f (bestG f i)) : bestG f (i + 1) = bestG f i := by rw [bestG, if_neg h]

set_option maxRecDepth 100000 in
set_option maxHeartbeats 4000000 in
theorem rleast_any (rb : Nat) (tvv : Value) (P : List Int) (ov fv sv tv pv av zv : Value) (x : PlanD) (r : RatesD) (A S : List Int) (op : Int) (w : World) (hR : RT w rb tvv P) (hTr : Tree P) (hpr : Pr w ov fv sv tv pv x r) (har : RdI w .i64 av A) (hzr : RdI w .i64 zv S) :
    Calls Tryz.prog 8 #[.pointer (some ⟨rb, 0, none⟩), .agg #[ov, fv], .agg #[sv, tv, pv], av, .int .i64 op, zv] w fun e w' => e = .returned (.tuple #[.int .i64 (leastV P x r A S op), .int .i64 (lookE P x r A S op)]) ∧ Kept [] w w' := by
  have HC := Lib.hid (fun (W : World) (hk : Kept [] w W) => rcheck_any rb tvv P ov fv av zv x A S W (hR.keep hk) hTr (hpr.keep hk).o (hpr.keep hk).f hpr.F (har.keep hk) (hzr.keep hk))
  have HCC := Lib.hid (fun (W : World) (hk : Kept [] w W) => rcostcheck_any ov fv sv tv pv x r W (hpr.keep hk).o (hpr.keep hk).f hpr.F (hpr.keep hk).s (hpr.keep hk).t (hpr.keep hk).p)
  have HRT := Lib.hid (fun (W : World) (hk : Kept [] w W) => rroot_at rb tvv P W (hR.keep hk) hTr)
  have HPT := Lib.hid (fun (k : Int) (W : World) (hk : Kept [] w W) => rpart19_any rb tvv P ov fv sv tv pv av zv x r A S op k W (hR.keep hk) hTr (hpr.keep hk) (har.keep hk) (hzr.keep hk))
  have hnp1 := hTr.pos
  have hnp16 := hTr.le
  have HC0 := Lib.hid hR.1
  obtain ⟨TA', tc', rfl, hmT', -⟩ := hR.2
  obtain ⟨A1, c, rfl, hmA⟩ := hpr.o.form
  obtain ⟨SA, sc, rfl, hmS, -⟩ := hpr.s
  obtain ⟨ZA, zc, rfl, hmZ, -⟩ := hzr
  have HPN : Hid (standE P x A S = 0 → 2 ≤ x.1.length ∧ x.1.length ≤ 32) := fun h => ⟨(plan_place (standE_zero h).1).1, (plan_place (standE_zero h).1).2.1⟩
  obtain ⟨V, hV⟩ : ∃ V, leastV P x r A S op = V := ⟨_, rfl⟩
  rw [hV]
  unfold leastV lsV at hV
  obtain ⟨E, hEE⟩ : ∃ E, lookE P x r A S op = E := ⟨_, rfl⟩
  rw [hEE] at hV ⊢
  unfold lookE at hEE
  obtain ⟨es, hes⟩ : ∃ es, standE P x A S = es := ⟨_, rfl⟩
  rw [hes] at HC HPN hEE
  obtain ⟨ec, hec⟩ : ∃ ec, checkE x r = ec := ⟨_, rfl⟩
  rw [hec] at HCC hEE
  obtain ⟨rt, hrt⟩ : ∃ rt, rootV P = rt := ⟨_, rfl⟩
  rw [hrt] at HRT hV
  obtain ⟨n, hn⟩ : ∃ n, x.1.length = n := ⟨_, rfl⟩
  obtain ⟨ns, hns⟩ : ∃ ns, r.1.length = ns := ⟨_, rfl⟩
  obtain ⟨ls, hls⟩ : ∃ ls, S.length = ls := ⟨_, rfl⟩
  obtain ⟨np, hnp⟩ : ∃ np, P.length = np := ⟨_, rfl⟩
  rw [hn] at hmA HC HCC HPN HPT hEE hV ⊢
  rw [hns] at hmS HCC HPT hEE ⊢
  rw [hls] at hmZ HC HPT hEE ⊢
  rw [hnp] at HC0 hV hnp1 hnp16 hmT'
  have HE := Lib.hid hEE.symm
  have HV := Lib.hid hV.symm
  unfold maxLen at hmT'
  clear hn hns hls hnp hes hec hrt hEE hV har hTr hR
  have HK0 := Lib.hid (((Kept.refl [] w).alloc (.cells #[.slice A1 n c, fv] 26)).alloc (.cells #[.slice SA ns sc, tv, pv] 29))
  have HBX := Lib.hid (Bx.new w (.slice A1 n c) fv (.slice SA ns sc) tv pv)
  clear hpr
  go_enter Tryz.func8, Tryz.ntmps8
  go_wp2_with fail
  obtain ⟨w0, hw0⟩ : ∃ w0, (w.alloc (.cells #[.slice A1 n c, fv] 26)).alloc (.cells #[.slice SA ns sc, tv, pv] 29) = w0 := ⟨_, rfl⟩
  rw [hw0] at HK0 HBX ⊢
  clear hw0
  obtain ⟨x0, x1, r0, r1, r2⟩ := HBX.out.cs
  refine (HC.out _ HK0.out).mono ?_
  rintro e w1 ⟨rfl, k1⟩
  have HK1 := Lib.hid k1
  clear k1
  clear x0 x1 r0 r1 r2
  obtain ⟨x0, x1, r0, r1, r2⟩ := (HBX.out.keep HK1.out).cs
  by_cases h1 : es = 0
  · subst h1
    rw [if_pos rfl] at HE
    obtain ⟨hn2, hn32⟩ := HPN.out rfl
    go_wp2_with fail
    refine (HCC.out _ (HK0.out.trans HK1.out)).mono ?_
    rintro e w2 ⟨rfl, k2⟩
    have HK2 := Lib.hid (HK1.out.trans k2)
    clear k2
    clear x0 x1 r0 r1 r2
    obtain ⟨x0, x1, r0, r1, r2⟩ := (HBX.out.keep HK2.out).cs
    by_cases h2 : ec = 0
    · subst h2
      rw [if_pos rfl] at HE
      by_cases h3 : ns = ls
      · subst h3
        have h3' : ((ns : Int) != (ns : Int)) = false := by simp
        by_cases h4 : op < 0
        · have h4' : decide (op < 0) = true := by simp; omega
          have hE : Hid (E = 1) := by show _ = _; rw [HE.out, if_neg]; simp; omega
          have hV : Hid (V = 0) := by show _ = _; rw [HV.out, if_neg (by rw [hE.out]; decide)]
          go_wp2_with fail
          go_ret2
          exact ⟨by rw [hV.out, hE.out] <;> rfl, HK0.out.trans HK2.out⟩
        · have h4' : decide (op < 0) = false := by simp; omega
          by_cases h5 : (n : Int) ≤ op
          · have hE : Hid (E = 1) := by show _ = _; rw [HE.out, if_neg]; simp; omega
            have hV : Hid (V = 0) := by show _ = _; rw [HV.out, if_neg (by rw [hE.out]; decide)]
            go_wp2_with fail
            go_ret2
            exact ⟨by rw [hV.out, hE.out] <;> rfl, HK0.out.trans HK2.out⟩
          · have hE : Hid (E = 0) := by show _ = _; rw [HE.out, if_pos]; simp; omega
            have h5' : decide ((n : Int) ≤ op) = false := by simp; omega
            rw [if_pos hE.out] at HV
            obtain ⟨k, rfl⟩ := Int.eq_ofNat_of_zero_le (show 0 ≤ op by omega)
            have h5n : decide (n ≤ k) = false := by simp; omega
            rw [Int.toNat_natCast] at HV
            by_cases h6 : k + 1 = n
            · have hV : Hid (V = rt) := by show _ = _; rw [HV.out, if_pos h6]
              have h6' : ((k : Int) == (n : Int) - 1) = true := by rw [beq_iff_eq]; omega
              go_wp2_with fail
              refine (HRT.out _ (HK0.out.trans HK2.out)).mono ?_
              rintro e w3 ⟨rfl, rfl⟩
              go_wp2_with fail
              go_ret2
              exact ⟨by rw [hV.out, hE.out] <;> rfl, HK0.out.trans HK2.out⟩
            · have h6' : ((k : Int) == (n : Int) - 1) = false := by rw [beq_eq_false_iff_ne]; omega
              rw [if_neg h6] at HV
              obtain ⟨g, hg⟩ : ∃ g : Int → Int, (fun z : Int => partV P x r A S (k : Int) z) = g := ⟨_, rfl⟩
              have HV2 : Hid (V = (bestG (fun b => g (b : Int)) (np - 1) : Nat)) := by show _ = _; rw [HV.out, ← hg]
              have HP : Hid (∀ (z : Int) (W : World), Kept [] w W → Calls Tryz.prog 28 #[.pointer (some ⟨rb, 0, none⟩), .agg #[.slice A1 n c, fv], .agg #[.slice SA ns sc, tv, pv], av, .int .i64 k, .int .i64 z, .slice ZA ns zc] W fun e w' => e = .returned (.int .i64 (g z)) ∧ Kept [] W w') := fun z W hk => by
                have := HPT.out z W hk
                rw [← hg]
                exact this
              clear hg HPT HV
              go_wp2_with fail
              clear x0 x1 r0 r1 r2
              go_loopw [16, 17] (fun be ii wr => ∃ (i : Nat), i + 1 ≤ np ∧ ii = .int .i64 ((i : Int) + 1) ∧ be = .int .i64 (bestG (fun b => g (b : Int)) i : Nat) ∧ Kept [] w0 wr) (fun _ ii _ => np - (intOf ii).toNat)
              case atStart => exact ⟨0, by omega, rfl, rfl, HK2.out⟩
              case round =>
                obtain ⟨i, hi, rfl, rfl, hK⟩ := hrel
                have HK := Lib.hid hK
                clear hK
                have t0 : wr.cell? ⟨rb, 0, none⟩ = some (.slice TA' np tc') := (HK0.out.trans HK.out).cell (by simp) HC0.out
                by_cases hlt : i + 1 < np
                · obtain ⟨bg, hbg⟩ : ∃ bg, bestG (fun b => g (b : Int)) i = bg := ⟨_, rfl⟩
                  have HLS : Hid (g ((i : Int) + 1) < g (bg : Int) → bestG (fun b => g (b : Int)) (i + 1) = i + 1) := fun h => bestG_less (by rw [hbg, Int.natCast_add]; exact h)
                  have HMO : Hid (¬ g ((i : Int) + 1) < g (bg : Int) → bestG (fun b => g (b : Int)) (i + 1) = bg) := fun h => by rw [bestG_more (by rw [hbg, Int.natCast_add]; exact h), hbg]
                  rw [hbg]
                  clear hbg
                  have HPZ := Lib.hid (fun (z : Int) (W : World) (hk : Kept [] wr W) => HP.out z W ((HK0.out.trans HK.out).trans hk))
                  have y0 : ∀ s : SW (Kept [] wr), s.to.cell? ⟨w.heap.size, 0, none⟩ = some (.slice A1 n c) := fun s => (HBX.out.keep (HK.out.trans s.ok)).cs.1
                  have y1 : ∀ s : SW (Kept [] wr), s.to.cell? ⟨w.heap.size, 1, none⟩ = some fv := fun s => (HBX.out.keep (HK.out.trans s.ok)).cs.2.1
                  have y2 : ∀ s : SW (Kept [] wr), s.to.cell? ⟨w.heap.size + 1, 0, none⟩ = some (.slice SA ns sc) := fun s => (HBX.out.keep (HK.out.trans s.ok)).cs.2.2.1
                  have y3 : ∀ s : SW (Kept [] wr), s.to.cell? ⟨w.heap.size + 1, 1, none⟩ = some tv := fun s => (HBX.out.keep (HK.out.trans s.ok)).cs.2.2.2.1
                  have y4 : ∀ s : SW (Kept [] wr), s.to.cell? ⟨w.heap.size + 1, 2, none⟩ = some pv := fun s => (HBX.out.keep (HK.out.trans s.ok)).cs.2.2.2.2
                  have hall : ∀ s : SW (Kept [] wr), Kept [] wr s.to := fun s => s.ok
                  go_wp2_with fail
                  refine wp_region_sw (Kept [] wr) (stays_kept wr) (Kept.refl _ _) (by kernel_rfl) (by kernel_rfl) (fun hne => ?_)
                  repeat (go_big_quiet_step (first
                    | (go_at_call 28; exact SW.calls (stays_kept wr) (HPZ.out _ _ (hall _)))))
                  refine wpQuiet_nil ?_
                  intro w7 hs7
                  have HK7 := Lib.hid (HK.out.trans hs7)
                  clear hs7 y0 y1 y2 y3 y4 hall t0
                  by_cases hl : g ((i : Int) + 1) < g (bg : Int)
                  · have hl' : decide (g ((i : Int) + 1) < g (bg : Int)) = true := decide_eq_true hl
                    have HN := Lib.hid (HLS.out (by omega))
                    go_wp2_with fail
                    go_roundw
                    case rel => exact ⟨i + 1, by omega, by go_num, by rw [HN.out]; go_num, HK7.out⟩
                    case measure => simp [intOf]; omega
                  · have hl' : decide (g ((i : Int) + 1) < g (bg : Int)) = false := decide_eq_false hl
                    have HN := Lib.hid (HMO.out (by omega))
                    go_wp2_with fail
                    go_roundw
                    case rel => exact ⟨i + 1, by omega, by go_num, by rw [HN.out], HK7.out⟩
                    case measure => simp [intOf]; omega
                · have hjn : np = i + 1 := by omega
                  subst hjn
                  have hV : Hid (V = (bestG (fun b => g (b : Int)) i : Nat)) := by show _ = _; rw [HV2.out, Nat.add_sub_cancel]
                  go_wp2_with fail
                  go_ret2
                  exact ⟨by rw [hV.out, hE.out] <;> rfl, HK0.out.trans HK.out⟩
      · have h3' : ((ns : Int) != (ls : Int)) = true := by rw [bne_iff_ne]; omega
        have hE : Hid (E = 1) := by show _ = _; rw [HE.out, if_neg]; simp [h3]
        have hV : Hid (V = 0) := by show _ = _; rw [HV.out, if_neg (by rw [hE.out]; decide)]
        go_wp2_with fail
        go_ret2
        exact ⟨by rw [hV.out, hE.out] <;> rfl, HK0.out.trans HK2.out⟩
    · have h2' : (ec != 0) = true := by rw [bne_iff_ne]; exact h2
      have hE : Hid (E = ec) := by show _ = _; rw [HE.out, if_neg h2]
      have hV : Hid (V = 0) := by show _ = _; rw [HV.out, if_neg (by rw [hE.out]; exact h2)]
      go_wp2_with fail
      go_ret2
      exact ⟨by rw [hV.out, hE.out] <;> rfl, HK0.out.trans HK2.out⟩
  · have h1' : (es != 0) = true := by rw [bne_iff_ne]; exact h1
    have hE : Hid (E = es) := by show _ = _; rw [HE.out, if_neg h1]
    have hV : Hid (V = 0) := by show _ = _; rw [HV.out, if_neg (by rw [hE.out]; exact h1)]
    go_wp2_with fail
    go_ret2
    exact ⟨by rw [hV.out, hE.out] <;> rfl, HK0.out.trans HK1.out⟩

end Go.Proofs.YtbaifjdealmckaaGreat
