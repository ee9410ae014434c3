/- Plans that may be: the program's Check. -/
import Derived.Test.YtbaifjdealmckaaGreatRows
import Derived.WalkKit
import Derived.WalkSpells
import Derived.WalkLawsBesides
import Derived.Deep.QuietTactic
import Derived.BigQuiet
import Derived.Lib.Hide
import Derived.BigRegion
import Derived.Shelf.Abstract
import Derived.Lib.ConvBytes
import Derived.StillTailTactics
import Derived.Laws.AppendOwnNone
import Derived.Deep.AppendLies
import Derived.Deep.Slices
import Derived.ProofKit
import Derived.SizedLaws
import Derived.Test.YtbaifjdealmckaaGreatKq
import Derived.Test.YtbaifjdealmckaaGreatP5
import Derived.Test.YtbaifjdealmckaaGreatP9
set_option linter.unusedVariables false
set_option linter.unusedSimpArgs false
set_option linter.unnecessarySimpa false
namespace Go.Proofs.YtbaifjdealmckaaGreat
open Go.RowKit Go.Shelf
attribute [local go_sem] Oper.semAt_some

theorem opAt_of {x : PlanD} {k : Nat} {o : OpD} (h : x.1[k]? = some o) : opAt x k = o := by unfold opAt; rw [List.getD, h]; rfl
theorem rowAt_of {x : PlanD} {k : Nat} {r : List Int} (h : x.2[k]? = some r) : rowAt x k = r := by unfold rowAt; rw [List.getD, h]; rfl
theorem planGo_at (x : PlanD) (n k : Nat) (h : k < n) : planGo x (n - k) k = (placeOk x k && planGo x (n - (k + 1)) (k + 1)) := by
  rw [show n - k = (n - (k + 1)) + 1 by omega]; rfl

set_option maxRecDepth 100000 in
set_option maxHeartbeats 20000000 in
theorem plancheck_any (ov fv : Value) (x : PlanD) (w : World) (ho : Rds opR w ov x.1) (hf : Rds intsR w fv x.2) (hF : fromLen x.2 ≤ 1048576) :
    Calls Tryz.prog 36 #[.agg #[ov, fv]] w fun e w' => e = .returned (.int .i64 (errPlan (planV x))) ∧ Kept [] w w' := by
  have HO := Lib.hid ho
  have HFR := Lib.hid hf
  obtain ⟨A, c, rfl, hmA⟩ := ho.form
  obtain ⟨B, d, rfl, hmB⟩ := hf.form
  obtain ⟨n, hn⟩ : ∃ n, x.1.length = n := ⟨_, rfl⟩
  obtain ⟨m, hm⟩ : ∃ m, x.2.length = m := ⟨_, rfl⟩
  obtain ⟨G, hG⟩ : ∃ G, planV x = G := ⟨_, rfl⟩
  have HG : Hid (G = (decide (2 ≤ n) && (decide (n ≤ 32) && (decide (m = n) && planGo x n 0)))) := by show _ = _; rw [← hG, ← hn, ← hm]; rfl
  rw [hG]
  rw [hn] at hmA HO ⊢
  rw [hm] at hmB HFR ⊢
  have HN := Lib.hid hn
  have HM := Lib.hid hm
  have HLF : Hid (fromLen x.2 ≤ 1048576) := hF
  clear hn hm ho hf hG hF
  by_cases h2 : n < 2
  · have hE : Hid (G = false) := by show _ = _; rw [HG.out]; simp; intro h; omega
    rw [hE.out]
    have HK0 := Lib.hid ((Kept.refl [] w).alloc (.cells #[.slice A n c, .slice B m d] 26))
    clear HG hE
    go_enter Tryz.func36, Tryz.ntmps36
    go_wp2_with fail
    go_ret
    exact ⟨rfl, HK0.out⟩
  · by_cases h32 : 32 < n
    · have hE : Hid (G = false) := by show _ = _; rw [HG.out]; simp; intro h h'; omega
      rw [hE.out]
      have HK0 := Lib.hid ((Kept.refl [] w).alloc (.cells #[.slice A n c, .slice B m d] 26))
      clear HG hE
      go_enter Tryz.func36, Tryz.ntmps36
      go_wp2_with fail
      go_ret
      exact ⟨rfl, HK0.out⟩
    · by_cases hmn : m = n
      · subst hmn
        have HGG : Hid (G = planGo x m 0) := by show _ = _; rw [HG.out]; simp [show 2 ≤ m by omega, show m ≤ 32 by omega]
        obtain ⟨W0, hW0⟩ : ∃ W0, w.alloc (.cells #[.slice A m c, .slice B m d] 26) = W0 := ⟨_, rfl⟩
        have HK0 : Hid (Kept [] w W0) := by show Kept [] w W0; rw [← hW0]; exact (Kept.refl [] w).alloc _
        have HB0 : Hid (Blk W0 w.heap.size #[.slice A m c, .slice B m d] 26) := by show Blk _ _ _ _; rw [← hW0]; exact Blk.new w _ _
        have HW0 := Lib.hid hW0
        clear HG hW0
        go_enter Tryz.func36, Tryz.ntmps36
        go_wp2_with fail
        go_loopw [29] (fun ii wr => ∃ k : Nat, k ≤ m ∧ ii = .int .i64 k ∧ planGo x (m - k) k = G ∧ Kept [] W0 wr) (fun ii _ => m - (intOf ii).toNat)
        case atStart => exact ⟨0, by omega, rfl, by rw [Nat.sub_zero]; exact HGG.out.symm, by rw [HW0.out]; exact Kept.refl _ _⟩
        case round =>
          obtain ⟨k, hk, rfl, hg, hK⟩ := hrel
          have HGO := Lib.hid hg
          have HK := Lib.hid hK
          clear hg
          by_cases hlt : k < m
          · have HD := Lib.hid (planGo_at x m k hlt)
            have cw := hK.cell (by simp) (HB0.out.cell 0)
            have cw1 := hK.cell (by simp) (HB0.out.cell 1)
            simp at cw cw1
            obtain ⟨b, off, c', o, cs', he, hx, hE, hc⟩ := (Rds.keep HO.out (HK0.out.trans hK)).at (k := k) (by rw [HN.out]; exact hlt)
            injection he with he1 he2 he3
            subst he1 he3
            obtain ⟨tv, cv, rfl, hrt, hrc, hz1, hz2⟩ := opR_cells hE
            obtain ⟨o0, o1, o2, o3, o4, o5, o6⟩ := o
            have e0 := hc 0 (by decide)
            have e1 := hc 1 (by decide)
            have e2 := hc 2 (by decide)
            have e3 := hc 3 (by decide)
            have e4 := hc 4 (by decide)
            have e5 := hc 5 (by decide)
            have e6 := hc 6 (by decide)
            simp [opCells, show opR.sz = 7 from rfl] at e0 e1 e2 e3 e4 e5 e6
            have HOA : Hid (opAt x k = (o0, o1, o2, o3, o4, o5, o6)) := opAt_of hx
            obtain ⟨TA, tc, rfl, _⟩ := hrt.form
            obtain ⟨CA, cc, rfl, _⟩ := hrc.form
            have HRT := Lib.hid hrt
            have HRC := Lib.hid hrc
            have HZ1 : Hid (o1.size ≤ maxLen) := hz1
            have HZ2 : Hid (o2.size ≤ maxLen) := hz2
            have hltw := (HB0.out.kept hK (by simp)).lt
            have hltw1 : w.heap.size < wr.heap.size + 1 := by omega
            have hltw2 : w.heap.size < wr.heap.size + 1 + 1 := by omega
            obtain ⟨b2, off2, c2, row, cs2, he, hy, hE2, hc2⟩ := (Rds.keep HFR.out (HK0.out.trans hK)).at (k := k) (by rw [HM.out]; exact hlt)
            injection he with he1 he2' he3
            subst he1 he3
            obtain ⟨rv, rfl, hrow⟩ := intsR_cells hE2
            have r00 := hc2 0 (by decide)
            simp only [show intsR.sz = 1 from rfl, Nat.mul_one, Nat.add_zero, List.getElem?_cons_zero] at r00
            obtain ⟨RA, rc, rfl, hrm⟩ := hrow.form
            have HROW := Lib.hid hrow
            have HR00 := Lib.hid r00
            have HRA : Hid (rowAt x k = row) := rowAt_of hy
            obtain ⟨bz, offz, cz, z, csz, he, hz, hEz, hcz⟩ := (Rds.keep HO.out (HK0.out.trans hK)).at (k := 0) (by rw [HN.out]; omega)
            injection he with he1 he2z he3
            injection he1 with he1
            injection he1 with he1 he1b
            subst he1 he1b he3
            obtain ⟨tz, cz', rfl, _, _, _, _⟩ := opR_cells hEz
            have z5 := hcz 5 (by decide)
            simp [opCells, show opR.sz = 7 from rfl] at z5
            have HZA : Hid ((opAt x 0).2.2.2.2.2.1 = z.2.2.2.2.2.1) := by show _ = _; rw [opAt_of hz]
            obtain ⟨zw, hzw⟩ : ∃ zw, z.2.2.2.2.2.1 = zw := ⟨_, rfl⟩
            rw [hzw] at z5 HZA
            have HZ5 := Lib.hid z5
            have HCW := Lib.hid cw
            have HCW1 := Lib.hid cw1
            obtain ⟨rl, hrl⟩ : ∃ rl, row.length = rl := ⟨_, rfl⟩
            rw [hrl] at HR00 HROW
            have HRL := Lib.hid hrl
            have HKX := Lib.hid ((((Kept.refl [] wr).alloc (.cells #[.int .i64 k] 3)).alloc (.cells #[.int .i64 o0, .string o1, .string o2, .slice TA o3.length tc, .slice CA o4.length cc, .int .i64 o5, .int .i64 o6] 88)).alloc (.cells #[.bool (o0 == 1)] 4))
            have HBI : Hid (∀ W, Kept [] (((wr.alloc (.cells #[.int .i64 k] 3)).alloc (.cells #[.int .i64 o0, .string o1, .string o2, .slice TA o3.length tc, .slice CA o4.length cc, .int .i64 o5, .int .i64 o6] 88)).alloc (.cells #[.bool (o0 == 1)] 4)) W → Blk W wr.heap.size #[.int .i64 k] 3 ∧ Blk W (wr.heap.size + 1) #[.int .i64 o0, .string o1, .string o2, .slice TA o3.length tc, .slice CA o4.length cc, .int .i64 o5, .int .i64 o6] 88 ∧ Blk W (wr.heap.size + 1 + 1) #[.bool (o0 == 1)] 4) := fun W hk => by
              have g0 := ((Blk.new wr #[.int .i64 k] 3).alloc (.cells #[.int .i64 o0, .string o1, .string o2, .slice TA o3.length tc, .slice CA o4.length cc, .int .i64 o5, .int .i64 o6] 88)).alloc (.cells #[.bool (o0 == 1)] 4)
              have g1 := (Blk.new (wr.alloc (.cells #[.int .i64 k] 3)) #[.int .i64 o0, .string o1, .string o2, .slice TA o3.length tc, .slice CA o4.length cc, .int .i64 o5, .int .i64 o6] 88).alloc (.cells #[.bool (o0 == 1)] 4)
              have g2 := Blk.new ((wr.alloc (.cells #[.int .i64 k] 3)).alloc (.cells #[.int .i64 o0, .string o1, .string o2, .slice TA o3.length tc, .slice CA o4.length cc, .int .i64 o5, .int .i64 o6] 88)) #[.bool (o0 == 1)] 4
              have s1 : (wr.alloc (.cells #[.int .i64 k] 3)).heap.size = wr.heap.size + 1 := by simp
              have s2 : ((wr.alloc (.cells #[.int .i64 k] 3)).alloc (.cells #[.int .i64 o0, .string o1, .string o2, .slice TA o3.length tc, .slice CA o4.length cc, .int .i64 o5, .int .i64 o6] 88)).heap.size = wr.heap.size + 1 + 1 := by simp
              rw [s1] at g1
              rw [s2] at g2
              exact ⟨g0.kept hk (by simp), g1.kept hk (by simp), g2.kept hk (by simp)⟩
            have HUS := Lib.hid (fun W (hk : Kept [] w W) => uses_any (.slice (some ⟨b, off, none⟩) m c) (.slice (some ⟨b2, off2, none⟩) m d) x.2 (k : Int) W (HFR.out.keep hk) HLF.out)
            clear hx hE hc he2 hrt hrc hz1 hz2 hK he2' hy hE2 hc2 hrow r00 he2z hz hEz hcz z5 hzw hrl
            go_wp2_with fail
            refine (HUS.out _ (HK0.out.trans (HK.out.trans HKX.out))).mono ?_
            rintro e w3 ⟨uv, rfl, hown, hk3⟩
            obtain ⟨UA, uc, rfl⟩ := own_len hown
            have HK3 := Lib.hid (HKX.out.trans hk3)
            obtain ⟨i3, o3b, t3b⟩ := HBI.out _ hk3
            have HT3 := Lib.hid t3b
            have HI3 := Lib.hid i3
            have HFE : Hid (feeds x k = (usesGo (k : Int) 0 x.2).length) := rfl
            obtain ⟨fe, hfe⟩ : ∃ fe, (usesGo (k : Int) 0 x.2).length = fe := ⟨_, rfl⟩
            rw [hfe] at HFE ⊢
            have ca0 : ∀ s : SW (Kept [] w3), s.to.cell? ⟨w.heap.size, 0, none⟩ = some (.slice (some ⟨b, off, none⟩) m c) := fun s => (HK3.out.trans s.ok).cell (by simp) HCW.out
            have ca1 : ∀ s : SW (Kept [] w3), s.to.cell? ⟨w.heap.size, 1, none⟩ = some (.slice (some ⟨b2, off2, none⟩) m d) := fun s => (HK3.out.trans s.ok).cell (by simp) HCW1.out
            have ci0 : ∀ s : SW (Kept [] w3), s.to.cell? ⟨wr.heap.size, 0, none⟩ = some (.int .i64 k) := fun s => s.ok.cell (by simp) (i3.cell 0)
            have co0 : ∀ s : SW (Kept [] w3), s.to.cell? ⟨wr.heap.size + 1, 0, none⟩ = some (.int .i64 o0) := fun s => s.ok.cell (by simp) (o3b.cell 0)
            have co1 : ∀ s : SW (Kept [] w3), s.to.cell? ⟨wr.heap.size + 1, 1, none⟩ = some (.string o1) := fun s => s.ok.cell (by simp) (o3b.cell 1)
            have co2 : ∀ s : SW (Kept [] w3), s.to.cell? ⟨wr.heap.size + 1, 2, none⟩ = some (.string o2) := fun s => s.ok.cell (by simp) (o3b.cell 2)
            have co3 : ∀ s : SW (Kept [] w3), s.to.cell? ⟨wr.heap.size + 1, 3, none⟩ = some (.slice TA o3.length tc) := fun s => s.ok.cell (by simp) (o3b.cell 3)
            have co4 : ∀ s : SW (Kept [] w3), s.to.cell? ⟨wr.heap.size + 1, 4, none⟩ = some (.slice CA o4.length cc) := fun s => s.ok.cell (by simp) (o3b.cell 4)
            have co5 : ∀ s : SW (Kept [] w3), s.to.cell? ⟨wr.heap.size + 1, 5, none⟩ = some (.int .i64 o5) := fun s => s.ok.cell (by simp) (o3b.cell 5)
            have co6 : ∀ s : SW (Kept [] w3), s.to.cell? ⟨wr.heap.size + 1, 6, none⟩ = some (.int .i64 o6) := fun s => s.ok.cell (by simp) (o3b.cell 6)
            have cz5 : ∀ s : SW (Kept [] w3), s.to.cell? ⟨b, off + 5, none⟩ = some (.int .i64 zw) := fun s => (HK3.out.trans s.ok).cell (by simp) HZ5.out
            have cr0 : ∀ s : SW (Kept [] w3), s.to.cell? ⟨b2, off2 + k, none⟩ = some (.slice RA rl rc) := fun s => (HK3.out.trans s.ok).cell (by simp) HR00.out
            have hk0 : (0 : Int) ≤ (k : Int) := by omega
            have hkm : (k : Int) < (m : Int) := by omega
            have hm0 : (0 : Int) < (m : Int) := by omega
            clear hown hk3 i3 o3b t3b hfe cw cw1 e0 e1 e2 e3 e4 e5 e6
            have HOC := Lib.hid (fun (W : World) (hk : Kept [] w3 W) => opcheck_any o0 o5 o6 o1 o2 o3 o4 (.slice TA o3.length tc) (.slice CA o4.length cc) W (HRT.out.keep (HK3.out.trans hk)) (HRC.out.keep (HK3.out.trans hk)) HZ1.out HZ2.out)
            have HCT := Lib.hid (fun (W : World) (hk : Kept [] w3 W) => contains_ints 60 #[.pointer (some ⟨wr.heap.size + 1 + 1, 0, none⟩), .pointer (some ⟨wr.heap.size, 0, none⟩)] (badV (o0 == 1) k) (.slice RA rl rc) row W (HROW.out.keep (HK3.out.trans hk)) (fun _ _ => rfl)
              (fun W2 x _ hk2 => bad_any (o0 == 1) k x (wr.heap.size + 1 + 1) wr.heap.size W2 (hk2.cell (by simp) (hk.cell (by simp) (HT3.out.cell 0))) (hk2.cell (by simp) (hk.cell (by simp) (HI3.out.cell 0)))))
            have HPO : Hid (placeOk x k = (opV (o0, o1, o2, o3, o4, o5, o6) && ((o6 == (rl : Int)) && ((o5 == zw) && (!row.any (badV (o0 == 1) k) && (((o0 == 5) == ((k : Int) == (m : Int) - 1)) && (((k : Int) == (m : Int) - 1) || (!((fe : Int) == 0) && decide ((fe : Int) ≤ 64))))))))) := by
              show _ = _
              unfold placeOk
              rw [HOA.out, HRA.out, HZA.out, HFE.out, HN.out, HRL.out]
            have HGE : Hid (G = (placeOk x k && planGo x (m - (k + 1)) (k + 1))) := by show _ = _; rw [← HGO.out]; exact HD.out
            obtain ⟨q1, hq1⟩ : ∃ q1, opV (o0, o1, o2, o3, o4, o5, o6) = q1 := ⟨_, rfl⟩
            rw [hq1] at HOC HPO
            obtain ⟨q4, hq4⟩ : ∃ q4, row.any (badV (o0 == 1) k) = q4 := ⟨_, rfl⟩
            rw [hq4] at HCT HPO
            clear hq1 hq4
            cases q1 with
            | false =>
              rw [show errOp false = 140 from rfl] at HOC
              have hE : Hid (G = false) := by show _ = _; rw [HGE.out, HPO.out]; simp
              clear HCT HPO
              go_wp2_with fail
              refine wp_region_sw (Kept [] w3) (stays_kept w3) (Kept.refl [] w3) (by kernel_rfl) (by kernel_rfl) (fun hne => ?_)
              repeat (go_big_quiet_step (first
                | (go_at_call 62; exact SW.calls_of (stays_kept w3) HOC.out)
                | (go_at_call 38; exact SW.calls_of (stays_kept w3) HCT.out)))
              refine wpQuiet_nil ?_
              intro w4 hk4
              have HK4 := Lib.hid hk4
              clear hk4
              go_wp2_with fail
              go_ret
              exact ⟨by rw [hE.out]; rfl, ((HK0.out.trans HK.out).trans HK3.out).trans HK4.out⟩
            | true =>
              rw [show errOp true = 0 from rfl] at HOC
              cases hq2 : (o6 == (rl : Int)) with
              | false =>
                have hq2' : (o6 != (rl : Int)) = true := by unfold bne; rw [hq2]; rfl
                have hE : Hid (G = false) := by show _ = _; rw [HGE.out, HPO.out, hq2]; simp
                clear HCT HPO
                go_wp2_with fail
                refine wp_region_sw (Kept [] w3) (stays_kept w3) (Kept.refl [] w3) (by kernel_rfl) (by kernel_rfl) (fun hne => ?_)
                repeat (go_big_quiet_step (first
                  | (go_at_call 62; exact SW.calls_of (stays_kept w3) HOC.out)
                  | (go_at_call 38; exact SW.calls_of (stays_kept w3) HCT.out)))
                refine wpQuiet_nil ?_
                intro w4 hk4
                have HK4 := Lib.hid hk4
                clear hk4
                go_wp2_with fail
                go_ret
                exact ⟨by rw [hE.out]; rfl, ((HK0.out.trans HK.out).trans HK3.out).trans HK4.out⟩
              | true =>
                have hq2' : (o6 != (rl : Int)) = false := by unfold bne; rw [hq2]; rfl
                cases hq3 : (o5 == zw) with
                | false =>
                  have hq3' : (o5 != zw) = true := by unfold bne; rw [hq3]; rfl
                  have hE : Hid (G = false) := by show _ = _; rw [HGE.out, HPO.out, hq3]; simp
                  clear HCT HPO
                  go_wp2_with fail
                  refine wp_region_sw (Kept [] w3) (stays_kept w3) (Kept.refl [] w3) (by kernel_rfl) (by kernel_rfl) (fun hne => ?_)
                  repeat (go_big_quiet_step (first
                    | (go_at_call 62; exact SW.calls_of (stays_kept w3) HOC.out)
                    | (go_at_call 38; exact SW.calls_of (stays_kept w3) HCT.out)))
                  refine wpQuiet_nil ?_
                  intro w4 hk4
                  have HK4 := Lib.hid hk4
                  clear hk4
                  go_wp2_with fail
                  go_ret
                  exact ⟨by rw [hE.out]; rfl, ((HK0.out.trans HK.out).trans HK3.out).trans HK4.out⟩
                | true =>
                  have hq3' : (o5 != zw) = false := by unfold bne; rw [hq3]; rfl
                  cases q4 with
                  | true =>
                    have hE : Hid (G = false) := by show _ = _; rw [HGE.out, HPO.out]; simp
                    clear HPO
                    go_wp2_with fail
                    refine wp_region_sw (Kept [] w3) (stays_kept w3) (Kept.refl [] w3) (by kernel_rfl) (by kernel_rfl) (fun hne => ?_)
                    repeat (go_big_quiet_step (first
                      | (go_at_call 62; exact SW.calls_of (stays_kept w3) HOC.out)
                      | (go_at_call 38; exact SW.calls_of (stays_kept w3) HCT.out)))
                    refine wpQuiet_nil ?_
                    intro w4 hk4
                    have HK4 := Lib.hid hk4
                    clear hk4
                    go_wp2_with fail
                    go_ret
                    exact ⟨by rw [hE.out]; rfl, ((HK0.out.trans HK.out).trans HK3.out).trans HK4.out⟩
                  | false =>
                    have HPO2 : Hid (placeOk x k = (((o0 == 5) == ((k : Int) == (m : Int) - 1)) && (((k : Int) == (m : Int) - 1) || (!((fe : Int) == 0) && decide ((fe : Int) ≤ 64))))) := by show _ = _; rw [HPO.out, hq2, hq3]; rfl
                    clear HPO
                    have HPO := HPO2
                    clear HPO2
                    cases hq5 : (o0 == 5) with
                    | true =>
                      cases hq6 : ((k : Int) == (m : Int) - 1) with
                      | false =>
                        have hE : Hid (G = false) := by show _ = _; rw [HGE.out, HPO.out, hq5, hq6]; rfl
                        clear HPO
                        go_wp2_with fail
                        refine wp_region_sw (Kept [] w3) (stays_kept w3) (Kept.refl [] w3) (by kernel_rfl) (by kernel_rfl) (fun hne => ?_)
                        repeat (go_big_quiet_step (first
                          | (go_at_call 62; exact SW.calls_of (stays_kept w3) HOC.out)
                          | (go_at_call 38; exact SW.calls_of (stays_kept w3) HCT.out)))
                        refine wpQuiet_nil ?_
                        intro w4 hk4
                        have HK4 := Lib.hid hk4
                        clear hk4
                        go_wp2_with fail
                        go_ret
                        exact ⟨by rw [hE.out]; rfl, ((HK0.out.trans HK.out).trans HK3.out).trans HK4.out⟩
                      | true =>
                        have HGN : Hid (planGo x (m - (k + 1)) (k + 1) = G) := by show _ = _; rw [HGE.out, HPO.out, hq5, hq6]; rfl
                        go_wp2_with fail
                        refine wp_region_sw (Kept [] w3) (stays_kept w3) (Kept.refl [] w3) (by kernel_rfl) (by kernel_rfl) (fun hne => ?_)
                        repeat (go_big_quiet_step (first
                          | (go_at_call 62; exact SW.calls_of (stays_kept w3) HOC.out)
                          | (go_at_call 38; exact SW.calls_of (stays_kept w3) HCT.out)))
                        refine wpQuiet_nil ?_
                        intro w4 hk4
                        have HK4 := Lib.hid hk4
                        clear hk4
                        clear HPO
                        go_wp2_with fail
                        go_roundw
                        case rel => exact ⟨k + 1, by omega, by go_num, HGN.out, (HK.out.trans HK3.out).trans HK4.out⟩
                        case measure => simp [intOf]; omega
                    | false =>
                      cases hq6 : ((k : Int) == (m : Int) - 1) with
                      | true =>
                        have hE : Hid (G = false) := by show _ = _; rw [HGE.out, HPO.out, hq5, hq6]; rfl
                        clear HPO
                        go_wp2_with fail
                        refine wp_region_sw (Kept [] w3) (stays_kept w3) (Kept.refl [] w3) (by kernel_rfl) (by kernel_rfl) (fun hne => ?_)
                        repeat (go_big_quiet_step (first
                          | (go_at_call 62; exact SW.calls_of (stays_kept w3) HOC.out)
                          | (go_at_call 38; exact SW.calls_of (stays_kept w3) HCT.out)))
                        refine wpQuiet_nil ?_
                        intro w4 hk4
                        have HK4 := Lib.hid hk4
                        clear hk4
                        go_wp2_with fail
                        go_ret
                        exact ⟨by rw [hE.out]; rfl, ((HK0.out.trans HK.out).trans HK3.out).trans HK4.out⟩
                      | false =>
                        cases hq7 : ((fe : Int) == 0) with
                        | true =>
                          have hE : Hid (G = false) := by show _ = _; rw [HGE.out, HPO.out, hq5, hq6, hq7]; rfl
                          clear HPO
                          go_wp2_with fail
                          refine wp_region_sw (Kept [] w3) (stays_kept w3) (Kept.refl [] w3) (by kernel_rfl) (by kernel_rfl) (fun hne => ?_)
                          repeat (go_big_quiet_step (first
                            | (go_at_call 62; exact SW.calls_of (stays_kept w3) HOC.out)
                            | (go_at_call 38; exact SW.calls_of (stays_kept w3) HCT.out)))
                          refine wpQuiet_nil ?_
                          intro w4 hk4
                          have HK4 := Lib.hid hk4
                          clear hk4
                          go_wp2_with fail
                          go_ret
                          exact ⟨by rw [hE.out]; rfl, ((HK0.out.trans HK.out).trans HK3.out).trans HK4.out⟩
                        | false =>
                          by_cases hq8 : (64 : Int) < (fe : Int)
                          · have hE : Hid (G = false) := by show _ = _; rw [HGE.out, HPO.out, hq5, hq6, hq7, decide_eq_false (by omega : ¬ (fe : Int) ≤ 64)]; rfl
                            clear HPO
                            go_wp2_with fail
                            refine wp_region_sw (Kept [] w3) (stays_kept w3) (Kept.refl [] w3) (by kernel_rfl) (by kernel_rfl) (fun hne => ?_)
                            repeat (go_big_quiet_step (first
                              | (go_at_call 62; exact SW.calls_of (stays_kept w3) HOC.out)
                              | (go_at_call 38; exact SW.calls_of (stays_kept w3) HCT.out)))
                            refine wpQuiet_nil ?_
                            intro w4 hk4
                            have HK4 := Lib.hid hk4
                            clear hk4
                            go_wp2_with fail
                            go_ret
                            exact ⟨by rw [hE.out]; rfl, ((HK0.out.trans HK.out).trans HK3.out).trans HK4.out⟩
                          · have HGN : Hid (planGo x (m - (k + 1)) (k + 1) = G) := by show _ = _; rw [HGE.out, HPO.out, hq5, hq6, hq7, decide_eq_true (by omega : (fe : Int) ≤ 64)]; rfl
                            go_wp2_with fail
                            refine wp_region_sw (Kept [] w3) (stays_kept w3) (Kept.refl [] w3) (by kernel_rfl) (by kernel_rfl) (fun hne => ?_)
                            repeat (go_big_quiet_step (first
                              | (go_at_call 62; exact SW.calls_of (stays_kept w3) HOC.out)
                              | (go_at_call 38; exact SW.calls_of (stays_kept w3) HCT.out)))
                            refine wpQuiet_nil ?_
                            intro w4 hk4
                            have HK4 := Lib.hid hk4
                            clear hk4
                            clear HPO
                            go_wp2_with fail
                            go_roundw
                            case rel => exact ⟨k + 1, by omega, by go_num, HGN.out, (HK.out.trans HK3.out).trans HK4.out⟩
                            case measure => simp [intOf]; omega
          · have hkm : k = m := by omega
            subst hkm
            have hE : Hid (G = true) := by show _ = _; rw [← HGO.out, Nat.sub_self]; rfl
            go_wp2_with fail
            go_ret
            exact ⟨by rw [hE.out]; rfl, HK0.out.trans HK.out⟩
      · have hE : Hid (G = false) := by show _ = _; rw [HG.out]; simp [hmn]
        rw [hE.out]
        have hmn' : ((m : Int) != (n : Int)) = true := by rw [bne_iff_ne]; omega
        have HK0 := Lib.hid ((Kept.refl [] w).alloc (.cells #[.slice A n c, .slice B m d] 26))
        clear HG hE
        go_enter Tryz.func36, Tryz.ntmps36
        go_wp2_with fail
        go_ret
        exact ⟨rfl, HK0.out⟩

end Go.Proofs.YtbaifjdealmckaaGreat
