/- Whether an operator may be at its place: the document's op. -/
import Derived.Test.YtbaifjdealmckaaGreatRows
import Derived.WalkKit
import Derived.WalkSpells
import Derived.WalkLawsBesides
import Derived.Deep.QuietTactic
import Derived.BigQuiet
import Derived.Lib.Hide
import Derived.BigRegion
import Derived.Shelf.Abstract
import Derived.Lib.ConvBytes
import Derived.StillTailTactics
import Derived.Laws.AppendOwnNone
import Derived.Deep.AppendLies
import Derived.Deep.Slices
import Derived.ProofKit
import Derived.SizedLaws
import Derived.Test.YtbaifjdealmckaaGreatP10
import Derived.Test.YtbaifjdealmckaaGreatP6
import Derived.Test.YtbaifjdealmckaaGreatP8
set_option linter.unusedVariables false
set_option linter.unusedSimpArgs false
set_option linter.unnecessarySimpa false
namespace Go.Proofs.YtbaifjdealmckaaGreat
open Go.RowKit Go.Shelf
attribute [local go_sem] Oper.semAt_some

theorem any_drop {l : List Int} {p : Int → Bool} {j : Nat} {f : Int} (h : l[j]? = some f) : (l.drop j).any p = (p f || (l.drop (j + 1)).any p) := by
  obtain ⟨h1, h2⟩ := List.getElem?_eq_some_iff.1 h
  rw [List.drop_eq_getElem_cons h1, h2, List.any_cons]

set_option maxRecDepth 100000 in
set_option maxHeartbeats 20000000 in
theorem rop_any (ov fv : Value) (x : PlanD) (k : Nat) (w : World) (ho : Rds opR w ov x.1) (hf : Rds intsR w fv x.2) (hF : fromLen x.2 ≤ 1048576) (hk : k < x.1.length) (hmn : x.2.length = x.1.length) :
    Calls Tryz.prog 70 #[.agg #[ov, fv], .int .i64 k] w fun e w' => e = .returned (.bool (placeOk x k)) ∧ Kept [] w w' := by
  have HO := Lib.hid ho
  have HFR := Lib.hid hf
  obtain ⟨A, c, rfl, hmA⟩ := ho.form
  obtain ⟨B, d, rfl, hmB⟩ := hf.form
  obtain ⟨m, hn⟩ : ∃ m, x.1.length = m := ⟨_, rfl⟩
  rw [hn] at hmA HO hk hmn ⊢
  rw [hmn] at hmB HFR ⊢
  have HN := Lib.hid hn
  have HM := Lib.hid hmn
  have HLF : Hid (fromLen x.2 ≤ 1048576) := hF
  obtain ⟨G, hG⟩ : ∃ G, placeOk x k = G := ⟨_, rfl⟩
  rw [hG]
  have HGG := Lib.hid hG
  clear hn hmn ho hf hG hF
  obtain ⟨b, off, c', o, cs', he, hx, hE, hc⟩ := HO.out.at (k := k) (by rw [HN.out]; exact hk)
  injection he with he1 he2 he3
  subst he1 he3
  obtain ⟨tv, cv, rfl, hrt, hrc, hz1, hz2⟩ := opR_cells hE
  obtain ⟨o0, o1, o2, o3, o4, o5, o6⟩ := o
  have e0 := hc 0 (by decide)
  have e1 := hc 1 (by decide)
  have e2 := hc 2 (by decide)
  have e3 := hc 3 (by decide)
  have e4 := hc 4 (by decide)
  have e5 := hc 5 (by decide)
  have e6 := hc 6 (by decide)
  simp [opCells, show opR.sz = 7 from rfl] at e0 e1 e2 e3 e4 e5 e6
  have HOA : Hid (opAt x k = (o0, o1, o2, o3, o4, o5, o6)) := opAt_of hx
  obtain ⟨TA, tc, rfl, _⟩ := hrt.form
  obtain ⟨CA, cc, rfl, _⟩ := hrc.form
  have HRT := Lib.hid hrt
  have HRC := Lib.hid hrc
  have HZ1 : Hid (o1.size ≤ maxLen) := hz1
  have HZ2 : Hid (o2.size ≤ maxLen) := hz2
  obtain ⟨b2, off2, c2, row, cs2, he, hy, hE2, hc2⟩ := HFR.out.at (k := k) (by rw [HM.out]; exact hk)
  injection he with he1 he2' he3
  subst he1 he3
  obtain ⟨rv, rfl, hrow⟩ := intsR_cells hE2
  have r00 := hc2 0 (by decide)
  simp only [show intsR.sz = 1 from rfl, Nat.mul_one, Nat.add_zero, List.getElem?_cons_zero] at r00
  obtain ⟨RA, rc, rfl, hrm⟩ := hrow.form
  have HROW := Lib.hid hrow
  have HR00 := Lib.hid r00
  have HRA : Hid (rowAt x k = row) := rowAt_of hy
  obtain ⟨bz, offz, cz, z, csz, he, hz, hEz, hcz⟩ := HO.out.at (k := 0) (by rw [HN.out]; omega)
  injection he with he1 he2z he3
  injection he1 with he1
  injection he1 with he1 he1b
  subst he1 he1b he3
  obtain ⟨tz, cz', rfl, _, _, _, _⟩ := opR_cells hEz
  have z5 := hcz 5 (by decide)
  simp [opCells, show opR.sz = 7 from rfl] at z5
  have HZA : Hid ((opAt x 0).2.2.2.2.2.1 = z.2.2.2.2.2.1) := by show _ = _; rw [opAt_of hz]
  obtain ⟨zw, hzw⟩ : ∃ zw, z.2.2.2.2.2.1 = zw := ⟨_, rfl⟩
  rw [hzw] at z5 HZA
  have HZ5 := Lib.hid z5
  obtain ⟨rl, hrl⟩ : ∃ rl, row.length = rl := ⟨_, rfl⟩
  rw [hrl] at HR00 HROW hrm
  have HRL := Lib.hid hrl
  have HUS := Lib.hid (fun W (hk : Kept [] w W) => ruses_any (.slice (some ⟨b, off, none⟩) m c) (.slice (some ⟨b2, off2, none⟩) m d) x.2 (k : Int) W (HFR.out.keep hk) HLF.out)
  obtain ⟨w3, hw3⟩ : ∃ w3, (w.alloc (.cells #[.slice (some ⟨b, off, none⟩) m c, .slice (some ⟨b2, off2, none⟩) m d] 26)).alloc (.cells #[.int .i64 o0, .string o1, .string o2, .slice TA o3.length tc, .slice CA o4.length cc, .int .i64 o5, .int .i64 o6] 88) = w3 := ⟨_, rfl⟩
  have HK3 : Hid (Kept [] w w3) := by
    show Kept [] w w3
    rw [← hw3]
    exact ((Kept.refl [] w).alloc _).alloc _
  have HPB : Hid (Blk w3 w.heap.size #[.slice (some ⟨b, off, none⟩) m c, .slice (some ⟨b2, off2, none⟩) m d] 26) := by
    show Blk _ _ _ _
    rw [← hw3]
    exact (Blk.new w _ _).alloc _
  have HOB : Hid (Blk w3 (w.heap.size + 1) #[.int .i64 o0, .string o1, .string o2, .slice TA o3.length tc, .slice CA o4.length cc, .int .i64 o5, .int .i64 o6] 88) := by
    show Blk _ _ _ _
    rw [← hw3]
    have := Blk.new (w.alloc (.cells #[.slice (some ⟨b, off, none⟩) m c, .slice (some ⟨b2, off2, none⟩) m d] 26)) #[.int .i64 o0, .string o1, .string o2, .slice TA o3.length tc, .slice CA o4.length cc, .int .i64 o5, .int .i64 o6] 88
    rwa [show (w.alloc (.cells #[.slice (some ⟨b, off, none⟩) m c, .slice (some ⟨b2, off2, none⟩) m d] 26)).heap.size = w.heap.size + 1 by simp] at this
  have HW3 := Lib.hid hw3
  obtain ⟨fe, hfe⟩ : ∃ fe, (usesGo (k : Int) 0 x.2).length = fe := ⟨_, rfl⟩
  have HFE : Hid (feeds x k = fe) := hfe
  have HFEL := Lib.hid hfe
  have HPO : Hid (G = (opV (o0, o1, o2, o3, o4, o5, o6) && ((o6 == (rl : Int)) && ((o5 == zw) && (!row.any (badV (o0 == 1) k) && (((o0 == 5) == ((k : Int) == (m : Int) - 1)) && (((k : Int) == (m : Int) - 1) || (!((fe : Int) == 0) && decide ((fe : Int) ≤ 64))))))))) := by
    show _ = _
    rw [← HGG.out]
    unfold placeOk
    rw [HOA.out, HRA.out, HZA.out, HFE.out, HN.out, HRL.out]
  have ca0 : ∀ s : SW (Kept [] w3), s.to.cell? ⟨w.heap.size, 0, none⟩ = some (.slice (some ⟨b, off, none⟩) m c) := fun s => s.ok.cell (by simp) (HPB.out.cell 0)
  have ca1 : ∀ s : SW (Kept [] w3), s.to.cell? ⟨w.heap.size, 1, none⟩ = some (.slice (some ⟨b2, off2, none⟩) m d) := fun s => s.ok.cell (by simp) (HPB.out.cell 1)
  have co0 : ∀ s : SW (Kept [] w3), s.to.cell? ⟨w.heap.size + 1, 0, none⟩ = some (.int .i64 o0) := fun s => s.ok.cell (by simp) (HOB.out.cell 0)
  have co1 : ∀ s : SW (Kept [] w3), s.to.cell? ⟨w.heap.size + 1, 1, none⟩ = some (.string o1) := fun s => s.ok.cell (by simp) (HOB.out.cell 1)
  have co2 : ∀ s : SW (Kept [] w3), s.to.cell? ⟨w.heap.size + 1, 2, none⟩ = some (.string o2) := fun s => s.ok.cell (by simp) (HOB.out.cell 2)
  have co3 : ∀ s : SW (Kept [] w3), s.to.cell? ⟨w.heap.size + 1, 3, none⟩ = some (.slice TA o3.length tc) := fun s => s.ok.cell (by simp) (HOB.out.cell 3)
  have co4 : ∀ s : SW (Kept [] w3), s.to.cell? ⟨w.heap.size + 1, 4, none⟩ = some (.slice CA o4.length cc) := fun s => s.ok.cell (by simp) (HOB.out.cell 4)
  have co5 : ∀ s : SW (Kept [] w3), s.to.cell? ⟨w.heap.size + 1, 5, none⟩ = some (.int .i64 o5) := fun s => s.ok.cell (by simp) (HOB.out.cell 5)
  have co6 : ∀ s : SW (Kept [] w3), s.to.cell? ⟨w.heap.size + 1, 6, none⟩ = some (.int .i64 o6) := fun s => s.ok.cell (by simp) (HOB.out.cell 6)
  have cz5 : ∀ s : SW (Kept [] w3), s.to.cell? ⟨b, off + 5, none⟩ = some (.int .i64 zw) := fun s => (HK3.out.trans s.ok).cell (by simp) HZ5.out
  have cr0 : ∀ s : SW (Kept [] w3), s.to.cell? ⟨b2, off2 + k, none⟩ = some (.slice RA rl rc) := fun s => (HK3.out.trans s.ok).cell (by simp) HR00.out
  have hk0 : (0 : Int) ≤ (k : Int) := by omega
  have hkm : (k : Int) < (m : Int) := by omega
  have hm0 : (0 : Int) < (m : Int) := by omega
  have HOC := Lib.hid (fun (W : World) (hk : Kept [] w3 W) => ropcheck_any o0 o5 o6 o1 o2 o3 o4 (.slice TA o3.length tc) (.slice CA o4.length cc) W (HRT.out.keep (HK3.out.trans hk)) (HRC.out.keep (HK3.out.trans hk)) HZ1.out HZ2.out)
  obtain ⟨q1, hq1⟩ : ∃ q1, opV (o0, o1, o2, o3, o4, o5, o6) = q1 := ⟨_, rfl⟩
  rw [hq1] at HOC HPO
  have HKA := Lib.hid ((Kept.refl [] w).alloc (.cells #[.slice (some ⟨b, off, none⟩) m c, .slice (some ⟨b2, off2, none⟩) m d] 26))
  have e0 := HKA.out.cell (by simp) e0
  have e1 := HKA.out.cell (by simp) e1
  have e2 := HKA.out.cell (by simp) e2
  have e3 := HKA.out.cell (by simp) e3
  have e4 := HKA.out.cell (by simp) e4
  have e5 := HKA.out.cell (by simp) e5
  have e6 := HKA.out.cell (by simp) e6
  clear hx hE hc he2 hrt hrc hz1 hz2 he2' hy hE2 hc2 hrow he2z hz hEz hcz z5 hzw hrl hq1 hw3 hfe
  go_enter Tryz.func70, Tryz.ntmps70
  go_wp2_with fail
  rw [HW3.out]
  cases q1 with
  | false =>
    rw [show errOp false = 140 from rfl] at HOC
    have hE : Hid (G = false) := by show _ = _; rw [HPO.out]; simp
    clear HPO
    go_wp2_with fail
    refine wp_region_sw (Kept [] w3) (stays_kept w3) (Kept.refl [] w3) (by kernel_rfl) (by kernel_rfl) (fun hne => ?_)
    repeat (go_big_quiet_step ((go_at_call 99; exact SW.calls_of (stays_kept w3) HOC.out)))
    refine wpQuiet_nil ?_
    intro w4 hk4
    have HK4 := Lib.hid hk4
    clear hk4
    go_wp2_with fail
    go_ret
    exact ⟨by rw [hE.out]; rfl, HK3.out.trans HK4.out⟩
  | true =>
    rw [show errOp true = 0 from rfl] at HOC
    cases hq2 : (o6 == (rl : Int)) with
    | false =>
      have hq2' : (o6 != (rl : Int)) = true := by unfold bne; rw [hq2]; rfl
      have hE : Hid (G = false) := by show _ = _; rw [HPO.out, hq2]; simp
      clear HPO
      go_wp2_with fail
      refine wp_region_sw (Kept [] w3) (stays_kept w3) (Kept.refl [] w3) (by kernel_rfl) (by kernel_rfl) (fun hne => ?_)
      repeat (go_big_quiet_step ((go_at_call 99; exact SW.calls_of (stays_kept w3) HOC.out)))
      refine wpQuiet_nil ?_
      intro w4 hk4
      have HK4 := Lib.hid hk4
      clear hk4
      go_wp2_with fail
      go_ret
      exact ⟨by rw [hE.out]; rfl, HK3.out.trans HK4.out⟩
    | true =>
      have hq2' : (o6 != (rl : Int)) = false := by unfold bne; rw [hq2]; rfl
      cases hq3 : (o5 == zw) with
      | false =>
        have hq3' : (o5 != zw) = true := by unfold bne; rw [hq3]; rfl
        have hE : Hid (G = false) := by show _ = _; rw [HPO.out, hq3]; simp
        clear HPO
        go_wp2_with fail
        refine wp_region_sw (Kept [] w3) (stays_kept w3) (Kept.refl [] w3) (by kernel_rfl) (by kernel_rfl) (fun hne => ?_)
        repeat (go_big_quiet_step ((go_at_call 99; exact SW.calls_of (stays_kept w3) HOC.out)))
        refine wpQuiet_nil ?_
        intro w4 hk4
        have HK4 := Lib.hid hk4
        clear hk4
        go_wp2_with fail
        go_ret
        exact ⟨by rw [hE.out]; rfl, HK3.out.trans HK4.out⟩
      | true =>
        have hq3' : (o5 != zw) = false := by unfold bne; rw [hq3]; rfl
        cases hq5 : (o0 == 5) with
        | true =>
          cases hq6 : ((k : Int) == (m : Int) - 1) with
          | false =>
            have hE : Hid (G = false) := by show _ = _; rw [HPO.out, hq5, hq6]; simp
            clear HPO
            go_wp2_with fail
            refine wp_region_sw (Kept [] w3) (stays_kept w3) (Kept.refl [] w3) (by kernel_rfl) (by kernel_rfl) (fun hne => ?_)
            repeat (go_big_quiet_step ((go_at_call 99; exact SW.calls_of (stays_kept w3) HOC.out)))
            refine wpQuiet_nil ?_
            intro w4 hk4
            have HK4 := Lib.hid hk4
            clear hk4
            go_wp2_with fail
            go_ret
            exact ⟨by rw [hE.out]; rfl, HK3.out.trans HK4.out⟩
          | true =>
            go_wp2_with fail
            refine wp_region_sw (Kept [] w3) (stays_kept w3) (Kept.refl [] w3) (by kernel_rfl) (by kernel_rfl) (fun hne => ?_)
            repeat (go_big_quiet_step ((go_at_call 99; exact SW.calls_of (stays_kept w3) HOC.out)))
            refine wpQuiet_nil ?_
            intro w4 hk4
            have HK4 := Lib.hid hk4
            clear hk4
            have hpb := HPB.out.kept HK4.out (by simp)
            have hob := HOB.out.kept HK4.out (by simp)
            have HPB4 := Lib.hid hpb
            have HOB4 := Lib.hid hob
            have HR4 := Lib.hid ((HK3.out.trans HK4.out).cell (by simp) HR00.out)
            clear hpb hob ca0 ca1 co0 co1 co2 co3 co4 co5 co6 cz5 cr0 hne
            go_wp2_with fail
            go_loopw [6] (fun ii wr => ∃ j : Nat, j ≤ rl ∧ ii = .int .i64 j ∧ (row.drop j).any (badV (o0 == 1) k) = row.any (badV (o0 == 1) k) ∧ Kept [] w4 wr) (fun ii _ => rl - (intOf ii).toNat)
            case atStart => exact ⟨0, by omega, rfl, by rw [List.drop_zero], Kept.refl _ _⟩
            case round =>
              obtain ⟨j, hj, rfl, hany, hK⟩ := hrel
              have HANY := Lib.hid hany
              have HK := Lib.hid hK
              have pc0 := hK.cell (by simp) ((HPB4.out.cell 0).trans rfl)
              have pc1 := hK.cell (by simp) ((HPB4.out.cell 1).trans rfl)
              have oc0 := hK.cell (by simp) ((HOB4.out.cell 0).trans rfl)
              have rc0 := hK.cell (by simp) HR4.out
              clear hany hK
              by_cases hlt : j < rl
              · obtain ⟨rb, ro, rcc, f, he, hfj, cf⟩ := RdI.at (HROW.out.ints.keep (HK3.out.trans (HK4.out.trans HK.out))) (i := j) (by rw [HRL.out]; exact hlt)
                injection he with he1 _ he3
                subst he1
                have HAF := Lib.hid (any_drop (p := badV (o0 == 1) k) hfj)
                have hj0 : (0 : Int) ≤ (j : Int) := by omega
                have hjl : (j : Int) < (rl : Int) := by omega
                clear hfj he3
                cases hb : badV (o0 == 1) k f with
                | true =>
                  have hE : Hid (G = false) := by
                    show _ = _
                    rw [HPO.out, ← HANY.out, HAF.out, hb]
                    simp
                  unfold badV at hb
                  cases h1 : (o0 == 1) with
                  | true =>
                    rw [h1] at hb
                    have hf1 : (f == -1) = false := by simpa using hb
                    have hf2 : (f != -1) = true := by unfold bne; rw [hf1]; rfl
                    clear hb HPO
                    go_wp2_with fail
                    go_ret
                    exact ⟨by rw [hE.out]; rfl, HK3.out.trans (HK4.out.trans HK.out)⟩
                  | false =>
                    rw [h1] at hb
                    have h1' : (o0 != 1) = true := by unfold bne; rw [h1]; rfl
                    by_cases hf0 : f < 0
                    · clear hb HPO
                      go_wp2_with fail
                      go_ret
                      exact ⟨by rw [hE.out]; rfl, HK3.out.trans (HK4.out.trans HK.out)⟩
                    · have hf3 : (k : Int) ≤ f := by simp at hb; omega
                      clear hb HPO
                      go_wp2_with fail
                      go_ret
                      exact ⟨by rw [hE.out]; rfl, HK3.out.trans (HK4.out.trans HK.out)⟩
                | false =>
                  have HN2 : Hid ((row.drop (j + 1)).any (badV (o0 == 1) k) = row.any (badV (o0 == 1) k)) := by
                    show _ = _
                    rw [← HANY.out, HAF.out, hb, Bool.false_or]
                  unfold badV at hb
                  cases h1 : (o0 == 1) with
                  | true =>
                    rw [h1] at hb HN2
                    have hf1 : (f == -1) = true := by simpa using hb
                    have hf2 : (f != -1) = false := by unfold bne; rw [hf1]; rfl
                    have h1' : (o0 != 1) = false := by unfold bne; rw [h1]; rfl
                    clear hb
                    go_wp2_with fail
                    go_roundw
                    case rel => exact ⟨j + 1, by omega, by go_num, by first | exact HN2.out | (rw [h1]; exact HN2.out), HK.out⟩
                    case measure => simp [intOf]; omega
                  | false =>
                    rw [h1] at hb HN2
                    have h1' : (o0 != 1) = true := by unfold bne; rw [h1]; rfl
                    simp at hb
                    obtain ⟨hf1, hf2⟩ : ¬ f < 0 ∧ ¬ (k : Int) ≤ f := by omega
                    clear hb
                    go_wp2_with fail
                    go_roundw
                    case rel => exact ⟨j + 1, by omega, by go_num, by first | exact HN2.out | (rw [h1]; exact HN2.out), HK.out⟩
                    case measure => simp [intOf]; omega
              · have HNO : Hid (row.any (badV (o0 == 1) k) = false) := by
                  show _ = _
                  rw [← HANY.out, List.drop_eq_nil_of_le (by rw [HRL.out]; omega)]
                  rfl
                have hE : Hid (G = true) := by show _ = _; rw [HPO.out, hq2, hq3, HNO.out, hq5, hq6]; rfl
                clear HPO
                go_wp2_with fail
                go_ret
                exact ⟨by rw [hE.out]; rfl, HK3.out.trans (HK4.out.trans HK.out)⟩
        | false =>
          cases hq6 : ((k : Int) == (m : Int) - 1) with
          | true =>
            have hE : Hid (G = false) := by show _ = _; rw [HPO.out, hq5, hq6]; simp
            clear HPO
            go_wp2_with fail
            refine wp_region_sw (Kept [] w3) (stays_kept w3) (Kept.refl [] w3) (by kernel_rfl) (by kernel_rfl) (fun hne => ?_)
            repeat (go_big_quiet_step ((go_at_call 99; exact SW.calls_of (stays_kept w3) HOC.out)))
            refine wpQuiet_nil ?_
            intro w4 hk4
            have HK4 := Lib.hid hk4
            clear hk4
            go_wp2_with fail
            go_ret
            exact ⟨by rw [hE.out]; rfl, HK3.out.trans HK4.out⟩
          | false =>
            go_wp2_with fail
            refine wp_region_sw (Kept [] w3) (stays_kept w3) (Kept.refl [] w3) (by kernel_rfl) (by kernel_rfl) (fun hne => ?_)
            repeat (go_big_quiet_step ((go_at_call 99; exact SW.calls_of (stays_kept w3) HOC.out)))
            refine wpQuiet_nil ?_
            intro w4 hk4
            have HK4 := Lib.hid hk4
            clear hk4
            have hpb := HPB.out.kept HK4.out (by simp)
            have hob := HOB.out.kept HK4.out (by simp)
            have HPB4 := Lib.hid hpb
            have HOB4 := Lib.hid hob
            have HR4 := Lib.hid ((HK3.out.trans HK4.out).cell (by simp) HR00.out)
            clear hpb hob ca0 ca1 co0 co1 co2 co3 co4 co5 co6 cz5 cr0 hne
            go_wp2_with fail
            go_loopw [6] (fun ii wr => ∃ j : Nat, j ≤ rl ∧ ii = .int .i64 j ∧ (row.drop j).any (badV (o0 == 1) k) = row.any (badV (o0 == 1) k) ∧ Kept [] w4 wr) (fun ii _ => rl - (intOf ii).toNat)
            case atStart => exact ⟨0, by omega, rfl, by rw [List.drop_zero], Kept.refl _ _⟩
            case round =>
              obtain ⟨j, hj, rfl, hany, hK⟩ := hrel
              have HANY := Lib.hid hany
              have HK := Lib.hid hK
              have pc0 := hK.cell (by simp) ((HPB4.out.cell 0).trans rfl)
              have pc1 := hK.cell (by simp) ((HPB4.out.cell 1).trans rfl)
              have oc0 := hK.cell (by simp) ((HOB4.out.cell 0).trans rfl)
              have rc0 := hK.cell (by simp) HR4.out
              clear hany hK
              by_cases hlt : j < rl
              · obtain ⟨rb, ro, rcc, f, he, hfj, cf⟩ := RdI.at (HROW.out.ints.keep (HK3.out.trans (HK4.out.trans HK.out))) (i := j) (by rw [HRL.out]; exact hlt)
                injection he with he1 _ he3
                subst he1
                have HAF := Lib.hid (any_drop (p := badV (o0 == 1) k) hfj)
                have hj0 : (0 : Int) ≤ (j : Int) := by omega
                have hjl : (j : Int) < (rl : Int) := by omega
                clear hfj he3
                cases hb : badV (o0 == 1) k f with
                | true =>
                  have hE : Hid (G = false) := by
                    show _ = _
                    rw [HPO.out, ← HANY.out, HAF.out, hb]
                    simp
                  unfold badV at hb
                  cases h1 : (o0 == 1) with
                  | true =>
                    rw [h1] at hb
                    have hf1 : (f == -1) = false := by simpa using hb
                    have hf2 : (f != -1) = true := by unfold bne; rw [hf1]; rfl
                    clear hb HPO
                    go_wp2_with fail
                    go_ret
                    exact ⟨by rw [hE.out]; rfl, HK3.out.trans (HK4.out.trans HK.out)⟩
                  | false =>
                    rw [h1] at hb
                    have h1' : (o0 != 1) = true := by unfold bne; rw [h1]; rfl
                    by_cases hf0 : f < 0
                    · clear hb HPO
                      go_wp2_with fail
                      go_ret
                      exact ⟨by rw [hE.out]; rfl, HK3.out.trans (HK4.out.trans HK.out)⟩
                    · have hf3 : (k : Int) ≤ f := by simp at hb; omega
                      clear hb HPO
                      go_wp2_with fail
                      go_ret
                      exact ⟨by rw [hE.out]; rfl, HK3.out.trans (HK4.out.trans HK.out)⟩
                | false =>
                  have HN2 : Hid ((row.drop (j + 1)).any (badV (o0 == 1) k) = row.any (badV (o0 == 1) k)) := by
                    show _ = _
                    rw [← HANY.out, HAF.out, hb, Bool.false_or]
                  unfold badV at hb
                  cases h1 : (o0 == 1) with
                  | true =>
                    rw [h1] at hb HN2
                    have hf1 : (f == -1) = true := by simpa using hb
                    have hf2 : (f != -1) = false := by unfold bne; rw [hf1]; rfl
                    have h1' : (o0 != 1) = false := by unfold bne; rw [h1]; rfl
                    clear hb
                    go_wp2_with fail
                    go_roundw
                    case rel => exact ⟨j + 1, by omega, by go_num, by first | exact HN2.out | (rw [h1]; exact HN2.out), HK.out⟩
                    case measure => simp [intOf]; omega
                  | false =>
                    rw [h1] at hb HN2
                    have h1' : (o0 != 1) = true := by unfold bne; rw [h1]; rfl
                    simp at hb
                    obtain ⟨hf1, hf2⟩ : ¬ f < 0 ∧ ¬ (k : Int) ≤ f := by omega
                    clear hb
                    go_wp2_with fail
                    go_roundw
                    case rel => exact ⟨j + 1, by omega, by go_num, by first | exact HN2.out | (rw [h1]; exact HN2.out), HK.out⟩
                    case measure => simp [intOf]; omega
              · have HNO : Hid (row.any (badV (o0 == 1) k) = false) := by
                  show _ = _
                  rw [← HANY.out, List.drop_eq_nil_of_le (by rw [HRL.out]; omega)]
                  rfl
                have HPB5 := Lib.hid (HPB4.out.kept HK.out (by simp))
                by_cases h0 : fe = 0
                · have hE : Hid (G = false) := by show _ = _; rw [HPO.out, hq2, hq3, HNO.out, hq5, hq6, h0]; rfl
                  have H0 := Lib.hid h0
                  clear HPO h0
                  go_wp2_with fail
                  refine (HUS.out _ (HK3.out.trans (HK4.out.trans HK.out))).mono ?_
                  rintro e w5 ⟨uv, rfl, hown, hk5⟩
                  rw [HFEL.out] at hown
                  obtain ⟨UA, uc, rfl⟩ := own_len hown
                  have HK5 := Lib.hid hk5
                  clear hown hk5
                  rw [H0.out]
                  go_wp2_with fail
                  go_ret
                  exact ⟨by rw [hE.out]; rfl, (HK3.out.trans (HK4.out.trans HK.out)).trans HK5.out⟩
                · have h0' : (0 : Int) < (fe : Int) := by omega
                  have h0n : 0 < fe := by omega
                  have hq7 : ((fe : Int) == 0) = false := by rw [beq_eq_false_iff_ne]; omega
                  have HG2 : Hid (G = decide ((fe : Int) ≤ 64)) := by show _ = _; rw [HPO.out, hq2, hq3, HNO.out, hq5, hq6, hq7]; simp
                  clear HPO h0
                  go_wp2_with fail
                  refine (HUS.out _ (HK3.out.trans (HK4.out.trans HK.out))).mono ?_
                  rintro e w5 ⟨uv, rfl, hown, hk5⟩
                  rw [HFEL.out] at hown
                  obtain ⟨UA, uc, rfl⟩ := own_len hown
                  have HK5 := Lib.hid hk5
                  have pd0 := (HPB5.out.kept hk5 (by simp)).cell 0
                  have pd1 := (HPB5.out.kept hk5 (by simp)).cell 1
                  simp at pd0 pd1
                  clear hown hk5
                  go_wp2_with fail
                  refine (HUS.out _ ((HK3.out.trans (HK4.out.trans HK.out)).trans HK5.out)).mono ?_
                  rintro e w6 ⟨uv2, rfl, hown, hk6⟩
                  rw [HFEL.out] at hown
                  obtain ⟨UA2, uc2, rfl⟩ := own_len hown
                  have HK6 := Lib.hid hk6
                  clear hown hk6
                  by_cases h64 : (fe : Int) ≤ 64
                  · have hE : Hid (G = true) := by show _ = _; rw [HG2.out]; simp [h64]
                    go_wp2_with fail
                    go_ret
                    exact ⟨by rw [hE.out]; first | rfl | (simp; done) | (simp; omega), ((HK3.out.trans (HK4.out.trans HK.out)).trans HK5.out).trans HK6.out⟩
                  · have hE : Hid (G = false) := by show _ = _; rw [HG2.out]; simp [h64]
                    go_wp2_with fail
                    go_ret
                    exact ⟨by rw [hE.out]; first | rfl | (simp; done) | (simp; omega), ((HK3.out.trans (HK4.out.trans HK.out)).trans HK5.out).trans HK6.out⟩
end Go.Proofs.YtbaifjdealmckaaGreat
