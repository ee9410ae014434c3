/- What comes out of each operator: the document's Out. -/
import Derived.Test.YtbaifjdealmckaaGreatRows
import Derived.WalkKit
import Derived.WalkSpells
import Derived.WalkLawsBesides
import Derived.Deep.QuietTactic
import Derived.BigQuiet
import Derived.Lib.Hide
import Derived.BigRegion
import Derived.Shelf.Abstract
import Derived.Lib.ConvBytes
import Derived.Deep.RegionHeld3
import Derived.Deep.AppendLies
import Derived.Deep.DrawnRows
import Derived.Deep.DeepCutAuto
import Derived.Deep.CutBlock
import Derived.Laws.EntriesVeiled
import Derived.StillTailTactics
import Derived.Laws.AppendOwnNone
import Derived.Deep.Slices
import Derived.ProofKit
import Derived.SizedLaws
import Derived.Test.YtbaifjdealmckaaGreatP15
import Derived.Test.YtbaifjdealmckaaGreatP30
import Derived.Test.YtbaifjdealmckaaGreatP31
set_option linter.unusedVariables false
set_option linter.unusedSimpArgs false
set_option linter.unnecessarySimpa false
namespace Go.Proofs.YtbaifjdealmckaaGreat
open Go.RowKit Go.Shelf
attribute [local go_sem] Oper.semAt_some

theorem opN_term {x : PlanD} {r : RatesD} {L : List Int} {k : Nat} (h : (opAt x k).1 = 1) : opN x r L k = byV (addV r.1) (r.2.1.getD k 0) := by
  unfold opN opL
  rw [if_neg (by omega), if_pos h]
  exact addV_one (byV_bd _ _).1 (byV_bd _ _).2
theorem opN_prod {x : PlanD} {r : RatesD} {L : List Int} {k : Nat} (h : (opAt x k).1 = 2 ∨ (opAt x k).1 = 3) : opN x r L k = prodV (insV L (rowAt x k)) := by
  unfold opN opL
  rw [if_pos h, if_neg (by omega)]
theorem opN_sum {x : PlanD} {r : RatesD} {L : List Int} {k : Nat} (h1 : (opAt x k).1 ≠ 1) (h : ¬ ((opAt x k).1 = 2 ∨ (opAt x k).1 = 3)) : opN x r L k = addV (insV L (rowAt x k)) := by
  unfold opN opL
  rw [if_neg h, if_neg h1]

/- One operator's inputs, put together. slots: the list and the counter; q, qi: their names. -/
/- The last statement of a round: by what passes, and put to the list. wz: the world; nv: the number. -/

set_option maxRecDepth 100000 in
set_option maxHeartbeats 4000000 in
theorem rout_any (ov fv sv tv pv : Value) (x : PlanD) (r : RatesD) (w : World) (ho : Rds opR w ov x.1) (hf : Rds intsR w fv x.2) (hF : fromLen x.2 ≤ 1048576)
    (hs : RdI w .i64 sv r.1) (ht : RdI w .i64 tv r.2.1) (hp : RdI w .i64 pv r.2.2) :
    Calls Tryz.prog 72 #[.agg #[ov, fv], .agg #[sv, tv, pv]] w (OutsPost w (checkE x r) (if checkE x r = 0 then outV x r else [])) := by
  obtain ⟨i0, hi0, hz0, hz1, hz2⟩ := info_parts info64
  have HCC := Lib.hid (fun (W : World) (hk : Kept [] w W) => rcostcheck_any ov fv sv tv pv x r W (ho.keep hk) (hf.keep hk) hF (hs.keep hk) (ht.keep hk) (hp.keep hk))
  have HO := Lib.hid ho
  have HFR := Lib.hid hf
  have HS := Lib.hid hs
  have HT := Lib.hid ht
  have HP := Lib.hid hp
  have HLF : Hid (fromLen x.2 ≤ 1048576) := hF
  obtain ⟨A, c, rfl, hmA⟩ := ho.form
  obtain ⟨B, d, rfl, hmB⟩ := hf.form
  obtain ⟨SA, sc, rfl, hmS, -⟩ := hs
  obtain ⟨TA, tc, rfl, hmT, -⟩ := ht
  obtain ⟨PA, pc, rfl, hmP, -⟩ := hp
  obtain ⟨ec, hec⟩ : ∃ ec, checkE x r = ec := ⟨_, rfl⟩
  rw [hec] at HCC ⊢
  obtain ⟨R, hR⟩ : ∃ R, (if ec = 0 then outV x r else []) = R := ⟨_, rfl⟩
  rw [hR]
  have HR := Lib.hid hR
  clear hR
  obtain ⟨n, hn⟩ : ∃ n, x.1.length = n := ⟨_, rfl⟩
  obtain ⟨m, hm⟩ : ∃ m, x.2.length = m := ⟨_, rfl⟩
  obtain ⟨ns, hns⟩ : ∃ ns, r.1.length = ns := ⟨_, rfl⟩
  obtain ⟨nt, hnt⟩ : ∃ nt, r.2.1.length = nt := ⟨_, rfl⟩
  obtain ⟨np, hnp⟩ : ∃ np, r.2.2.length = np := ⟨_, rfl⟩
  rw [hn] at hmA HO HCC ⊢
  rw [hm] at hmB HFR HCC ⊢
  simp only [hns] at hmS HS HCC ⊢
  simp only [hnt] at hmT HT HCC ⊢
  simp only [hnp] at hmP HP HCC ⊢
  have HN := Lib.hid hn
  have HM := Lib.hid hm
  have HNS := Lib.hid hns
  have HNT := Lib.hid hnt
  have HNP := Lib.hid hnp
  have HEC := Lib.hid hec
  clear hn hm hns hnt hnp hec hF ho hf
  have HK0 := Lib.hid (((Kept.refl [] w).alloc (.cells #[.slice A n c, .slice B m d] 26)).alloc (.cells #[.slice SA ns sc, .slice TA nt tc, .slice PA np pc] 29))
  have HB0 : Hid (Blk ((w.alloc (.cells #[.slice A n c, .slice B m d] 26)).alloc (.cells #[.slice SA ns sc, .slice TA nt tc, .slice PA np pc] 29)) w.heap.size #[.slice A n c, .slice B m d] 26) := (Blk.new w _ _).alloc _
  have HB1 : Hid (Blk ((w.alloc (.cells #[.slice A n c, .slice B m d] 26)).alloc (.cells #[.slice SA ns sc, .slice TA nt tc, .slice PA np pc] 29)) (w.heap.size + 1) #[.slice SA ns sc, .slice TA nt tc, .slice PA np pc] 29) := by
    have := Blk.new (w.alloc (.cells #[.slice A n c, .slice B m d] 26)) #[.slice SA ns sc, .slice TA nt tc, .slice PA np pc] 29
    rwa [show (w.alloc (.cells #[.slice A n c, .slice B m d] 26)).heap.size = w.heap.size + 1 by simp] at this
  go_enter Tryz.func72, Tryz.ntmps72
  go_wp2_with fail
  refine (HCC.out _ HK0.out).mono ?_
  rintro e w1 ⟨rfl, hk1⟩
  have HK1 := Lib.hid (HK0.out.trans hk1)
  by_cases hz : ec = 0
  · subst hz
    obtain ⟨hpv, hro⟩ := checkE_zero HEC.out
    obtain ⟨hn2, hn32, hmn, hpl⟩ := plan_place hpv
    obtain ⟨hs1, hs12, ht1, hp1⟩ := ratesOk_is hro
    rw [HN.out] at hn2 hn32 hmn hpl ht1 hp1
    rw [HM.out] at hmn
    rw [HNT.out] at ht1
    rw [HNP.out] at hp1
    subst hmn ht1 hp1
    have HPL := Lib.hid hpl
    have hR0 := HR.out
    rw [if_pos rfl, outV, HN.out] at hR0
    have HG := Lib.hid hR0
    have HB01 := Lib.hid (HB0.out.kept hk1 (by simp))
    have HB11 := Lib.hid (HB1.out.kept hk1 (by simp))
    clear hk1 hpv hro hpl hR0 HB0 HB1 HCC hs12 hs1
    have c0 := HB01.out.cell 0
    simp at c0
    go_wp2_with fail
    go_loopw [7, 8] (fun o ii wr => ∃ (k : Nat) (L : List Int), k ≤ np ∧ ii = .int .i64 k ∧ L.length = k ∧ outGo x r (np - k) L = R ∧ wr.ownsRow w1.heap.size 2 1 o L.length (L.map (.int .i64)) ∧ Kept [] w1 wr) (fun _ ii _ => np - (intOf ii).toNat)
    case atStart => exact ⟨0, [], by omega, rfl, rfl, by rw [Nat.sub_zero]; exact HG.out, World.ownsRow_nil _ _ _ _, Kept.refl _ _⟩
    case round =>
      obtain ⟨k, L, hk, rfl, hll, hg, hown, hK⟩ := hrel
      obtain ⟨wk, rfl⟩ : ∃ wk, wk = wr := ⟨_, rfl⟩
      have HGO := Lib.hid hg
      obtain ⟨AA, cc, rfl⟩ := own_len hown
      rw [hll] at hown ⊢
      have HOWN := Lib.hid hown
      have HRO : Hid (RdI wk .i64 (.slice AA L.length cc) L) := by have := (RdI.of_own hown).1; rw [← hll] at this; exact this
      have HK := Lib.hid hK
      have hsz2 := hK.size
      have HLL := Lib.hid hll
      clear hg hown hK
      by_cases hlt : k < np
      · have HST := Lib.hid (outGo_at x r np k L hlt HLL.out)
        have HPI := Lib.hid (place_is (HPL.out k hlt))
        rw [hll] at HRO
        clear hll
        obtain ⟨b, off, c', o, cs', he, hx, hE, hc⟩ := (Rds.keep HO.out (HK1.out.trans HK.out)).at (k := k) (by rw [HN.out]; exact hlt)
        rw [HN.out] at he
        injection he with he1 he2 he3
        subst he1 he3
        obtain ⟨tv, cv, rfl, _, _, _, _⟩ := opR_cells hE
        obtain ⟨o0, o1, o2, o3, o4, o5, o6⟩ := o
        have e0 := hc 0 (by decide)
        simp [opCells, show opR.sz = 7 from rfl] at e0
        have HOA : Hid ((opAt x k).1 = o0) := by show _ = _; rw [opAt_of hx]
        obtain ⟨b2, off2, c2, row, cs2, he, hy, hE2, hc2⟩ := (Rds.keep HFR.out (HK1.out.trans HK.out)).at (k := k) (by rw [HM.out]; exact hlt)
        rw [HM.out] at he
        injection he with he1 he2' he3
        subst he1 he3
        obtain ⟨rv, rfl, hrow⟩ := intsR_cells hE2
        have r00 := hc2 0 (by decide)
        simp only [show intsR.sz = 1 from rfl, Nat.mul_one, Nat.add_zero, List.getElem?_cons_zero] at r00
        obtain ⟨RA, rc, rfl, hrm⟩ := hrow.form
        have HRA : Hid (rowAt x k = row) := rowAt_of hy
        obtain ⟨rl, hrl⟩ : ∃ rl, row.length = rl := ⟨_, rfl⟩
        rw [hrl] at r00 hrow hrm
        have HROW := Lib.hid hrow
        have HRL := Lib.hid hrl
        have hrl20 : rl ≤ 1048576 := by
          have := Nat.le_trans (row_fromLen hy) HLF.out
          rw [hrl] at this
          exact this
        have HCR := Lib.hid r00
        have HCE0 := Lib.hid e0
        have HCP0 := Lib.hid (((HB01.out.kept HK.out (by simp)).cell 0).trans rfl)
        have HCP1 := Lib.hid (((HB01.out.kept HK.out (by simp)).cell 1).trans rfl)
        have HBEL : Hid (∀ f ∈ row, f < (L.length : Int)) := fun f hf => by
          rw [HLL.out]
          exact HPI.out.below f (by rw [HRA.out]; exact hf)
        have hr1 : 1 ≤ rl := by have := HPI.out.one; rw [HRA.out, HRL.out] at this; exact this
        obtain ⟨tb, toff, tc', tk, he, htk, hct⟩ := RdI.at HT.out (i := k) (by rw [HNT.out]; exact hlt)
        rw [HNT.out] at he
        injection he with he1 hex he3
        clear hex
        subst he1 he3
        obtain ⟨pb, poff, pc', pk, he, hpk, hcp⟩ := RdI.at HP.out (i := k) (by rw [HNP.out]; exact hlt)
        rw [HNP.out] at he
        injection he with he1 hex he3
        clear hex
        subst he1 he3
        have HTKV : Hid (r.2.1.getD k 0 = tk) := by show _ = _; rw [List.getD, htk]; rfl
        have HPK : Hid (r.2.2.getD k 0 = pk) := by show _ = _; rw [List.getD, hpk]; rfl
        have HS0 := Lib.hid (((HB11.out.kept HK.out (by simp)).cell 0).trans rfl)
        have HS1 := Lib.hid (((HB11.out.kept HK.out (by simp)).cell 1).trans rfl)
        have HS2 := Lib.hid (((HB11.out.kept HK.out (by simp)).cell 2).trans rfl)
        have HT0 := Lib.hid ((HK1.out.trans HK.out).cell (by simp) hct)
        have HT1 := Lib.hid ((HK1.out.trans HK.out).cell (by simp) hcp)
        have hk0 : (0 : Int) ≤ (k : Int) := by omega
        have hkn : (k : Int) < (np : Int) := by omega
        have HKI := HPI.out.kind
        rw [HOA.out] at HKI
        have HLOW0 : Hid (o0 ≠ 1 → ∀ f ∈ row, 0 ≤ f) := fun h => by have := HPI.out.low (by rw [HOA.out]; exact h); rwa [HRA.out] at this
        have HTWO : Hid (o0 = 2 ∨ o0 = 3 → 2 ≤ rl) := fun h => by have := HPI.out.two (by rw [HOA.out]; exact h); rwa [HRA.out, HRL.out] at this
        clear hx hE hc he2 hy hE2 hc2 hrow r00 hrl htk hpk hct hcp e0 he2'
        have cp := HCP0.out
        have cp1 := HCP1.out
        have cr := HCR.out
        have ce0 := HCE0.out
        by_cases h1 : o0 = 1
        · subst h1
          have hri : (0 : Int) < (rl : Int) := by omega
          obtain ⟨sa, hsa⟩ : ∃ sa, addV r.1 = sa := ⟨_, rfl⟩
          obtain ⟨nv, hnv⟩ : ∃ nv, byV sa tk = nv := ⟨_, rfl⟩
          have HNV : Hid (opN x r L k = nv) := by show _ = _; rw [opN_term HOA.out, HTKV.out, hsa, hnv]
          have HADD := Lib.hid (fun (W : World) (hW : Kept [] wk W) => radd_any _ r.1 W (HS.out.keep ((HK1.out.trans HK.out).trans hW)))
          have HBYT := Lib.hid (fun (W : World) (hW : Kept [] wk W) => rby_any sa tk W)
          rw [hsa] at HADD
          rw [hnv] at HBYT
          clear hsa hnv
          go_wp2_with fail
          refine wp_loop_rounds 1 ?_
          rw [rounds_succ]
          have ss0 : ∀ s : SW (Kept [] wk), s.to.cell? ⟨w.heap.size + 1, 0, none⟩ = some (.slice SA ns sc) := fun s => s.ok.cell (by simp) HS0.out
          have ss1 : ∀ s : SW (Kept [] wk), s.to.cell? ⟨w.heap.size + 1, 1, none⟩ = some (.slice (some ⟨tb, toff, none⟩) np tc) := fun s => s.ok.cell (by simp) HS1.out
          have ss2 : ∀ s : SW (Kept [] wk), s.to.cell? ⟨tb, toff + k, none⟩ = some (.int .i64 tk) := fun s => s.ok.cell (by simp) HT0.out
          go_wp2_with fail
          refine wp_region_sw (Kept [] wk) (stays_kept wk) (Kept.refl [] wk) (by kernel_rfl) (by kernel_rfl) (fun hne => ?_)
          repeat (go_big_quiet_step (first
            | (go_at_call 77; exact SW.calls_of (stays_kept wk) (fun W hW => (HADD.out W hW).mono fun e w' h => ⟨h.1, h.2 ▸ Kept.refl _ _⟩))
            | (go_at_call 101; exact SW.calls_of (stays_kept wk) HBYT.out)))
          refine wpQuiet_nil ?_
          intro wt hkt
          have HKT := Lib.hid hkt
          clear hkt ss0 ss1 ss2 hne
          obtain ⟨g2, hg2⟩ : ∃ g2, byV nv pk = g2 := ⟨_, rfl⟩
          have HBY := Lib.hid (rby_any nv pk wt)
          rw [hg2] at HBY
          have HGN : Hid (outGo x r (np - (k + 1)) (L ++ [g2]) = R) := by
            show _ = _
            rw [← HGO.out, HST.out, outStep, HNV.out, HPK.out, hg2]
          have s2 := HKT.out.cell (by simp) HS2.out
          have t1 := HKT.out.cell (by simp) HT1.out
          clear hg2
          go_wp2_with fail
          refine HBY.out.mono ?_
          rintro e w8 ⟨rfl, hk8⟩
          have HK8 := Lib.hid (HKT.out.trans hk8)
          have hs8 := HK8.out.size
          clear hk8
          have hown8 := ownsRow_keep HOWN.out HK8.out (by simp)
          go_wp2_with (at_builtin; refine wpList_append_own_at _ rfl _ _ 27 rfl w1.heap.size 2 i0 (.int .i64 0) 1 8 Tryz.underlying27 hi0 hz0 hz1 hz2 rfl (by decide) _ k _ rfl (hown8.alloc _) ⟨w8.heap.size, 0, none⟩ 1 1 [.int .i64 g2] rfl rfl (cell_one_at _ _ _ _ rfl) (by simp [Value.oneCell']) (by unfold maxLen; omega) (by omega) (by simp; omega) ?_)
          intro v9 w9 hown9 hgrow9 _ _
          have HK9 : Hid (Kept [] w1 w9) := Kept.grown (S := []) ((HK.out.trans HK8.out).alloc _) hgrow9 (fun y hy => .inr (HOWN.out.lt y hy).1)
          have HOWN9 := Lib.hid hown9
          clear hown9 hgrow9 hown8
          go_wp2_with fail
          go_roundw
          case rel => exact ⟨k + 1, L ++ [g2], by omega, by go_num, by rw [List.length_append, HLL.out]; rfl, HGN.out, by rw [List.map_append, List.length_append, HLL.out]; exact HOWN9.out, HK9.out⟩
          case measure => simp [intOf]; omega
        · have h1' : (o0 != 1) = true := by rw [bne_iff_ne]; exact h1
          have h1'' : (o0 == 1) = false := by rw [beq_eq_false_iff_ne]; exact h1
          have HLOW := Lib.hid (HLOW0.out h1)
          clear HLOW0
          by_cases h23 : o0 = 2 ∨ o0 = 3
          · have hr2 := HTWO.out h23
            rcases h23 with h2 | h2
            · subst h2
              go_wp2_with fail
              go_loopw [9, 10] (fun v ii wq => ∃ j : Nat, j ≤ rl ∧ ii = .int .i64 j ∧ wq.ownsRow wk.heap.size 2 1 v j (((row.take j).map (fun f => L.getD f.toNat 0)).map (.int .i64)) ∧ Kept [] wk wq) (fun _ ii _ => rl - (intOf ii).toNat)
              case atStart => exact ⟨0, by omega, rfl, World.ownsRow_nil _ _ _ _, Kept.refl _ _⟩
              case round =>
                obtain ⟨j, hj, rfl, hownq, hKq⟩ := hrel
                obtain ⟨QA, qc, rfl⟩ := own_len hownq
                have HOWNQ := Lib.hid hownq
                have HKQ := Lib.hid hKq
                have hqs := hKq.size
                clear hownq hKq
                have cp := HKQ.out.cell (by simp) HCP0.out
                have cp1 := HKQ.out.cell (by simp) HCP1.out
                have cr := HKQ.out.cell (by simp) HCR.out
                have ce0 := HKQ.out.cell (by simp) HCE0.out
                by_cases hjl : j < rl
                · obtain ⟨rb, ro, rcc, f, he, hfj, cf⟩ := RdI.at (HROW.out.ints.keep HKQ.out) (i := j) (by rw [HRL.out]; exact hjl)
                  injection he with he1 hex he3
                  clear hex
                  have hf0 := HLOW.out f (List.mem_of_getElem? hfj)
                  have hfL := HBEL.out f (List.mem_of_getElem? hfj)
                  obtain ⟨lb, lo, lcc, lv, hel, hlv, clv⟩ := RdI.at (HRO.out.keep HKQ.out) (i := f.toNat) (by omega)
                  injection hel with hel1 helx hel3
                  clear helx
                  have HLV : Hid (L.getD f.toNat 0 = lv) := by show _ = _; rw [List.getD, hlv]; rfl
                  have HTK : Hid (((row.take (j + 1)).map (fun f => L.getD f.toNat 0)).map (Value.int .i64) = ((row.take j).map (fun f => L.getD f.toNat 0)).map (.int .i64) ++ [.int .i64 lv]) := by
                    show _ = _
                    obtain ⟨q1, q2⟩ := List.getElem?_eq_some_iff.1 hfj
                    rw [List.take_succ_eq_append_getElem q1, q2, List.map_append, List.map_append, ← HLV.out]
                    rfl
                  subst he1 hel1
                  obtain ⟨g, rfl⟩ : ∃ g : Nat, f = g := ⟨f.toNat, by omega⟩
                  simp only [Int.toNat_natCast] at clv HLV HTK
                  have hg1 : g < k := by have := HLL.out; omega
                  have hgi : (g : Int) < (k : Int) := by omega
                  have hg0 : (0 : Int) ≤ (g : Int) := by omega
                  have hj0 : (0 : Int) ≤ (j : Int) := by omega
                  have hjl' : (j : Int) < (rl : Int) := by omega
                  clear hfj hlv he3 hel3 hf0 hfL
                  go_wp2_with (at_builtin; refine wpList_append_own_at _ rfl _ _ 27 rfl wk.heap.size 2 i0 (.int .i64 0) 1 8 Tryz.underlying27 hi0 hz0 hz1 hz2 rfl (by decide) _ j _ rfl (HOWNQ.out.alloc _) ⟨wr.heap.size, 0, none⟩ 1 1 [.int .i64 lv] rfl rfl (cell_one_at _ _ _ _ rfl) (by simp [Value.oneCell']) (by unfold maxLen; omega) (by omega) (by simp; omega) ?_)
                  intro v7 w7 hown7 hgrow7 _ _
                  have HOWN7 : Hid (w7.ownsRow wk.heap.size 2 1 v7 (j + 1) (((row.take (j + 1)).map (fun f => L.getD f.toNat 0)).map (.int .i64))) := by
                    show w7.ownsRow _ _ _ _ _ _
                    rw [HTK.out]
                    simpa using hown7
                  have HK7 : Hid (Kept [] wk w7) := Kept.grown (S := []) (HKQ.out.alloc _) hgrow7 (fun y hy => .inr (HOWNQ.out.lt y hy).1)
                  clear hown7 hgrow7
                  go_wp2_with fail
                  go_roundw
                  case rel => exact ⟨j + 1, by omega, by go_num, HOWN7.out, HK7.out⟩
                  case measure => simp [intOf]; omega
                · obtain rfl : rl = j := by omega
                  have HIN : Hid (wr.ownsRow wk.heap.size 2 1 (.slice QA rl qc) rl ((insV L row).map (.int .i64))) := by
                    show wr.ownsRow _ _ _ _ _ _
                    rw [insV_all L row HLOW.out]
                    have := HOWNQ.out
                    rwa [List.take_of_length_le (by rw [HRL.out]; omega)] at this
                  have HIR := Lib.hid (RdI.of_own (v := .slice QA rl qc) (xs := insV L row) HIN.out).1
                  clear HOWNQ hjl
                  obtain ⟨wg, rfl⟩ : ∃ wg, wg = wr := ⟨_, rfl⟩
                  obtain ⟨M, hM⟩ : ∃ M, insV L row = M := ⟨_, rfl⟩
                  have HNV0 : Hid (opN x r L k = prodV M) := by show _ = _; rw [opN_prod (by rw [HOA.out]; simp), HRA.out, hM]
                  rw [hM] at HIR
                  have hMl : M.length = rl := by rw [← hM, insV_all L row HLOW.out, List.length_map]; exact HRL.out
                  have HML := Lib.hid hMl
                  obtain ⟨gb, go', gc', n0, he, hn0, cn0⟩ := RdI.at HIR.out (i := 0) (by omega)
                  injection he with he1 hex he3
                  clear hex
                  subst he1
                  have HN0 : Hid (prodV M = prodGo n0 (M.drop 1)) := by show _ = _; rw [prodV, List.getD, hn0]; rfl
                  rw [Nat.add_zero] at cn0
                  have hrl2 : 0 < rl := by omega
                  have hrl3 : (0 : Int) < (rl : Int) := by omega
                  clear hM hMl hn0 he3
                  go_wp2_with fail
                  go_loopw [11, 12] (fun vn ii wq => ∃ (j : Nat) (n' : Int), 1 ≤ j ∧ j ≤ rl ∧ ii = .int .i64 j ∧ vn = .int .i64 n' ∧ prodGo n' (M.drop j) = prodV M ∧ Kept [] wg wq) (fun _ ii _ => rl - (intOf ii).toNat)
                  case atStart => exact ⟨1, n0, by omega, by omega, rfl, rfl, HN0.out.symm, Kept.refl _ _⟩
                  case round =>
                    obtain ⟨j, n', hj1, hj, rfl, rfl, hpr, hKp⟩ := hrel
                    have HPR := Lib.hid hpr
                    have HKP := Lib.hid hKp
                    clear hpr hKp
                    by_cases hjl : j < rl
                    · obtain ⟨fb, fo, fcc, f, he, hfj, cf⟩ := RdI.at (HIR.out.keep HKP.out) (i := j) (by rw [HML.out]; exact hjl)
                      injection he with he1 hex he3
                      clear hex
                      injection he1 with he1
                      injection he1 with he1 he1b
                      subst he1 he1b
                      obtain ⟨g3, hg3⟩ : ∃ g3, byV n' f = g3 := ⟨_, rfl⟩
                      have HBF := Lib.hid (rby_any n' f wr)
                      rw [hg3] at HBF
                      have HPN : Hid (prodGo g3 (M.drop (j + 1)) = prodV M) := by
                        show _ = _
                        rw [← hg3, ← prodGo_drop hfj]
                        exact HPR.out
                      have hj0 : (0 : Int) ≤ (j : Int) := by omega
                      have hjl' : (j : Int) < (rl : Int) := by omega
                      clear hfj hg3 he3
                      go_wp2_with fail
                      refine HBF.out.mono ?_
                      rintro e w6 ⟨rfl, hk6⟩
                      have HK6 := Lib.hid (HKP.out.trans hk6)
                      clear hk6
                      go_wp2_with fail
                      go_roundw
                      case rel => exact ⟨j + 1, g3, by omega, by omega, by go_num, rfl, HPN.out, HK6.out⟩
                      case measure => simp [intOf]; omega
                    · obtain rfl : rl = j := by omega
                      have HNV : Hid (opN x r L k = n') := by
                        show _ = _
                        rw [HNV0.out, ← HPR.out, List.drop_eq_nil_of_le (by rw [HML.out]; omega)]
                        rfl
                      have HKP2 := Lib.hid (HKQ.out.trans HKP.out)
                      clear hjl
                      obtain ⟨g2, hg2⟩ : ∃ g2, byV n' pk = g2 := ⟨_, rfl⟩
                      have HBY := Lib.hid (rby_any n' pk wr)
                      rw [hg2] at HBY
                      have HGN : Hid (outGo x r (np - (k + 1)) (L ++ [g2]) = R) := by
                        show _ = _
                        rw [← HGO.out, HST.out, outStep, HNV.out, HPK.out, hg2]
                      have s2 := HKP2.out.cell (by simp) HS2.out
                      have t1 := HKP2.out.cell (by simp) HT1.out
                      clear hg2
                      go_wp2_with fail
                      refine HBY.out.mono ?_
                      rintro e w8 ⟨rfl, hk8⟩
                      have HK8 := Lib.hid (HKP2.out.trans hk8)
                      have hs8 := HK8.out.size
                      clear hk8
                      have hown8 := ownsRow_keep HOWN.out HK8.out (by simp)
                      go_wp2_with (at_builtin; refine wpList_append_own_at _ rfl _ _ 27 rfl w1.heap.size 2 i0 (.int .i64 0) 1 8 Tryz.underlying27 hi0 hz0 hz1 hz2 rfl (by decide) _ k _ rfl (hown8.alloc _) ⟨w8.heap.size, 0, none⟩ 1 1 [.int .i64 g2] rfl rfl (cell_one_at _ _ _ _ rfl) (by simp [Value.oneCell']) (by unfold maxLen; omega) (by omega) (by simp; omega) ?_)
                      intro v9 w9 hown9 hgrow9 _ _
                      have HK9 : Hid (Kept [] w1 w9) := Kept.grown (S := []) ((HK.out.trans HK8.out).alloc _) hgrow9 (fun y hy => .inr (HOWN.out.lt y hy).1)
                      have HOWN9 := Lib.hid hown9
                      clear hown9 hgrow9 hown8
                      go_wp2_with fail
                      go_roundw
                      case rel => exact ⟨k + 1, L ++ [g2], by omega, by go_num, by rw [List.length_append, HLL.out]; rfl, HGN.out, by rw [List.map_append, List.length_append, HLL.out]; exact HOWN9.out, HK9.out⟩
                      case measure => simp [intOf]; omega
            · subst h2
              go_wp2_with fail
              go_loopw [9, 10] (fun v ii wq => ∃ j : Nat, j ≤ rl ∧ ii = .int .i64 j ∧ wq.ownsRow wk.heap.size 2 1 v j (((row.take j).map (fun f => L.getD f.toNat 0)).map (.int .i64)) ∧ Kept [] wk wq) (fun _ ii _ => rl - (intOf ii).toNat)
              case atStart => exact ⟨0, by omega, rfl, World.ownsRow_nil _ _ _ _, Kept.refl _ _⟩
              case round =>
                obtain ⟨j, hj, rfl, hownq, hKq⟩ := hrel
                obtain ⟨QA, qc, rfl⟩ := own_len hownq
                have HOWNQ := Lib.hid hownq
                have HKQ := Lib.hid hKq
                have hqs := hKq.size
                clear hownq hKq
                have cp := HKQ.out.cell (by simp) HCP0.out
                have cp1 := HKQ.out.cell (by simp) HCP1.out
                have cr := HKQ.out.cell (by simp) HCR.out
                have ce0 := HKQ.out.cell (by simp) HCE0.out
                by_cases hjl : j < rl
                · obtain ⟨rb, ro, rcc, f, he, hfj, cf⟩ := RdI.at (HROW.out.ints.keep HKQ.out) (i := j) (by rw [HRL.out]; exact hjl)
                  injection he with he1 hex he3
                  clear hex
                  have hf0 := HLOW.out f (List.mem_of_getElem? hfj)
                  have hfL := HBEL.out f (List.mem_of_getElem? hfj)
                  obtain ⟨lb, lo, lcc, lv, hel, hlv, clv⟩ := RdI.at (HRO.out.keep HKQ.out) (i := f.toNat) (by omega)
                  injection hel with hel1 helx hel3
                  clear helx
                  have HLV : Hid (L.getD f.toNat 0 = lv) := by show _ = _; rw [List.getD, hlv]; rfl
                  have HTK : Hid (((row.take (j + 1)).map (fun f => L.getD f.toNat 0)).map (Value.int .i64) = ((row.take j).map (fun f => L.getD f.toNat 0)).map (.int .i64) ++ [.int .i64 lv]) := by
                    show _ = _
                    obtain ⟨q1, q2⟩ := List.getElem?_eq_some_iff.1 hfj
                    rw [List.take_succ_eq_append_getElem q1, q2, List.map_append, List.map_append, ← HLV.out]
                    rfl
                  subst he1 hel1
                  obtain ⟨g, rfl⟩ : ∃ g : Nat, f = g := ⟨f.toNat, by omega⟩
                  simp only [Int.toNat_natCast] at clv HLV HTK
                  have hg1 : g < k := by have := HLL.out; omega
                  have hgi : (g : Int) < (k : Int) := by omega
                  have hg0 : (0 : Int) ≤ (g : Int) := by omega
                  have hj0 : (0 : Int) ≤ (j : Int) := by omega
                  have hjl' : (j : Int) < (rl : Int) := by omega
                  clear hfj hlv he3 hel3 hf0 hfL
                  go_wp2_with (at_builtin; refine wpList_append_own_at _ rfl _ _ 27 rfl wk.heap.size 2 i0 (.int .i64 0) 1 8 Tryz.underlying27 hi0 hz0 hz1 hz2 rfl (by decide) _ j _ rfl (HOWNQ.out.alloc _) ⟨wr.heap.size, 0, none⟩ 1 1 [.int .i64 lv] rfl rfl (cell_one_at _ _ _ _ rfl) (by simp [Value.oneCell']) (by unfold maxLen; omega) (by omega) (by simp; omega) ?_)
                  intro v7 w7 hown7 hgrow7 _ _
                  have HOWN7 : Hid (w7.ownsRow wk.heap.size 2 1 v7 (j + 1) (((row.take (j + 1)).map (fun f => L.getD f.toNat 0)).map (.int .i64))) := by
                    show w7.ownsRow _ _ _ _ _ _
                    rw [HTK.out]
                    simpa using hown7
                  have HK7 : Hid (Kept [] wk w7) := Kept.grown (S := []) (HKQ.out.alloc _) hgrow7 (fun y hy => .inr (HOWNQ.out.lt y hy).1)
                  clear hown7 hgrow7
                  go_wp2_with fail
                  go_roundw
                  case rel => exact ⟨j + 1, by omega, by go_num, HOWN7.out, HK7.out⟩
                  case measure => simp [intOf]; omega
                · obtain rfl : rl = j := by omega
                  have HIN : Hid (wr.ownsRow wk.heap.size 2 1 (.slice QA rl qc) rl ((insV L row).map (.int .i64))) := by
                    show wr.ownsRow _ _ _ _ _ _
                    rw [insV_all L row HLOW.out]
                    have := HOWNQ.out
                    rwa [List.take_of_length_le (by rw [HRL.out]; omega)] at this
                  have HIR := Lib.hid (RdI.of_own (v := .slice QA rl qc) (xs := insV L row) HIN.out).1
                  clear HOWNQ hjl
                  obtain ⟨wg, rfl⟩ : ∃ wg, wg = wr := ⟨_, rfl⟩
                  obtain ⟨M, hM⟩ : ∃ M, insV L row = M := ⟨_, rfl⟩
                  have HNV0 : Hid (opN x r L k = prodV M) := by show _ = _; rw [opN_prod (by rw [HOA.out]; simp), HRA.out, hM]
                  rw [hM] at HIR
                  have hMl : M.length = rl := by rw [← hM, insV_all L row HLOW.out, List.length_map]; exact HRL.out
                  have HML := Lib.hid hMl
                  obtain ⟨gb, go', gc', n0, he, hn0, cn0⟩ := RdI.at HIR.out (i := 0) (by omega)
                  injection he with he1 hex he3
                  clear hex
                  subst he1
                  have HN0 : Hid (prodV M = prodGo n0 (M.drop 1)) := by show _ = _; rw [prodV, List.getD, hn0]; rfl
                  rw [Nat.add_zero] at cn0
                  have hrl2 : 0 < rl := by omega
                  have hrl3 : (0 : Int) < (rl : Int) := by omega
                  clear hM hMl hn0 he3
                  go_wp2_with fail
                  go_loopw [11, 12] (fun vn ii wq => ∃ (j : Nat) (n' : Int), 1 ≤ j ∧ j ≤ rl ∧ ii = .int .i64 j ∧ vn = .int .i64 n' ∧ prodGo n' (M.drop j) = prodV M ∧ Kept [] wg wq) (fun _ ii _ => rl - (intOf ii).toNat)
                  case atStart => exact ⟨1, n0, by omega, by omega, rfl, rfl, HN0.out.symm, Kept.refl _ _⟩
                  case round =>
                    obtain ⟨j, n', hj1, hj, rfl, rfl, hpr, hKp⟩ := hrel
                    have HPR := Lib.hid hpr
                    have HKP := Lib.hid hKp
                    clear hpr hKp
                    by_cases hjl : j < rl
                    · obtain ⟨fb, fo, fcc, f, he, hfj, cf⟩ := RdI.at (HIR.out.keep HKP.out) (i := j) (by rw [HML.out]; exact hjl)
                      injection he with he1 hex he3
                      clear hex
                      injection he1 with he1
                      injection he1 with he1 he1b
                      subst he1 he1b
                      obtain ⟨g3, hg3⟩ : ∃ g3, byV n' f = g3 := ⟨_, rfl⟩
                      have HBF := Lib.hid (rby_any n' f wr)
                      rw [hg3] at HBF
                      have HPN : Hid (prodGo g3 (M.drop (j + 1)) = prodV M) := by
                        show _ = _
                        rw [← hg3, ← prodGo_drop hfj]
                        exact HPR.out
                      have hj0 : (0 : Int) ≤ (j : Int) := by omega
                      have hjl' : (j : Int) < (rl : Int) := by omega
                      clear hfj hg3 he3
                      go_wp2_with fail
                      refine HBF.out.mono ?_
                      rintro e w6 ⟨rfl, hk6⟩
                      have HK6 := Lib.hid (HKP.out.trans hk6)
                      clear hk6
                      go_wp2_with fail
                      go_roundw
                      case rel => exact ⟨j + 1, g3, by omega, by omega, by go_num, rfl, HPN.out, HK6.out⟩
                      case measure => simp [intOf]; omega
                    · obtain rfl : rl = j := by omega
                      have HNV : Hid (opN x r L k = n') := by
                        show _ = _
                        rw [HNV0.out, ← HPR.out, List.drop_eq_nil_of_le (by rw [HML.out]; omega)]
                        rfl
                      have HKP2 := Lib.hid (HKQ.out.trans HKP.out)
                      clear hjl
                      obtain ⟨g2, hg2⟩ : ∃ g2, byV n' pk = g2 := ⟨_, rfl⟩
                      have HBY := Lib.hid (rby_any n' pk wr)
                      rw [hg2] at HBY
                      have HGN : Hid (outGo x r (np - (k + 1)) (L ++ [g2]) = R) := by
                        show _ = _
                        rw [← HGO.out, HST.out, outStep, HNV.out, HPK.out, hg2]
                      have s2 := HKP2.out.cell (by simp) HS2.out
                      have t1 := HKP2.out.cell (by simp) HT1.out
                      clear hg2
                      go_wp2_with fail
                      refine HBY.out.mono ?_
                      rintro e w8 ⟨rfl, hk8⟩
                      have HK8 := Lib.hid (HKP2.out.trans hk8)
                      have hs8 := HK8.out.size
                      clear hk8
                      have hown8 := ownsRow_keep HOWN.out HK8.out (by simp)
                      go_wp2_with (at_builtin; refine wpList_append_own_at _ rfl _ _ 27 rfl w1.heap.size 2 i0 (.int .i64 0) 1 8 Tryz.underlying27 hi0 hz0 hz1 hz2 rfl (by decide) _ k _ rfl (hown8.alloc _) ⟨w8.heap.size, 0, none⟩ 1 1 [.int .i64 g2] rfl rfl (cell_one_at _ _ _ _ rfl) (by simp [Value.oneCell']) (by unfold maxLen; omega) (by omega) (by simp; omega) ?_)
                      intro v9 w9 hown9 hgrow9 _ _
                      have HK9 : Hid (Kept [] w1 w9) := Kept.grown (S := []) ((HK.out.trans HK8.out).alloc _) hgrow9 (fun y hy => .inr (HOWN.out.lt y hy).1)
                      have HOWN9 := Lib.hid hown9
                      clear hown9 hgrow9 hown8
                      go_wp2_with fail
                      go_roundw
                      case rel => exact ⟨k + 1, L ++ [g2], by omega, by go_num, by rw [List.length_append, HLL.out]; rfl, HGN.out, by rw [List.map_append, List.length_append, HLL.out]; exact HOWN9.out, HK9.out⟩
                      case measure => simp [intOf]; omega
          · have h2' : (o0 == 2) = false := by rw [beq_eq_false_iff_ne]; omega
            have h3' : (o0 == 3) = false := by rw [beq_eq_false_iff_ne]; omega
            go_wp2_with fail
            go_loopw [9, 10] (fun v ii wq => ∃ j : Nat, j ≤ rl ∧ ii = .int .i64 j ∧ wq.ownsRow wk.heap.size 2 1 v j (((row.take j).map (fun f => L.getD f.toNat 0)).map (.int .i64)) ∧ Kept [] wk wq) (fun _ ii _ => rl - (intOf ii).toNat)
            case atStart => exact ⟨0, by omega, rfl, World.ownsRow_nil _ _ _ _, Kept.refl _ _⟩
            case round =>
              obtain ⟨j, hj, rfl, hownq, hKq⟩ := hrel
              obtain ⟨QA, qc, rfl⟩ := own_len hownq
              have HOWNQ := Lib.hid hownq
              have HKQ := Lib.hid hKq
              have hqs := hKq.size
              clear hownq hKq
              have cp := HKQ.out.cell (by simp) HCP0.out
              have cp1 := HKQ.out.cell (by simp) HCP1.out
              have cr := HKQ.out.cell (by simp) HCR.out
              have ce0 := HKQ.out.cell (by simp) HCE0.out
              by_cases hjl : j < rl
              · obtain ⟨rb, ro, rcc, f, he, hfj, cf⟩ := RdI.at (HROW.out.ints.keep HKQ.out) (i := j) (by rw [HRL.out]; exact hjl)
                injection he with he1 hex he3
                clear hex
                have hf0 := HLOW.out f (List.mem_of_getElem? hfj)
                have hfL := HBEL.out f (List.mem_of_getElem? hfj)
                obtain ⟨lb, lo, lcc, lv, hel, hlv, clv⟩ := RdI.at (HRO.out.keep HKQ.out) (i := f.toNat) (by omega)
                injection hel with hel1 helx hel3
                clear helx
                have HLV : Hid (L.getD f.toNat 0 = lv) := by show _ = _; rw [List.getD, hlv]; rfl
                have HTK : Hid (((row.take (j + 1)).map (fun f => L.getD f.toNat 0)).map (Value.int .i64) = ((row.take j).map (fun f => L.getD f.toNat 0)).map (.int .i64) ++ [.int .i64 lv]) := by
                  show _ = _
                  obtain ⟨q1, q2⟩ := List.getElem?_eq_some_iff.1 hfj
                  rw [List.take_succ_eq_append_getElem q1, q2, List.map_append, List.map_append, ← HLV.out]
                  rfl
                subst he1 hel1
                obtain ⟨g, rfl⟩ : ∃ g : Nat, f = g := ⟨f.toNat, by omega⟩
                simp only [Int.toNat_natCast] at clv HLV HTK
                have hg1 : g < k := by have := HLL.out; omega
                have hgi : (g : Int) < (k : Int) := by omega
                have hg0 : (0 : Int) ≤ (g : Int) := by omega
                have hj0 : (0 : Int) ≤ (j : Int) := by omega
                have hjl' : (j : Int) < (rl : Int) := by omega
                clear hfj hlv he3 hel3 hf0 hfL
                go_wp2_with (at_builtin; refine wpList_append_own_at _ rfl _ _ 27 rfl wk.heap.size 2 i0 (.int .i64 0) 1 8 Tryz.underlying27 hi0 hz0 hz1 hz2 rfl (by decide) _ j _ rfl (HOWNQ.out.alloc _) ⟨wr.heap.size, 0, none⟩ 1 1 [.int .i64 lv] rfl rfl (cell_one_at _ _ _ _ rfl) (by simp [Value.oneCell']) (by unfold maxLen; omega) (by omega) (by simp; omega) ?_)
                intro v7 w7 hown7 hgrow7 _ _
                have HOWN7 : Hid (w7.ownsRow wk.heap.size 2 1 v7 (j + 1) (((row.take (j + 1)).map (fun f => L.getD f.toNat 0)).map (.int .i64))) := by
                  show w7.ownsRow _ _ _ _ _ _
                  rw [HTK.out]
                  simpa using hown7
                have HK7 : Hid (Kept [] wk w7) := Kept.grown (S := []) (HKQ.out.alloc _) hgrow7 (fun y hy => .inr (HOWNQ.out.lt y hy).1)
                clear hown7 hgrow7
                go_wp2_with fail
                go_roundw
                case rel => exact ⟨j + 1, by omega, by go_num, HOWN7.out, HK7.out⟩
                case measure => simp [intOf]; omega
              · obtain rfl : rl = j := by omega
                have HIN : Hid (wr.ownsRow wk.heap.size 2 1 (.slice QA rl qc) rl ((insV L row).map (.int .i64))) := by
                  show wr.ownsRow _ _ _ _ _ _
                  rw [insV_all L row HLOW.out]
                  have := HOWNQ.out
                  rwa [List.take_of_length_le (by rw [HRL.out]; omega)] at this
                have HIR := Lib.hid (RdI.of_own (v := .slice QA rl qc) (xs := insV L row) HIN.out).1
                clear HOWNQ hjl
                obtain ⟨nv, hnv⟩ : ∃ nv, addV (insV L row) = nv := ⟨_, rfl⟩
                have HNV : Hid (opN x r L k = nv) := by show _ = _; rw [opN_sum (by rw [HOA.out]; exact h1) (by rw [HOA.out]; exact h23), HRA.out]; exact hnv
                have HADD := Lib.hid (radd_any _ (insV L row) wr HIR.out)
                rw [hnv] at HADD
                clear hnv
                go_wp2_with fail
                refine HADD.out.mono ?_
                rintro e w6 ⟨rfl, rfl⟩
                obtain ⟨g2, hg2⟩ : ∃ g2, byV nv pk = g2 := ⟨_, rfl⟩
                have HBY := Lib.hid (rby_any nv pk wr)
                rw [hg2] at HBY
                have HGN : Hid (outGo x r (np - (k + 1)) (L ++ [g2]) = R) := by
                  show _ = _
                  rw [← HGO.out, HST.out, outStep, HNV.out, HPK.out, hg2]
                have s2 := HKQ.out.cell (by simp) HS2.out
                have t1 := HKQ.out.cell (by simp) HT1.out
                clear hg2
                go_wp2_with fail
                refine HBY.out.mono ?_
                rintro e w8 ⟨rfl, hk8⟩
                have HK8 := Lib.hid (HKQ.out.trans hk8)
                have hs8 := HK8.out.size
                clear hk8
                have hown8 := ownsRow_keep HOWN.out HK8.out (by simp)
                go_wp2_with (at_builtin; refine wpList_append_own_at _ rfl _ _ 27 rfl w1.heap.size 2 i0 (.int .i64 0) 1 8 Tryz.underlying27 hi0 hz0 hz1 hz2 rfl (by decide) _ k _ rfl (hown8.alloc _) ⟨w8.heap.size, 0, none⟩ 1 1 [.int .i64 g2] rfl rfl (cell_one_at _ _ _ _ rfl) (by simp [Value.oneCell']) (by unfold maxLen; omega) (by omega) (by simp; omega) ?_)
                intro v9 w9 hown9 hgrow9 _ _
                have HK9 : Hid (Kept [] w1 w9) := Kept.grown (S := []) ((HK.out.trans HK8.out).alloc _) hgrow9 (fun y hy => .inr (HOWN.out.lt y hy).1)
                have HOWN9 := Lib.hid hown9
                clear hown9 hgrow9 hown8
                go_wp2_with fail
                go_roundw
                case rel => exact ⟨k + 1, L ++ [g2], by omega, by go_num, by rw [List.length_append, HLL.out]; rfl, HGN.out, by rw [List.map_append, List.length_append, HLL.out]; exact HOWN9.out, HK9.out⟩
                case measure => simp [intOf]; omega
      · obtain rfl : np = k := by omega
        have hLR : Hid (L = R) := by show _ = _; rw [← HGO.out, Nat.sub_self]; rfl
        have hbl := HK1.out.size
        have cp := (HB01.out.kept HK.out (by simp)).cell 0
        simp at cp
        clear hll
        go_wp2_with fail
        go_ret2
        refine ⟨_, rfl, ?_, HK1.out.trans HK.out⟩
        rw [← hLR.out, HLL.out]
        exact rowBase HOWN.out hbl
  · have hz' : (ec != 0) = true := by rw [bne_iff_ne]; exact hz
    go_wp2_with fail
    go_ret2
    have hR0 := HR.out
    rw [if_neg hz] at hR0
    subst hR0
    exact ⟨_, rfl, World.ownsRow_nil _ _ _ _, HK1.out⟩
end Go.Proofs.YtbaifjdealmckaaGreat
