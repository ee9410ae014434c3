/- How many come on the inputs of each operator: the document's Held. -/
import Derived.Test.YtiiiflckphgdiaaP32
set_option linter.unusedVariables false
set_option linter.unusedSimpArgs false
set_option linter.unnecessarySimpa false
namespace Go.Proofs.Ytiiiflckphgdiaa
open Go.RowKit Go.Shelf
attribute [local go_sem] Oper.semAt_some

theorem insV_term (out : List Int) : ∀ (l : List Int), (∀ f ∈ l, f = -1) → insV out l = []
  | [], _ => rfl
  | f :: l, h => by
    unfold insV
    rw [if_neg (by have := h f (by simp); omega)]
    exact insV_term out l (fun g hg => h g (by simp [hg]))


set_option maxRecDepth 100000 in
set_option maxHeartbeats 4000000 in
theorem rheld_any (ov fv sv tv pv : Value) (x : PlanD) (r : RatesD) (w : World) (ho : Rds opR w ov x.1) (hf : Rds intsR w fv x.2) (hF : fromLen x.2 ≤ 1048576)
    (hs : RdI w .i64 sv r.1) (ht : RdI w .i64 tv r.2.1) (hp : RdI w .i64 pv r.2.2) :
    Calls Try.prog 17 #[.agg #[ov, fv], .agg #[sv, tv, pv]] w (OutsPost w (checkE x r) (if checkE x r = 0 then heldV x r else [])) := by
  have HO := Lib.hid ho
  obtain ⟨i0, hi0, hz0, hz1, hz2⟩ := info_parts info64
  have HOC := Lib.hid (fun (W : World) (hk : Kept [] w W) => rout_any ov fv sv tv pv x r W (ho.keep hk) (hf.keep hk) hF (hs.keep hk) (ht.keep hk) (hp.keep hk))
  have HFR := Lib.hid hf
  have HLF : Hid (fromLen x.2 ≤ 1048576) := hF
  obtain ⟨A, c, rfl, hmA⟩ := ho.form
  obtain ⟨B, d, rfl, hmB⟩ := hf.form
  obtain ⟨SA, sc, rfl, hmS, -⟩ := hs
  obtain ⟨TA, tc, rfl, hmT, -⟩ := ht
  obtain ⟨PA, pc, rfl, hmP, -⟩ := hp
  obtain ⟨ec, hec⟩ : ∃ ec, checkE x r = ec := ⟨_, rfl⟩
  rw [hec] at HOC ⊢
  obtain ⟨R, hR⟩ : ∃ R, (if ec = 0 then heldV x r else []) = R := ⟨_, rfl⟩
  obtain ⟨L, hL0⟩ : ∃ L, (if ec = 0 then outV x r else []) = L := ⟨_, rfl⟩
  rw [hR]
  rw [hL0] at HOC
  have HR := Lib.hid hR
  have HL0 := Lib.hid hL0
  clear hR hL0
  obtain ⟨n, hn⟩ : ∃ n, x.1.length = n := ⟨_, rfl⟩
  obtain ⟨m, hm⟩ : ∃ m, x.2.length = m := ⟨_, rfl⟩
  obtain ⟨ns, hns⟩ : ∃ ns, r.1.length = ns := ⟨_, rfl⟩
  obtain ⟨nt, hnt⟩ : ∃ nt, r.2.1.length = nt := ⟨_, rfl⟩
  obtain ⟨np, hnp⟩ : ∃ np, r.2.2.length = np := ⟨_, rfl⟩
  rw [hn] at hmA HOC ⊢
  rw [hm] at hmB HFR HOC ⊢
  simp only [hns] at hmS HOC ⊢
  simp only [hnt] at hmT HOC ⊢
  simp only [hnp] at hmP HOC ⊢
  have HN := Lib.hid hn
  have HM := Lib.hid hm
  have HEC := Lib.hid hec
  clear hn hm hns hnt hnp hec hF ho hf
  have HK0 := Lib.hid (((Kept.refl [] w).alloc (.cells #[.slice A n c, .slice B m d] 30)).alloc (.cells #[.slice SA ns sc, .slice TA nt tc, .slice PA np pc] 32))
  have HB0 : Hid (Blk ((w.alloc (.cells #[.slice A n c, .slice B m d] 30)).alloc (.cells #[.slice SA ns sc, .slice TA nt tc, .slice PA np pc] 32)) w.heap.size #[.slice A n c, .slice B m d] 30) := (Blk.new w _ _).alloc _
  go_enter Try.func17, Try.ntmps17
  go_wp2_with fail
  refine (HOC.out _ HK0.out).mono ?_
  rintro e w1 ⟨lv, rfl, ho1, hk1⟩
  obtain ⟨LA, lc, rfl⟩ := own_len ho1
  have HRD := Lib.hid (RdI.of_own ho1).1
  have HK1 := Lib.hid (HK0.out.trans hk1)
  have HB01 := Lib.hid (HB0.out.kept hk1 (by simp))
  clear ho1 hk1 HOC
  by_cases hz : ec = 0
  · subst hz
    obtain ⟨hpv, hro⟩ := checkE_zero HEC.out
    obtain ⟨hn2, hn32, hmn, hpl⟩ := plan_place hpv
    have hol : L.length = x.1.length := by rw [← HL0.out]; simp; exact outV_len x r
    rw [HN.out] at hn2 hn32 hmn hpl hol
    rw [HM.out] at hmn
    subst hmn
    have HPL := Lib.hid hpl
    have HRR : Hid (R = (List.range m).map (heldAt x L)) := by
      show _ = _
      rw [← HR.out]
      simp
      rw [heldV, HN.out, ← HL0.out]
      simp
    rw [hol] at HRD ⊢
    have HLL := Lib.hid hol
    have c0 := HB01.out.cell 0
    simp at c0
    clear hpv hro hpl hol HR
    go_wp2_with fail
    go_loopw [8, 9] (fun o ii wr => ∃ (k : Nat), k ≤ m ∧ ii = .int .i64 k ∧ wr.ownsRow w1.heap.size 2 1 o k (((List.range k).map (heldAt x L)).map (.int .i64)) ∧ Kept [] w1 wr) (fun _ ii _ => m - (intOf ii).toNat)
    case atStart => exact ⟨0, by omega, rfl, World.ownsRow_nil _ _ _ _, Kept.refl _ _⟩
    case round =>
      obtain ⟨k, hk, rfl, hown, hK⟩ := hrel
      obtain ⟨wk, rfl⟩ : ∃ wk, wk = wr := ⟨_, rfl⟩
      obtain ⟨UA, uc, rfl⟩ := own_len hown
      have HOWN := Lib.hid hown
      have HK := Lib.hid hK
      have hsz2 := hK.size
      have HRO : Hid (RdI wk .i64 (.slice LA m lc) L) := HRD.out.keep hK
      clear hown hK
      by_cases hlt : k < m
      · have HPI := Lib.hid (place_is (HPL.out k hlt))
        obtain ⟨b, off, c', o, cs', he, hx, hE, hc⟩ := (Rds.keep HO.out (HK1.out.trans HK.out)).at (k := k) (by rw [HN.out]; exact hlt)
        rw [HN.out] at he
        injection he with he1 he2 he3
        subst he1 he3
        obtain ⟨tv, cv, rfl, _, _, _, _⟩ := opR_cells hE
        obtain ⟨o0, o1, o2, o3, o4, o5, o6⟩ := o
        have e0 := hc 0 (by decide)
        simp [opCells, show opR.sz = 7 from rfl] at e0
        have HOA : Hid ((opAt x k).1 = o0) := by show _ = _; rw [opAt_of hx]
        obtain ⟨b2, off2, c2, row, cs2, he, hy, hE2, hc2⟩ := (Rds.keep HFR.out (HK1.out.trans HK.out)).at (k := k) (by rw [HM.out]; exact hlt)
        rw [HM.out] at he
        injection he with he1 he2' he3
        subst he1 he3
        obtain ⟨rv, rfl, hrow⟩ := intsR_cells hE2
        have r00 := hc2 0 (by decide)
        simp only [show intsR.sz = 1 from rfl, Nat.mul_one, Nat.add_zero, List.getElem?_cons_zero] at r00
        obtain ⟨RA, rc, rfl, hrm⟩ := hrow.form
        have HRA : Hid (rowAt x k = row) := rowAt_of hy
        obtain ⟨rl, hrl⟩ : ∃ rl, row.length = rl := ⟨_, rfl⟩
        rw [hrl] at r00 hrow hrm
        have HROW := Lib.hid hrow
        have HRL := Lib.hid hrl
        have hrl20 : rl ≤ 1048576 := by
          have := Nat.le_trans (row_fromLen hy) HLF.out
          rw [hrl] at this
          exact this
        have HCR := Lib.hid r00
        have HCE0 := Lib.hid e0
        have HCP0 := Lib.hid (((HB01.out.kept HK.out (by simp)).cell 0).trans rfl)
        have HCP1 := Lib.hid (((HB01.out.kept HK.out (by simp)).cell 1).trans rfl)
        have HBEL : Hid (∀ f ∈ row, f < (L.length : Int)) := fun f hf => by
          have := HPI.out.below f (by rw [HRA.out]; exact hf)
          have := HLL.out
          omega
        have hr1 : 1 ≤ rl := by have := HPI.out.one; rw [HRA.out, HRL.out] at this; exact this
        have hk0 : (0 : Int) ≤ (k : Int) := by omega
        have hkn : (k : Int) < (m : Int) := by omega
        have HLOW0 : Hid (o0 ≠ 1 → ∀ f ∈ row, 0 ≤ f) := fun h => by have := HPI.out.low (by rw [HOA.out]; exact h); rwa [HRA.out] at this
        have HTERM : Hid (o0 = 1 → insV L row = []) := fun h => by have := HPI.out.term (by rw [HOA.out]; exact h); rw [HRA.out] at this; exact insV_term L row this
        obtain ⟨a, ha⟩ : ∃ a, addV (insV L row) = a := ⟨_, rfl⟩
        have HAV := Lib.hid ha
        have HAT : Hid (heldAt x L k = a) := by show _ = _; rw [heldAt, HRA.out]; exact ha
        clear hx hE hc he2 hy hE2 hc2 hrow r00 hrl e0 he2' ha
        have cp := HCP0.out
        have cp1 := HCP1.out
        have cr := HCR.out
        have ce0 := HCE0.out
        by_cases h1 : o0 = 1
        · subst h1
          have hri : (0 : Int) < (rl : Int) := by omega
          have HA0 : Hid (addV [] = a) := by show _ = _; rw [← HAV.out, HTERM.out rfl]
          obtain ⟨wr, rfl⟩ : ∃ wr, wr = wk := ⟨_, rfl⟩
          have HKQ := Lib.hid (Kept.refl [] wr)
          have HADD := Lib.hid (radd_any (.slice none 0 0) [] wr ⟨none, 0, rfl, Nat.zero_le _, fun h => absurd rfl h⟩)
          rw [HA0.out] at HADD
          go_wp2_with fail
          refine wp_loop_rounds 1 ?_
          rw [rounds_succ]
          go_wp2_with fail
          refine HADD.out.mono ?_
          rintro e w6 ⟨rfl, rfl⟩
          have hown8 := ownsRow_keep HOWN.out HKQ.out (by simp)
          go_wp2_with (at_builtin; refine wpList_append_own_at _ rfl _ _ 22 rfl w1.heap.size 2 i0 (.int .i64 0) 1 8 Try.underlying22 hi0 hz0 hz1 hz2 rfl (by decide) _ k _ rfl (hown8.alloc _) ⟨wr.heap.size, 0, none⟩ 1 1 [.int .i64 a] rfl rfl (cell_one_at _ _ _ _ rfl) (by simp [Value.oneCell']) (by unfold maxLen; omega) (by omega) (by have := HKQ.out.size; simp; omega) ?_)
          intro v9 w9 hown9 hgrow9 _ _
          have HK9 : Hid (Kept [] w1 w9) := Kept.grown (S := []) ((HK.out.trans HKQ.out).alloc _) hgrow9 (fun y hy => .inr (HOWN.out.lt y hy).1)
          have HOWN9 : Hid (w9.ownsRow w1.heap.size 2 1 v9 (k + 1) (((List.range (k + 1)).map (heldAt x L)).map (.int .i64))) := by
            show w9.ownsRow _ _ _ _ _ _
            rw [List.range_succ, List.map_append, List.map_append]
            simpa [HAT.out] using hown9
          clear hown9 hgrow9 hown8
          go_wp2_with fail
          go_roundw
          case rel => exact ⟨k + 1, by omega, by go_num, HOWN9.out, HK9.out⟩
          case measure => simp [intOf]; omega
        · have h1' : (o0 != 1) = true := by rw [bne_iff_ne]; exact h1
          have HLOW := Lib.hid (HLOW0.out h1)
          clear HLOW0
          go_wp2_with fail
          go_loopw [10, 11] (fun v ii wq => ∃ j : Nat, j ≤ rl ∧ ii = .int .i64 j ∧ wq.ownsRow wk.heap.size 2 1 v j (((row.take j).map (fun f => L.getD f.toNat 0)).map (.int .i64)) ∧ Kept [] wk wq) (fun _ ii _ => rl - (intOf ii).toNat)
          case atStart => exact ⟨0, by omega, rfl, World.ownsRow_nil _ _ _ _, Kept.refl _ _⟩
          case round =>
            obtain ⟨j, hj, rfl, hownq, hKq⟩ := hrel
            obtain ⟨QA, qc, rfl⟩ := own_len hownq
            have HOWNQ := Lib.hid hownq
            have HKQ := Lib.hid hKq
            have hqs := hKq.size
            clear hownq hKq
            have cp := HKQ.out.cell (by simp) HCP0.out
            have cp1 := HKQ.out.cell (by simp) HCP1.out
            have cr := HKQ.out.cell (by simp) HCR.out
            have ce0 := HKQ.out.cell (by simp) HCE0.out
            by_cases hjl : j < rl
            · obtain ⟨rb, ro, rcc, f, he, hfj, cf⟩ := RdI.at (HROW.out.ints.keep HKQ.out) (i := j) (by rw [HRL.out]; exact hjl)
              injection he with he1 hex he3
              clear hex
              have hf0 := HLOW.out f (List.mem_of_getElem? hfj)
              have hfL := HBEL.out f (List.mem_of_getElem? hfj)
              obtain ⟨lb, lo, lcc, lv, hel, hlv, clv⟩ := RdI.at (HRO.out.keep HKQ.out) (i := f.toNat) (by omega)
              injection hel with hel1 helx hel3
              clear helx
              have HLV : Hid (L.getD f.toNat 0 = lv) := by show _ = _; rw [List.getD, hlv]; rfl
              have HTK : Hid (((row.take (j + 1)).map (fun f => L.getD f.toNat 0)).map (Value.int .i64) = ((row.take j).map (fun f => L.getD f.toNat 0)).map (.int .i64) ++ [.int .i64 lv]) := by
                show _ = _
                obtain ⟨q1, q2⟩ := List.getElem?_eq_some_iff.1 hfj
                rw [List.take_succ_eq_append_getElem q1, q2, List.map_append, List.map_append, ← HLV.out]
                rfl
              subst he1 hel1
              obtain ⟨g, rfl⟩ : ∃ g : Nat, f = g := ⟨f.toNat, by omega⟩
              simp only [Int.toNat_natCast] at clv HLV HTK
              have hg1 : g < m := by have := HLL.out; omega
              have hgi : (g : Int) < (m : Int) := by omega
              have hg0 : (0 : Int) ≤ (g : Int) := by omega
              have hj0 : (0 : Int) ≤ (j : Int) := by omega
              have hjl' : (j : Int) < (rl : Int) := by omega
              clear hfj hlv he3 hel3 hf0 hfL
              go_wp2_with (at_builtin; refine wpList_append_own_at _ rfl _ _ 22 rfl wk.heap.size 2 i0 (.int .i64 0) 1 8 Try.underlying22 hi0 hz0 hz1 hz2 rfl (by decide) _ j _ rfl (HOWNQ.out.alloc _) ⟨wr.heap.size, 0, none⟩ 1 1 [.int .i64 lv] rfl rfl (cell_one_at _ _ _ _ rfl) (by simp [Value.oneCell']) (by unfold maxLen; omega) (by omega) (by simp; omega) ?_)
              intro v7 w7 hown7 hgrow7 _ _
              have HOWN7 : Hid (w7.ownsRow wk.heap.size 2 1 v7 (j + 1) (((row.take (j + 1)).map (fun f => L.getD f.toNat 0)).map (.int .i64))) := by
                show w7.ownsRow _ _ _ _ _ _
                rw [HTK.out]
                simpa using hown7
              have HK7 : Hid (Kept [] wk w7) := Kept.grown (S := []) (HKQ.out.alloc _) hgrow7 (fun y hy => .inr (HOWNQ.out.lt y hy).1)
              clear hown7 hgrow7
              go_wp2_with fail
              go_roundw
              case rel => exact ⟨j + 1, by omega, by go_num, HOWN7.out, HK7.out⟩
              case measure => simp [intOf]; omega
            · obtain rfl : rl = j := by omega
              have HIN : Hid (wr.ownsRow wk.heap.size 2 1 (.slice QA rl qc) rl ((insV L row).map (.int .i64))) := by
                show wr.ownsRow _ _ _ _ _ _
                rw [insV_all L row HLOW.out]
                have := HOWNQ.out
                rwa [List.take_of_length_le (by rw [HRL.out]; omega)] at this
              have HIR := Lib.hid (RdI.of_own (v := .slice QA rl qc) (xs := insV L row) HIN.out).1
              clear HOWNQ hjl
              have HADD := Lib.hid (radd_any _ (insV L row) wr HIR.out)
              rw [HAV.out] at HADD
              go_wp2_with fail
              refine HADD.out.mono ?_
              rintro e w6 ⟨rfl, rfl⟩
              have hown8 := ownsRow_keep HOWN.out HKQ.out (by simp)
              go_wp2_with (at_builtin; refine wpList_append_own_at _ rfl _ _ 22 rfl w1.heap.size 2 i0 (.int .i64 0) 1 8 Try.underlying22 hi0 hz0 hz1 hz2 rfl (by decide) _ k _ rfl (hown8.alloc _) ⟨wr.heap.size, 0, none⟩ 1 1 [.int .i64 a] rfl rfl (cell_one_at _ _ _ _ rfl) (by simp [Value.oneCell']) (by unfold maxLen; omega) (by omega) (by have := HKQ.out.size; simp; omega) ?_)
              intro v9 w9 hown9 hgrow9 _ _
              have HK9 : Hid (Kept [] w1 w9) := Kept.grown (S := []) ((HK.out.trans HKQ.out).alloc _) hgrow9 (fun y hy => .inr (HOWN.out.lt y hy).1)
              have HOWN9 : Hid (w9.ownsRow w1.heap.size 2 1 v9 (k + 1) (((List.range (k + 1)).map (heldAt x L)).map (.int .i64))) := by
                show w9.ownsRow _ _ _ _ _ _
                rw [List.range_succ, List.map_append, List.map_append]
                simpa [HAT.out] using hown9
              clear hown9 hgrow9 hown8
              go_wp2_with fail
              go_roundw
              case rel => exact ⟨k + 1, by omega, by go_num, HOWN9.out, HK9.out⟩
              case measure => simp [intOf]; omega
      · obtain rfl : m = k := by omega
        have hbl := HK1.out.size
        have cp := (HB01.out.kept HK.out (by simp)).cell 0
        simp at cp
        go_wp2_with fail
        go_ret2
        refine ⟨_, rfl, ?_, HK1.out.trans HK.out⟩
        rw [HRR.out, List.length_map, List.length_range]
        exact rowBase HOWN.out hbl
  · have hz' : (ec != 0) = true := by rw [bne_iff_ne]; exact hz
    go_wp2_with fail
    go_ret2
    have hR0 := HR.out
    rw [if_neg hz] at hR0
    subst hR0
    exact ⟨_, rfl, World.ownsRow_nil _ _ _ _, HK1.out⟩
end Go.Proofs.Ytiiiflckphgdiaa
