/- How many come on the inputs of each operator: the program's Held. -/
import Derived.Test.YtiiiflckphgdiaaP15
set_option linter.unusedVariables false
set_option linter.unusedSimpArgs false
set_option linter.unnecessarySimpa false
namespace Go.Proofs.Ytiiiflckphgdiaa
open Go.RowKit Go.Shelf
attribute [local go_sem] Oper.semAt_some

theorem outGo_len (x : PlanD) (r : RatesD) : ∀ (m : Nat) (L : List Int), (outGo x r m L).length = L.length + m
  | 0, L => rfl
  | m + 1, L => by rw [outGo, outGo_len x r m]; simp; omega
theorem outV_len (x : PlanD) (r : RatesD) : (outV x r).length = x.1.length := by rw [outV, outGo_len]; simp
def heldAt (x : PlanD) (out : List Int) (k : Nat) : Int := addV (insV out (rowAt x k))
def heldV (x : PlanD) (r : RatesD) : List Int := (List.range x.1.length).map (heldAt x (outV x r))

set_option maxRecDepth 100000 in
set_option maxHeartbeats 2000000 in
theorem held_any (ov fv sv tv pv : Value) (x : PlanD) (r : RatesD) (w : World) (ho : Rds opR w ov x.1) (hf : Rds intsR w fv x.2) (hF : fromLen x.2 ≤ 1048576)
    (hs : RdI w .i64 sv r.1) (ht : RdI w .i64 tv r.2.1) (hp : RdI w .i64 pv r.2.2) :
    Calls Try.prog 16 #[.agg #[ov, fv], .agg #[sv, tv, pv]] w (OutsPost w (checkE x r) (if checkE x r = 0 then heldV x r else [])) := by
  obtain ⟨i0, hi0, hz0, hz1, hz2⟩ := info_parts info64
  have HOC := Lib.hid (fun (W : World) (hk : Kept [] w W) => out_any ov fv sv tv pv x r W (ho.keep hk) (hf.keep hk) hF (hs.keep hk) (ht.keep hk) (hp.keep hk))
  have HFR := Lib.hid hf
  have HLF : Hid (fromLen x.2 ≤ 1048576) := hF
  obtain ⟨A, c, rfl, hmA⟩ := ho.form
  obtain ⟨B, d, rfl, hmB⟩ := hf.form
  obtain ⟨SA, sc, rfl, hmS, -⟩ := hs
  obtain ⟨TA, tc, rfl, hmT, -⟩ := ht
  obtain ⟨PA, pc, rfl, hmP, -⟩ := hp
  obtain ⟨ec, hec⟩ : ∃ ec, checkE x r = ec := ⟨_, rfl⟩
  rw [hec] at HOC ⊢
  obtain ⟨R, hR⟩ : ∃ R, (if ec = 0 then heldV x r else []) = R := ⟨_, rfl⟩
  obtain ⟨O, hO⟩ : ∃ O, (if ec = 0 then outV x r else []) = O := ⟨_, rfl⟩
  rw [hR]
  rw [hO] at HOC
  have HR := Lib.hid hR
  have HO := Lib.hid hO
  clear hR hO
  obtain ⟨n, hn⟩ : ∃ n, x.1.length = n := ⟨_, rfl⟩
  obtain ⟨m, hm⟩ : ∃ m, x.2.length = m := ⟨_, rfl⟩
  obtain ⟨ns, hns⟩ : ∃ ns, r.1.length = ns := ⟨_, rfl⟩
  obtain ⟨nt, hnt⟩ : ∃ nt, r.2.1.length = nt := ⟨_, rfl⟩
  obtain ⟨np, hnp⟩ : ∃ np, r.2.2.length = np := ⟨_, rfl⟩
  rw [hn] at hmA HOC ⊢
  rw [hm] at hmB HFR HOC ⊢
  simp only [hns] at hmS HOC ⊢
  simp only [hnt] at hmT HOC ⊢
  simp only [hnp] at hmP HOC ⊢
  have HN := Lib.hid hn
  have HM := Lib.hid hm
  have HEC := Lib.hid hec
  clear hn hm hns hnt hnp hec hF ho hf
  have HK0 := Lib.hid (((Kept.refl [] w).alloc (.cells #[.slice A n c, .slice B m d] 30)).alloc (.cells #[.slice SA ns sc, .slice TA nt tc, .slice PA np pc] 32))
  have HB0 : Hid (Blk ((w.alloc (.cells #[.slice A n c, .slice B m d] 30)).alloc (.cells #[.slice SA ns sc, .slice TA nt tc, .slice PA np pc] 32)) w.heap.size #[.slice A n c, .slice B m d] 30) := (Blk.new w _ _).alloc _
  go_enter Try.func16, Try.ntmps16
  go_wp2_with fail
  refine (HOC.out _ HK0.out).mono ?_
  rintro e w1 ⟨lv, rfl, ho1, hk1⟩
  obtain ⟨LA, lc, rfl⟩ := own_len ho1
  have HRD := Lib.hid (RdI.of_own ho1).1
  have HK1 := Lib.hid (HK0.out.trans hk1)
  have HB1 := Lib.hid (HB0.out.kept hk1 (by simp))
  clear ho1 hk1 HOC
  by_cases hz : ec = 0
  · subst hz
    obtain ⟨hpv, hro⟩ := checkE_zero HEC.out
    obtain ⟨hn2, hn32, hmn, hpl⟩ := plan_place hpv
    have hol : O.length = x.1.length := by rw [← HO.out, if_pos rfl]; exact outV_len x r
    rw [HN.out] at hn2 hn32 hmn hpl hol
    rw [HM.out] at hmn
    subst hmn
    have HPL := Lib.hid hpl
    have HOL := Lib.hid hol
    have HRR : Hid (R = (List.range m).map (heldAt x O)) := by
      show _ = _
      rw [← HR.out, if_pos rfl, heldV, HN.out, ← HO.out, if_pos rfl]
    have c0 := HB1.out.cell 0
    have c1 := HB1.out.cell 1
    simp at c0 c1
    have hlt0 := HB1.out.lt
    clear hpv hro hpl hol HR
    go_wp2_with fail
    go_loopw [8, 22] (fun o ii wr => ∃ (k : Nat), k ≤ m ∧ ii = .int .i64 k ∧ wr.ownsRow w1.heap.size 2 1 o k (((List.range k).map (heldAt x O)).map (.int .i64)) ∧ Kept [] w1 wr) (fun _ ii _ => m - (intOf ii).toNat)
    case atStart => exact ⟨0, by omega, rfl, World.ownsRow_nil _ _ _ _, Kept.refl _ _⟩
    case round =>
      obtain ⟨k, hk, rfl, hown, hK⟩ := hrel
      obtain ⟨UA, uc, rfl⟩ := own_len hown
      have HOWN := Lib.hid hown
      have HK := Lib.hid hK
      clear hown hK
      by_cases hlt : k < m
      · obtain ⟨row, hrow⟩ : ∃ row, x.2[k]? = some row := ⟨_, List.getElem?_eq_getElem (by rw [HM.out]; exact hlt)⟩
        have hrl : row.length ≤ 1048576 := Nat.le_trans (row_fromLen hrow) HLF.out
        have hra := rowAt_of hrow
        have hin := (place_is (HPL.out k hlt)).below
        rw [hra] at hin
        have HIN : Hid (∀ W, Kept [] w1 W → Calls Try.prog 39 #[.agg #[.slice A m c, .slice B m d], .slice LA O.length lc, .int .i64 k] W (IntsPost W (insV O row))) := fun W hW =>
          ins_any _ _ _ x.2 O row k W (HFR.out.keep (HK1.out.trans hW)) (HRD.out.keep hW) hrow hrl (fun f hf => by have := hin f hf; have := HOL.out; omega)
        have HAT : Hid (heldAt x O k = addV (insV O row)) := by show _ = _; rw [heldAt, hra]
        have c0 := HK.out.cell (by simp) c0
        have c1 := HK.out.cell (by simp) c1
        have HBR := Lib.hid (HB1.out.kept HK.out (by simp))
        obtain ⟨a, ha⟩ : ∃ a, addV (insV O row) = a := ⟨_, rfl⟩
        have HSUM : Hid (∀ v W, RdI W .i64 v (insV O row) → Calls Try.prog 37 #[v] W fun e w' => e = .returned (.int .i64 a) ∧ W = w') := fun v W hv => by
          have := sum_any v _ W hv
          rwa [ha] at this
        rw [ha] at HAT
        clear hrow hra hin ha
        go_wp2_with fail
        refine (HIN.out _ HK.out).mono ?_
        rintro e w5 ⟨v5, rfl, o5, k5⟩
        have HR5 := Lib.hid (RdI.of_own o5).1
        have HK5 := Lib.hid k5
        have hs5 := k5.size
        clear o5 k5
        go_wp2_with fail
        refine (HSUM.out _ _ HR5.out).mono ?_
        rintro e w6 ⟨rfl, rfl⟩
        have hown5 := ownsRow_keep HOWN.out HK5.out (by simp)
        have hs1 := HK.out.size
        go_wp2_with (at_builtin; refine wpList_append_own_at _ rfl _ _ 22 rfl w1.heap.size 2 i0 (.int .i64 0) 1 8 Try.underlying22 hi0 hz0 hz1 hz2 rfl (by decide) _ k _ rfl (hown5.alloc _) ⟨w5.heap.size, 0, none⟩ 1 1 [.int .i64 a] rfl rfl (cell_one_at _ _ _ _ rfl) (by simp [Value.oneCell']) (by unfold maxLen; omega) (by omega) (by simp; omega) ?_)
        intro v7 w7 hown7 hgrow7 _ _
        have HOWN7 : Hid (w7.ownsRow w1.heap.size 2 1 v7 (k + 1) (((List.range (k + 1)).map (heldAt x O)).map (.int .i64))) := by
          show w7.ownsRow _ _ _ _ _ _
          rw [List.range_succ, List.map_append, List.map_append]
          simpa [HAT.out] using hown7
        have HK7 : Hid (Kept [] w1 w7) := Kept.grown (S := []) ((HK.out.trans HK5.out).alloc _) hgrow7 (fun y hy => .inr (HOWN.out.lt y hy).1)
        clear hown7 hgrow7 hown5
        go_wp2_with fail
        go_roundw
        case rel => exact ⟨k + 1, by omega, by go_num, HOWN7.out, HK7.out⟩
        case measure => simp [intOf]; omega
      · have hkn : k = m := by omega
        subst hkn
        have hbl := HK1.out.size
        go_wp2_with fail
        go_ret2
        refine ⟨_, rfl, ?_, HK1.out.trans HK.out⟩
        rw [HRR.out, List.length_map, List.length_range]
        exact rowBase HOWN.out hbl
  · have hz' : (ec != 0) = true := by rw [bne_iff_ne]; exact hz
    go_wp2_with fail
    go_ret2
    have hR0 := HR.out
    rw [if_neg hz] at hR0
    subst hR0
    exact ⟨_, rfl, World.ownsRow_nil _ _ _ _, HK1.out⟩
end Go.Proofs.Ytiiiflckphgdiaa
