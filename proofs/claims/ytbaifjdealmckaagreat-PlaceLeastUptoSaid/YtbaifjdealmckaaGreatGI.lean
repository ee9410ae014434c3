/- Passes: the document's Improve. -/
import Derived.Test.YtbaifjdealmckaaGreatGH
set_option linter.unusedVariables false
set_option linter.unusedSimpArgs false
set_option linter.unnecessarySimpa false
namespace Go.Proofs.YtbaifjdealmckaaGreat
open Go.RowKit Go.Shelf Tr
attribute [local go_sem] Oper.semAt_some

set_option maxRecDepth 100000 in
set_option maxHeartbeats 4000000 in
theorem rimprove_any (rb : Nat) (tvv : Value) (P : List Int) (ov fv sv tv pv av zv : Value) (x : PlanD) (r : RatesD) (A S : List Int) (w : World) (hR : RT w rb tvv P) (hTr : Tree P) (hpr : Pr w ov fv sv tv pv x r)
    (har : Rds (Rk.int .i64) w av A) (hzr : Rds (Rk.int .i64) w zv S) :
    Calls Tryz.prog 11 #[.pointer (some ⟨rb, 0, none⟩), .agg #[ov, fv], .agg #[sv, tv, pv], av, zv] w (ImpPost w (lookE P x r A S 0) (impV P x r S A)) := by
  obtain ⟨i0, hi0, hz0, hz1, hz2⟩ := info_parts infoInt
  have HC := Lib.hid (fun (W : World) (hk : Kept [] w W) => rleast_any rb tvv P ov fv sv tv pv av zv x r A S 0 W (hR.keep hk) hTr (hpr.keep hk) (har.keep hk).ints (hzr.keep hk).ints)
  have HLT : Hid (∀ (L : List Int) (v : Value) (k : Nat) (W : World), Kept [] w W → Good P x r S L → RdI W .i64 v L → k < x.1.length → Calls Tryz.prog 8 #[.pointer (some ⟨rb, 0, none⟩), .agg #[ov, fv], .agg #[sv, tv, pv], v, .int .i64 k, zv] W fun e w' => e = .returned (.tuple #[.int .i64 (lsV P x r S L k), .int .i64 0]) ∧ Kept [] W w') := fun L v k W hk hG hv hkn => by
    have := rleast_any rb tvv P ov fv sv tv pv v zv x r L S k W (hR.keep hk) hTr (hpr.keep hk) hv (hzr.keep hk).ints
    have e := hG.look (show (0 : Int) ≤ (k : Int) by omega) (by omega)
    unfold leastV at this
    rwa [e, if_pos rfl, Int.toNat_natCast] at this
  have HPT := Lib.hid (fun (L : List Int) (v : Value) (k : Nat) (h : Int) (W : World) (hk : Kept [] w W) (hv : RdI W .i64 v L) => rpart19_any rb tvv P ov fv sv tv pv v zv x r L S k h W (hR.keep hk) hTr (hpr.keep hk) hv (hzr.keep hk).ints)
  have HGD : Hid (lookE P x r A S 0 = 0 → Good P x r S A ∧ A.length = x.1.length ∧ 2 ≤ x.1.length ∧ x.1.length ≤ 32) := fun h => by
    have g := (lookE_zero h).1
    exact ⟨g, g.facts.2.2.1, g.facts.1, g.facts.2.1⟩
  have HGJ : Hid (Good P x r S A → ∀ j, j ≤ x.1.length → Good P x r S (impG P x r S A j).1 ∧ (impG P x r S A j).2 ≤ j) := fun h j hj => ⟨impG_good hTr h j hj, impG_moved j⟩
  have HWF : Hid (∀ L, Good P x r S L → ∀ y ∈ L, (Lit.int .i64 y).wf = true) := fun L h => h.wf hTr
  have HAT : Hid (∀ L, Good P x r S L → ∀ k, k < x.1.length → ∃ a, L[k]? = some a ∧ L.getD k 0 = a ∧ inB P.length a) := fun L h k hk => h.in_at hk
  have HLN : Hid (∀ L, Good P x r S L → L.length = x.1.length) := fun L h => h.facts.2.2.1
  have HAI := Lib.hid har.ints
  obtain ⟨AA, ac, rfl, hmAA⟩ := har.form
  obtain ⟨q0, hq0⟩ : ∃ q, impV P x r S A = q := ⟨_, rfl⟩
  rw [hq0]
  unfold impV at hq0
  obtain ⟨E, hEE⟩ : ∃ E, lookE P x r A S 0 = E := ⟨_, rfl⟩
  rw [hEE] at HC HGD hq0 ⊢
  obtain ⟨V0, hV0⟩ : ∃ V, leastV P x r A S 0 = V := ⟨_, rfl⟩
  rw [hV0] at HC
  obtain ⟨n, hn⟩ : ∃ n, x.1.length = n := ⟨_, rfl⟩
  obtain ⟨la, hla⟩ : ∃ la, A.length = la := ⟨_, rfl⟩
  rw [hn] at HLT HGD HGJ HAT HLN hq0
  rw [hla] at HC HGD HAI hmAA ⊢
  have HQ := Lib.hid hq0.symm
  have HLA := Lib.hid hla
  clear hn hla hEE hq0 hV0 har hzr hR hTr
  have HK0 := Lib.hid (((Kept.refl [] w).alloc (.cells #[ov, fv] 26)).alloc (.cells #[sv, tv, pv] 29))
  have HBX := Lib.hid (Bx.new w ov fv sv tv pv)
  clear hpr
  go_enter Tryz.func11, Tryz.ntmps11
  go_wp2_with fail
  obtain ⟨w0, hw0⟩ : ∃ w0, (w.alloc (.cells #[ov, fv] 26)).alloc (.cells #[sv, tv, pv] 29) = w0 := ⟨_, rfl⟩
  rw [hw0] at HK0 HBX ⊢
  clear hw0
  obtain ⟨x0, x1, r0, r1, r2⟩ := HBX.out.cs
  refine (HC.out _ HK0.out).mono ?_
  rintro e w1 ⟨rfl, k1⟩
  have HK1 := Lib.hid k1
  clear k1 x0 x1 r0 r1 r2
  by_cases h1 : E = 0
  · subst h1
    rw [if_pos rfl] at HQ
    obtain ⟨hG0, hla, hn2, hn32⟩ := HGD.out rfl
    subst hla
    have HG0 := Lib.hid hG0
    clear hG0
    obtain ⟨ba, oa, rfl, -⟩ := last_at HAI.out HLA.out (by omega)
    have HCA : Hid (∀ j u, (A.map (Value.int .i64))[j]? = some u → w1.cell? ((⟨ba, oa, none⟩ : Addr).add j) = some u) := fun j u hu => by
      rw [List.getElem?_map, Option.map_eq_some_iff] at hu
      obtain ⟨y, hy, rfl⟩ := hu
      have ha : (⟨ba, oa, none⟩ : Addr).add j = ⟨ba, oa + j, none⟩ := by unfold Addr.add; split <;> simp_all
      rw [ha]
      exact (HK0.out.trans HK1.out).cell (by simp) (RdI.cell HAI.out j y hy)
    have hs01 := HK1.out.size
    have hbl := HBX.out.lt
    go_wp2_with (at_builtin; refine wpList_append_own_at _ rfl _ _ 22 rfl w1.heap.size 3 i0 (.int .i64 0) 1 8 Tryz.underlying22 hi0 hz0 hz1 hz2 rfl (by decide) (.slice none 0 0) 0 [] rfl (World.ownsRow_nil _ _ _ _) ⟨ba, oa, none⟩ la ac (A.map (.int .i64)) rfl (by rw [List.length_map, HLA.out] <;> omega) (fun j u hu => HCA.out j u hu) (by intro u hu; obtain ⟨z, _, rfl⟩ := List.mem_map.1 hu; rfl) (by unfold maxLen; omega) (by omega) (by simp) ?_)
    intro v3 w3 o3 hgrow3 _ hat3
    have k3 : Kept [] w1 w3 := (Kept.refl [] w1).grown hgrow3 (fun y hy => by simp [Value.ownBlock] at hy)
    obtain ⟨g7, c7, rfl, hc71, hc72⟩ := own_some o3 (by omega)
    have HO3 := Lib.hid o3
    have HK13 := Lib.hid (HK1.out.trans k3)
    have hg3 := (o3.lt g7 (by simp [Value.ownBlock])).1
    clear o3 k3 hgrow3 hat3
    go_wp2_with fail
    go_loopw [16, 17] (fun mv ii wr => ∃ (j : Nat), j ≤ la ∧ ii = .int .i64 j ∧ mv = .int .i64 ((impG P x r S A j).2 : Nat) ∧ wr.ownsRow w1.heap.size 3 1 (.slice (some ⟨g7, 0, none⟩) la c7) la ((impG P x r S A j).1.map (.int .i64)) ∧ Kept [g7] w3 wr) (fun _ ii _ => la - (intOf ii).toNat)
    case atStart => exact ⟨0, by omega, rfl, rfl, HO3.out, Kept.refl _ _⟩
    case round =>
      obtain ⟨j, hj, rfl, rfl, hown, hK⟩ := hrel
      have HK := Lib.hid hK
      obtain ⟨hGj, hmj⟩ := HGJ.out HG0.out j hj
      have HX : Hid (j < la → impG P x r S A (j + 1) = stepI P x r S (impG P x r S A j) j) := fun _ => rfl
      have HQJ : Hid (j = la → q0 = impG P x r S A j) := fun h => by rw [h]; exact HQ.out
      obtain ⟨q, hq⟩ : ∃ q, impG P x r S A j = q := ⟨_, rfl⟩
      rw [hq] at hown hGj hmj HX HQJ
      rw [hq]
      obtain ⟨L, m⟩ := q
      dsimp only at hown hGj hmj ⊢
      have HOWN := Lib.hid hown
      have HGL := Lib.hid hGj
      have HRD := Lib.hid (rds_own hown (HLN.out L hGj).symm (HWF.out L hGj))
      have hszr := hK.size
      have HKw : Hid (Kept [] w wr) := Kept.after (HK0.out.trans HK13.out) HK.out (fun y hy => by rw [List.mem_singleton.1 hy]; have := HK0.out.size; omega)
      have HBR : Hid (Bx wr w.heap.size ov fv sv tv pv) := (HBX.out.keep HK13.out).kept HK.out (by simp; omega) (by simp; omega)
      clear hown hK hq hGj
      by_cases hlt : j < la
      · obtain ⟨a, ha1, ha2, ha3⟩ := HAT.out L HGL.out j hlt
        have HSX := Lib.hid (HX.out hlt)
        unfold stepI at HSX
        dsimp only at HSX
        rw [ha2] at HSX
        have HC1 := Lib.hid (fun (W : World) (hW : Kept [] wr W) => HLT.out L _ j W (HKw.out.trans hW) HGL.out (HRD.out.keep hW).ints hlt)
        have HC2 := Lib.hid (fun (h : Int) (W : World) (hW : Kept [] wr W) => HPT.out L _ j h W (HKw.out.trans hW) (HRD.out.keep hW).ints)
        obtain ⟨bb, hbb⟩ : ∃ bb, lsV P x r S L j = bb := ⟨_, rfl⟩
        rw [hbb] at HSX HC1
        obtain ⟨p, hp⟩ : ∃ p : Int → Int, (fun h => partV P x r L S (j : Int) h) = p := ⟨_, rfl⟩
        have HC3 : Hid (∀ (h : Int) (W : World), Kept [] wr W → Calls Tryz.prog 28 #[.pointer (some ⟨rb, 0, none⟩), .agg #[ov, fv], .agg #[sv, tv, pv], .slice (some ⟨g7, 0, none⟩) la c7, .int .i64 j, .int .i64 h, zv] W fun e w' => e = .returned (.int .i64 (p h)) ∧ Kept [] W w') := fun h W hW => by
          have := HC2.out h W hW
          rw [← hp]
          exact this
        have HSY : Hid (impG P x r S A (j + 1) = if p bb < p a then (L.set j bb, m + 1) else (L, m)) := by show _ = _; rw [HSX.out, ← hp]
        have e7 : wr.cell? ⟨g7, j, none⟩ = some (.int .i64 a) := by rw [HOWN.out.cellAt j (by omega), List.getElem?_map, ha1]; rfl
        have HE7 := Lib.hid e7
        clear hp hbb ha1 ha2 ha3 HX HQJ e7 HC2 HSX
        obtain ⟨x0, x1, r0, r1, r2⟩ := HBR.out.cs
        go_wp2_with fail
        refine (HC1.out _ (Kept.refl _ _)).mono ?_
        rintro e w5 ⟨rfl, k5⟩
        have HK5 := Lib.hid k5
        clear k5 x0 x1 r0 r1 r2
        have y0 : ∀ s : SW (Kept [] wr), s.to.cell? ⟨w.heap.size, 0, none⟩ = some ov := fun s => (HBR.out.keep s.ok).cs.1
        have y1 : ∀ s : SW (Kept [] wr), s.to.cell? ⟨w.heap.size, 1, none⟩ = some fv := fun s => (HBR.out.keep s.ok).cs.2.1
        have y2 : ∀ s : SW (Kept [] wr), s.to.cell? ⟨w.heap.size + 1, 0, none⟩ = some sv := fun s => (HBR.out.keep s.ok).cs.2.2.1
        have y3 : ∀ s : SW (Kept [] wr), s.to.cell? ⟨w.heap.size + 1, 1, none⟩ = some tv := fun s => (HBR.out.keep s.ok).cs.2.2.2.1
        have y4 : ∀ s : SW (Kept [] wr), s.to.cell? ⟨w.heap.size + 1, 2, none⟩ = some pv := fun s => (HBR.out.keep s.ok).cs.2.2.2.2
        have y5 : ∀ s : SW (Kept [] wr), s.to.cell? ⟨g7, j, none⟩ = some (.int .i64 a) := fun s => s.ok.cell (by simp) HE7.out
        have hall : ∀ s : SW (Kept [] wr), Kept [] wr s.to := fun s => s.ok
        have hj0 : (0 : Int) ≤ (j : Int) := by omega
        have hjl : (j : Int) < (la : Int) := by omega
        go_wp2_with fail
        refine wp_region_sw (Kept [] wr) (stays_kept wr) HK5.out (by kernel_rfl) (by kernel_rfl) (fun hne => ?_)
        repeat (go_big_quiet_step (first
          | (go_at_call 28; exact SW.calls (stays_kept wr) (HC3.out _ _ (hall _)))))
        refine wpQuiet_nil ?_
        intro w7 hs7
        have HK7 := Lib.hid hs7
        clear hs7 y0 y1 y2 y3 y4 y5 hall
        by_cases hl : p bb < p a
        · have HNX : Hid (impG P x r S A (j + 1) = (L.set j bb, m + 1)) := by show _ = _; rw [HSY.out, if_pos hl]
          have hl' : decide (p bb < p a) = true := decide_eq_true hl
          have o7 := ownsRow_keep HOWN.out HK7.out (by simp)
          have f7 := o7.frozenAt j
          have e7 := HK7.out.cell (by simp) HE7.out
          have HO8 := Lib.hid ((o7.stored j (.int .i64 bb)).1)
          clear o7
          have HK8 : Hid (Kept [g7] w3 (w7.setCell ⟨g7, j, none⟩ (.int .i64 bb))) := (HK.out.trans HK7.out.nil).setCell (.inl (by simp)) _
          go_wp2_with fail
          go_roundw
          case rel => exact ⟨j + 1, by omega, by go_num, by rw [HNX.out]; go_num, by rw [HNX.out]; dsimp only; rw [List.map_set]; exact HO8.out, HK8.out⟩
          case measure => simp [intOf]; omega
        · have HNX : Hid (impG P x r S A (j + 1) = (L, m)) := by show _ = _; rw [HSY.out, if_neg hl]
          have hl' : decide (p bb < p a) = false := decide_eq_false hl
          have HO8 := Lib.hid (ownsRow_keep HOWN.out HK7.out (by simp))
          have HK8 : Hid (Kept [g7] w3 w7) := HK.out.trans HK7.out.nil
          go_wp2_with fail
          go_roundw
          case rel => exact ⟨j + 1, by omega, by go_num, by rw [HNX.out], by rw [HNX.out]; exact HO8.out, HK8.out⟩
          case measure => simp [intOf]; omega
      · have hjn : j = la := by omega
        subst hjn
        have HQE := Lib.hid (HQJ.out rfl)
        go_wp2_with fail
        go_ret3
        exact ⟨_, by rw [HQE.out] <;> rfl, by rw [HQE.out]; exact HRD.out, HKw.out⟩
  · have h1' : (E != 0) = true := by rw [bne_iff_ne]; exact h1
    have HQE : Hid (q0 = ([], 0)) := by show _ = _; rw [HQ.out, if_neg h1]
    go_wp2_with fail
    go_ret3
    exact ⟨_, by rw [HQE.out] <;> rfl, by rw [HQE.out]; exact rds_nil _ _, HK0.out.trans HK1.out⟩

end Go.Proofs.YtbaifjdealmckaaGreat
